/- The lifter: named, now, later. -/
import Derived.Test.YtjjbjibbjbbeaaaAF13
set_option linter.unusedVariables false
set_option linter.unusedSimpArgs false
namespace Go.AL
theorem Cr.apps_app (f : Cr) (l m : List ByteArray) : Cr.apps f (l ++ m) = Cr.apps (Cr.apps f l) m := by simp [Cr.apps]
theorem take_one {es : List (List AV)} {n : Nat} (h : n = es.length) (q : List AV) (m : List (List AV)) : (es ++ [q] ++ m)[n]? = some q := by
  subst h; simp
theorem set_one {es : List (List AV)} {n : Nat} (h : n = es.length) (q q' : List AV) (m : List (List AV)) : (es ++ [q] ++ m).set n q' = es ++ [q'] ++ m := by
  subst h
  rw [List.append_assoc, List.set_append_right _ _ (Nat.le_refl _)]
  simp
def zeroC : List AV := [.int .i64 0, .str ⟨#[]⟩, .int .i64 0, .int .i64 0, .nils, .nils, .nils, .nils, .nils]
def rawG (s : ByteArray) : List AV := [.int .i64 2, .str s, .int .i64 0, .int .i64 0, .nils, .nils, .nils, .nils, .nils]
def rawV (s : ByteArray) : List AV := [.int .i64 1, .str s, .int .i64 0, .int .i64 0, .nils, .nils, .nils, .nils, .nils]
def rawApp (f : List AV) (s : ByteArray) : List AV := [.int .i64 5, .str ⟨#[]⟩, .int .i64 0, .int .i64 0, .nils, .list [f, rawV s], .nils, .nils, .nils]
def raws (f : List AV) (l : List ByteArray) : List AV := l.foldl rawApp f
theorem raws_len (f : List AV) (h : f.length = 9) (l : List ByteArray) : (raws f l).length = 9 := by
  induction l generalizing f with
  | nil => exact h
  | cons s l ih => exact ih (rawApp f s) rfl
theorem raws_app (f : List AV) (l m : List ByteArray) : raws f (l ++ m) = raws (raws f l) m := by simp [raws]
theorem leD_glob (s : ByteArray) : LeDL (rawG s) (Cr.glob s).cells := by
  rw [Cr.glob, Cr.cells_eq]
  exact .cons (.refl _) (.cons (.refl _) (.cons (.refl _) (.cons (.refl _) (.cons .nil (.cons .nil (.cons .nil (.cons .nil (.cons .nil .nil))))))))
theorem leD_var (s : ByteArray) : LeDL (rawV s) (Cr.var s).cells := by
  rw [Cr.var, Cr.cells_eq]
  exact .cons (.refl _) (.cons (.refl _) (.cons (.refl _) (.cons (.refl _) (.cons .nil (.cons .nil (.cons .nil (.cons .nil (.cons .nil .nil))))))))
theorem leD_app {f : List AV} {g : Cr} (h : LeDL f g.cells) (s : ByteArray) : LeDL (rawApp f s) (g.app (.var s)).cells := by
  rw [Cr.app, Cr.cells_eq]
  exact .cons (.refl _) (.cons (.refl _) (.cons (.refl _) (.cons (.refl _) (.cons .nil (.cons (.list (.cons h (.cons (leD_var s) .nil))) (.cons .nil (.cons .nil (.cons .nil .nil))))))))
theorem leD_apps {f : List AV} {g : Cr} (h : LeDL f g.cells) (l : List ByteArray) : LeDL (raws f l) (Cr.apps g l).cells := by
  induction l generalizing f g with
  | nil => exact h
  | cons s l ih => exact ih (leD_app h s)
section
variable {σ s s2 : Store} {N fid : Nat} {v v' : AV} {df : ByteArray} {es es2 : List (List AV)}
theorem ok_msapp {K : AV → Store → Prop} (h : MS σ s N fid v v' df es) (q : List AV) (hq : q.length = 11) (hm : es.length + 1 ≤ 100000000)
    (hk : ∀ v1 s', s'.get fid = some (.cells 120 0 2 [[.str df, v']]) → s.next ≤ s'.next → (∀ j, j < s.next → j ∉ slIds v' → s'.get j = s.get j) → v1.cellsOf = some [v1] →
      MS σ (s'.upd fid (.cells 120 0 2 [[.str df, v1]])) N fid v v1 df (es ++ [q]) → K v1 s') : ok (eApp 71 11 200 v' (some [q]) s) K := by
  refine ok_app h.la.sl (by simpa using hq) (by simp; omega) (by simp [maxLen]; omega) fun v1 s' h3 h4 => ?_
  have hlt := s.lt h.la.hd
  have hd : s'.get fid = some (.cells 120 0 2 [[.str df, v']]) := by rw [h4.keep _ hlt h.la.nv]; exact h.la.hd
  have hnv : fid ∉ slIds v1 := fun hm => (h4.fresh _ hm).elim h.la.nv (fun q => by omega)
  have hu : ∀ j, j ≠ fid → (s'.upd fid (.cells 120 0 2 [[.str df, v1]])).get j = s'.get j := fun j hj => Store.get_upd_ne _ _ hj
  refine hk v1 s' hd h4.next h4.keep h3.co ⟨⟨Store.get_upd_self _ _ (s'.lt hd), h3.keep fun j hj => hu j (fun e => hnv (e ▸ hj)), hnv⟩, h.le, by rw [Store.upd_next]; have := h.next; have := h4.next; omega, fun j hj a b => ?_, fun j hj => ?_, h.fid⟩
  · rw [hu j a, h4.keep j (by have := h.le; have := h.next; omega) (fun hm => (h.fresh j hm).elim (fun q => b q.1) (fun q => by have := h.le; omega)), h.keep j hj a b]
  · rcases h4.fresh j hj with q | q
    · exact h.fresh j q
    · exact .inr (by have := h.next; omega)
theorem MS.sset {id ver n : Nat} {es' : List (List AV)} (h : MS σ s N fid v (.own id ver 11 0 n) df es) (hn : n = es.length) (hg : s.get id = some (.cells 71 ver 11 (es ++ es'))) (hl : es2.length = es.length) :
    MS σ (s.upd id (.cells 71 ver 11 (es2 ++ es'))) N fid v (.own id ver 11 0 n) df es2 := by
  have hne : id ≠ fid := fun e => h.la.nv (by simp [slIds, e])
  refine ⟨⟨by rw [Store.get_upd_ne _ _ (fun e => hne e.symm)]; exact h.la.hd, .inr ⟨id, ver, es', by rw [hl, ← hn], Store.get_upd_self _ _ (s.lt hg)⟩, h.la.nv⟩, h.le, h.next, fun j hj a b => ?_, h.fresh, h.fid⟩
  rw [Store.get_upd_ne _ _ (fun e => ?_), h.keep j hj a b]
  subst e
  exact (h.fresh j (by simp [slIds])).elim (fun q => b q.1) (fun q => by have := h.le; omega)
end
end Go.AL
namespace Go.Proofs.Ytjjbjibbjbbeaaa
open Go.AL
set_option maxHeartbeats 1000000 in
theorem named_ok (c body : Cr) (ps : List ByteArray) (hB : LiftC true body) (hc : c.bulk ≤ 10000000) (hps : ps.length ≤ 10000000)
    (σ : Store) (fid : Nat) (v : AV) (df : ByteArray) (es : List (List AV)) (h : LiftAt σ fid v df es) (hdf : df.size ≤ 1000000000) (hb : es.length + 1 + 2 * body.bulk ≤ 20000001) :
    ACalls Try.prog 87 [.ptr fid 0 0 0, .agg c.cells, strs ps, .agg body.cells] σ fun r s => (∃ z : Unit, r = .agg (Cr.apps (.glob (supName df textOf es.length)) (freeS [] [] c)).cells ∧
      LPost σ fid v df (es ++ (Sup.mk (supName df textOf es.length) (freeS [] [] c ++ ps) (liftS df textOf true (es.length + 1) body).1 :: (liftS df textOf true (es.length + 1) body).2).map supC) s) := by
  refine ACalls_leD ?_
  refine in87 (by simp) ?_
  unfold c87
  have hfl := freeS_len c [] []
  simp at hfl
  try simp only [SS, argList, aPut, aFill, ↓reduceIte, Nat.reduceEqDiff, Nat.reduceAdd, Nat.reduceLeDiff, reduceCtorEq, Int.reduceEq, Int.reduceLT, Int.reduceLE, Int.reduceNeg, Int.reduceAdd, Int.reduceSub, Int.reduceToNat, Cr.len]
  iterate 2 ((with_reducible first | refine AWP_seq ?_ | refine AWP_block ?_ | refine AWP_scope ?_ | refine AWP_reg ?_ | refine AWP_draw ?_ | refine AWP_skip ?_ | refine AWP_ret ?_ | refine AWP_exit ?_ | (refine AWP_cond_true ?_ ?_; · simp only [SS, argList, aPut, aFill, ↓reduceIte, Nat.reduceEqDiff, Nat.reduceAdd, Nat.reduceLeDiff, reduceCtorEq, Int.reduceEq, Int.reduceLT, Int.reduceLE, Int.reduceNeg, Int.reduceAdd, Int.reduceSub, Int.reduceToNat, Cr.len]) | (refine AWP_cond_false ?_ ?_; · simp only [SS, argList, aPut, aFill, ↓reduceIte, Nat.reduceEqDiff, Nat.reduceAdd, Nat.reduceLeDiff, reduceCtorEq, Int.reduceEq, Int.reduceLT, Int.reduceLE, Int.reduceNeg, Int.reduceAdd, Int.reduceSub, Int.reduceToNat, Cr.len])); try simp only [SS, argList, aPut, aFill, ↓reduceIte, Nat.reduceEqDiff, Nat.reduceAdd, Nat.reduceLeDiff, reduceCtorEq, Int.reduceEq, Int.reduceLT, Int.reduceLE, Int.reduceNeg, Int.reduceAdd, Int.reduceSub, Int.reduceToNat, Cr.len])
  generalize hs : Store.push _ _ = s1
  have k1 : Kp σ s1 := by rw [← hs]; exact ((Kp.pushed _ _).push _).push _
  have hn1 : s1.next = σ.next + 3 := by rw [← hs]; rfl
  have M0 := MS.start h k1 (N := σ.next + 3) (by omega)
  have e1 : s1.get σ.next = some (.cells 54 0 9 [c.cells]) := by rw [← hs]; simp [Store.push_get, Store.push_next]; intro hh; omega
  have e2 : s1.get (σ.next + 1) = some (.cells 54 0 9 [body.cells]) := by rw [← hs]; simp [Store.push_get, Store.push_next]
  have e3 : s1.get (σ.next + 2) = some (.cells 54 0 9 [[.int .i64 0, .str ⟨#[]⟩, .int .i64 0, .int .i64 0, .nils, .nils, .nils, .nils, .nils]]) := by rw [← hs]; simp [Store.push_get, Store.push_next]
  clear hs
  have hlen := M0.la.sl.len
  try simp only [SS, argList, aPut, aFill, ↓reduceIte, Nat.reduceEqDiff, Nat.reduceAdd, Nat.reduceLeDiff, reduceCtorEq, Int.reduceEq, Int.reduceLT, Int.reduceLE, Int.reduceNeg, Int.reduceAdd, Int.reduceSub, Int.reduceToNat, e1, Cr.len, Cr.take9]
  repeat ((with_reducible first | refine AWP_seq ?_ | refine AWP_block ?_ | refine AWP_scope ?_ | refine AWP_reg ?_ | refine AWP_draw ?_ | refine AWP_skip ?_ | refine AWP_ret ?_ | refine AWP_exit ?_ | (refine AWP_cond_true ?_ ?_; · simp only [SS, argList, aPut, aFill, ↓reduceIte, Nat.reduceEqDiff, Nat.reduceAdd, Nat.reduceLeDiff, reduceCtorEq, Int.reduceEq, Int.reduceLT, Int.reduceLE, Int.reduceNeg, Int.reduceAdd, Int.reduceSub, Int.reduceToNat, e1, Cr.len, Cr.take9]) | (refine AWP_cond_false ?_ ?_; · simp only [SS, argList, aPut, aFill, ↓reduceIte, Nat.reduceEqDiff, Nat.reduceAdd, Nat.reduceLeDiff, reduceCtorEq, Int.reduceEq, Int.reduceLT, Int.reduceLE, Int.reduceNeg, Int.reduceAdd, Int.reduceSub, Int.reduceToNat, e1, Cr.len, Cr.take9])); try simp only [SS, argList, aPut, aFill, ↓reduceIte, Nat.reduceEqDiff, Nat.reduceAdd, Nat.reduceLeDiff, reduceCtorEq, Int.reduceEq, Int.reduceLT, Int.reduceLE, Int.reduceNeg, Int.reduceAdd, Int.reduceSub, Int.reduceToNat, e1, Cr.len, Cr.take9])
  refine (free_ok c (by omega) _).mono ?_
  rintro _ _ ⟨rfl, rfl⟩
  rename_i s1
  generalize hfr : freeS [] [] c = fr at *
  have hw := wrap_succ (i := es.length) (by omega)
  have h35 : (⟨#[35]⟩ : ByteArray).size = 1 := rfl
  have hts := textOf_size ((es.length + 1 : Nat) : Int)
  have z1 : df.size + (⟨#[35]⟩ : ByteArray).size ≤ maxLen := by simp only [maxLen]; omega
  have z2 : (df ++ ⟨#[35]⟩).size + (textOf ((es.length + 1 : Nat) : Int)).size ≤ maxLen := by rw [ByteArray.size_append]; simp only [maxLen]; omega
  try simp only [SS, argList, aPut, aFill, ↓reduceIte, Nat.reduceEqDiff, Nat.reduceAdd, Nat.reduceLeDiff, reduceCtorEq, Int.reduceEq, Int.reduceLT, Int.reduceLE, Int.reduceNeg, Int.reduceAdd, Int.reduceSub, Int.reduceToNat, M0.la.hd, hlen, hw, z1]
  repeat ((with_reducible first | refine AWP_seq ?_ | refine AWP_block ?_ | refine AWP_scope ?_ | refine AWP_reg ?_ | refine AWP_draw ?_ | refine AWP_skip ?_ | refine AWP_ret ?_ | refine AWP_exit ?_ | (refine AWP_cond_true ?_ ?_; · simp only [SS, argList, aPut, aFill, ↓reduceIte, Nat.reduceEqDiff, Nat.reduceAdd, Nat.reduceLeDiff, reduceCtorEq, Int.reduceEq, Int.reduceLT, Int.reduceLE, Int.reduceNeg, Int.reduceAdd, Int.reduceSub, Int.reduceToNat, M0.la.hd, hlen, hw, z1]) | (refine AWP_cond_false ?_ ?_; · simp only [SS, argList, aPut, aFill, ↓reduceIte, Nat.reduceEqDiff, Nat.reduceAdd, Nat.reduceLeDiff, reduceCtorEq, Int.reduceEq, Int.reduceLT, Int.reduceLE, Int.reduceNeg, Int.reduceAdd, Int.reduceSub, Int.reduceToNat, M0.la.hd, hlen, hw, z1])); try simp only [SS, argList, aPut, aFill, ↓reduceIte, Nat.reduceEqDiff, Nat.reduceAdd, Nat.reduceLeDiff, reduceCtorEq, Int.reduceEq, Int.reduceLT, Int.reduceLE, Int.reduceNeg, Int.reduceAdd, Int.reduceSub, Int.reduceToNat, M0.la.hd, hlen, hw, z1])
  refine (text_ok _ _).mono ?_
  rintro _ _ ⟨rfl, rfl⟩
  rename_i s1
  try simp only [SS, argList, aPut, aFill, ↓reduceIte, Nat.reduceEqDiff, Nat.reduceAdd, Nat.reduceLeDiff, reduceCtorEq, Int.reduceEq, Int.reduceLT, Int.reduceLE, Int.reduceNeg, Int.reduceAdd, Int.reduceSub, Int.reduceToNat, M0.la.hd, z1, z2]
  repeat ((with_reducible first | refine AWP_seq ?_ | refine AWP_block ?_ | refine AWP_scope ?_ | refine AWP_reg ?_ | refine AWP_draw ?_ | refine AWP_skip ?_ | refine AWP_ret ?_ | refine AWP_exit ?_ | (refine AWP_cond_true ?_ ?_; · simp only [SS, argList, aPut, aFill, ↓reduceIte, Nat.reduceEqDiff, Nat.reduceAdd, Nat.reduceLeDiff, reduceCtorEq, Int.reduceEq, Int.reduceLT, Int.reduceLE, Int.reduceNeg, Int.reduceAdd, Int.reduceSub, Int.reduceToNat, M0.la.hd, z1, z2]) | (refine AWP_cond_false ?_ ?_; · simp only [SS, argList, aPut, aFill, ↓reduceIte, Nat.reduceEqDiff, Nat.reduceAdd, Nat.reduceLeDiff, reduceCtorEq, Int.reduceEq, Int.reduceLT, Int.reduceLE, Int.reduceNeg, Int.reduceAdd, Int.reduceSub, Int.reduceToNat, M0.la.hd, z1, z2])); try simp only [SS, argList, aPut, aFill, ↓reduceIte, Nat.reduceEqDiff, Nat.reduceAdd, Nat.reduceLeDiff, reduceCtorEq, Int.reduceEq, Int.reduceLT, Int.reduceLE, Int.reduceNeg, Int.reduceAdd, Int.reduceSub, Int.reduceToNat, M0.la.hd, z1, z2])
  refine (joined_ok fr ps (by omega) _).mono ?_
  rintro _ _ ⟨rfl, rfl⟩
  rename_i s1
  try simp only [SS, argList, aPut, aFill, ↓reduceIte, Nat.reduceEqDiff, Nat.reduceAdd, Nat.reduceLeDiff, reduceCtorEq, Int.reduceEq, Int.reduceLT, Int.reduceLE, Int.reduceNeg, Int.reduceAdd, Int.reduceSub, Int.reduceToNat, M0.la.hd]
  repeat ((with_reducible first | refine AWP_seq ?_ | refine AWP_block ?_ | refine AWP_scope ?_ | refine AWP_reg ?_ | refine AWP_draw ?_ | refine AWP_skip ?_ | refine AWP_ret ?_ | refine AWP_exit ?_ | (refine AWP_cond_true ?_ ?_; · simp only [SS, argList, aPut, aFill, ↓reduceIte, Nat.reduceEqDiff, Nat.reduceAdd, Nat.reduceLeDiff, reduceCtorEq, Int.reduceEq, Int.reduceLT, Int.reduceLE, Int.reduceNeg, Int.reduceAdd, Int.reduceSub, Int.reduceToNat, M0.la.hd]) | (refine AWP_cond_false ?_ ?_; · simp only [SS, argList, aPut, aFill, ↓reduceIte, Nat.reduceEqDiff, Nat.reduceAdd, Nat.reduceLeDiff, reduceCtorEq, Int.reduceEq, Int.reduceLT, Int.reduceLE, Int.reduceNeg, Int.reduceAdd, Int.reduceSub, Int.reduceToNat, M0.la.hd])); try simp only [SS, argList, aPut, aFill, ↓reduceIte, Nat.reduceEqDiff, Nat.reduceAdd, Nat.reduceLeDiff, reduceCtorEq, Int.reduceEq, Int.reduceLT, Int.reduceLE, Int.reduceNeg, Int.reduceAdd, Int.reduceSub, Int.reduceToNat, M0.la.hd])
  refine ok_msapp M0 (q := .str (supName df textOf es.length) :: strs (fr ++ ps) :: zeroC) rfl (by omega) ?_
  intro v1 s2 hd2 hn2 hk2 hco M1
  have hv1 : σ.next + 1 ∉ slIds v := M0.loc (by omega) (by omega)
  have hv2 : σ.next + 2 ∉ slIds v := M0.loc (by omega) (by omega)
  have hf := M0.fid
  have e2' := hk2 (σ.next + 1) (by omega) hv1
  have e3' := hk2 (σ.next + 2) (by omega) hv2
  rw [e2] at e2'
  rw [e3] at e3'
  try simp only [SS, argList, aPut, aFill, ↓reduceIte, Nat.reduceEqDiff, Nat.reduceAdd, Nat.reduceLeDiff, reduceCtorEq, Int.reduceEq, Int.reduceLT, Int.reduceLE, Int.reduceNeg, Int.reduceAdd, Int.reduceSub, Int.reduceToNat, M0.la.hd, hd2, hco]
  repeat ((with_reducible first | refine AWP_seq ?_ | refine AWP_block ?_ | refine AWP_scope ?_ | refine AWP_reg ?_ | refine AWP_draw ?_ | refine AWP_skip ?_ | refine AWP_ret ?_ | refine AWP_exit ?_ | (refine AWP_cond_true ?_ ?_; · simp only [SS, argList, aPut, aFill, ↓reduceIte, Nat.reduceEqDiff, Nat.reduceAdd, Nat.reduceLeDiff, reduceCtorEq, Int.reduceEq, Int.reduceLT, Int.reduceLE, Int.reduceNeg, Int.reduceAdd, Int.reduceSub, Int.reduceToNat, M0.la.hd, hd2, hco]) | (refine AWP_cond_false ?_ ?_; · simp only [SS, argList, aPut, aFill, ↓reduceIte, Nat.reduceEqDiff, Nat.reduceAdd, Nat.reduceLeDiff, reduceCtorEq, Int.reduceEq, Int.reduceLT, Int.reduceLE, Int.reduceNeg, Int.reduceAdd, Int.reduceSub, Int.reduceToNat, M0.la.hd, hd2, hco])); try simp only [SS, argList, aPut, aFill, ↓reduceIte, Nat.reduceEqDiff, Nat.reduceAdd, Nat.reduceLeDiff, reduceCtorEq, Int.reduceEq, Int.reduceLT, Int.reduceLE, Int.reduceNeg, Int.reduceAdd, Int.reduceSub, Int.reduceToNat, M0.la.hd, hd2, hco])
  generalize hpd : AV.str (supName df textOf es.length) :: strs (fr ++ ps) :: zeroC = pd at M1
  generalize hs3 : s2.upd fid _ = s3 at M1 ⊢
  have e2'' : s3.get (σ.next + 1) = some (.cells 54 0 9 [body.cells]) := by rw [← hs3, Store.get_upd_ne _ _ (by omega)]; exact e2'
  have e3'' : s3.get (σ.next + 2) = some (.cells 54 0 9 [zeroC]) := by rw [← hs3, Store.get_upd_ne _ _ (by omega)]; exact e3'
  clear hs3 hd2 hk2 e2' e3' e1 e2 e3 M0 hn1 hn2 k1
  try simp only [SS, argList, aPut, aFill, ↓reduceIte, Nat.reduceEqDiff, Nat.reduceAdd, Nat.reduceLeDiff, reduceCtorEq, Int.reduceEq, Int.reduceLT, Int.reduceLE, Int.reduceNeg, Int.reduceAdd, Int.reduceSub, Int.reduceToNat, e2'', Cr.len, Cr.take9]
  repeat ((with_reducible first | refine AWP_seq ?_ | refine AWP_block ?_ | refine AWP_scope ?_ | refine AWP_reg ?_ | refine AWP_draw ?_ | refine AWP_skip ?_ | refine AWP_ret ?_ | refine AWP_exit ?_ | (refine AWP_cond_true ?_ ?_; · simp only [SS, argList, aPut, aFill, ↓reduceIte, Nat.reduceEqDiff, Nat.reduceAdd, Nat.reduceLeDiff, reduceCtorEq, Int.reduceEq, Int.reduceLT, Int.reduceLE, Int.reduceNeg, Int.reduceAdd, Int.reduceSub, Int.reduceToNat, e2'', Cr.len, Cr.take9]) | (refine AWP_cond_false ?_ ?_; · simp only [SS, argList, aPut, aFill, ↓reduceIte, Nat.reduceEqDiff, Nat.reduceAdd, Nat.reduceLeDiff, reduceCtorEq, Int.reduceEq, Int.reduceLT, Int.reduceLE, Int.reduceNeg, Int.reduceAdd, Int.reduceSub, Int.reduceToNat, e2'', Cr.len, Cr.take9])); try simp only [SS, argList, aPut, aFill, ↓reduceIte, Nat.reduceEqDiff, Nat.reduceAdd, Nat.reduceLeDiff, reduceCtorEq, Int.reduceEq, Int.reduceLT, Int.reduceLE, Int.reduceNeg, Int.reduceAdd, Int.reduceSub, Int.reduceToNat, e2'', Cr.len, Cr.take9])
  have hcall := hB s3 fid v1 df (es ++ [pd]) M1.la hdf (by simp; omega)
  refine hcall.mono ?_
  rintro _ s4 ⟨_, rfl, hP⟩
  obtain ⟨v2, M2, hk4, hf4, hn4⟩ := M1.call hP
  have hel : (es ++ [pd]).length = es.length + 1 := by simp
  rw [hel] at M2 ⊢
  generalize liftS df textOf true (es.length + 1) body = z at M2 ⊢
  have h1n : s3.next ≤ s4.next := hn4
  have g3 := hk4 (σ.next + 2) (s3.lt e3'') (by omega) (M1.loc (by omega) (by omega))
  rw [e3''] at g3
  clear hP hcall
  rcases M2.la.sl with ⟨_, h0⟩ | ⟨id, ver, es', rfl, hg4⟩
  · exact absurd h0 (by simp)
  have hidf : id ≠ fid := fun e => M2.la.nv (by simp [slIds, e])
  have hid2 : id ≠ σ.next + 2 := fun e => M2.loc (j := σ.next + 2) (by omega) (by omega) (by simp [slIds, e])
  have hL : (es.length : Int) < ((es ++ [pd] ++ z.2.map supC).length : Int) := by simp; omega
  generalize hLL : (es ++ [pd] ++ z.2.map supC).length = L at M2 hL hg4 ⊢
  have q1 := s4.lt hg4
  have q2 := s4.lt M2.la.hd
  have q3 := lt_ne q2
  have q4 := lt_ne q1
  have hat : (es ++ [pd] ++ z.2.map supC ++ es')[es.length]? = some pd := by rw [List.append_assoc]; exact take_one rfl _ _
  have hpl : (11 ≤ pd.length) = True := by subst hpd; simp [zeroC]
  have hM4 := M2.sset (es2 := es ++ [.str (supName df textOf es.length) :: strs (fr ++ ps) :: z.1.cells] ++ z.2.map supC) hLL.symm hg4 (by simp)
  have hset : (es ++ [pd] ++ z.2.map supC ++ es').set es.length (.str (supName df textOf es.length) :: strs (fr ++ ps) :: z.1.cells) = es ++ [.str (supName df textOf es.length) :: strs (fr ++ ps) :: z.1.cells] ++ z.2.map supC ++ es' := by
    rw [List.append_assoc _ _ es', set_one rfl, ← List.append_assoc]
  try simp only [SS, argList, aPut, aFill, ↓reduceIte, Nat.reduceEqDiff, Nat.reduceAdd, Nat.reduceLeDiff, reduceCtorEq, Int.reduceEq, Int.reduceLT, Int.reduceLE, Int.reduceNeg, Int.reduceAdd, Int.reduceSub, Int.reduceToNat, Cr.len, Cr.take9, M2.la.hd, hg4, hL, q3, q4, hat, hpl]
  repeat ((with_reducible first | refine AWP_seq ?_ | refine AWP_block ?_ | refine AWP_scope ?_ | refine AWP_reg ?_ | refine AWP_draw ?_ | refine AWP_skip ?_ | refine AWP_ret ?_ | refine AWP_exit ?_ | (refine AWP_cond_true ?_ ?_; · simp only [SS, argList, aPut, aFill, ↓reduceIte, Nat.reduceEqDiff, Nat.reduceAdd, Nat.reduceLeDiff, reduceCtorEq, Int.reduceEq, Int.reduceLT, Int.reduceLE, Int.reduceNeg, Int.reduceAdd, Int.reduceSub, Int.reduceToNat, Cr.len, Cr.take9, M2.la.hd, hg4, hL, q3, q4, hat, hpl]) | (refine AWP_cond_false ?_ ?_; · simp only [SS, argList, aPut, aFill, ↓reduceIte, Nat.reduceEqDiff, Nat.reduceAdd, Nat.reduceLeDiff, reduceCtorEq, Int.reduceEq, Int.reduceLT, Int.reduceLE, Int.reduceNeg, Int.reduceAdd, Int.reduceSub, Int.reduceToNat, Cr.len, Cr.take9, M2.la.hd, hg4, hL, q3, q4, hat, hpl])); try simp only [SS, argList, aPut, aFill, ↓reduceIte, Nat.reduceEqDiff, Nat.reduceAdd, Nat.reduceLeDiff, reduceCtorEq, Int.reduceEq, Int.reduceLT, Int.reduceLE, Int.reduceNeg, Int.reduceAdd, Int.reduceSub, Int.reduceToNat, Cr.len, Cr.take9, M2.la.hd, hg4, hL, q3, q4, hat, hpl])
  subst hpd
  simp only [zeroC, List.take_succ_cons, List.take_zero, List.drop_succ_cons, List.drop_zero, List.cons_append, List.nil_append, List.drop_nil, List.append_nil] at hset hat ⊢
  rw [hset]
  have hM5 := (hM4.push (.cells 54 0 9 [z.1.cells])).push (.cells 54 0 9 [rawG (supName df textOf es.length)])
  have g5 : ((s4.upd id (.cells 71 ver 11 (es ++ [.str (supName df textOf es.length) :: strs (fr ++ ps) :: z.1.cells] ++ z.2.map supC ++ es'))).get (σ.next + 2)) = some (.cells 54 0 9 [zeroC]) := by rw [Store.get_upd_ne _ _ (by omega)]; exact g3
  have hs5 : (s4.upd id (.cells 71 ver 11 (es ++ [.str (supName df textOf es.length) :: strs (fr ++ ps) :: z.1.cells] ++ z.2.map supC ++ es'))).next = s4.next := rfl
  generalize s4.upd id _ = s5 at hM5 hM4 g5 hs5 ⊢
  have hn5 := hM4.next
  have e1 : ((s5.push (.cells 54 0 9 [z.1.cells])).push (.cells 54 0 9 [rawG (supName df textOf es.length)])).get (s5.next + 1) = some (.cells 54 0 9 [rawG (supName df textOf es.length)]) := by rw [Store.push_get, if_pos (by rw [Store.push_next])]
  have e2 : ((s5.push (.cells 54 0 9 [z.1.cells])).push (.cells 54 0 9 [rawG (supName df textOf es.length)])).get (σ.next + 2) = some (.cells 54 0 9 [zeroC]) := by
    rw [Store.push_get, if_neg (by rw [Store.push_next]; omega), Store.push_get, if_neg (by omega)]; exact g5
  generalize hnm : supName df textOf es.length = nmm at *
  refine AWP_while [8, 13, 60, 61, 62] (fun i : Nat => fr.length - i) (fun i => [.ptr (σ.next + 2) 0 0 0, .ptr (s5.next + 1) 0 0 0, strs fr, .int .i64 fr.length, .int .i64 i])
    (fun i s => i ≤ fr.length ∧ MS σ s (σ.next + 3) fid v (.own id ver 11 0 L) df (es ++ [.str nmm :: strs (fr ++ ps) :: z.1.cells] ++ z.2.map supC) ∧ s.get (s5.next + 1) = some (.cells 54 0 9 [raws (rawG nmm) (fr.take i)]) ∧ s.get (σ.next + 2) = some (.cells 54 0 9 [zeroC])) 0 ⟨by simp, ?_, ?_, ?_⟩ ?_ ?_
  · subst hnm; exact hM5
  · subst hnm; exact e1
  · subst hnm; exact e2
  · subst hnm
    try simp only [SS, argList, aPut, aFill, ↓reduceIte, Nat.reduceEqDiff, Nat.reduceAdd, Nat.reduceLeDiff, reduceCtorEq, Int.reduceEq, Int.reduceLT, Int.reduceLE, Int.reduceNeg, Int.reduceAdd, Int.reduceSub, Int.reduceToNat]
    repeat ((with_reducible first | refine AWP_seq ?_ | refine AWP_block ?_ | refine AWP_scope ?_ | refine AWP_reg ?_ | refine AWP_draw ?_ | refine AWP_skip ?_ | refine AWP_ret ?_ | refine AWP_exit ?_ | (refine AWP_cond_true ?_ ?_; · simp only [SS, argList, aPut, aFill, ↓reduceIte, Nat.reduceEqDiff, Nat.reduceAdd, Nat.reduceLeDiff, reduceCtorEq, Int.reduceEq, Int.reduceLT, Int.reduceLE, Int.reduceNeg, Int.reduceAdd, Int.reduceSub, Int.reduceToNat]) | (refine AWP_cond_false ?_ ?_; · simp only [SS, argList, aPut, aFill, ↓reduceIte, Nat.reduceEqDiff, Nat.reduceAdd, Nat.reduceLeDiff, reduceCtorEq, Int.reduceEq, Int.reduceLT, Int.reduceLE, Int.reduceNeg, Int.reduceAdd, Int.reduceSub, Int.reduceToNat])); try simp only [SS, argList, aPut, aFill, ↓reduceIte, Nat.reduceEqDiff, Nat.reduceAdd, Nat.reduceLeDiff, reduceCtorEq, Int.reduceEq, Int.reduceLT, Int.reduceLE, Int.reduceNeg, Int.reduceAdd, Int.reduceSub, Int.reduceToNat])
    rw [hs5]; rfl
  rintro i s ⟨hi, M, f1, f2⟩
  have hwi := wrap_succ (i := i) (by omega)
  by_cases hil : i < fr.length
  · have hil' : (i : Int) < (fr.length : Int) := by omega
    obtain ⟨x, hx⟩ : ∃ x, fr[i]? = some x := ⟨_, List.getElem?_eq_getElem hil⟩
    have hg : (fr.map fun s => [AV.str s])[i]? = some [.str x] := by simp [hx]
    have hrl := raws_len (rawG nmm) rfl (fr.take i)
    have htk : List.take 9 (raws (rawG nmm) (fr.take i)) = raws (rawG nmm) (fr.take i) := List.take_of_length_le (by omega)
    have r1 := s.lt f1
    have r1' := lt_ne r1
    have hMx := (M.upd (.cells 54 0 9 [rawApp (raws (rawG nmm) (fr.take i)) x]) (id := s5.next + 1) (by omega) (fun hm => by simp [slIds] at hm; omega)).push (.cells 54 0 9 [raws (rawG nmm) (fr.take i)])
    have r2 : ∀ o, (s.upd (s5.next + 1) o).get (s5.next + 1) = some o := fun o => Store.get_upd_self _ _ r1
    have hdr : List.drop 9 (raws (rawG nmm) (fr.take i)) = [] := List.drop_of_length_le (by omega)
    have r3' := lt_ne (s.lt f2)
    try simp only [SS, argList, aPut, aFill, ↓reduceIte, Nat.reduceEqDiff, Nat.reduceAdd, Nat.reduceLeDiff, reduceCtorEq, Int.reduceEq, Int.reduceLT, Int.reduceLE, Int.reduceNeg, Int.reduceAdd, Int.reduceSub, Int.reduceToNat, hil', hg, f1, hrl, htk, r1', hwi, hdr, r3']
    repeat ((with_reducible first | refine AWP_seq ?_ | refine AWP_block ?_ | refine AWP_scope ?_ | refine AWP_reg ?_ | refine AWP_draw ?_ | refine AWP_skip ?_ | refine AWP_ret ?_ | refine AWP_exit ?_ | (refine AWP_cond_true ?_ ?_; · simp only [SS, argList, aPut, aFill, ↓reduceIte, Nat.reduceEqDiff, Nat.reduceAdd, Nat.reduceLeDiff, reduceCtorEq, Int.reduceEq, Int.reduceLT, Int.reduceLE, Int.reduceNeg, Int.reduceAdd, Int.reduceSub, Int.reduceToNat, hil', hg, f1, hrl, htk, r1', hwi, hdr, r3']) | (refine AWP_cond_false ?_ ?_; · simp only [SS, argList, aPut, aFill, ↓reduceIte, Nat.reduceEqDiff, Nat.reduceAdd, Nat.reduceLeDiff, reduceCtorEq, Int.reduceEq, Int.reduceLT, Int.reduceLE, Int.reduceNeg, Int.reduceAdd, Int.reduceSub, Int.reduceToNat, hil', hg, f1, hrl, htk, r1', hwi, hdr, r3'])); try simp only [SS, argList, aPut, aFill, ↓reduceIte, Nat.reduceEqDiff, Nat.reduceAdd, Nat.reduceLeDiff, reduceCtorEq, Int.reduceEq, Int.reduceLT, Int.reduceLE, Int.reduceNeg, Int.reduceAdd, Int.reduceSub, Int.reduceToNat, hil', hg, f1, hrl, htk, r1', hwi, hdr, r3'])
    refine ⟨i + 1, rfl, ⟨by omega, hMx, ?_, ?_⟩, by omega⟩
    · rw [r2, take_succ_at hx, raws_app]
      rfl
    · rw [Store.get_upd_ne _ _ (by omega)]; exact f2
  · have hil' : ¬ (i : Int) < (fr.length : Int) := by omega
    rw [List.take_of_length_le (by omega)] at f1
    have hrl := raws_len (rawG nmm) rfl fr
    have htk : List.take 9 (raws (rawG nmm) fr) = raws (rawG nmm) fr := List.take_of_length_le (by omega)
    have r2 : ∀ o, (s.upd (σ.next + 2) o).get (σ.next + 2) = some o := fun o => Store.get_upd_self _ _ (s.lt f2)
    have hMx := M.upd (.cells 54 0 9 [raws (rawG nmm) fr]) (id := σ.next + 2) (by omega) (M.loc (by omega) (by omega))
    have hz : zeroC.length = 9 := rfl
    have hz9 : List.drop 9 zeroC = [] := rfl
    try simp only [SS, argList, aPut, aFill, ↓reduceIte, Nat.reduceEqDiff, Nat.reduceAdd, Nat.reduceLeDiff, reduceCtorEq, Int.reduceEq, Int.reduceLT, Int.reduceLE, Int.reduceNeg, Int.reduceAdd, Int.reduceSub, Int.reduceToNat, hil', f1, f2, hrl, htk, r2, hz, hz9]
    repeat ((with_reducible first | refine AWP_seq ?_ | refine AWP_block ?_ | refine AWP_scope ?_ | refine AWP_reg ?_ | refine AWP_draw ?_ | refine AWP_skip ?_ | refine AWP_ret ?_ | refine AWP_exit ?_ | (refine AWP_cond_true ?_ ?_; · simp only [SS, argList, aPut, aFill, ↓reduceIte, Nat.reduceEqDiff, Nat.reduceAdd, Nat.reduceLeDiff, reduceCtorEq, Int.reduceEq, Int.reduceLT, Int.reduceLE, Int.reduceNeg, Int.reduceAdd, Int.reduceSub, Int.reduceToNat, hil', f1, f2, hrl, htk, r2, hz, hz9]) | (refine AWP_cond_false ?_ ?_; · simp only [SS, argList, aPut, aFill, ↓reduceIte, Nat.reduceEqDiff, Nat.reduceAdd, Nat.reduceLeDiff, reduceCtorEq, Int.reduceEq, Int.reduceLT, Int.reduceLE, Int.reduceNeg, Int.reduceAdd, Int.reduceSub, Int.reduceToNat, hil', f1, f2, hrl, htk, r2, hz, hz9])); try simp only [SS, argList, aPut, aFill, ↓reduceIte, Nat.reduceEqDiff, Nat.reduceAdd, Nat.reduceLeDiff, reduceCtorEq, Int.reduceEq, Int.reduceLT, Int.reduceLE, Int.reduceNeg, Int.reduceAdd, Int.reduceSub, Int.reduceToNat, hil', f1, f2, hrl, htk, r2, hz, hz9])
    refine ⟨_, .agg (leD_apps (leD_glob _) _), (), rfl, ?_⟩
    have := hMx.out
    simp only [List.map_cons, supC]
    rw [List.append_assoc] at this
    exact this
theorem lift_ok : ∀ x : Cr, x.Sh → ∀ b, LiftC b x := by
  intro x
  induction x using Cr.ind with
  | _ k nm n ar ps gs al bs pk ih1 ih2 ih3 ih4 =>
    intro hsh
    cases hsh with
    | mk h6 h1 h2 h3 h4 =>
    have i1 := fun x hx => ih1 x hx (h1 x hx)
    have i2 := fun x hx => ih2 x hx (h2 x hx)
    have i3 := fun x hx => ih3 x hx (h3 x hx)
    have i4 := fun x hx => ih4 x hx (h4 x hx)
    have hnow : LiftC true (.mk k nm n ar ps gs al bs pk) := by
      intro σ fid v df es h hdf hb
      have hb0 := hb
      rw [Cr.bulk] at hb
      simp only [Bool.toNat_true] at hb
      show ACalls Try.prog 48 _ _ _
      refine in48 (by simp) ?_
      unfold c48
      rw [Cr.cells_eq]
      try simp only [SS, argList, aPut, aFill, ↓reduceIte, Nat.reduceEqDiff, Nat.reduceAdd, Nat.reduceLeDiff, reduceCtorEq, Int.reduceEq, Int.reduceLT, Int.reduceLE, Int.reduceNeg, Int.reduceAdd, Int.reduceSub, Int.reduceToNat]
      iterate 2 ((with_reducible first | refine AWP_seq ?_ | refine AWP_block ?_ | refine AWP_scope ?_ | refine AWP_reg ?_ | refine AWP_draw ?_ | refine AWP_skip ?_ | refine AWP_ret ?_ | refine AWP_exit ?_ | (refine AWP_cond_true ?_ ?_; · simp only [SS, argList, aPut, aFill, ↓reduceIte, Nat.reduceEqDiff, Nat.reduceAdd, Nat.reduceLeDiff, reduceCtorEq, Int.reduceEq, Int.reduceLT, Int.reduceLE, Int.reduceNeg, Int.reduceAdd, Int.reduceSub, Int.reduceToNat]) | (refine AWP_cond_false ?_ ?_; · simp only [SS, argList, aPut, aFill, ↓reduceIte, Nat.reduceEqDiff, Nat.reduceAdd, Nat.reduceLeDiff, reduceCtorEq, Int.reduceEq, Int.reduceLT, Int.reduceLE, Int.reduceNeg, Int.reduceAdd, Int.reduceSub, Int.reduceToNat])); try simp only [SS, argList, aPut, aFill, ↓reduceIte, Nat.reduceEqDiff, Nat.reduceAdd, Nat.reduceLeDiff, reduceCtorEq, Int.reduceEq, Int.reduceLT, Int.reduceLE, Int.reduceNeg, Int.reduceAdd, Int.reduceSub, Int.reduceToNat])
      generalize hs : Store.push _ _ = s1
      have k1 : Kp σ s1 := by rw [← hs]; exact (Kp.pushed _ _).push _
      have hn1 : s1.next = σ.next + 2 := by rw [← hs]; rfl
      have M0 := MS.start h k1 (N := σ.next + 2) (by omega)
      have hff := M0.fid
      have e1 : s1.get σ.next = some (.cells 54 0 9 [[.int .i64 k, .str nm, .int .i64 n, .int .i64 ar, strs ps, .list (gs.map Cr.cells), .list (al.map altC), .list (bs.map bindC), .list (pk.map pickC)]]) := by rw [← hs]; simp [Store.push_get, Store.push_next]
      have e2 : s1.get (σ.next + 1) = some (.cells 54 0 9 [zeroC]) := by rw [← hs]; simp [Store.push_get, Store.push_next, zeroC]
      clear hs
      by_cases hk : k = 6
      · obtain ⟨y, rfl⟩ : ∃ y, gs = [y] := by
          match gs, h6 hk with
          | [y], _ => exact ⟨y, rfl⟩
        subst hk
        rw [liftS_lam]
        try simp only [SS, argList, aPut, aFill, ↓reduceIte, Nat.reduceEqDiff, Nat.reduceAdd, Nat.reduceLeDiff, reduceCtorEq, Int.reduceEq, Int.reduceLT, Int.reduceLE, Int.reduceNeg, Int.reduceAdd, Int.reduceSub, Int.reduceToNat, e1, Cr.len, Cr.take9]
        repeat ((with_reducible first | refine AWP_seq ?_ | refine AWP_block ?_ | refine AWP_scope ?_ | refine AWP_reg ?_ | refine AWP_draw ?_ | refine AWP_skip ?_ | refine AWP_ret ?_ | refine AWP_exit ?_ | (refine AWP_cond_true ?_ ?_; · simp only [SS, argList, aPut, aFill, ↓reduceIte, Nat.reduceEqDiff, Nat.reduceAdd, Nat.reduceLeDiff, reduceCtorEq, Int.reduceEq, Int.reduceLT, Int.reduceLE, Int.reduceNeg, Int.reduceAdd, Int.reduceSub, Int.reduceToNat, e1, Cr.len, Cr.take9]) | (refine AWP_cond_false ?_ ?_; · simp only [SS, argList, aPut, aFill, ↓reduceIte, Nat.reduceEqDiff, Nat.reduceAdd, Nat.reduceLeDiff, reduceCtorEq, Int.reduceEq, Int.reduceLT, Int.reduceLE, Int.reduceNeg, Int.reduceAdd, Int.reduceSub, Int.reduceToNat, e1, Cr.len, Cr.take9])); try simp only [SS, argList, aPut, aFill, ↓reduceIte, Nat.reduceEqDiff, Nat.reduceAdd, Nat.reduceLeDiff, reduceCtorEq, Int.reduceEq, Int.reduceLT, Int.reduceLE, Int.reduceNeg, Int.reduceAdd, Int.reduceSub, Int.reduceToNat, e1, Cr.len, Cr.take9])
        have hby := Cr.bulkL_le (l := [y]) (x := y) (by simp)
        have hc := named_ok (.mk 6 nm n ar ps [y] al bs pk) y ps (i1 y (by simp) true) (by rw [Cr.bulk]; omega) (by omega) s1 fid v df es M0.la hdf (by omega)
        rw [Cr.cells_eq] at hc
        generalize Cr.apps _ _ = z at hc ⊢
        refine hc.mono ?_
        rintro _ s2 ⟨_, rfl, hP⟩
        obtain ⟨v2, M2, hk2, hf2, hn2⟩ := M0.call hP
        have g2 := hk2 (σ.next + 1) (by omega) (by omega) (M0.loc (by omega) (by omega))
        rw [e2] at g2
        have hu : ∀ o, (s2.upd (σ.next + 1) o).get (σ.next + 1) = some o := fun o => Store.get_upd_self _ _ (s2.lt g2)
        have hMx := M2.upd (.cells 54 0 9 [z.cells]) (id := σ.next + 1) (by omega) (M2.loc (by omega) (by omega))
        have hz : zeroC.length = 9 := rfl
        have hz9 : List.drop 9 zeroC = [] := rfl
        try simp only [SS, argList, aPut, aFill, ↓reduceIte, Nat.reduceEqDiff, Nat.reduceAdd, Nat.reduceLeDiff, reduceCtorEq, Int.reduceEq, Int.reduceLT, Int.reduceLE, Int.reduceNeg, Int.reduceAdd, Int.reduceSub, Int.reduceToNat, g2, Cr.len, Cr.take9, hz, hz9, hu]
        repeat ((with_reducible first | refine AWP_seq ?_ | refine AWP_block ?_ | refine AWP_scope ?_ | refine AWP_reg ?_ | refine AWP_draw ?_ | refine AWP_skip ?_ | refine AWP_ret ?_ | refine AWP_exit ?_ | (refine AWP_cond_true ?_ ?_; · simp only [SS, argList, aPut, aFill, ↓reduceIte, Nat.reduceEqDiff, Nat.reduceAdd, Nat.reduceLeDiff, reduceCtorEq, Int.reduceEq, Int.reduceLT, Int.reduceLE, Int.reduceNeg, Int.reduceAdd, Int.reduceSub, Int.reduceToNat, g2, Cr.len, Cr.take9, hz, hz9, hu]) | (refine AWP_cond_false ?_ ?_; · simp only [SS, argList, aPut, aFill, ↓reduceIte, Nat.reduceEqDiff, Nat.reduceAdd, Nat.reduceLeDiff, reduceCtorEq, Int.reduceEq, Int.reduceLT, Int.reduceLE, Int.reduceNeg, Int.reduceAdd, Int.reduceSub, Int.reduceToNat, g2, Cr.len, Cr.take9, hz, hz9, hu])); try simp only [SS, argList, aPut, aFill, ↓reduceIte, Nat.reduceEqDiff, Nat.reduceAdd, Nat.reduceLeDiff, reduceCtorEq, Int.reduceEq, Int.reduceLT, Int.reduceLE, Int.reduceNeg, Int.reduceAdd, Int.reduceSub, Int.reduceToNat, g2, Cr.len, Cr.take9, hz, hz9, hu])
        exact ⟨(), hMx.out⟩
      · rw [liftS_map _ _ _ _ _ _ _ _ _ _ _ _ _ hk (by simp)]
        try simp only [SS, argList, aPut, aFill, ↓reduceIte, Nat.reduceEqDiff, Nat.reduceAdd, Nat.reduceLeDiff, reduceCtorEq, Int.reduceEq, Int.reduceLT, Int.reduceLE, Int.reduceNeg, Int.reduceAdd, Int.reduceSub, Int.reduceToNat, e1, hk, Cr.len, Cr.take9]
        repeat ((with_reducible first | refine AWP_seq ?_ | refine AWP_block ?_ | refine AWP_scope ?_ | refine AWP_reg ?_ | refine AWP_draw ?_ | refine AWP_skip ?_ | refine AWP_ret ?_ | refine AWP_exit ?_ | (refine AWP_cond_true ?_ ?_; · simp only [SS, argList, aPut, aFill, ↓reduceIte, Nat.reduceEqDiff, Nat.reduceAdd, Nat.reduceLeDiff, reduceCtorEq, Int.reduceEq, Int.reduceLT, Int.reduceLE, Int.reduceNeg, Int.reduceAdd, Int.reduceSub, Int.reduceToNat, e1, hk, Cr.len, Cr.take9]) | (refine AWP_cond_false ?_ ?_; · simp only [SS, argList, aPut, aFill, ↓reduceIte, Nat.reduceEqDiff, Nat.reduceAdd, Nat.reduceLeDiff, reduceCtorEq, Int.reduceEq, Int.reduceLT, Int.reduceLE, Int.reduceNeg, Int.reduceAdd, Int.reduceSub, Int.reduceToNat, e1, hk, Cr.len, Cr.take9])); try simp only [SS, argList, aPut, aFill, ↓reduceIte, Nat.reduceEqDiff, Nat.reduceAdd, Nat.reduceLeDiff, reduceCtorEq, Int.reduceEq, Int.reduceLT, Int.reduceLE, Int.reduceNeg, Int.reduceAdd, Int.reduceSub, Int.reduceToNat, e1, hk, Cr.len, Cr.take9])
        have hc := mapped_ok true k nm n ar ps gs al bs pk i1 i2 i3 i4 s1 fid v df es M0.la hdf (by omega)
        rw [Cr.cells_eq] at hc
        generalize (mapS df textOf true es.length (Cr.mk k nm n ar ps gs al bs pk)).1 = z at hc ⊢
        refine hc.mono ?_
        rintro _ s2 ⟨_, rfl, hP⟩
        obtain ⟨v2, M2, hk2, hf2, hn2⟩ := M0.call hP
        have g2 := hk2 (σ.next + 1) (by omega) (by omega) (M0.loc (by omega) (by omega))
        rw [e2] at g2
        have hu : ∀ o, (s2.upd (σ.next + 1) o).get (σ.next + 1) = some o := fun o => Store.get_upd_self _ _ (s2.lt g2)
        have hMx := M2.upd (.cells 54 0 9 [z.cells]) (id := σ.next + 1) (by omega) (M2.loc (by omega) (by omega))
        have hz : zeroC.length = 9 := rfl
        have hz9 : List.drop 9 zeroC = [] := rfl
        try simp only [SS, argList, aPut, aFill, ↓reduceIte, Nat.reduceEqDiff, Nat.reduceAdd, Nat.reduceLeDiff, reduceCtorEq, Int.reduceEq, Int.reduceLT, Int.reduceLE, Int.reduceNeg, Int.reduceAdd, Int.reduceSub, Int.reduceToNat, g2, Cr.len, Cr.take9, hz, hz9, hu]
        repeat ((with_reducible first | refine AWP_seq ?_ | refine AWP_block ?_ | refine AWP_scope ?_ | refine AWP_reg ?_ | refine AWP_draw ?_ | refine AWP_skip ?_ | refine AWP_ret ?_ | refine AWP_exit ?_ | (refine AWP_cond_true ?_ ?_; · simp only [SS, argList, aPut, aFill, ↓reduceIte, Nat.reduceEqDiff, Nat.reduceAdd, Nat.reduceLeDiff, reduceCtorEq, Int.reduceEq, Int.reduceLT, Int.reduceLE, Int.reduceNeg, Int.reduceAdd, Int.reduceSub, Int.reduceToNat, g2, Cr.len, Cr.take9, hz, hz9, hu]) | (refine AWP_cond_false ?_ ?_; · simp only [SS, argList, aPut, aFill, ↓reduceIte, Nat.reduceEqDiff, Nat.reduceAdd, Nat.reduceLeDiff, reduceCtorEq, Int.reduceEq, Int.reduceLT, Int.reduceLE, Int.reduceNeg, Int.reduceAdd, Int.reduceSub, Int.reduceToNat, g2, Cr.len, Cr.take9, hz, hz9, hu])); try simp only [SS, argList, aPut, aFill, ↓reduceIte, Nat.reduceEqDiff, Nat.reduceAdd, Nat.reduceLeDiff, reduceCtorEq, Int.reduceEq, Int.reduceLT, Int.reduceLE, Int.reduceNeg, Int.reduceAdd, Int.reduceSub, Int.reduceToNat, g2, Cr.len, Cr.take9, hz, hz9, hu])
        exact ⟨(), hMx.out⟩
    intro b
    cases b with
    | true => exact hnow
    | false =>
      intro σ fid v df es h hdf hb
      have hb0 := hb
      rw [Cr.bulk] at hb
      simp only [Bool.toNat_false] at hb
      show ACalls Try.prog 89 _ _ _
      refine in89 (by simp) ?_
      unfold c89
      rw [Cr.cells_eq]
      try simp only [SS, argList, aPut, aFill, ↓reduceIte, Nat.reduceEqDiff, Nat.reduceAdd, Nat.reduceLeDiff, reduceCtorEq, Int.reduceEq, Int.reduceLT, Int.reduceLE, Int.reduceNeg, Int.reduceAdd, Int.reduceSub, Int.reduceToNat]
      iterate 2 ((with_reducible first | refine AWP_seq ?_ | refine AWP_block ?_ | refine AWP_scope ?_ | refine AWP_reg ?_ | refine AWP_draw ?_ | refine AWP_skip ?_ | refine AWP_ret ?_ | refine AWP_exit ?_ | (refine AWP_cond_true ?_ ?_; · simp only [SS, argList, aPut, aFill, ↓reduceIte, Nat.reduceEqDiff, Nat.reduceAdd, Nat.reduceLeDiff, reduceCtorEq, Int.reduceEq, Int.reduceLT, Int.reduceLE, Int.reduceNeg, Int.reduceAdd, Int.reduceSub, Int.reduceToNat]) | (refine AWP_cond_false ?_ ?_; · simp only [SS, argList, aPut, aFill, ↓reduceIte, Nat.reduceEqDiff, Nat.reduceAdd, Nat.reduceLeDiff, reduceCtorEq, Int.reduceEq, Int.reduceLT, Int.reduceLE, Int.reduceNeg, Int.reduceAdd, Int.reduceSub, Int.reduceToNat])); try simp only [SS, argList, aPut, aFill, ↓reduceIte, Nat.reduceEqDiff, Nat.reduceAdd, Nat.reduceLeDiff, reduceCtorEq, Int.reduceEq, Int.reduceLT, Int.reduceLE, Int.reduceNeg, Int.reduceAdd, Int.reduceSub, Int.reduceToNat])
      generalize hs : Store.push _ _ = s1
      have k1 : Kp σ s1 := by rw [← hs]; exact (Kp.pushed _ _).push _
      have hn1 : s1.next = σ.next + 2 := by rw [← hs]; rfl
      have M0 := MS.start h k1 (N := σ.next + 2) (by omega)
      have hff := M0.fid
      have e1 : s1.get σ.next = some (.cells 54 0 9 [[.int .i64 k, .str nm, .int .i64 n, .int .i64 ar, strs ps, .list (gs.map Cr.cells), .list (al.map altC), .list (bs.map bindC), .list (pk.map pickC)]]) := by rw [← hs]; simp [Store.push_get, Store.push_next]
      have e2 : s1.get (σ.next + 1) = some (.cells 54 0 9 [zeroC]) := by rw [← hs]; simp [Store.push_get, Store.push_next, zeroC]
      clear hs
      by_cases hk : k = 6
      · obtain ⟨y, rfl⟩ : ∃ y, gs = [y] := by
          match gs, h6 hk with
          | [y], _ => exact ⟨y, rfl⟩
        subst hk
        rw [liftS_lam]
        try simp only [SS, argList, aPut, aFill, ↓reduceIte, Nat.reduceEqDiff, Nat.reduceAdd, Nat.reduceLeDiff, reduceCtorEq, Int.reduceEq, Int.reduceLT, Int.reduceLE, Int.reduceNeg, Int.reduceAdd, Int.reduceSub, Int.reduceToNat, e1, Cr.len, Cr.take9]
        repeat ((with_reducible first | refine AWP_seq ?_ | refine AWP_block ?_ | refine AWP_scope ?_ | refine AWP_reg ?_ | refine AWP_draw ?_ | refine AWP_skip ?_ | refine AWP_ret ?_ | refine AWP_exit ?_ | (refine AWP_cond_true ?_ ?_; · simp only [SS, argList, aPut, aFill, ↓reduceIte, Nat.reduceEqDiff, Nat.reduceAdd, Nat.reduceLeDiff, reduceCtorEq, Int.reduceEq, Int.reduceLT, Int.reduceLE, Int.reduceNeg, Int.reduceAdd, Int.reduceSub, Int.reduceToNat, e1, Cr.len, Cr.take9]) | (refine AWP_cond_false ?_ ?_; · simp only [SS, argList, aPut, aFill, ↓reduceIte, Nat.reduceEqDiff, Nat.reduceAdd, Nat.reduceLeDiff, reduceCtorEq, Int.reduceEq, Int.reduceLT, Int.reduceLE, Int.reduceNeg, Int.reduceAdd, Int.reduceSub, Int.reduceToNat, e1, Cr.len, Cr.take9])); try simp only [SS, argList, aPut, aFill, ↓reduceIte, Nat.reduceEqDiff, Nat.reduceAdd, Nat.reduceLeDiff, reduceCtorEq, Int.reduceEq, Int.reduceLT, Int.reduceLE, Int.reduceNeg, Int.reduceAdd, Int.reduceSub, Int.reduceToNat, e1, Cr.len, Cr.take9])
        have hby := Cr.bulkL_le (l := [y]) (x := y) (by simp)
        have hc := named_ok (.mk 6 nm n ar ps [y] al bs pk) y ps (i1 y (by simp) true) (by rw [Cr.bulk]; omega) (by omega) s1 fid v df es M0.la hdf (by omega)
        rw [Cr.cells_eq] at hc
        generalize Cr.apps _ _ = z at hc ⊢
        refine hc.mono ?_
        rintro _ s2 ⟨_, rfl, hP⟩
        obtain ⟨v2, M2, hk2, hf2, hn2⟩ := M0.call hP
        have g2 := hk2 (σ.next + 1) (by omega) (by omega) (M0.loc (by omega) (by omega))
        rw [e2] at g2
        have hu : ∀ o, (s2.upd (σ.next + 1) o).get (σ.next + 1) = some o := fun o => Store.get_upd_self _ _ (s2.lt g2)
        have hMx := M2.upd (.cells 54 0 9 [z.cells]) (id := σ.next + 1) (by omega) (M2.loc (by omega) (by omega))
        have hz : zeroC.length = 9 := rfl
        have hz9 : List.drop 9 zeroC = [] := rfl
        try simp only [SS, argList, aPut, aFill, ↓reduceIte, Nat.reduceEqDiff, Nat.reduceAdd, Nat.reduceLeDiff, reduceCtorEq, Int.reduceEq, Int.reduceLT, Int.reduceLE, Int.reduceNeg, Int.reduceAdd, Int.reduceSub, Int.reduceToNat, g2, Cr.len, Cr.take9, hz, hz9, hu]
        repeat ((with_reducible first | refine AWP_seq ?_ | refine AWP_block ?_ | refine AWP_scope ?_ | refine AWP_reg ?_ | refine AWP_draw ?_ | refine AWP_skip ?_ | refine AWP_ret ?_ | refine AWP_exit ?_ | (refine AWP_cond_true ?_ ?_; · simp only [SS, argList, aPut, aFill, ↓reduceIte, Nat.reduceEqDiff, Nat.reduceAdd, Nat.reduceLeDiff, reduceCtorEq, Int.reduceEq, Int.reduceLT, Int.reduceLE, Int.reduceNeg, Int.reduceAdd, Int.reduceSub, Int.reduceToNat, g2, Cr.len, Cr.take9, hz, hz9, hu]) | (refine AWP_cond_false ?_ ?_; · simp only [SS, argList, aPut, aFill, ↓reduceIte, Nat.reduceEqDiff, Nat.reduceAdd, Nat.reduceLeDiff, reduceCtorEq, Int.reduceEq, Int.reduceLT, Int.reduceLE, Int.reduceNeg, Int.reduceAdd, Int.reduceSub, Int.reduceToNat, g2, Cr.len, Cr.take9, hz, hz9, hu])); try simp only [SS, argList, aPut, aFill, ↓reduceIte, Nat.reduceEqDiff, Nat.reduceAdd, Nat.reduceLeDiff, reduceCtorEq, Int.reduceEq, Int.reduceLT, Int.reduceLE, Int.reduceNeg, Int.reduceAdd, Int.reduceSub, Int.reduceToNat, g2, Cr.len, Cr.take9, hz, hz9, hu])
        exact ⟨(), hMx.out⟩
      by_cases hk2 : k = 8 ∨ k = 11 ∨ k = 10
      · rw [liftS_late _ _ _ _ _ _ _ _ _ _ _ _ hk2]
        have hc := named_ok (.mk k nm n ar ps gs al bs pk) (.mk k nm n ar ps gs al bs pk) [] hnow (by rw [Cr.bulk]; omega) (by simp) s1 fid v df es M0.la hdf (by rw [Cr.bulk]; omega)
        rw [liftS_map _ _ _ _ _ _ _ _ _ _ _ _ _ hk (by simp), List.append_nil] at hc
        have hc := ACalls_argsD (args := [.ptr fid 0 0 0, .agg (Cr.mk k nm n ar ps gs al bs pk).cells, .nils, .agg (Cr.mk k nm n ar ps gs al bs pk).cells]) (.cons (.refl _) (.cons (.refl _) (.cons .nil (.cons (.refl _) .nil)))) hc
        rw [Cr.cells_eq] at hc
        generalize Cr.apps _ _ = z at hc ⊢
        rcases hk2 with rfl | rfl | rfl
        · try simp only [SS, argList, aPut, aFill, ↓reduceIte, Nat.reduceEqDiff, Nat.reduceAdd, Nat.reduceLeDiff, reduceCtorEq, Int.reduceEq, Int.reduceLT, Int.reduceLE, Int.reduceNeg, Int.reduceAdd, Int.reduceSub, Int.reduceToNat, e1, hk, Cr.len, Cr.take9]
          repeat ((with_reducible first | refine AWP_seq ?_ | refine AWP_block ?_ | refine AWP_scope ?_ | refine AWP_reg ?_ | refine AWP_draw ?_ | refine AWP_skip ?_ | refine AWP_ret ?_ | refine AWP_exit ?_ | (refine AWP_cond_true ?_ ?_; · simp only [SS, argList, aPut, aFill, ↓reduceIte, Nat.reduceEqDiff, Nat.reduceAdd, Nat.reduceLeDiff, reduceCtorEq, Int.reduceEq, Int.reduceLT, Int.reduceLE, Int.reduceNeg, Int.reduceAdd, Int.reduceSub, Int.reduceToNat, e1, hk, Cr.len, Cr.take9]) | (refine AWP_cond_false ?_ ?_; · simp only [SS, argList, aPut, aFill, ↓reduceIte, Nat.reduceEqDiff, Nat.reduceAdd, Nat.reduceLeDiff, reduceCtorEq, Int.reduceEq, Int.reduceLT, Int.reduceLE, Int.reduceNeg, Int.reduceAdd, Int.reduceSub, Int.reduceToNat, e1, hk, Cr.len, Cr.take9])); try simp only [SS, argList, aPut, aFill, ↓reduceIte, Nat.reduceEqDiff, Nat.reduceAdd, Nat.reduceLeDiff, reduceCtorEq, Int.reduceEq, Int.reduceLT, Int.reduceLE, Int.reduceNeg, Int.reduceAdd, Int.reduceSub, Int.reduceToNat, e1, hk, Cr.len, Cr.take9])
          refine hc.mono ?_
          rintro _ s2 ⟨_, rfl, hP⟩
          obtain ⟨v2, M2, hk2, hf2, hn2⟩ := M0.call hP
          have g2 := hk2 (σ.next + 1) (by omega) (by omega) (M0.loc (by omega) (by omega))
          rw [e2] at g2
          have hu : ∀ o, (s2.upd (σ.next + 1) o).get (σ.next + 1) = some o := fun o => Store.get_upd_self _ _ (s2.lt g2)
          have hMx := M2.upd (.cells 54 0 9 [z.cells]) (id := σ.next + 1) (by omega) (M2.loc (by omega) (by omega))
          have hz : zeroC.length = 9 := rfl
          have hz9 : List.drop 9 zeroC = [] := rfl
          try simp only [SS, argList, aPut, aFill, ↓reduceIte, Nat.reduceEqDiff, Nat.reduceAdd, Nat.reduceLeDiff, reduceCtorEq, Int.reduceEq, Int.reduceLT, Int.reduceLE, Int.reduceNeg, Int.reduceAdd, Int.reduceSub, Int.reduceToNat, g2, Cr.len, Cr.take9, hz, hz9, hu]
          repeat ((with_reducible first | refine AWP_seq ?_ | refine AWP_block ?_ | refine AWP_scope ?_ | refine AWP_reg ?_ | refine AWP_draw ?_ | refine AWP_skip ?_ | refine AWP_ret ?_ | refine AWP_exit ?_ | (refine AWP_cond_true ?_ ?_; · simp only [SS, argList, aPut, aFill, ↓reduceIte, Nat.reduceEqDiff, Nat.reduceAdd, Nat.reduceLeDiff, reduceCtorEq, Int.reduceEq, Int.reduceLT, Int.reduceLE, Int.reduceNeg, Int.reduceAdd, Int.reduceSub, Int.reduceToNat, g2, Cr.len, Cr.take9, hz, hz9, hu]) | (refine AWP_cond_false ?_ ?_; · simp only [SS, argList, aPut, aFill, ↓reduceIte, Nat.reduceEqDiff, Nat.reduceAdd, Nat.reduceLeDiff, reduceCtorEq, Int.reduceEq, Int.reduceLT, Int.reduceLE, Int.reduceNeg, Int.reduceAdd, Int.reduceSub, Int.reduceToNat, g2, Cr.len, Cr.take9, hz, hz9, hu])); try simp only [SS, argList, aPut, aFill, ↓reduceIte, Nat.reduceEqDiff, Nat.reduceAdd, Nat.reduceLeDiff, reduceCtorEq, Int.reduceEq, Int.reduceLT, Int.reduceLE, Int.reduceNeg, Int.reduceAdd, Int.reduceSub, Int.reduceToNat, g2, Cr.len, Cr.take9, hz, hz9, hu])
          exact ⟨(), hMx.out⟩
        · try simp only [SS, argList, aPut, aFill, ↓reduceIte, Nat.reduceEqDiff, Nat.reduceAdd, Nat.reduceLeDiff, reduceCtorEq, Int.reduceEq, Int.reduceLT, Int.reduceLE, Int.reduceNeg, Int.reduceAdd, Int.reduceSub, Int.reduceToNat, e1, hk, Cr.len, Cr.take9]
          repeat ((with_reducible first | refine AWP_seq ?_ | refine AWP_block ?_ | refine AWP_scope ?_ | refine AWP_reg ?_ | refine AWP_draw ?_ | refine AWP_skip ?_ | refine AWP_ret ?_ | refine AWP_exit ?_ | (refine AWP_cond_true ?_ ?_; · simp only [SS, argList, aPut, aFill, ↓reduceIte, Nat.reduceEqDiff, Nat.reduceAdd, Nat.reduceLeDiff, reduceCtorEq, Int.reduceEq, Int.reduceLT, Int.reduceLE, Int.reduceNeg, Int.reduceAdd, Int.reduceSub, Int.reduceToNat, e1, hk, Cr.len, Cr.take9]) | (refine AWP_cond_false ?_ ?_; · simp only [SS, argList, aPut, aFill, ↓reduceIte, Nat.reduceEqDiff, Nat.reduceAdd, Nat.reduceLeDiff, reduceCtorEq, Int.reduceEq, Int.reduceLT, Int.reduceLE, Int.reduceNeg, Int.reduceAdd, Int.reduceSub, Int.reduceToNat, e1, hk, Cr.len, Cr.take9])); try simp only [SS, argList, aPut, aFill, ↓reduceIte, Nat.reduceEqDiff, Nat.reduceAdd, Nat.reduceLeDiff, reduceCtorEq, Int.reduceEq, Int.reduceLT, Int.reduceLE, Int.reduceNeg, Int.reduceAdd, Int.reduceSub, Int.reduceToNat, e1, hk, Cr.len, Cr.take9])
          refine hc.mono ?_
          rintro _ s2 ⟨_, rfl, hP⟩
          obtain ⟨v2, M2, hk2, hf2, hn2⟩ := M0.call hP
          have g2 := hk2 (σ.next + 1) (by omega) (by omega) (M0.loc (by omega) (by omega))
          rw [e2] at g2
          have hu : ∀ o, (s2.upd (σ.next + 1) o).get (σ.next + 1) = some o := fun o => Store.get_upd_self _ _ (s2.lt g2)
          have hMx := M2.upd (.cells 54 0 9 [z.cells]) (id := σ.next + 1) (by omega) (M2.loc (by omega) (by omega))
          have hz : zeroC.length = 9 := rfl
          have hz9 : List.drop 9 zeroC = [] := rfl
          try simp only [SS, argList, aPut, aFill, ↓reduceIte, Nat.reduceEqDiff, Nat.reduceAdd, Nat.reduceLeDiff, reduceCtorEq, Int.reduceEq, Int.reduceLT, Int.reduceLE, Int.reduceNeg, Int.reduceAdd, Int.reduceSub, Int.reduceToNat, g2, Cr.len, Cr.take9, hz, hz9, hu]
          repeat ((with_reducible first | refine AWP_seq ?_ | refine AWP_block ?_ | refine AWP_scope ?_ | refine AWP_reg ?_ | refine AWP_draw ?_ | refine AWP_skip ?_ | refine AWP_ret ?_ | refine AWP_exit ?_ | (refine AWP_cond_true ?_ ?_; · simp only [SS, argList, aPut, aFill, ↓reduceIte, Nat.reduceEqDiff, Nat.reduceAdd, Nat.reduceLeDiff, reduceCtorEq, Int.reduceEq, Int.reduceLT, Int.reduceLE, Int.reduceNeg, Int.reduceAdd, Int.reduceSub, Int.reduceToNat, g2, Cr.len, Cr.take9, hz, hz9, hu]) | (refine AWP_cond_false ?_ ?_; · simp only [SS, argList, aPut, aFill, ↓reduceIte, Nat.reduceEqDiff, Nat.reduceAdd, Nat.reduceLeDiff, reduceCtorEq, Int.reduceEq, Int.reduceLT, Int.reduceLE, Int.reduceNeg, Int.reduceAdd, Int.reduceSub, Int.reduceToNat, g2, Cr.len, Cr.take9, hz, hz9, hu])); try simp only [SS, argList, aPut, aFill, ↓reduceIte, Nat.reduceEqDiff, Nat.reduceAdd, Nat.reduceLeDiff, reduceCtorEq, Int.reduceEq, Int.reduceLT, Int.reduceLE, Int.reduceNeg, Int.reduceAdd, Int.reduceSub, Int.reduceToNat, g2, Cr.len, Cr.take9, hz, hz9, hu])
          exact ⟨(), hMx.out⟩
        · try simp only [SS, argList, aPut, aFill, ↓reduceIte, Nat.reduceEqDiff, Nat.reduceAdd, Nat.reduceLeDiff, reduceCtorEq, Int.reduceEq, Int.reduceLT, Int.reduceLE, Int.reduceNeg, Int.reduceAdd, Int.reduceSub, Int.reduceToNat, e1, hk, Cr.len, Cr.take9]
          repeat ((with_reducible first | refine AWP_seq ?_ | refine AWP_block ?_ | refine AWP_scope ?_ | refine AWP_reg ?_ | refine AWP_draw ?_ | refine AWP_skip ?_ | refine AWP_ret ?_ | refine AWP_exit ?_ | (refine AWP_cond_true ?_ ?_; · simp only [SS, argList, aPut, aFill, ↓reduceIte, Nat.reduceEqDiff, Nat.reduceAdd, Nat.reduceLeDiff, reduceCtorEq, Int.reduceEq, Int.reduceLT, Int.reduceLE, Int.reduceNeg, Int.reduceAdd, Int.reduceSub, Int.reduceToNat, e1, hk, Cr.len, Cr.take9]) | (refine AWP_cond_false ?_ ?_; · simp only [SS, argList, aPut, aFill, ↓reduceIte, Nat.reduceEqDiff, Nat.reduceAdd, Nat.reduceLeDiff, reduceCtorEq, Int.reduceEq, Int.reduceLT, Int.reduceLE, Int.reduceNeg, Int.reduceAdd, Int.reduceSub, Int.reduceToNat, e1, hk, Cr.len, Cr.take9])); try simp only [SS, argList, aPut, aFill, ↓reduceIte, Nat.reduceEqDiff, Nat.reduceAdd, Nat.reduceLeDiff, reduceCtorEq, Int.reduceEq, Int.reduceLT, Int.reduceLE, Int.reduceNeg, Int.reduceAdd, Int.reduceSub, Int.reduceToNat, e1, hk, Cr.len, Cr.take9])
          refine hc.mono ?_
          rintro _ s2 ⟨_, rfl, hP⟩
          obtain ⟨v2, M2, hk2, hf2, hn2⟩ := M0.call hP
          have g2 := hk2 (σ.next + 1) (by omega) (by omega) (M0.loc (by omega) (by omega))
          rw [e2] at g2
          have hu : ∀ o, (s2.upd (σ.next + 1) o).get (σ.next + 1) = some o := fun o => Store.get_upd_self _ _ (s2.lt g2)
          have hMx := M2.upd (.cells 54 0 9 [z.cells]) (id := σ.next + 1) (by omega) (M2.loc (by omega) (by omega))
          have hz : zeroC.length = 9 := rfl
          have hz9 : List.drop 9 zeroC = [] := rfl
          try simp only [SS, argList, aPut, aFill, ↓reduceIte, Nat.reduceEqDiff, Nat.reduceAdd, Nat.reduceLeDiff, reduceCtorEq, Int.reduceEq, Int.reduceLT, Int.reduceLE, Int.reduceNeg, Int.reduceAdd, Int.reduceSub, Int.reduceToNat, g2, Cr.len, Cr.take9, hz, hz9, hu]
          repeat ((with_reducible first | refine AWP_seq ?_ | refine AWP_block ?_ | refine AWP_scope ?_ | refine AWP_reg ?_ | refine AWP_draw ?_ | refine AWP_skip ?_ | refine AWP_ret ?_ | refine AWP_exit ?_ | (refine AWP_cond_true ?_ ?_; · simp only [SS, argList, aPut, aFill, ↓reduceIte, Nat.reduceEqDiff, Nat.reduceAdd, Nat.reduceLeDiff, reduceCtorEq, Int.reduceEq, Int.reduceLT, Int.reduceLE, Int.reduceNeg, Int.reduceAdd, Int.reduceSub, Int.reduceToNat, g2, Cr.len, Cr.take9, hz, hz9, hu]) | (refine AWP_cond_false ?_ ?_; · simp only [SS, argList, aPut, aFill, ↓reduceIte, Nat.reduceEqDiff, Nat.reduceAdd, Nat.reduceLeDiff, reduceCtorEq, Int.reduceEq, Int.reduceLT, Int.reduceLE, Int.reduceNeg, Int.reduceAdd, Int.reduceSub, Int.reduceToNat, g2, Cr.len, Cr.take9, hz, hz9, hu])); try simp only [SS, argList, aPut, aFill, ↓reduceIte, Nat.reduceEqDiff, Nat.reduceAdd, Nat.reduceLeDiff, reduceCtorEq, Int.reduceEq, Int.reduceLT, Int.reduceLE, Int.reduceNeg, Int.reduceAdd, Int.reduceSub, Int.reduceToNat, g2, Cr.len, Cr.take9, hz, hz9, hu])
          exact ⟨(), hMx.out⟩
      · rw [liftS_map _ _ _ _ _ _ _ _ _ _ _ _ _ hk (by simpa using hk2)]
        have hk8 : k ≠ 8 := fun e => hk2 (.inl e)
        have hk11 : k ≠ 11 := fun e => hk2 (.inr (.inl e))
        have hk10 : k ≠ 10 := fun e => hk2 (.inr (.inr e))
        try simp only [SS, argList, aPut, aFill, ↓reduceIte, Nat.reduceEqDiff, Nat.reduceAdd, Nat.reduceLeDiff, reduceCtorEq, Int.reduceEq, Int.reduceLT, Int.reduceLE, Int.reduceNeg, Int.reduceAdd, Int.reduceSub, Int.reduceToNat, e1, hk, hk8, hk11, hk10, Cr.len, Cr.take9]
        repeat ((with_reducible first | refine AWP_seq ?_ | refine AWP_block ?_ | refine AWP_scope ?_ | refine AWP_reg ?_ | refine AWP_draw ?_ | refine AWP_skip ?_ | refine AWP_ret ?_ | refine AWP_exit ?_ | (refine AWP_cond_true ?_ ?_; · simp only [SS, argList, aPut, aFill, ↓reduceIte, Nat.reduceEqDiff, Nat.reduceAdd, Nat.reduceLeDiff, reduceCtorEq, Int.reduceEq, Int.reduceLT, Int.reduceLE, Int.reduceNeg, Int.reduceAdd, Int.reduceSub, Int.reduceToNat, e1, hk, hk8, hk11, hk10, Cr.len, Cr.take9]) | (refine AWP_cond_false ?_ ?_; · simp only [SS, argList, aPut, aFill, ↓reduceIte, Nat.reduceEqDiff, Nat.reduceAdd, Nat.reduceLeDiff, reduceCtorEq, Int.reduceEq, Int.reduceLT, Int.reduceLE, Int.reduceNeg, Int.reduceAdd, Int.reduceSub, Int.reduceToNat, e1, hk, hk8, hk11, hk10, Cr.len, Cr.take9])); try simp only [SS, argList, aPut, aFill, ↓reduceIte, Nat.reduceEqDiff, Nat.reduceAdd, Nat.reduceLeDiff, reduceCtorEq, Int.reduceEq, Int.reduceLT, Int.reduceLE, Int.reduceNeg, Int.reduceAdd, Int.reduceSub, Int.reduceToNat, e1, hk, hk8, hk11, hk10, Cr.len, Cr.take9])
        have hc := mapped_ok false k nm n ar ps gs al bs pk i1 i2 i3 i4 s1 fid v df es M0.la hdf (by omega)
        rw [Cr.cells_eq] at hc
        generalize (mapS df textOf false es.length (Cr.mk k nm n ar ps gs al bs pk)).1 = z at hc ⊢
        refine hc.mono ?_
        rintro _ s2 ⟨_, rfl, hP⟩
        obtain ⟨v2, M2, hk2, hf2, hn2⟩ := M0.call hP
        have g2 := hk2 (σ.next + 1) (by omega) (by omega) (M0.loc (by omega) (by omega))
        rw [e2] at g2
        have hu : ∀ o, (s2.upd (σ.next + 1) o).get (σ.next + 1) = some o := fun o => Store.get_upd_self _ _ (s2.lt g2)
        have hMx := M2.upd (.cells 54 0 9 [z.cells]) (id := σ.next + 1) (by omega) (M2.loc (by omega) (by omega))
        have hz : zeroC.length = 9 := rfl
        have hz9 : List.drop 9 zeroC = [] := rfl
        try simp only [SS, argList, aPut, aFill, ↓reduceIte, Nat.reduceEqDiff, Nat.reduceAdd, Nat.reduceLeDiff, reduceCtorEq, Int.reduceEq, Int.reduceLT, Int.reduceLE, Int.reduceNeg, Int.reduceAdd, Int.reduceSub, Int.reduceToNat, g2, Cr.len, Cr.take9, hz, hz9, hu]
        repeat ((with_reducible first | refine AWP_seq ?_ | refine AWP_block ?_ | refine AWP_scope ?_ | refine AWP_reg ?_ | refine AWP_draw ?_ | refine AWP_skip ?_ | refine AWP_ret ?_ | refine AWP_exit ?_ | (refine AWP_cond_true ?_ ?_; · simp only [SS, argList, aPut, aFill, ↓reduceIte, Nat.reduceEqDiff, Nat.reduceAdd, Nat.reduceLeDiff, reduceCtorEq, Int.reduceEq, Int.reduceLT, Int.reduceLE, Int.reduceNeg, Int.reduceAdd, Int.reduceSub, Int.reduceToNat, g2, Cr.len, Cr.take9, hz, hz9, hu]) | (refine AWP_cond_false ?_ ?_; · simp only [SS, argList, aPut, aFill, ↓reduceIte, Nat.reduceEqDiff, Nat.reduceAdd, Nat.reduceLeDiff, reduceCtorEq, Int.reduceEq, Int.reduceLT, Int.reduceLE, Int.reduceNeg, Int.reduceAdd, Int.reduceSub, Int.reduceToNat, g2, Cr.len, Cr.take9, hz, hz9, hu])); try simp only [SS, argList, aPut, aFill, ↓reduceIte, Nat.reduceEqDiff, Nat.reduceAdd, Nat.reduceLeDiff, reduceCtorEq, Int.reduceEq, Int.reduceLT, Int.reduceLE, Int.reduceNeg, Int.reduceAdd, Int.reduceSub, Int.reduceToNat, g2, Cr.len, Cr.take9, hz, hz9, hu])
        exact ⟨(), hMx.out⟩
end Go.Proofs.Ytjjbjibbjbbeaaa
