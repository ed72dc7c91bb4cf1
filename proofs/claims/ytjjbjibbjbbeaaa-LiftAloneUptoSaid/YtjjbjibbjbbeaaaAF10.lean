/- What is free in an expression. -/
import Derived.Test.YtjjbjibbjbbeaaaAF9
set_option linter.unusedVariables false
set_option linter.unusedSimpArgs false
namespace Go.AL
theorem Cr.bulkL_app : ∀ l m : List Cr, Cr.bulkL (l ++ m) = Cr.bulkL l + Cr.bulkL m
  | [], m => by simp [Cr.bulkL]
  | x :: r, m => by rw [List.cons_append, Cr.bulkL, Cr.bulkL, Cr.bulkL_app r m]; omega
theorem Cr.bulkA_app : ∀ l m : List (AltH × Cr), Cr.bulkA (l ++ m) = Cr.bulkA l + Cr.bulkA m
  | [], m => by simp [Cr.bulkA]
  | (h, x) :: r, m => by rw [List.cons_append, Cr.bulkA, Cr.bulkA, Cr.bulkA_app r m]; omega
theorem Cr.bulkB_app : ∀ l m : List (ByteArray × Cr), Cr.bulkB (l ++ m) = Cr.bulkB l + Cr.bulkB m
  | [], m => by simp [Cr.bulkB]
  | (h, x) :: r, m => by rw [List.cons_append, Cr.bulkB, Cr.bulkB, Cr.bulkB_app r m]; omega
theorem Cr.bulkP_app : ∀ l m : List (Int × Cr), Cr.bulkP (l ++ m) = Cr.bulkP l + Cr.bulkP m
  | [], m => by simp [Cr.bulkP]
  | (h, x) :: r, m => by rw [List.cons_append, Cr.bulkP, Cr.bulkP, Cr.bulkP_app r m]; omega
theorem Cr.lenB2 : ∀ l : List (ByteArray × Cr), 2 * l.length ≤ Cr.bulkB l
  | [] => by simp
  | (h, x) :: r => by rw [Cr.bulkB, List.length_cons]; have := Cr.lenB2 r; have := x.bulk_pos; omega
theorem split_at {α : Type} {l : List α} {i : Nat} {x : α} (h : l[i]? = some x) : l = l.take i ++ x :: l.drop (i + 1) := by
  obtain ⟨hi, rfl⟩ := List.getElem?_eq_some_iff.1 h
  conv => lhs; rw [← List.take_append_drop i l]
  rw [List.drop_eq_getElem_cons hi]
theorem take_succ_at {α : Type} {l : List α} {i : Nat} {x : α} (h : l[i]? = some x) : l.take (i + 1) = l.take i ++ [x] := by rw [List.take_add_one, h]; rfl
theorem Cr.bulkL_take {l : List Cr} {i : Nat} {x : Cr} (h : l[i]? = some x) : Cr.bulkL (l.take i) + x.bulk ≤ Cr.bulkL l := by
  conv => rhs; rw [split_at h, Cr.bulkL_app, Cr.bulkL]
  omega
theorem Cr.bulkA_take {l : List (AltH × Cr)} {i : Nat} {x : AltH × Cr} (h : l[i]? = some x) : Cr.bulkA (l.take i) + x.1.ps.length + x.2.bulk ≤ Cr.bulkA l := by
  conv => rhs; rw [split_at h, Cr.bulkA_app]
  obtain ⟨h, y⟩ := x
  rw [Cr.bulkA]; simp only; omega
theorem Cr.bulkB_take {l : List (ByteArray × Cr)} {i : Nat} {x : ByteArray × Cr} (h : l[i]? = some x) : Cr.bulkB (l.take i) + 1 + x.2.bulk ≤ Cr.bulkB l := by
  conv => rhs; rw [split_at h, Cr.bulkB_app]
  obtain ⟨h, y⟩ := x
  rw [Cr.bulkB]; simp only; omega
theorem Cr.bulkP_take {l : List (Int × Cr)} {i : Nat} {x : Int × Cr} (h : l[i]? = some x) : Cr.bulkP (l.take i) + x.2.bulk ≤ Cr.bulkP l := by
  conv => rhs; rw [split_at h, Cr.bulkP_app]
  obtain ⟨h, y⟩ := x
  rw [Cr.bulkP]; simp only; omega
theorem freeL_one (b o : List ByteArray) (x : Cr) : freeL b o [x] = freeS b o x := by rw [freeL, freeL]
theorem freeA_one (b o : List ByteArray) (x : AltH × Cr) : freeA b o [x] = freeS (b ++ x.1.ps) o x.2 := by obtain ⟨h, y⟩ := x; rw [freeA, freeA]
theorem freeB_one (b o : List ByteArray) (x : ByteArray × Cr) : freeB b o [x] = freeS b o x.2 := by obtain ⟨h, y⟩ := x; rw [freeB, freeB]
theorem freeP_one (b o : List ByteArray) (x : Int × Cr) : freeP b o [x] = freeS b o x.2 := by obtain ⟨h, y⟩ := x; rw [freeP, freeP]
theorem Cr.bulkB_take2 {l : List (ByteArray × Cr)} {i : Nat} {x : ByteArray × Cr} (h : l[i]? = some x) : Cr.bulkB (l.take i) + x.2.bulk + l.length ≤ Cr.bulkB l + i := by
  have hi := (List.getElem?_eq_some_iff.1 h).1
  have e : Cr.bulkB l = Cr.bulkB (l.take i) + (1 + x.2.bulk + Cr.bulkB (l.drop (i + 1))) := by
    conv => lhs; rw [split_at h, Cr.bulkB_app]
    obtain ⟨h, y⟩ := x
    rw [Cr.bulkB]
  have := Cr.lenB (l.drop (i + 1))
  rw [List.length_drop] at this
  omega
/-- What comes of the parts. -/
noncomputable def partsF (b o : List ByteArray) : Cr → List ByteArray
  | .mk k nm n ar ps gs al bs pk => freeP b (freeB b (freeA b (freeL b o gs) al) bs) pk
theorem partsF_len (x : Cr) (b o : List ByteArray) : (partsF b o x).length + 1 ≤ o.length + x.bulk := by
  obtain ⟨k, nm, m, ar, ps, gs, al, bs, pk⟩ := x
  rw [partsF, Cr.bulk]
  have h1 := freeL_len gs b o
  have h2 := freeA_len al b (freeL b o gs)
  have h3 := freeB_len bs b (freeA b (freeL b o gs) al)
  have h4 := freeP_len pk b (freeB b (freeA b (freeL b o gs) al) bs)
  omega

theorem ok_cut {σ : Store} {v : AV} {ty sz n : Nat} {es : List (List AV)} {K : AV → Store → Prop} (h : SliceAt σ v ty sz es) (hn : n ≤ es.length)
    (hk : ∀ v', SliceAt σ v' ty sz (es.take n) → (∀ j, j ∈ slIds v' → j ∈ slIds v) → K v' σ) : ok (eCut .slice sz v none (some (.int .i64 n)) σ) K := by
  rcases h with ⟨rfl, rfl⟩ | ⟨id, ver, es', rfl, hg⟩
  · have : n = 0 := by simpa using hn
    subst this
    exact hk .nils (.inl ⟨rfl, by simp⟩) (fun j hj => hj)
  · have e : eCut .slice sz (.own id ver sz 0 es.length) none (some (.int .i64 n)) σ = some (.own id ver sz 0 n, σ) := by
      simp only [eCut, bound, hg]
      rw [if_pos ⟨trivial, trivial, by omega, by omega, by omega⟩]
      simp
    rw [e]
    refine hk _ (.inr ⟨id, ver, es.drop n ++ es', by rw [List.length_take, Nat.min_eq_left hn], ?_⟩) (fun j hj => hj)
    rw [hg, ← List.append_assoc, List.take_append_drop]
/-! ### The finder -/
structure FindAt (σ : Store) (fid : Nat) (vb vo : AV) (bound out : List ByteArray) : Prop where
  hd : σ.get fid = some (.cells 192 0 2 [[vb, vo]])
  sb : SliceAt σ vb 9 1 (bound.map fun s => [.str s])
  so : SliceAt σ vo 9 1 (out.map fun s => [.str s])
  nb : fid ∉ slIds vb
  no : fid ∉ slIds vo
  dj : ∀ j, j ∈ slIds vb → j ∉ slIds vo
/-- What is none of the finder's is as it was. -/
structure FF (σ s : Store) (fid : Nat) (vb vo vb' vo' : AV) : Prop where
  next : σ.next ≤ s.next
  keep : ∀ j, j < σ.next → j ≠ fid → j ∉ slIds vb → j ∉ slIds vo → s.get j = σ.get j
  fb : ∀ j, j ∈ slIds vb' → j ∈ slIds vb ∨ σ.next ≤ j
  fo : ∀ j, j ∈ slIds vo' → j ∈ slIds vo ∨ σ.next ≤ j
theorem FF.refl (σ : Store) (fid : Nat) (vb vo : AV) : FF σ σ fid vb vo vb vo := ⟨Nat.le_refl _, fun _ _ _ _ _ => rfl, fun _ h => .inl h, fun _ h => .inl h⟩
theorem FF.trans {σ s u : Store} {fid : Nat} {vb vo vb' vo' vb2 vo2 : AV} (h : FF σ s fid vb vo vb' vo') (k : FF s u fid vb' vo' vb2 vo2) : FF σ u fid vb vo vb2 vo2 where
  next := Nat.le_trans h.next k.next
  keep j hj h1 h2 h3 := by
    rw [k.keep j (Nat.lt_of_lt_of_le hj h.next) h1 (fun hm => (h.fb j hm).elim h2 (fun h => absurd hj (by omega))) (fun hm => (h.fo j hm).elim h3 (fun h => absurd hj (by omega))), h.keep j hj h1 h2 h3]
  fb j hj := (k.fb j hj).elim (h.fb j) fun hh => .inr (Nat.le_trans h.next hh)
  fo j hj := (k.fo j hj).elim (h.fo j) fun hh => .inr (Nat.le_trans h.next hh)
theorem FF.kp {σ s : Store} (k : Kp σ s) (fid : Nat) (vb vo : AV) : FF σ s fid vb vo vb vo := ⟨k.next, fun j hj _ _ _ => k.keep j hj, fun _ h => .inl h, fun _ h => .inl h⟩
theorem FF.push {σ s : Store} {fid : Nat} {vb vo vb' vo' : AV} (h : FF σ s fid vb vo vb' vo') (o : AObj) : FF σ (s.push o) fid vb vo vb' vo' := h.trans (FF.kp (.pushed _ _) _ _ _)
theorem FindAt.keep {σ s : Store} {fid : Nat} {vb vo : AV} {b o : List ByteArray} (h : FindAt σ fid vb vo b o) (k : Kp σ s) : FindAt s fid vb vo b o :=
  ⟨k.get h.hd, h.sb.keep fun i hi => k.keep i (h.sb.lt hi), h.so.keep fun i hi => k.keep i (h.so.lt hi), h.nb, h.no, h.dj⟩
theorem FF.get {σ s : Store} {fid : Nat} {vb vo vb' vo' : AV} (h : FF σ s fid vb vo vb' vo') {j : Nat} {o : AObj} (hj : σ.get j = some o) (h1 : j ≠ fid) (h2 : j ∉ slIds vb) (h3 : j ∉ slIds vo) : s.get j = some o := by
  rw [h.keep j (σ.lt hj) h1 h2 h3]; exact hj
/-- The finder behind a call. -/
def LookPost (σ : Store) (fid : Nat) (vb vo : AV) (b o : List ByteArray) (s : Store) : Prop := ∃ vb' vo', FindAt s fid vb' vo' b o ∧ FF σ s fid vb vo vb' vo'
@[congr] theorem LookPost_congr {w : Prop} (hw : Visit = w) {σ : Store} {fid : Nat} {vb vo : AV} {b o : List ByteArray} {s s' : Store} (h : s = s') : LookPost σ fid vb vo b o s = LookPost σ fid vb vo b o s' := by rw [h]
end Go.AL
namespace Go.Proofs.Ytjjbjibbjbbeaaa
open Go.AL
/-- Looking at an expression. -/
abbrev LookC (x : Cr) : Prop := ∀ (σ : Store) (fid : Nat) (vb vo : AV) (b o : List ByteArray), FindAt σ fid vb vo b o → b.length + o.length + 2 * x.bulk ≤ 40000000 →
  ACalls Try.prog 82 [.ptr fid 0 0 0, .agg x.cells] σ fun _ s => LookPost σ fid vb vo b (freeS b o x) s
theorem within_ok (σ : Store) (fid : Nat) (vb vo : AV) (b o l o' : List ByteArray) (g : Nat) (caps : List AV) (h : FindAt σ fid vb vo b o) (hb : b.length + l.length ≤ 100000000)
    (hg : ∀ (s : Store) (vb' vo' : AV), FindAt s fid vb' vo' (b ++ l) o → FF σ s fid vb vo vb' vo' → ACalls Try.prog g caps s fun _ u => LookPost s fid vb' vo' (b ++ l) o' u) :
    ACalls Try.prog 137 [.ptr fid 0 0 0, strs l, .fn (.func g) [] caps] σ fun _ s => LookPost σ fid vb vo b o' s := by
  refine in137 (by simp) ?_
  unfold c137
  have hlen := h.sb.len
  try simp only [SS, argList, aPut, aFill, ↓reduceIte, Nat.reduceEqDiff, Nat.reduceAdd, Nat.reduceLeDiff, reduceCtorEq, Int.reduceEq, Int.reduceLT, Int.reduceLE, Int.reduceNeg, Int.reduceAdd, Int.reduceSub, Int.reduceToNat, h.hd, hlen]
  repeat ((with_reducible first | refine AWP_seq ?_ | refine AWP_block ?_ | refine AWP_scope ?_ | refine AWP_reg ?_ | refine AWP_draw ?_ | refine AWP_skip ?_ | refine AWP_ret ?_ | refine AWP_exit ?_ | (refine AWP_cond_true ?_ ?_; · simp only [SS, argList, aPut, aFill, ↓reduceIte, Nat.reduceEqDiff, Nat.reduceAdd, Nat.reduceLeDiff, reduceCtorEq, Int.reduceEq, Int.reduceLT, Int.reduceLE, Int.reduceNeg, Int.reduceAdd, Int.reduceSub, Int.reduceToNat, h.hd, hlen]) | (refine AWP_cond_false ?_ ?_; · simp only [SS, argList, aPut, aFill, ↓reduceIte, Nat.reduceEqDiff, Nat.reduceAdd, Nat.reduceLeDiff, reduceCtorEq, Int.reduceEq, Int.reduceLT, Int.reduceLE, Int.reduceNeg, Int.reduceAdd, Int.reduceSub, Int.reduceToNat, h.hd, hlen])); try simp only [SS, argList, aPut, aFill, ↓reduceIte, Nat.reduceEqDiff, Nat.reduceAdd, Nat.reduceLeDiff, reduceCtorEq, Int.reduceEq, Int.reduceLT, Int.reduceLE, Int.reduceNeg, Int.reduceAdd, Int.reduceSub, Int.reduceToNat, h.hd, hlen])
  refine ok_app h.sb (es2 := l.map fun s => [.str s]) (by intro q hq; exact mem_strs hq) (by simp; omega) (by simp [maxLen]; omega) ?_
  intro v1 s1 hsl hfr
  have hd1 : s1.get fid = some (.cells 192 0 2 [[vb, vo]]) := by rw [hfr.keep _ (σ.lt h.hd) h.nb]; exact h.hd
  have hlt1 := s1.lt hd1
  have hn1 : fid ∉ slIds v1 := fun hm => (hfr.fresh _ hm).elim h.nb (fun hh => by have := σ.lt h.hd; omega)
  try simp only [SS, argList, aPut, aFill, ↓reduceIte, Nat.reduceEqDiff, Nat.reduceAdd, Nat.reduceLeDiff, reduceCtorEq, Int.reduceEq, Int.reduceLT, Int.reduceLE, Int.reduceNeg, Int.reduceAdd, Int.reduceSub, Int.reduceToNat, hd1, hsl.co, wp_callv, callvW_fn]
  repeat ((with_reducible first | refine AWP_seq ?_ | refine AWP_block ?_ | refine AWP_scope ?_ | refine AWP_reg ?_ | refine AWP_draw ?_ | refine AWP_skip ?_ | refine AWP_ret ?_ | refine AWP_exit ?_ | (refine AWP_cond_true ?_ ?_; · simp only [SS, argList, aPut, aFill, ↓reduceIte, Nat.reduceEqDiff, Nat.reduceAdd, Nat.reduceLeDiff, reduceCtorEq, Int.reduceEq, Int.reduceLT, Int.reduceLE, Int.reduceNeg, Int.reduceAdd, Int.reduceSub, Int.reduceToNat, hd1, hsl.co, wp_callv, callvW_fn]) | (refine AWP_cond_false ?_ ?_; · simp only [SS, argList, aPut, aFill, ↓reduceIte, Nat.reduceEqDiff, Nat.reduceAdd, Nat.reduceLeDiff, reduceCtorEq, Int.reduceEq, Int.reduceLT, Int.reduceLE, Int.reduceNeg, Int.reduceAdd, Int.reduceSub, Int.reduceToNat, hd1, hsl.co, wp_callv, callvW_fn])); try simp only [SS, argList, aPut, aFill, ↓reduceIte, Nat.reduceEqDiff, Nat.reduceAdd, Nat.reduceLeDiff, reduceCtorEq, Int.reduceEq, Int.reduceLT, Int.reduceLE, Int.reduceNeg, Int.reduceAdd, Int.reduceSub, Int.reduceToNat, hd1, hsl.co, wp_callv, callvW_fn])
  have hu : ∀ j, j ≠ fid → (s1.upd fid (.cells 192 0 2 [[v1, vo]])).get j = s1.get j := fun j hj => Store.get_upd_ne _ _ hj
  have hso : SliceAt s1 vo 9 1 (o.map fun s => [.str s]) := h.so.keep fun j hj => hfr.keep j (h.so.lt hj) (fun hm => h.dj j hm hj)
  have F1 : FindAt (s1.upd fid (.cells 192 0 2 [[v1, vo]])) fid v1 vo (b ++ l) o := by
    refine ⟨Store.get_upd_self _ _ hlt1, ?_, hso.keep fun j hj => hu j (fun e => h.no (e ▸ hj)), hn1, h.no, fun j hj hj2 => (hfr.fresh j hj).elim (fun hm => h.dj j hm hj2) (fun hh => by have := h.so.lt hj2; omega)⟩
    rw [List.map_append]
    exact hsl.keep fun j hj => hu j (fun e => hn1 (e ▸ hj))
  have G1 : FF σ (s1.upd fid (.cells 192 0 2 [[v1, vo]])) fid vb vo v1 vo :=
    ⟨hfr.next, fun j hj h1 h2 _ => by rw [hu j h1, hfr.keep j hj h2], fun j hj => hfr.fresh j hj, fun j hj => .inl hj⟩
  refine (hg _ _ _ F1 G1).mono ?_
  rintro _ u ⟨v2, vo2, F2, G2⟩
  have G12 := G1.trans G2
  try simp only [SS, argList, aPut, aFill, ↓reduceIte, Nat.reduceEqDiff, Nat.reduceAdd, Nat.reduceLeDiff, reduceCtorEq, Int.reduceEq, Int.reduceLT, Int.reduceLE, Int.reduceNeg, Int.reduceAdd, Int.reduceSub, Int.reduceToNat, F2.hd]
  repeat ((with_reducible first | refine AWP_seq ?_ | refine AWP_block ?_ | refine AWP_scope ?_ | refine AWP_reg ?_ | refine AWP_draw ?_ | refine AWP_skip ?_ | refine AWP_ret ?_ | refine AWP_exit ?_ | (refine AWP_cond_true ?_ ?_; · simp only [SS, argList, aPut, aFill, ↓reduceIte, Nat.reduceEqDiff, Nat.reduceAdd, Nat.reduceLeDiff, reduceCtorEq, Int.reduceEq, Int.reduceLT, Int.reduceLE, Int.reduceNeg, Int.reduceAdd, Int.reduceSub, Int.reduceToNat, F2.hd]) | (refine AWP_cond_false ?_ ?_; · simp only [SS, argList, aPut, aFill, ↓reduceIte, Nat.reduceEqDiff, Nat.reduceAdd, Nat.reduceLeDiff, reduceCtorEq, Int.reduceEq, Int.reduceLT, Int.reduceLE, Int.reduceNeg, Int.reduceAdd, Int.reduceSub, Int.reduceToNat, F2.hd])); try simp only [SS, argList, aPut, aFill, ↓reduceIte, Nat.reduceEqDiff, Nat.reduceAdd, Nat.reduceLeDiff, reduceCtorEq, Int.reduceEq, Int.reduceLT, Int.reduceLE, Int.reduceNeg, Int.reduceAdd, Int.reduceSub, Int.reduceToNat, F2.hd])
  refine ok_cut F2.sb (by simp) ?_
  intro v3 hs3 hi3
  try simp only [SS, argList, aPut, aFill, ↓reduceIte, Nat.reduceEqDiff, Nat.reduceAdd, Nat.reduceLeDiff, reduceCtorEq, Int.reduceEq, Int.reduceLT, Int.reduceLE, Int.reduceNeg, Int.reduceAdd, Int.reduceSub, Int.reduceToNat, F2.hd, hs3.co]
  repeat ((with_reducible first | refine AWP_seq ?_ | refine AWP_block ?_ | refine AWP_scope ?_ | refine AWP_reg ?_ | refine AWP_draw ?_ | refine AWP_skip ?_ | refine AWP_ret ?_ | refine AWP_exit ?_ | (refine AWP_cond_true ?_ ?_; · simp only [SS, argList, aPut, aFill, ↓reduceIte, Nat.reduceEqDiff, Nat.reduceAdd, Nat.reduceLeDiff, reduceCtorEq, Int.reduceEq, Int.reduceLT, Int.reduceLE, Int.reduceNeg, Int.reduceAdd, Int.reduceSub, Int.reduceToNat, F2.hd, hs3.co]) | (refine AWP_cond_false ?_ ?_; · simp only [SS, argList, aPut, aFill, ↓reduceIte, Nat.reduceEqDiff, Nat.reduceAdd, Nat.reduceLeDiff, reduceCtorEq, Int.reduceEq, Int.reduceLT, Int.reduceLE, Int.reduceNeg, Int.reduceAdd, Int.reduceSub, Int.reduceToNat, F2.hd, hs3.co])); try simp only [SS, argList, aPut, aFill, ↓reduceIte, Nat.reduceEqDiff, Nat.reduceAdd, Nat.reduceLeDiff, reduceCtorEq, Int.reduceEq, Int.reduceLT, Int.reduceLE, Int.reduceNeg, Int.reduceAdd, Int.reduceSub, Int.reduceToNat, F2.hd, hs3.co])
  have hn3 : fid ∉ slIds v3 := fun hm => F2.nb (hi3 _ hm)
  have hu2 : ∀ j, j ≠ fid → (u.upd fid (.cells 192 0 2 [[v3, vo2]])).get j = u.get j := fun j hj => Store.get_upd_ne _ _ hj
  have et : List.take b.length ((b ++ l).map fun s => [AV.str s]) = b.map fun s => [AV.str s] := by rw [List.map_append, List.take_append_of_le_length (by simp), List.take_of_length_le (by simp)]
  rw [et] at hs3
  refine ⟨v3, vo2, ⟨Store.get_upd_self _ _ (u.lt F2.hd), hs3.keep fun j hj => hu2 j (fun e => hn3 (e ▸ hj)), F2.so.keep fun j hj => hu2 j (fun e => F2.no (e ▸ hj)), hn3, F2.no, fun j hj => F2.dj j (hi3 j hj)⟩, G12.next, fun j hj h1 h2 h3 => ?_, fun j hj => G12.fb j (hi3 j hj), G12.fo⟩
  rw [hu2 j h1, G12.keep j hj h1 h2 h3]
theorem inner_ok (x : Cr) (ih : LookC x) (σ : Store) (fid pid aid off : Nat) (vb vo : AV) (b o : List ByteArray) (cs : List AV) (h : FindAt σ fid vb vo b o) (hb : b.length + o.length + 2 * x.bulk ≤ 40000000)
    (hp : σ.get pid = some (.cells 190 0 1 [[.ptr fid 0 0 0]])) (ha : σ.get aid = some (.cells 113 0 13 [cs ++ x.cells])) (hcs : cs.length = 4) :
    ACalls Try.prog 139 [.ptr pid 0 0 0, .ptr aid 0 0 0] σ fun _ s => LookPost σ fid vb vo b (freeS b o x) s := by
  refine in139 (by simp) ?_
  unfold c139
  have hd : List.drop 4 (cs ++ x.cells) = x.cells := by rw [List.drop_append_of_le_length (by omega), List.drop_of_length_le (by omega)]; rfl
  have hl : (cs ++ x.cells).length = 13 := by simp [hcs, Cr.len]
  try simp only [SS, argList, aPut, aFill, ↓reduceIte, Nat.reduceEqDiff, Nat.reduceAdd, Nat.reduceLeDiff, reduceCtorEq, Int.reduceEq, Int.reduceLT, Int.reduceLE, Int.reduceNeg, Int.reduceAdd, Int.reduceSub, Int.reduceToNat, hp, ha, hd, hl, Cr.take9]
  repeat ((with_reducible first | refine AWP_seq ?_ | refine AWP_block ?_ | refine AWP_scope ?_ | refine AWP_reg ?_ | refine AWP_draw ?_ | refine AWP_skip ?_ | refine AWP_ret ?_ | refine AWP_exit ?_ | (refine AWP_cond_true ?_ ?_; · simp only [SS, argList, aPut, aFill, ↓reduceIte, Nat.reduceEqDiff, Nat.reduceAdd, Nat.reduceLeDiff, reduceCtorEq, Int.reduceEq, Int.reduceLT, Int.reduceLE, Int.reduceNeg, Int.reduceAdd, Int.reduceSub, Int.reduceToNat, hp, ha, hd, hl, Cr.take9]) | (refine AWP_cond_false ?_ ?_; · simp only [SS, argList, aPut, aFill, ↓reduceIte, Nat.reduceEqDiff, Nat.reduceAdd, Nat.reduceLeDiff, reduceCtorEq, Int.reduceEq, Int.reduceLT, Int.reduceLE, Int.reduceNeg, Int.reduceAdd, Int.reduceSub, Int.reduceToNat, hp, ha, hd, hl, Cr.take9])); try simp only [SS, argList, aPut, aFill, ↓reduceIte, Nat.reduceEqDiff, Nat.reduceAdd, Nat.reduceLeDiff, reduceCtorEq, Int.reduceEq, Int.reduceLT, Int.reduceLE, Int.reduceNeg, Int.reduceAdd, Int.reduceSub, Int.reduceToNat, hp, ha, hd, hl, Cr.take9])
  refine (ih σ fid vb vo b o h hb).mono ?_
  rintro _ s hs
  try simp only [SS, argList, aPut, aFill, ↓reduceIte, Nat.reduceEqDiff, Nat.reduceAdd, Nat.reduceLeDiff, reduceCtorEq, Int.reduceEq, Int.reduceLT, Int.reduceLE, Int.reduceNeg, Int.reduceAdd, Int.reduceSub, Int.reduceToNat]
  repeat ((with_reducible first | refine AWP_seq ?_ | refine AWP_block ?_ | refine AWP_scope ?_ | refine AWP_reg ?_ | refine AWP_draw ?_ | refine AWP_skip ?_ | refine AWP_ret ?_ | refine AWP_exit ?_ | (refine AWP_cond_true ?_ ?_; · simp only [SS, argList, aPut, aFill, ↓reduceIte, Nat.reduceEqDiff, Nat.reduceAdd, Nat.reduceLeDiff, reduceCtorEq, Int.reduceEq, Int.reduceLT, Int.reduceLE, Int.reduceNeg, Int.reduceAdd, Int.reduceSub, Int.reduceToNat]) | (refine AWP_cond_false ?_ ?_; · simp only [SS, argList, aPut, aFill, ↓reduceIte, Nat.reduceEqDiff, Nat.reduceAdd, Nat.reduceLeDiff, reduceCtorEq, Int.reduceEq, Int.reduceLT, Int.reduceLE, Int.reduceNeg, Int.reduceAdd, Int.reduceSub, Int.reduceToNat])); try simp only [SS, argList, aPut, aFill, ↓reduceIte, Nat.reduceEqDiff, Nat.reduceAdd, Nat.reduceLeDiff, reduceCtorEq, Int.reduceEq, Int.reduceLT, Int.reduceLE, Int.reduceNeg, Int.reduceAdd, Int.reduceSub, Int.reduceToNat])
  exact hs
theorem parts_ok (k : Int) (nm : ByteArray) (n ar : Int) (ps : List ByteArray) (gs : List Cr) (al : List (AltH × Cr)) (bs : List (ByteArray × Cr)) (pk : List (Int × Cr))
    (ih1 : ∀ x, x ∈ gs → LookC x) (ih2 : ∀ x, x ∈ al → LookC x.2) (ih3 : ∀ x, x ∈ bs → LookC x.2) (ih4 : ∀ x, x ∈ pk → LookC x.2)
    (σ : Store) (fid pid xid : Nat) (vb vo : AV) (b o : List ByteArray) (h : FindAt σ fid vb vo b o) (hb : b.length + o.length + 2 * (Cr.bulkL gs + Cr.bulkA al + Cr.bulkB bs + Cr.bulkP pk) ≤ 40000000 + 2 * bs.length)
    (hp : σ.get pid = some (.cells 190 0 1 [[.ptr fid 0 0 0]])) (hx : σ.get xid = some (.cells 54 0 9 [(Cr.mk k nm n ar ps gs al bs pk).cells]))
    (p1 : pid ≠ fid) (p2 : pid ∉ slIds vb) (p3 : pid ∉ slIds vo) (x1 : xid ≠ fid) (x2 : xid ∉ slIds vb) (x3 : xid ∉ slIds vo) :
    ACalls Try.prog 138 [.ptr xid 0 0 0, .ptr pid 0 0 0] σ fun _ s => LookPost σ fid vb vo b (freeP b (freeB b (freeA b (freeL b o gs) al) bs) pk) s := by
  refine in138 (by simp) ?_
  unfold c138
  rw [Cr.cells_eq] at hx
  have l1 := Cr.lenL gs; have l2 := Cr.lenA al; have l3 := Cr.lenB2 bs; have l4 := Cr.lenP pk
  have f1 := freeL_len gs b o
  have f2 := freeA_len al b (freeL b o gs)
  have f3 := freeB_len bs b (freeA b (freeL b o gs) al)
  refine AWP_cut [0, 1] (fun _ : Unit => [.ptr xid 0 0 0, .ptr pid 0 0 0]) (fun _ s => LookPost σ fid vb vo b (freeL b o gs) s) ?_ ?_
  · try simp only [SS, argList, aPut, aFill, ↓reduceIte, Nat.reduceEqDiff, Nat.reduceAdd, Nat.reduceLeDiff, reduceCtorEq, Int.reduceEq, Int.reduceLT, Int.reduceLE, Int.reduceNeg, Int.reduceAdd, Int.reduceSub, Int.reduceToNat, hx]
    repeat ((with_reducible first | refine AWP_seq ?_ | refine AWP_block ?_ | refine AWP_scope ?_ | refine AWP_reg ?_ | refine AWP_draw ?_ | refine AWP_skip ?_ | refine AWP_ret ?_ | refine AWP_exit ?_ | (refine AWP_cond_true ?_ ?_; · simp only [SS, argList, aPut, aFill, ↓reduceIte, Nat.reduceEqDiff, Nat.reduceAdd, Nat.reduceLeDiff, reduceCtorEq, Int.reduceEq, Int.reduceLT, Int.reduceLE, Int.reduceNeg, Int.reduceAdd, Int.reduceSub, Int.reduceToNat, hx]) | (refine AWP_cond_false ?_ ?_; · simp only [SS, argList, aPut, aFill, ↓reduceIte, Nat.reduceEqDiff, Nat.reduceAdd, Nat.reduceLeDiff, reduceCtorEq, Int.reduceEq, Int.reduceLT, Int.reduceLE, Int.reduceNeg, Int.reduceAdd, Int.reduceSub, Int.reduceToNat, hx])); try simp only [SS, argList, aPut, aFill, ↓reduceIte, Nat.reduceEqDiff, Nat.reduceAdd, Nat.reduceLeDiff, reduceCtorEq, Int.reduceEq, Int.reduceLT, Int.reduceLE, Int.reduceNeg, Int.reduceAdd, Int.reduceSub, Int.reduceToNat, hx])
    refine AWP_while [0, 1, 11, 12, 13] (fun i : Nat => gs.length - i) (fun i => [.ptr xid 0 0 0, .ptr pid 0 0 0, .list (gs.map Cr.cells), .int .i64 gs.length, .int .i64 i])
      (fun i s => i ≤ gs.length ∧ LookPost σ fid vb vo b (freeL b o (gs.take i)) s) 0 ⟨by simp, vb, vo, by simpa [freeL] using h, .refl _ _ _ _⟩ ?_ ?_
    · try simp only [SS, argList, aPut, aFill, ↓reduceIte, Nat.reduceEqDiff, Nat.reduceAdd, Nat.reduceLeDiff, reduceCtorEq, Int.reduceEq, Int.reduceLT, Int.reduceLE, Int.reduceNeg, Int.reduceAdd, Int.reduceSub, Int.reduceToNat]
      repeat ((with_reducible first | refine AWP_seq ?_ | refine AWP_block ?_ | refine AWP_scope ?_ | refine AWP_reg ?_ | refine AWP_draw ?_ | refine AWP_skip ?_ | refine AWP_ret ?_ | refine AWP_exit ?_ | (refine AWP_cond_true ?_ ?_; · simp only [SS, argList, aPut, aFill, ↓reduceIte, Nat.reduceEqDiff, Nat.reduceAdd, Nat.reduceLeDiff, reduceCtorEq, Int.reduceEq, Int.reduceLT, Int.reduceLE, Int.reduceNeg, Int.reduceAdd, Int.reduceSub, Int.reduceToNat]) | (refine AWP_cond_false ?_ ?_; · simp only [SS, argList, aPut, aFill, ↓reduceIte, Nat.reduceEqDiff, Nat.reduceAdd, Nat.reduceLeDiff, reduceCtorEq, Int.reduceEq, Int.reduceLT, Int.reduceLE, Int.reduceNeg, Int.reduceAdd, Int.reduceSub, Int.reduceToNat])); try simp only [SS, argList, aPut, aFill, ↓reduceIte, Nat.reduceEqDiff, Nat.reduceAdd, Nat.reduceLeDiff, reduceCtorEq, Int.reduceEq, Int.reduceLT, Int.reduceLE, Int.reduceNeg, Int.reduceAdd, Int.reduceSub, Int.reduceToNat])
      rfl
    rintro i s ⟨hi, v1, o1, F1, G1⟩
    have hw := wrap_succ (i := i) (by omega)
    have hp1 := G1.get hp p1 p2 p3
    have hq := lt_ne (s.lt hp1)
    by_cases hil : i < gs.length
    · have hil' : (i : Int) < (gs.length : Int) := by omega
      obtain ⟨x, hx⟩ : ∃ x, gs[i]? = some x := ⟨_, List.getElem?_eq_getElem hil⟩
      have hg : (gs.map Cr.cells)[i]? = some (Cr.cells x) := by simp [hx]
      have hbx := Cr.bulkL_take hx
      have hfl := freeL_len (gs.take i) b o
      try simp only [SS, argList, aPut, aFill, ↓reduceIte, Nat.reduceEqDiff, Nat.reduceAdd, Nat.reduceLeDiff, reduceCtorEq, Int.reduceEq, Int.reduceLT, Int.reduceLE, Int.reduceNeg, Int.reduceAdd, Int.reduceSub, Int.reduceToNat, hil', hg, Cr.len, Cr.take9, hp1, hq]
      repeat ((with_reducible first | refine AWP_seq ?_ | refine AWP_block ?_ | refine AWP_scope ?_ | refine AWP_reg ?_ | refine AWP_draw ?_ | refine AWP_skip ?_ | refine AWP_ret ?_ | refine AWP_exit ?_ | (refine AWP_cond_true ?_ ?_; · simp only [SS, argList, aPut, aFill, ↓reduceIte, Nat.reduceEqDiff, Nat.reduceAdd, Nat.reduceLeDiff, reduceCtorEq, Int.reduceEq, Int.reduceLT, Int.reduceLE, Int.reduceNeg, Int.reduceAdd, Int.reduceSub, Int.reduceToNat, hil', hg, Cr.len, Cr.take9, hp1, hq]) | (refine AWP_cond_false ?_ ?_; · simp only [SS, argList, aPut, aFill, ↓reduceIte, Nat.reduceEqDiff, Nat.reduceAdd, Nat.reduceLeDiff, reduceCtorEq, Int.reduceEq, Int.reduceLT, Int.reduceLE, Int.reduceNeg, Int.reduceAdd, Int.reduceSub, Int.reduceToNat, hil', hg, Cr.len, Cr.take9, hp1, hq])); try simp only [SS, argList, aPut, aFill, ↓reduceIte, Nat.reduceEqDiff, Nat.reduceAdd, Nat.reduceLeDiff, reduceCtorEq, Int.reduceEq, Int.reduceLT, Int.reduceLE, Int.reduceNeg, Int.reduceAdd, Int.reduceSub, Int.reduceToNat, hil', hg, Cr.len, Cr.take9, hp1, hq])
      refine (ih1 x (List.mem_of_getElem? hx) _ fid v1 o1 b _ (F1.keep (.pushed _ _)) (by omega)).mono ?_
      rintro _ s2 ⟨v2, o2, F2, G2⟩
      try simp only [SS, argList, aPut, aFill, ↓reduceIte, Nat.reduceEqDiff, Nat.reduceAdd, Nat.reduceLeDiff, reduceCtorEq, Int.reduceEq, Int.reduceLT, Int.reduceLE, Int.reduceNeg, Int.reduceAdd, Int.reduceSub, Int.reduceToNat, hw]
      repeat ((with_reducible first | refine AWP_seq ?_ | refine AWP_block ?_ | refine AWP_scope ?_ | refine AWP_reg ?_ | refine AWP_draw ?_ | refine AWP_skip ?_ | refine AWP_ret ?_ | refine AWP_exit ?_ | (refine AWP_cond_true ?_ ?_; · simp only [SS, argList, aPut, aFill, ↓reduceIte, Nat.reduceEqDiff, Nat.reduceAdd, Nat.reduceLeDiff, reduceCtorEq, Int.reduceEq, Int.reduceLT, Int.reduceLE, Int.reduceNeg, Int.reduceAdd, Int.reduceSub, Int.reduceToNat, hw]) | (refine AWP_cond_false ?_ ?_; · simp only [SS, argList, aPut, aFill, ↓reduceIte, Nat.reduceEqDiff, Nat.reduceAdd, Nat.reduceLeDiff, reduceCtorEq, Int.reduceEq, Int.reduceLT, Int.reduceLE, Int.reduceNeg, Int.reduceAdd, Int.reduceSub, Int.reduceToNat, hw])); try simp only [SS, argList, aPut, aFill, ↓reduceIte, Nat.reduceEqDiff, Nat.reduceAdd, Nat.reduceLeDiff, reduceCtorEq, Int.reduceEq, Int.reduceLT, Int.reduceLE, Int.reduceNeg, Int.reduceAdd, Int.reduceSub, Int.reduceToNat, hw])
      refine ⟨i + 1, rfl, ⟨by omega, v2, o2, ?_, (G1.push _).trans G2⟩, by omega⟩
      rw [take_succ_at hx, freeL_app, freeL_one]; exact F2
    · have hil' : ¬ (i : Int) < (gs.length : Int) := by omega
      rw [List.take_of_length_le (by omega)] at F1
      try simp only [SS, argList, aPut, aFill, ↓reduceIte, Nat.reduceEqDiff, Nat.reduceAdd, Nat.reduceLeDiff, reduceCtorEq, Int.reduceEq, Int.reduceLT, Int.reduceLE, Int.reduceNeg, Int.reduceAdd, Int.reduceSub, Int.reduceToNat, hil']
      repeat ((with_reducible first | refine AWP_seq ?_ | refine AWP_block ?_ | refine AWP_scope ?_ | refine AWP_reg ?_ | refine AWP_draw ?_ | refine AWP_skip ?_ | refine AWP_ret ?_ | refine AWP_exit ?_ | (refine AWP_cond_true ?_ ?_; · simp only [SS, argList, aPut, aFill, ↓reduceIte, Nat.reduceEqDiff, Nat.reduceAdd, Nat.reduceLeDiff, reduceCtorEq, Int.reduceEq, Int.reduceLT, Int.reduceLE, Int.reduceNeg, Int.reduceAdd, Int.reduceSub, Int.reduceToNat, hil']) | (refine AWP_cond_false ?_ ?_; · simp only [SS, argList, aPut, aFill, ↓reduceIte, Nat.reduceEqDiff, Nat.reduceAdd, Nat.reduceLeDiff, reduceCtorEq, Int.reduceEq, Int.reduceLT, Int.reduceLE, Int.reduceNeg, Int.reduceAdd, Int.reduceSub, Int.reduceToNat, hil'])); try simp only [SS, argList, aPut, aFill, ↓reduceIte, Nat.reduceEqDiff, Nat.reduceAdd, Nat.reduceLeDiff, reduceCtorEq, Int.reduceEq, Int.reduceLT, Int.reduceLE, Int.reduceNeg, Int.reduceAdd, Int.reduceSub, Int.reduceToNat, hil'])
      exact ⟨(), v1, o1, F1, G1⟩
  rintro _ s ⟨v1, o1, F1, G1⟩
  have hp1 := G1.get hp p1 p2 p3
  have hx1 := G1.get hx x1 x2 x3
  refine AWP_cut [0, 1] (fun _ : Unit => [.ptr xid 0 0 0, .ptr pid 0 0 0]) (fun _ s => LookPost σ fid vb vo b (freeA b (freeL b o gs) al) s) ?_ ?_
  · try simp only [SS, argList, aPut, aFill, ↓reduceIte, Nat.reduceEqDiff, Nat.reduceAdd, Nat.reduceLeDiff, reduceCtorEq, Int.reduceEq, Int.reduceLT, Int.reduceLE, Int.reduceNeg, Int.reduceAdd, Int.reduceSub, Int.reduceToNat, hx1]
    repeat ((with_reducible first | refine AWP_seq ?_ | refine AWP_block ?_ | refine AWP_scope ?_ | refine AWP_reg ?_ | refine AWP_draw ?_ | refine AWP_skip ?_ | refine AWP_ret ?_ | refine AWP_exit ?_ | (refine AWP_cond_true ?_ ?_; · simp only [SS, argList, aPut, aFill, ↓reduceIte, Nat.reduceEqDiff, Nat.reduceAdd, Nat.reduceLeDiff, reduceCtorEq, Int.reduceEq, Int.reduceLT, Int.reduceLE, Int.reduceNeg, Int.reduceAdd, Int.reduceSub, Int.reduceToNat, hx1]) | (refine AWP_cond_false ?_ ?_; · simp only [SS, argList, aPut, aFill, ↓reduceIte, Nat.reduceEqDiff, Nat.reduceAdd, Nat.reduceLeDiff, reduceCtorEq, Int.reduceEq, Int.reduceLT, Int.reduceLE, Int.reduceNeg, Int.reduceAdd, Int.reduceSub, Int.reduceToNat, hx1])); try simp only [SS, argList, aPut, aFill, ↓reduceIte, Nat.reduceEqDiff, Nat.reduceAdd, Nat.reduceLeDiff, reduceCtorEq, Int.reduceEq, Int.reduceLT, Int.reduceLE, Int.reduceNeg, Int.reduceAdd, Int.reduceSub, Int.reduceToNat, hx1])
    refine AWP_while [0, 1, 22, 23, 24] (fun i : Nat => al.length - i) (fun i => [.ptr xid 0 0 0, .ptr pid 0 0 0, .list (al.map altC), .int .i64 al.length, .int .i64 i])
      (fun i s => i ≤ al.length ∧ LookPost σ fid vb vo b (freeA b (freeL b o gs) (al.take i)) s) 0 ⟨by simp, v1, o1, by simpa [freeA] using F1, G1⟩ ?_ ?_
    · try simp only [SS, argList, aPut, aFill, ↓reduceIte, Nat.reduceEqDiff, Nat.reduceAdd, Nat.reduceLeDiff, reduceCtorEq, Int.reduceEq, Int.reduceLT, Int.reduceLE, Int.reduceNeg, Int.reduceAdd, Int.reduceSub, Int.reduceToNat]
      repeat ((with_reducible first | refine AWP_seq ?_ | refine AWP_block ?_ | refine AWP_scope ?_ | refine AWP_reg ?_ | refine AWP_draw ?_ | refine AWP_skip ?_ | refine AWP_ret ?_ | refine AWP_exit ?_ | (refine AWP_cond_true ?_ ?_; · simp only [SS, argList, aPut, aFill, ↓reduceIte, Nat.reduceEqDiff, Nat.reduceAdd, Nat.reduceLeDiff, reduceCtorEq, Int.reduceEq, Int.reduceLT, Int.reduceLE, Int.reduceNeg, Int.reduceAdd, Int.reduceSub, Int.reduceToNat]) | (refine AWP_cond_false ?_ ?_; · simp only [SS, argList, aPut, aFill, ↓reduceIte, Nat.reduceEqDiff, Nat.reduceAdd, Nat.reduceLeDiff, reduceCtorEq, Int.reduceEq, Int.reduceLT, Int.reduceLE, Int.reduceNeg, Int.reduceAdd, Int.reduceSub, Int.reduceToNat])); try simp only [SS, argList, aPut, aFill, ↓reduceIte, Nat.reduceEqDiff, Nat.reduceAdd, Nat.reduceLeDiff, reduceCtorEq, Int.reduceEq, Int.reduceLT, Int.reduceLE, Int.reduceNeg, Int.reduceAdd, Int.reduceSub, Int.reduceToNat])
      rfl
    rintro i s ⟨hi, v1, o1, F1, G1⟩
    have hw := wrap_succ (i := i) (by omega)
    have hp1 := G1.get hp p1 p2 p3
    have hq := lt_ne (s.lt hp1)
    by_cases hil : i < al.length
    · have hil' : (i : Int) < (al.length : Int) := by omega
      obtain ⟨x, hx⟩ : ∃ x, al[i]? = some x := ⟨_, List.getElem?_eq_getElem hil⟩
      have hg : (al.map altC)[i]? = some (altC x) := by simp [hx]
      have hbx := Cr.bulkA_take hx
      have hfl := freeA_len (al.take i) b (freeL b o gs)
      try simp only [SS, argList, aPut, aFill, ↓reduceIte, Nat.reduceEqDiff, Nat.reduceAdd, Nat.reduceLeDiff, reduceCtorEq, Int.reduceEq, Int.reduceLT, Int.reduceLE, Int.reduceNeg, Int.reduceAdd, Int.reduceSub, Int.reduceToNat, hil', hg, altC, AltH.cells, Cr.len, Cr.take9, hp1, hq]
      repeat ((with_reducible first | refine AWP_seq ?_ | refine AWP_block ?_ | refine AWP_scope ?_ | refine AWP_reg ?_ | refine AWP_draw ?_ | refine AWP_skip ?_ | refine AWP_ret ?_ | refine AWP_exit ?_ | (refine AWP_cond_true ?_ ?_; · simp only [SS, argList, aPut, aFill, ↓reduceIte, Nat.reduceEqDiff, Nat.reduceAdd, Nat.reduceLeDiff, reduceCtorEq, Int.reduceEq, Int.reduceLT, Int.reduceLE, Int.reduceNeg, Int.reduceAdd, Int.reduceSub, Int.reduceToNat, hil', hg, altC, AltH.cells, Cr.len, Cr.take9, hp1, hq]) | (refine AWP_cond_false ?_ ?_; · simp only [SS, argList, aPut, aFill, ↓reduceIte, Nat.reduceEqDiff, Nat.reduceAdd, Nat.reduceLeDiff, reduceCtorEq, Int.reduceEq, Int.reduceLT, Int.reduceLE, Int.reduceNeg, Int.reduceAdd, Int.reduceSub, Int.reduceToNat, hil', hg, altC, AltH.cells, Cr.len, Cr.take9, hp1, hq])); try simp only [SS, argList, aPut, aFill, ↓reduceIte, Nat.reduceEqDiff, Nat.reduceAdd, Nat.reduceLeDiff, reduceCtorEq, Int.reduceEq, Int.reduceLT, Int.reduceLE, Int.reduceNeg, Int.reduceAdd, Int.reduceSub, Int.reduceToNat, hil', hg, altC, AltH.cells, Cr.len, Cr.take9, hp1, hq])
      have Fp := F1.keep (.pushed s (.cells 113 0 13 [AV.int .i64 x.1.k :: AV.str x.1.nm :: AV.int .i64 x.1.n :: strs x.1.ps :: x.2.cells]))
      refine (within_ok _ fid v1 o1 b _ x.1.ps (freeS (b ++ x.1.ps) (freeA b (freeL b o gs) (al.take i)) x.2) 139 _ Fp (by omega) fun s3 v3 o3 F3 G3 => ?_).mono ?_
      · have a1 : s.next ≠ fid := by have := s.lt F1.hd; omega
        have a2 : s.next ∉ slIds v1 := fun hm => by have := F1.sb.lt hm; omega
        have a3 : s.next ∉ slIds o1 := fun hm => by have := F1.so.lt hm; omega
        have q2 : pid ∉ slIds v1 := fun hm => (G1.fb _ hm).elim p2 (fun hh => by have := σ.lt hp; omega)
        have q3 : pid ∉ slIds o1 := fun hm => (G1.fo _ hm).elim p3 (fun hh => by have := σ.lt hp; omega)
        have hp3 := G3.get (j := pid) (by rw [Store.push_get, if_neg (by have := s.lt hp1; omega)]; exact hp1) p1 q2 q3
        have ha3 := G3.get (j := s.next) (by rw [Store.push_get, if_pos rfl]) a1 a2 a3
        exact inner_ok x.2 (ih2 x (List.mem_of_getElem? hx)) s3 fid pid s.next 0 v3 o3 (b ++ x.1.ps) _ [AV.int .i64 x.1.k, AV.str x.1.nm, AV.int .i64 x.1.n, strs x.1.ps] F3 (by simp; omega) hp3 ha3 rfl
      rintro _ s2 ⟨v2, o2, F2, G2⟩
      try simp only [SS, argList, aPut, aFill, ↓reduceIte, Nat.reduceEqDiff, Nat.reduceAdd, Nat.reduceLeDiff, reduceCtorEq, Int.reduceEq, Int.reduceLT, Int.reduceLE, Int.reduceNeg, Int.reduceAdd, Int.reduceSub, Int.reduceToNat, hw]
      repeat ((with_reducible first | refine AWP_seq ?_ | refine AWP_block ?_ | refine AWP_scope ?_ | refine AWP_reg ?_ | refine AWP_draw ?_ | refine AWP_skip ?_ | refine AWP_ret ?_ | refine AWP_exit ?_ | (refine AWP_cond_true ?_ ?_; · simp only [SS, argList, aPut, aFill, ↓reduceIte, Nat.reduceEqDiff, Nat.reduceAdd, Nat.reduceLeDiff, reduceCtorEq, Int.reduceEq, Int.reduceLT, Int.reduceLE, Int.reduceNeg, Int.reduceAdd, Int.reduceSub, Int.reduceToNat, hw]) | (refine AWP_cond_false ?_ ?_; · simp only [SS, argList, aPut, aFill, ↓reduceIte, Nat.reduceEqDiff, Nat.reduceAdd, Nat.reduceLeDiff, reduceCtorEq, Int.reduceEq, Int.reduceLT, Int.reduceLE, Int.reduceNeg, Int.reduceAdd, Int.reduceSub, Int.reduceToNat, hw])); try simp only [SS, argList, aPut, aFill, ↓reduceIte, Nat.reduceEqDiff, Nat.reduceAdd, Nat.reduceLeDiff, reduceCtorEq, Int.reduceEq, Int.reduceLT, Int.reduceLE, Int.reduceNeg, Int.reduceAdd, Int.reduceSub, Int.reduceToNat, hw])
      refine ⟨i + 1, rfl, ⟨by omega, v2, o2, ?_, (G1.push _).trans G2⟩, by omega⟩
      rw [take_succ_at hx, freeA_app, freeA_one]; exact F2
    · have hil' : ¬ (i : Int) < (al.length : Int) := by omega
      rw [List.take_of_length_le (by omega)] at F1
      try simp only [SS, argList, aPut, aFill, ↓reduceIte, Nat.reduceEqDiff, Nat.reduceAdd, Nat.reduceLeDiff, reduceCtorEq, Int.reduceEq, Int.reduceLT, Int.reduceLE, Int.reduceNeg, Int.reduceAdd, Int.reduceSub, Int.reduceToNat, hil']
      repeat ((with_reducible first | refine AWP_seq ?_ | refine AWP_block ?_ | refine AWP_scope ?_ | refine AWP_reg ?_ | refine AWP_draw ?_ | refine AWP_skip ?_ | refine AWP_ret ?_ | refine AWP_exit ?_ | (refine AWP_cond_true ?_ ?_; · simp only [SS, argList, aPut, aFill, ↓reduceIte, Nat.reduceEqDiff, Nat.reduceAdd, Nat.reduceLeDiff, reduceCtorEq, Int.reduceEq, Int.reduceLT, Int.reduceLE, Int.reduceNeg, Int.reduceAdd, Int.reduceSub, Int.reduceToNat, hil']) | (refine AWP_cond_false ?_ ?_; · simp only [SS, argList, aPut, aFill, ↓reduceIte, Nat.reduceEqDiff, Nat.reduceAdd, Nat.reduceLeDiff, reduceCtorEq, Int.reduceEq, Int.reduceLT, Int.reduceLE, Int.reduceNeg, Int.reduceAdd, Int.reduceSub, Int.reduceToNat, hil'])); try simp only [SS, argList, aPut, aFill, ↓reduceIte, Nat.reduceEqDiff, Nat.reduceAdd, Nat.reduceLeDiff, reduceCtorEq, Int.reduceEq, Int.reduceLT, Int.reduceLE, Int.reduceNeg, Int.reduceAdd, Int.reduceSub, Int.reduceToNat, hil'])
      exact ⟨(), v1, o1, F1, G1⟩
  clear G1 F1 hp1 hx1
  rintro _ s ⟨v1, o1, F1, G1⟩
  have hp1 := G1.get hp p1 p2 p3
  have hx1 := G1.get hx x1 x2 x3
  refine AWP_cut [0, 1] (fun _ : Unit => [.ptr xid 0 0 0, .ptr pid 0 0 0]) (fun _ s => LookPost σ fid vb vo b (freeB b (freeA b (freeL b o gs) al) bs) s) ?_ ?_
  · try simp only [SS, argList, aPut, aFill, ↓reduceIte, Nat.reduceEqDiff, Nat.reduceAdd, Nat.reduceLeDiff, reduceCtorEq, Int.reduceEq, Int.reduceLT, Int.reduceLE, Int.reduceNeg, Int.reduceAdd, Int.reduceSub, Int.reduceToNat, hx1]
    repeat ((with_reducible first | refine AWP_seq ?_ | refine AWP_block ?_ | refine AWP_scope ?_ | refine AWP_reg ?_ | refine AWP_draw ?_ | refine AWP_skip ?_ | refine AWP_ret ?_ | refine AWP_exit ?_ | (refine AWP_cond_true ?_ ?_; · simp only [SS, argList, aPut, aFill, ↓reduceIte, Nat.reduceEqDiff, Nat.reduceAdd, Nat.reduceLeDiff, reduceCtorEq, Int.reduceEq, Int.reduceLT, Int.reduceLE, Int.reduceNeg, Int.reduceAdd, Int.reduceSub, Int.reduceToNat, hx1]) | (refine AWP_cond_false ?_ ?_; · simp only [SS, argList, aPut, aFill, ↓reduceIte, Nat.reduceEqDiff, Nat.reduceAdd, Nat.reduceLeDiff, reduceCtorEq, Int.reduceEq, Int.reduceLT, Int.reduceLE, Int.reduceNeg, Int.reduceAdd, Int.reduceSub, Int.reduceToNat, hx1])); try simp only [SS, argList, aPut, aFill, ↓reduceIte, Nat.reduceEqDiff, Nat.reduceAdd, Nat.reduceLeDiff, reduceCtorEq, Int.reduceEq, Int.reduceLT, Int.reduceLE, Int.reduceNeg, Int.reduceAdd, Int.reduceSub, Int.reduceToNat, hx1])
    refine AWP_while [0, 1, 35, 36, 37] (fun i : Nat => bs.length - i) (fun i => [.ptr xid 0 0 0, .ptr pid 0 0 0, .list (bs.map bindC), .int .i64 bs.length, .int .i64 i])
      (fun i s => i ≤ bs.length ∧ LookPost σ fid vb vo b (freeB b (freeA b (freeL b o gs) al) (bs.take i)) s) 0 ⟨by simp, v1, o1, by simpa [freeB] using F1, G1⟩ ?_ ?_
    · try simp only [SS, argList, aPut, aFill, ↓reduceIte, Nat.reduceEqDiff, Nat.reduceAdd, Nat.reduceLeDiff, reduceCtorEq, Int.reduceEq, Int.reduceLT, Int.reduceLE, Int.reduceNeg, Int.reduceAdd, Int.reduceSub, Int.reduceToNat]
      repeat ((with_reducible first | refine AWP_seq ?_ | refine AWP_block ?_ | refine AWP_scope ?_ | refine AWP_reg ?_ | refine AWP_draw ?_ | refine AWP_skip ?_ | refine AWP_ret ?_ | refine AWP_exit ?_ | (refine AWP_cond_true ?_ ?_; · simp only [SS, argList, aPut, aFill, ↓reduceIte, Nat.reduceEqDiff, Nat.reduceAdd, Nat.reduceLeDiff, reduceCtorEq, Int.reduceEq, Int.reduceLT, Int.reduceLE, Int.reduceNeg, Int.reduceAdd, Int.reduceSub, Int.reduceToNat]) | (refine AWP_cond_false ?_ ?_; · simp only [SS, argList, aPut, aFill, ↓reduceIte, Nat.reduceEqDiff, Nat.reduceAdd, Nat.reduceLeDiff, reduceCtorEq, Int.reduceEq, Int.reduceLT, Int.reduceLE, Int.reduceNeg, Int.reduceAdd, Int.reduceSub, Int.reduceToNat])); try simp only [SS, argList, aPut, aFill, ↓reduceIte, Nat.reduceEqDiff, Nat.reduceAdd, Nat.reduceLeDiff, reduceCtorEq, Int.reduceEq, Int.reduceLT, Int.reduceLE, Int.reduceNeg, Int.reduceAdd, Int.reduceSub, Int.reduceToNat])
      rfl
    rintro i s ⟨hi, v1, o1, F1, G1⟩
    have hw := wrap_succ (i := i) (by omega)
    have hp1 := G1.get hp p1 p2 p3
    have hq := lt_ne (s.lt hp1)
    by_cases hil : i < bs.length
    · have hil' : (i : Int) < (bs.length : Int) := by omega
      obtain ⟨x, hx⟩ : ∃ x, bs[i]? = some x := ⟨_, List.getElem?_eq_getElem hil⟩
      have hg : (bs.map bindC)[i]? = some (bindC x) := by simp [hx]
      have hbx := Cr.bulkB_take hx
      have hb2 := Cr.lenB2 (bs.take i)
      have hb4 := Cr.bulkB_take2 hx
      have hb3 : (bs.take i).length = i := by simp; omega
      have hfl := freeB_len (bs.take i) b (freeA b (freeL b o gs) al)
      try simp only [SS, argList, aPut, aFill, ↓reduceIte, Nat.reduceEqDiff, Nat.reduceAdd, Nat.reduceLeDiff, reduceCtorEq, Int.reduceEq, Int.reduceLT, Int.reduceLE, Int.reduceNeg, Int.reduceAdd, Int.reduceSub, Int.reduceToNat, hil', hg, bindC, Cr.len, Cr.take9, hp1, hq]
      repeat ((with_reducible first | refine AWP_seq ?_ | refine AWP_block ?_ | refine AWP_scope ?_ | refine AWP_reg ?_ | refine AWP_draw ?_ | refine AWP_skip ?_ | refine AWP_ret ?_ | refine AWP_exit ?_ | (refine AWP_cond_true ?_ ?_; · simp only [SS, argList, aPut, aFill, ↓reduceIte, Nat.reduceEqDiff, Nat.reduceAdd, Nat.reduceLeDiff, reduceCtorEq, Int.reduceEq, Int.reduceLT, Int.reduceLE, Int.reduceNeg, Int.reduceAdd, Int.reduceSub, Int.reduceToNat, hil', hg, bindC, Cr.len, Cr.take9, hp1, hq]) | (refine AWP_cond_false ?_ ?_; · simp only [SS, argList, aPut, aFill, ↓reduceIte, Nat.reduceEqDiff, Nat.reduceAdd, Nat.reduceLeDiff, reduceCtorEq, Int.reduceEq, Int.reduceLT, Int.reduceLE, Int.reduceNeg, Int.reduceAdd, Int.reduceSub, Int.reduceToNat, hil', hg, bindC, Cr.len, Cr.take9, hp1, hq])); try simp only [SS, argList, aPut, aFill, ↓reduceIte, Nat.reduceEqDiff, Nat.reduceAdd, Nat.reduceLeDiff, reduceCtorEq, Int.reduceEq, Int.reduceLT, Int.reduceLE, Int.reduceNeg, Int.reduceAdd, Int.reduceSub, Int.reduceToNat, hil', hg, bindC, Cr.len, Cr.take9, hp1, hq])
      refine (ih3 x (List.mem_of_getElem? hx) _ fid v1 o1 b _ (F1.keep (.pushed _ _)) (by omega)).mono ?_
      rintro _ s2 ⟨v2, o2, F2, G2⟩
      try simp only [SS, argList, aPut, aFill, ↓reduceIte, Nat.reduceEqDiff, Nat.reduceAdd, Nat.reduceLeDiff, reduceCtorEq, Int.reduceEq, Int.reduceLT, Int.reduceLE, Int.reduceNeg, Int.reduceAdd, Int.reduceSub, Int.reduceToNat, hw]
      repeat ((with_reducible first | refine AWP_seq ?_ | refine AWP_block ?_ | refine AWP_scope ?_ | refine AWP_reg ?_ | refine AWP_draw ?_ | refine AWP_skip ?_ | refine AWP_ret ?_ | refine AWP_exit ?_ | (refine AWP_cond_true ?_ ?_; · simp only [SS, argList, aPut, aFill, ↓reduceIte, Nat.reduceEqDiff, Nat.reduceAdd, Nat.reduceLeDiff, reduceCtorEq, Int.reduceEq, Int.reduceLT, Int.reduceLE, Int.reduceNeg, Int.reduceAdd, Int.reduceSub, Int.reduceToNat, hw]) | (refine AWP_cond_false ?_ ?_; · simp only [SS, argList, aPut, aFill, ↓reduceIte, Nat.reduceEqDiff, Nat.reduceAdd, Nat.reduceLeDiff, reduceCtorEq, Int.reduceEq, Int.reduceLT, Int.reduceLE, Int.reduceNeg, Int.reduceAdd, Int.reduceSub, Int.reduceToNat, hw])); try simp only [SS, argList, aPut, aFill, ↓reduceIte, Nat.reduceEqDiff, Nat.reduceAdd, Nat.reduceLeDiff, reduceCtorEq, Int.reduceEq, Int.reduceLT, Int.reduceLE, Int.reduceNeg, Int.reduceAdd, Int.reduceSub, Int.reduceToNat, hw])
      refine ⟨i + 1, rfl, ⟨by omega, v2, o2, ?_, (G1.push _).trans G2⟩, by omega⟩
      rw [take_succ_at hx, freeB_app, freeB_one]; exact F2
    · have hil' : ¬ (i : Int) < (bs.length : Int) := by omega
      rw [List.take_of_length_le (by omega)] at F1
      try simp only [SS, argList, aPut, aFill, ↓reduceIte, Nat.reduceEqDiff, Nat.reduceAdd, Nat.reduceLeDiff, reduceCtorEq, Int.reduceEq, Int.reduceLT, Int.reduceLE, Int.reduceNeg, Int.reduceAdd, Int.reduceSub, Int.reduceToNat, hil']
      repeat ((with_reducible first | refine AWP_seq ?_ | refine AWP_block ?_ | refine AWP_scope ?_ | refine AWP_reg ?_ | refine AWP_draw ?_ | refine AWP_skip ?_ | refine AWP_ret ?_ | refine AWP_exit ?_ | (refine AWP_cond_true ?_ ?_; · simp only [SS, argList, aPut, aFill, ↓reduceIte, Nat.reduceEqDiff, Nat.reduceAdd, Nat.reduceLeDiff, reduceCtorEq, Int.reduceEq, Int.reduceLT, Int.reduceLE, Int.reduceNeg, Int.reduceAdd, Int.reduceSub, Int.reduceToNat, hil']) | (refine AWP_cond_false ?_ ?_; · simp only [SS, argList, aPut, aFill, ↓reduceIte, Nat.reduceEqDiff, Nat.reduceAdd, Nat.reduceLeDiff, reduceCtorEq, Int.reduceEq, Int.reduceLT, Int.reduceLE, Int.reduceNeg, Int.reduceAdd, Int.reduceSub, Int.reduceToNat, hil'])); try simp only [SS, argList, aPut, aFill, ↓reduceIte, Nat.reduceEqDiff, Nat.reduceAdd, Nat.reduceLeDiff, reduceCtorEq, Int.reduceEq, Int.reduceLT, Int.reduceLE, Int.reduceNeg, Int.reduceAdd, Int.reduceSub, Int.reduceToNat, hil'])
      exact ⟨(), v1, o1, F1, G1⟩
  clear G1 F1 hp1 hx1
  rintro _ s ⟨v1, o1, F1, G1⟩
  have hp1 := G1.get hp p1 p2 p3
  have hx1 := G1.get hx x1 x2 x3
  try simp only [SS, argList, aPut, aFill, ↓reduceIte, Nat.reduceEqDiff, Nat.reduceAdd, Nat.reduceLeDiff, reduceCtorEq, Int.reduceEq, Int.reduceLT, Int.reduceLE, Int.reduceNeg, Int.reduceAdd, Int.reduceSub, Int.reduceToNat, hx1]
  repeat ((with_reducible first | refine AWP_seq ?_ | refine AWP_block ?_ | refine AWP_scope ?_ | refine AWP_reg ?_ | refine AWP_draw ?_ | refine AWP_skip ?_ | refine AWP_ret ?_ | refine AWP_exit ?_ | (refine AWP_cond_true ?_ ?_; · simp only [SS, argList, aPut, aFill, ↓reduceIte, Nat.reduceEqDiff, Nat.reduceAdd, Nat.reduceLeDiff, reduceCtorEq, Int.reduceEq, Int.reduceLT, Int.reduceLE, Int.reduceNeg, Int.reduceAdd, Int.reduceSub, Int.reduceToNat, hx1]) | (refine AWP_cond_false ?_ ?_; · simp only [SS, argList, aPut, aFill, ↓reduceIte, Nat.reduceEqDiff, Nat.reduceAdd, Nat.reduceLeDiff, reduceCtorEq, Int.reduceEq, Int.reduceLT, Int.reduceLE, Int.reduceNeg, Int.reduceAdd, Int.reduceSub, Int.reduceToNat, hx1])); try simp only [SS, argList, aPut, aFill, ↓reduceIte, Nat.reduceEqDiff, Nat.reduceAdd, Nat.reduceLeDiff, reduceCtorEq, Int.reduceEq, Int.reduceLT, Int.reduceLE, Int.reduceNeg, Int.reduceAdd, Int.reduceSub, Int.reduceToNat, hx1])
  refine AWP_while [0, 1, 47, 48, 49] (fun i : Nat => pk.length - i) (fun i => [.ptr xid 0 0 0, .ptr pid 0 0 0, .list (pk.map pickC), .int .i64 pk.length, .int .i64 i])
    (fun i s => i ≤ pk.length ∧ LookPost σ fid vb vo b (freeP b (freeB b (freeA b (freeL b o gs) al) bs) (pk.take i)) s) 0 ⟨by simp, v1, o1, by simpa [freeP] using F1, G1⟩ ?_ ?_
  · try simp only [SS, argList, aPut, aFill, ↓reduceIte, Nat.reduceEqDiff, Nat.reduceAdd, Nat.reduceLeDiff, reduceCtorEq, Int.reduceEq, Int.reduceLT, Int.reduceLE, Int.reduceNeg, Int.reduceAdd, Int.reduceSub, Int.reduceToNat]
    repeat ((with_reducible first | refine AWP_seq ?_ | refine AWP_block ?_ | refine AWP_scope ?_ | refine AWP_reg ?_ | refine AWP_draw ?_ | refine AWP_skip ?_ | refine AWP_ret ?_ | refine AWP_exit ?_ | (refine AWP_cond_true ?_ ?_; · simp only [SS, argList, aPut, aFill, ↓reduceIte, Nat.reduceEqDiff, Nat.reduceAdd, Nat.reduceLeDiff, reduceCtorEq, Int.reduceEq, Int.reduceLT, Int.reduceLE, Int.reduceNeg, Int.reduceAdd, Int.reduceSub, Int.reduceToNat]) | (refine AWP_cond_false ?_ ?_; · simp only [SS, argList, aPut, aFill, ↓reduceIte, Nat.reduceEqDiff, Nat.reduceAdd, Nat.reduceLeDiff, reduceCtorEq, Int.reduceEq, Int.reduceLT, Int.reduceLE, Int.reduceNeg, Int.reduceAdd, Int.reduceSub, Int.reduceToNat])); try simp only [SS, argList, aPut, aFill, ↓reduceIte, Nat.reduceEqDiff, Nat.reduceAdd, Nat.reduceLeDiff, reduceCtorEq, Int.reduceEq, Int.reduceLT, Int.reduceLE, Int.reduceNeg, Int.reduceAdd, Int.reduceSub, Int.reduceToNat])
    rfl
  rintro i s ⟨hi, v1, o1, F1, G1⟩
  have hw := wrap_succ (i := i) (by omega)
  have hp1 := G1.get hp p1 p2 p3
  have hq := lt_ne (s.lt hp1)
  by_cases hil : i < pk.length
  · have hil' : (i : Int) < (pk.length : Int) := by omega
    obtain ⟨x, hx⟩ : ∃ x, pk[i]? = some x := ⟨_, List.getElem?_eq_getElem hil⟩
    have hg : (pk.map pickC)[i]? = some (pickC x) := by simp [hx]
    have hbx := Cr.bulkP_take hx
    have hfl := freeP_len (pk.take i) b (freeB b (freeA b (freeL b o gs) al) bs)
    try simp only [SS, argList, aPut, aFill, ↓reduceIte, Nat.reduceEqDiff, Nat.reduceAdd, Nat.reduceLeDiff, reduceCtorEq, Int.reduceEq, Int.reduceLT, Int.reduceLE, Int.reduceNeg, Int.reduceAdd, Int.reduceSub, Int.reduceToNat, hil', hg, pickC, Cr.len, Cr.take9, hp1, hq]
    repeat ((with_reducible first | refine AWP_seq ?_ | refine AWP_block ?_ | refine AWP_scope ?_ | refine AWP_reg ?_ | refine AWP_draw ?_ | refine AWP_skip ?_ | refine AWP_ret ?_ | refine AWP_exit ?_ | (refine AWP_cond_true ?_ ?_; · simp only [SS, argList, aPut, aFill, ↓reduceIte, Nat.reduceEqDiff, Nat.reduceAdd, Nat.reduceLeDiff, reduceCtorEq, Int.reduceEq, Int.reduceLT, Int.reduceLE, Int.reduceNeg, Int.reduceAdd, Int.reduceSub, Int.reduceToNat, hil', hg, pickC, Cr.len, Cr.take9, hp1, hq]) | (refine AWP_cond_false ?_ ?_; · simp only [SS, argList, aPut, aFill, ↓reduceIte, Nat.reduceEqDiff, Nat.reduceAdd, Nat.reduceLeDiff, reduceCtorEq, Int.reduceEq, Int.reduceLT, Int.reduceLE, Int.reduceNeg, Int.reduceAdd, Int.reduceSub, Int.reduceToNat, hil', hg, pickC, Cr.len, Cr.take9, hp1, hq])); try simp only [SS, argList, aPut, aFill, ↓reduceIte, Nat.reduceEqDiff, Nat.reduceAdd, Nat.reduceLeDiff, reduceCtorEq, Int.reduceEq, Int.reduceLT, Int.reduceLE, Int.reduceNeg, Int.reduceAdd, Int.reduceSub, Int.reduceToNat, hil', hg, pickC, Cr.len, Cr.take9, hp1, hq])
    refine (ih4 x (List.mem_of_getElem? hx) _ fid v1 o1 b _ (F1.keep (.pushed _ _)) (by omega)).mono ?_
    rintro _ s2 ⟨v2, o2, F2, G2⟩
    try simp only [SS, argList, aPut, aFill, ↓reduceIte, Nat.reduceEqDiff, Nat.reduceAdd, Nat.reduceLeDiff, reduceCtorEq, Int.reduceEq, Int.reduceLT, Int.reduceLE, Int.reduceNeg, Int.reduceAdd, Int.reduceSub, Int.reduceToNat, hw]
    repeat ((with_reducible first | refine AWP_seq ?_ | refine AWP_block ?_ | refine AWP_scope ?_ | refine AWP_reg ?_ | refine AWP_draw ?_ | refine AWP_skip ?_ | refine AWP_ret ?_ | refine AWP_exit ?_ | (refine AWP_cond_true ?_ ?_; · simp only [SS, argList, aPut, aFill, ↓reduceIte, Nat.reduceEqDiff, Nat.reduceAdd, Nat.reduceLeDiff, reduceCtorEq, Int.reduceEq, Int.reduceLT, Int.reduceLE, Int.reduceNeg, Int.reduceAdd, Int.reduceSub, Int.reduceToNat, hw]) | (refine AWP_cond_false ?_ ?_; · simp only [SS, argList, aPut, aFill, ↓reduceIte, Nat.reduceEqDiff, Nat.reduceAdd, Nat.reduceLeDiff, reduceCtorEq, Int.reduceEq, Int.reduceLT, Int.reduceLE, Int.reduceNeg, Int.reduceAdd, Int.reduceSub, Int.reduceToNat, hw])); try simp only [SS, argList, aPut, aFill, ↓reduceIte, Nat.reduceEqDiff, Nat.reduceAdd, Nat.reduceLeDiff, reduceCtorEq, Int.reduceEq, Int.reduceLT, Int.reduceLE, Int.reduceNeg, Int.reduceAdd, Int.reduceSub, Int.reduceToNat, hw])
    refine ⟨i + 1, rfl, ⟨by omega, v2, o2, ?_, (G1.push _).trans G2⟩, by omega⟩
    rw [take_succ_at hx, freeP_app, freeP_one]; exact F2
  · have hil' : ¬ (i : Int) < (pk.length : Int) := by omega
    rw [List.take_of_length_le (by omega)] at F1
    try simp only [SS, argList, aPut, aFill, ↓reduceIte, Nat.reduceEqDiff, Nat.reduceAdd, Nat.reduceLeDiff, reduceCtorEq, Int.reduceEq, Int.reduceLT, Int.reduceLE, Int.reduceNeg, Int.reduceAdd, Int.reduceSub, Int.reduceToNat, hil']
    repeat ((with_reducible first | refine AWP_seq ?_ | refine AWP_block ?_ | refine AWP_scope ?_ | refine AWP_reg ?_ | refine AWP_draw ?_ | refine AWP_skip ?_ | refine AWP_ret ?_ | refine AWP_exit ?_ | (refine AWP_cond_true ?_ ?_; · simp only [SS, argList, aPut, aFill, ↓reduceIte, Nat.reduceEqDiff, Nat.reduceAdd, Nat.reduceLeDiff, reduceCtorEq, Int.reduceEq, Int.reduceLT, Int.reduceLE, Int.reduceNeg, Int.reduceAdd, Int.reduceSub, Int.reduceToNat, hil']) | (refine AWP_cond_false ?_ ?_; · simp only [SS, argList, aPut, aFill, ↓reduceIte, Nat.reduceEqDiff, Nat.reduceAdd, Nat.reduceLeDiff, reduceCtorEq, Int.reduceEq, Int.reduceLT, Int.reduceLE, Int.reduceNeg, Int.reduceAdd, Int.reduceSub, Int.reduceToNat, hil'])); try simp only [SS, argList, aPut, aFill, ↓reduceIte, Nat.reduceEqDiff, Nat.reduceAdd, Nat.reduceLeDiff, reduceCtorEq, Int.reduceEq, Int.reduceLT, Int.reduceLE, Int.reduceNeg, Int.reduceAdd, Int.reduceSub, Int.reduceToNat, hil'])
    exact ⟨v1, o1, F1, G1⟩
end Go.Proofs.Ytjjbjibbjbbeaaa
