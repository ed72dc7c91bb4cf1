/- Tables that are not there; fresh tellings of a table. -/
import Derived.Test.YtoejjhehpbmgbaaAD9
set_option linter.unusedVariables false
set_option linter.unusedSimpArgs false
namespace Go.AL
def zTy : Ty := .mk 0 0 s0 []
/-- A slice of types that is owned, whatever its types. -/
def OwF (B : Nat) (s : Store) (w : AV) (n : Nat) : Prop := ∃ es, SliceAt s w 85 4 es ∧ es.length = n ∧ (∀ q, q ∈ es → q.length = 4) ∧ ∀ j, j ∈ slIds w → B ≤ j
theorem OwF.nil (B : Nat) (s : Store) : OwF B s .nils 0 := ⟨[], .nil _ _ _, rfl, by simp, by simp [slIds]⟩
theorem OwF.keep {B : Nat} {s s' : Store} {w : AV} {n : Nat} (h : OwF B s w n) (hk : ∀ j, j ∈ slIds w → s'.get j = s.get j) : OwF B s' w n := by
  obtain ⟨es, h1, h2, h3, h4⟩ := h
  exact ⟨es, h1.keep hk, h2, h3, h4⟩
theorem OwF.lt {B : Nat} {s : Store} {w : AV} {n : Nat} (h : OwF B s w n) {j : Nat} (hj : j ∈ slIds w) : j < s.next := by
  obtain ⟨es, h1, h2, h3, h4⟩ := h
  exact h1.lt hj
theorem OwF.kp {B : Nat} {s s' : Store} {w : AV} {n : Nat} (h : OwF B s w n) (k : Kp s s') : OwF B s' w n := h.keep fun j hj => k.keep j (h.lt hj)
theorem OwF.less {B B' : Nat} {s : Store} {w : AV} {n : Nat} (h : OwF B s w n) (k : B' ≤ B) : OwF B' s w n := by
  obtain ⟨es, h1, h2, h3, h4⟩ := h
  exact ⟨es, h1, h2, h3, fun j hj => Nat.le_trans k (h4 j hj)⟩
theorem OwF.ty {B : Nat} {s : Store} {w : AV} {n : Nat} (h : OwF B s w n) {j : Nat} (hj : j ∈ slIds w) : ∃ ver es, s.get j = some (.cells 85 ver 4 es) := by
  obtain ⟨es, h1, h2, h3, h4⟩ := h
  exact h1.ids hj
theorem OwF.upd {B : Nat} {s : Store} {w : AV} {n id ver k : Nat} {es : List (List AV)} {z : List AV} (h : OwF B s w n) (ho : s.get id = some (.cells 85 ver 4 es)) (hz : z.length = 4) : OwF B (s.upd id (.cells 85 ver 4 (es.set k z))) w n := by
  obtain ⟨fs, h1, h2, h3, h4⟩ := h
  rcases h1 with ⟨rfl, rfl⟩ | ⟨id', ver', es', rfl, h1⟩
  · exact ⟨[], .nil _ _ _, h2, by simp, h4⟩
  · by_cases e : id' = id
    · subst e
      rw [ho] at h1
      cases h1
      refine ⟨fs.set k z, .inr ⟨id', ver, (fs ++ es').set k z |>.drop fs.length, by simp, ?_⟩, by simpa using h2, fun q hq => ?_, h4⟩
      · rw [Store.get_upd_self _ _ (s.lt ho)]
        have : fs.set k z = ((fs ++ es').set k z).take fs.length := by rw [List.take_set]; simp
        rw [this, List.take_append_drop]
      · rcases List.mem_or_eq_of_mem_set hq with hq | rfl
        · exact h3 q hq
        · exact hz
    · exact ⟨fs, .inr ⟨id', ver', es', rfl, by rw [Store.get_upd_ne _ _ e]; exact h1⟩, h2, h3, h4⟩
/-- The step of an append to such a slice. -/
theorem ok_own {σ s : Store} {v : AV} {n : Nat} {q : List AV} {K : AV → Store → Prop} (k : Kp σ s) (hO : OwF σ.next s v n) (hq : q.length = 4) (hn : n ≤ 1000000)
    (hK : ∀ v' s', Kp σ s' → OwF σ.next s' v' (n + 1) → K v' s') : ok (eApp 85 4 56 v (some [q]) s) K := by
  obtain ⟨es, h1, h2, h3, h4⟩ := hO
  refine ok_app h1 (by simpa using hq) (by simp; omega) (by simp [maxLen]; omega) fun v' s' k1 k2 => hK v' s' ⟨Nat.le_trans k.next k2.next, fun j hj => ?_⟩ ⟨es ++ [q], k1, by simp [h2], fun x hx => ?_, fun j hj => ?_⟩
  · have := k.next
    rw [k2.keep j (by omega) (fun hm => by have := h4 j hm; omega), k.keep j hj]
  · rcases List.mem_append.1 hx with hx | hx
    · exact h3 x hx
    · simp at hx; subst hx; exact hq
  · rcases k2.fresh j hj with e | e
    · exact h4 j e
    · exact Nat.le_trans k.next e
/-- What All tells, made anew. -/
structure NewA (σ s : Store) (v : AV) (es : List (List AV)) : Prop where
  g : Grow σ s v 78 5 es
  each : ∀ e, e ∈ es → ∃ a b c d w n, e = [.str a, .str b, .int .i64 c, .int .i64 d, w] ∧ OwF σ.next s w n ∧ (n : Int) ≤ 1000000
theorem NewA.start (σ : Store) : NewA σ σ .nils [] := ⟨.start _ _ _, by simp⟩
def ConF (σ : Store) (c : CON) (r : AV) (s : Store) : Prop := ∃ v, r = .tuple [.agg (c.cellsV v), .bool true] ∧ Kp σ s ∧ OwF σ.next s v c.fields.length
@[congr] theorem ConF_congr {w : Prop} (hw : Visit = w) {σ : Store} {c : CON} {r r' : AV} {s s' : Store} (h : r = r') (h' : s = s') : ConF σ c r s = ConF σ c r' s' := by rw [h, h']
def AllF (σ : Store) (r : AV) (s : Store) : Prop := ∃ es, NewA σ s r es ∧ es.length ≤ 1000000
@[congr] theorem AllF_congr {w : Prop} (hw : Visit = w) {σ : Store} {r r' : AV} {s s' : Store} (h : r = r') (h' : s = s') : AllF σ r s = AllF σ r' s' := by rw [h, h']
end Go.AL
namespace Go.Proofs.Ytoejjhehpbmgbaa
open Go.AL
theorem cons_nil (σ : Store) (k : ByteArray) : ACalls Try.prog 34 [.nilp, .str k] σ fun r σ' => r = .nils ∧ σ' = σ := by
  refine in34 (by simp) ?_
  unfold c34
  try simp only [SS, argList, aPut, aFill, ↓reduceIte, Nat.reduceEqDiff, Nat.reduceAdd, Nat.reduceLeDiff, reduceCtorEq, Int.reduceEq, Int.reduceLT, Int.reduceLE, Int.reduceNeg, Int.reduceAdd, Int.reduceSub, Int.reduceToNat]
  repeat ((with_reducible first | refine AWP_seq ?_ | refine AWP_block ?_ | refine AWP_scope ?_ | refine AWP_reg ?_ | refine AWP_draw ?_ | refine AWP_skip ?_ | refine AWP_ret ?_ | refine AWP_exit ?_ | (refine AWP_cond_true ?_ ?_; · simp only [SS, argList, aPut, aFill, ↓reduceIte, Nat.reduceEqDiff, Nat.reduceAdd, Nat.reduceLeDiff, reduceCtorEq, Int.reduceEq, Int.reduceLT, Int.reduceLE, Int.reduceNeg, Int.reduceAdd, Int.reduceSub, Int.reduceToNat]) | (refine AWP_cond_false ?_ ?_; · simp only [SS, argList, aPut, aFill, ↓reduceIte, Nat.reduceEqDiff, Nat.reduceAdd, Nat.reduceLeDiff, reduceCtorEq, Int.reduceEq, Int.reduceLT, Int.reduceLE, Int.reduceNeg, Int.reduceAdd, Int.reduceSub, Int.reduceToNat])); try simp only [SS, argList, aPut, aFill, ↓reduceIte, Nat.reduceEqDiff, Nat.reduceAdd, Nat.reduceLeDiff, reduceCtorEq, Int.reduceEq, Int.reduceLT, Int.reduceLE, Int.reduceNeg, Int.reduceAdd, Int.reduceSub, Int.reduceToNat])
  refine (all_nil _).mono ?_
  rintro r s ⟨rfl, rfl⟩
  try simp only [SS, argList, aPut, aFill, ↓reduceIte, Nat.reduceEqDiff, Nat.reduceAdd, Nat.reduceLeDiff, reduceCtorEq, Int.reduceEq, Int.reduceLT, Int.reduceLE, Int.reduceNeg, Int.reduceAdd, Int.reduceSub, Int.reduceToNat]
  repeat ((with_reducible first | refine AWP_seq ?_ | refine AWP_block ?_ | refine AWP_scope ?_ | refine AWP_reg ?_ | refine AWP_draw ?_ | refine AWP_skip ?_ | refine AWP_ret ?_ | refine AWP_exit ?_ | (refine AWP_cond_true ?_ ?_; · simp only [SS, argList, aPut, aFill, ↓reduceIte, Nat.reduceEqDiff, Nat.reduceAdd, Nat.reduceLeDiff, reduceCtorEq, Int.reduceEq, Int.reduceLT, Int.reduceLE, Int.reduceNeg, Int.reduceAdd, Int.reduceSub, Int.reduceToNat]) | (refine AWP_cond_false ?_ ?_; · simp only [SS, argList, aPut, aFill, ↓reduceIte, Nat.reduceEqDiff, Nat.reduceAdd, Nat.reduceLeDiff, reduceCtorEq, Int.reduceEq, Int.reduceLT, Int.reduceLE, Int.reduceNeg, Int.reduceAdd, Int.reduceSub, Int.reduceToNat])); try simp only [SS, argList, aPut, aFill, ↓reduceIte, Nat.reduceEqDiff, Nat.reduceAdd, Nat.reduceLeDiff, reduceCtorEq, Int.reduceEq, Int.reduceLT, Int.reduceLE, Int.reduceNeg, Int.reduceAdd, Int.reduceSub, Int.reduceToNat])
  refine AWP_while [5, 10, 11] (fun y : Nat => 0) (fun y => [.nils, .int .i64 0, .int .i64 0]) (fun y t => t = s) 0 rfl ?_ ?_
  · try simp only [SS, argList, aPut, aFill, ↓reduceIte, Nat.reduceEqDiff, Nat.reduceAdd, Nat.reduceLeDiff, reduceCtorEq, Int.reduceEq, Int.reduceLT, Int.reduceLE, Int.reduceNeg, Int.reduceAdd, Int.reduceSub, Int.reduceToNat]
    repeat ((with_reducible first | refine AWP_seq ?_ | refine AWP_block ?_ | refine AWP_scope ?_ | refine AWP_reg ?_ | refine AWP_draw ?_ | refine AWP_skip ?_ | refine AWP_ret ?_ | refine AWP_exit ?_ | (refine AWP_cond_true ?_ ?_; · simp only [SS, argList, aPut, aFill, ↓reduceIte, Nat.reduceEqDiff, Nat.reduceAdd, Nat.reduceLeDiff, reduceCtorEq, Int.reduceEq, Int.reduceLT, Int.reduceLE, Int.reduceNeg, Int.reduceAdd, Int.reduceSub, Int.reduceToNat]) | (refine AWP_cond_false ?_ ?_; · simp only [SS, argList, aPut, aFill, ↓reduceIte, Nat.reduceEqDiff, Nat.reduceAdd, Nat.reduceLeDiff, reduceCtorEq, Int.reduceEq, Int.reduceLT, Int.reduceLE, Int.reduceNeg, Int.reduceAdd, Int.reduceSub, Int.reduceToNat])); try simp only [SS, argList, aPut, aFill, ↓reduceIte, Nat.reduceEqDiff, Nat.reduceAdd, Nat.reduceLeDiff, reduceCtorEq, Int.reduceEq, Int.reduceLT, Int.reduceLE, Int.reduceNeg, Int.reduceAdd, Int.reduceSub, Int.reduceToNat])
  · rintro y t rfl
    try simp only [SS, argList, aPut, aFill, ↓reduceIte, Nat.reduceEqDiff, Nat.reduceAdd, Nat.reduceLeDiff, reduceCtorEq, Int.reduceEq, Int.reduceLT, Int.reduceLE, Int.reduceNeg, Int.reduceAdd, Int.reduceSub, Int.reduceToNat]
    repeat ((with_reducible first | refine AWP_seq ?_ | refine AWP_block ?_ | refine AWP_scope ?_ | refine AWP_reg ?_ | refine AWP_draw ?_ | refine AWP_skip ?_ | refine AWP_ret ?_ | refine AWP_exit ?_ | (refine AWP_cond_true ?_ ?_; · simp only [SS, argList, aPut, aFill, ↓reduceIte, Nat.reduceEqDiff, Nat.reduceAdd, Nat.reduceLeDiff, reduceCtorEq, Int.reduceEq, Int.reduceLT, Int.reduceLE, Int.reduceNeg, Int.reduceAdd, Int.reduceSub, Int.reduceToNat]) | (refine AWP_cond_false ?_ ?_; · simp only [SS, argList, aPut, aFill, ↓reduceIte, Nat.reduceEqDiff, Nat.reduceAdd, Nat.reduceLeDiff, reduceCtorEq, Int.reduceEq, Int.reduceLT, Int.reduceLE, Int.reduceNeg, Int.reduceAdd, Int.reduceSub, Int.reduceToNat])); try simp only [SS, argList, aPut, aFill, ↓reduceIte, Nat.reduceEqDiff, Nat.reduceAdd, Nat.reduceLeDiff, reduceCtorEq, Int.reduceEq, Int.reduceLT, Int.reduceLE, Int.reduceNeg, Int.reduceAdd, Int.reduceSub, Int.reduceToNat])
theorem type_nil (σ : Store) (k : ByteArray) : ACalls Try.prog 36 [.nilp, .str k] σ fun r σ' => r = .tuple [.agg zTy.cells, .bool false] ∧ σ' = σ := by
  refine ACalls_fp (p := fun r => r = .tuple [.agg zTy.cells, .bool false]) ?_
  refine in36 (by simp) ?_
  unfold c36
  try simp only [SS, argList, aPut, aFill, ↓reduceIte, Nat.reduceEqDiff, Nat.reduceAdd, Nat.reduceLeDiff, reduceCtorEq, Int.reduceEq, Int.reduceLT, Int.reduceLE, Int.reduceNeg, Int.reduceAdd, Int.reduceSub, Int.reduceToNat]
  repeat ((with_reducible first | refine AWP_seq ?_ | refine AWP_block ?_ | refine AWP_scope ?_ | refine AWP_reg ?_ | refine AWP_draw ?_ | refine AWP_skip ?_ | refine AWP_ret ?_ | refine AWP_exit ?_ | (refine AWP_cond_true ?_ ?_; · simp only [SS, argList, aPut, aFill, ↓reduceIte, Nat.reduceEqDiff, Nat.reduceAdd, Nat.reduceLeDiff, reduceCtorEq, Int.reduceEq, Int.reduceLT, Int.reduceLE, Int.reduceNeg, Int.reduceAdd, Int.reduceSub, Int.reduceToNat]) | (refine AWP_cond_false ?_ ?_; · simp only [SS, argList, aPut, aFill, ↓reduceIte, Nat.reduceEqDiff, Nat.reduceAdd, Nat.reduceLeDiff, reduceCtorEq, Int.reduceEq, Int.reduceLT, Int.reduceLE, Int.reduceNeg, Int.reduceAdd, Int.reduceSub, Int.reduceToNat])); try simp only [SS, argList, aPut, aFill, ↓reduceIte, Nat.reduceEqDiff, Nat.reduceAdd, Nat.reduceLeDiff, reduceCtorEq, Int.reduceEq, Int.reduceLT, Int.reduceLE, Int.reduceNeg, Int.reduceAdd, Int.reduceSub, Int.reduceToNat])
  refine (conG_nil _ k).mono ?_
  rintro r s ⟨rfl, rfl⟩
  simp only [conR, zeroCon, CON.cells, CON.cellsV]
  try simp only [SS, argList, aPut, aFill, ↓reduceIte, Nat.reduceEqDiff, Nat.reduceAdd, Nat.reduceLeDiff, reduceCtorEq, Int.reduceEq, Int.reduceLT, Int.reduceLE, Int.reduceNeg, Int.reduceAdd, Int.reduceSub, Int.reduceToNat]
  repeat ((with_reducible first | refine AWP_seq ?_ | refine AWP_block ?_ | refine AWP_scope ?_ | refine AWP_reg ?_ | refine AWP_draw ?_ | refine AWP_skip ?_ | refine AWP_ret ?_ | refine AWP_exit ?_ | (refine AWP_cond_true ?_ ?_; · simp only [SS, argList, aPut, aFill, ↓reduceIte, Nat.reduceEqDiff, Nat.reduceAdd, Nat.reduceLeDiff, reduceCtorEq, Int.reduceEq, Int.reduceLT, Int.reduceLE, Int.reduceNeg, Int.reduceAdd, Int.reduceSub, Int.reduceToNat]) | (refine AWP_cond_false ?_ ?_; · simp only [SS, argList, aPut, aFill, ↓reduceIte, Nat.reduceEqDiff, Nat.reduceAdd, Nat.reduceLeDiff, reduceCtorEq, Int.reduceEq, Int.reduceLT, Int.reduceLE, Int.reduceNeg, Int.reduceAdd, Int.reduceSub, Int.reduceToNat])); try simp only [SS, argList, aPut, aFill, ↓reduceIte, Nat.reduceEqDiff, Nat.reduceAdd, Nat.reduceLeDiff, reduceCtorEq, Int.reduceEq, Int.reduceLT, Int.reduceLE, Int.reduceNeg, Int.reduceAdd, Int.reduceSub, Int.reduceToNat])
  refine FP.mk (.tuple [.agg zTy.cells, .bool false]) (.nil _ 0 0) (.tuple (.cons (.agg (.cons (.refl _) (.cons (.refl _) (.cons (.refl _) (.cons .here .nil))))) (.cons (.refl _) .nil))) rfl ?_ (((Kp.refl σ).push _).push _) (by simp [slIds])
  refine .tuple' fun c hc => ?_
  simp at hc
  rcases hc with rfl | rfl
  · exact .agg' (zTy.cln)
  · exact .bool _
theorem conG_fresh {σ : Store} {tid pm cm : Nat} {ces : List (AV × AV)} {ov : AV} {T : DT} (h : TblAt σ tid pm cm ces ov T) (hsm : ∀ c, c ∈ T.cs → c.sm) (k : ByteArray) (c : CON) (hfc : T.find k = some c) :
    ACalls Try.prog 33 [.ptr tid 0 0 0, .str k] σ (ConF σ c) := by
  refine in33 (by simp) ?_
  unfold c33
  have q1 := lt_ne (σ.lt h.hd)
  have q2 := lt_ne (σ.lt h.gcm)
  rcases h.find k with ⟨hf1, hf2⟩ | ⟨c', v, j, hf1, ⟨fv, rfl, hfv⟩, hf2⟩
  · rw [hfc] at hf1; cases hf1
  · rw [hfc] at hf1
    cases hf1
    have hco := hfv.co
    try simp only [SS, argList, aPut, aFill, ↓reduceIte, Nat.reduceEqDiff, Nat.reduceAdd, Nat.reduceLeDiff, reduceCtorEq, Int.reduceEq, Int.reduceLT, Int.reduceLE, Int.reduceNeg, Int.reduceAdd, Int.reduceSub, Int.reduceToNat, h.hd, h.gcm, q1, q2, hf2, findVal, CON.cellsV, hco]
    repeat ((with_reducible first | refine AWP_seq ?_ | refine AWP_block ?_ | refine AWP_scope ?_ | refine AWP_reg ?_ | refine AWP_draw ?_ | refine AWP_skip ?_ | refine AWP_ret ?_ | refine AWP_exit ?_ | (refine AWP_cond_true ?_ ?_; · simp only [SS, argList, aPut, aFill, ↓reduceIte, Nat.reduceEqDiff, Nat.reduceAdd, Nat.reduceLeDiff, reduceCtorEq, Int.reduceEq, Int.reduceLT, Int.reduceLE, Int.reduceNeg, Int.reduceAdd, Int.reduceSub, Int.reduceToNat, h.hd, h.gcm, q1, q2, hf2, findVal, CON.cellsV, hco]) | (refine AWP_cond_false ?_ ?_; · simp only [SS, argList, aPut, aFill, ↓reduceIte, Nat.reduceEqDiff, Nat.reduceAdd, Nat.reduceLeDiff, reduceCtorEq, Int.reduceEq, Int.reduceLT, Int.reduceLE, Int.reduceNeg, Int.reduceAdd, Int.reduceSub, Int.reduceToNat, h.hd, h.gcm, q1, q2, hf2, findVal, CON.cellsV, hco])); try simp only [SS, argList, aPut, aFill, ↓reduceIte, Nat.reduceEqDiff, Nat.reduceAdd, Nat.reduceLeDiff, reduceCtorEq, Int.reduceEq, Int.reduceLT, Int.reduceLE, Int.reduceNeg, Int.reduceAdd, Int.reduceSub, Int.reduceToNat, h.hd, h.gcm, q1, q2, hf2, findVal, CON.cellsV, hco])
    obtain ⟨hcm, hck⟩ := DT.find_mem hfc
    obtain ⟨hcl, hcs⟩ := hsm c hcm
    generalize hs0 : Store.push _ _ = s0
    have k0 : Kp σ s0 := by rw [← hs0]; exact ((Kp.refl σ).push _).push _
    have n0 : s0.next = σ.next + 2 := by rw [← hs0]; simp [Store.push_next]
    have e0 : s0.get σ.next = some (.cells 78 0 5 [[.str ⟨#[]⟩, .str ⟨#[]⟩, .int .i64 0, .int .i64 0, .nils]]) := by rw [← hs0]; simp [Store.push_get, Store.push_next]
    have e1 : s0.get (σ.next + 1) = some (.cells 78 0 5 [c.cellsV fv]) := by rw [← hs0]; simp [Store.push_get, Store.push_next, CON.cellsV]
    clear hs0
    have hlen := hfv.len s0
    simp only [List.length_map] at hlen
    try simp only [SS, argList, aPut, aFill, ↓reduceIte, Nat.reduceEqDiff, Nat.reduceAdd, Nat.reduceLeDiff, reduceCtorEq, Int.reduceEq, Int.reduceLT, Int.reduceLE, Int.reduceNeg, Int.reduceAdd, Int.reduceSub, Int.reduceToNat, e1, CON.cellsV, hlen]
    repeat ((with_reducible first | refine AWP_seq ?_ | refine AWP_block ?_ | refine AWP_scope ?_ | refine AWP_reg ?_ | refine AWP_draw ?_ | refine AWP_skip ?_ | refine AWP_ret ?_ | refine AWP_exit ?_ | (refine AWP_cond_true ?_ ?_; · simp only [SS, argList, aPut, aFill, ↓reduceIte, Nat.reduceEqDiff, Nat.reduceAdd, Nat.reduceLeDiff, reduceCtorEq, Int.reduceEq, Int.reduceLT, Int.reduceLE, Int.reduceNeg, Int.reduceAdd, Int.reduceSub, Int.reduceToNat, e1, CON.cellsV, hlen]) | (refine AWP_cond_false ?_ ?_; · simp only [SS, argList, aPut, aFill, ↓reduceIte, Nat.reduceEqDiff, Nat.reduceAdd, Nat.reduceLeDiff, reduceCtorEq, Int.reduceEq, Int.reduceLT, Int.reduceLE, Int.reduceNeg, Int.reduceAdd, Int.reduceSub, Int.reduceToNat, e1, CON.cellsV, hlen])); try simp only [SS, argList, aPut, aFill, ↓reduceIte, Nat.reduceEqDiff, Nat.reduceAdd, Nat.reduceLeDiff, reduceCtorEq, Int.reduceEq, Int.reduceLT, Int.reduceLE, Int.reduceNeg, Int.reduceAdd, Int.reduceSub, Int.reduceToNat, e1, CON.cellsV, hlen])
    refine AWP_while [4, 6, 7, 8, 27, 28, 29] (fun y : AV × Nat => c.fields.length - y.2) (fun y => [.ptr σ.next 0 0 0, .ptr (σ.next + 1) 0 0 0, .bool true, y.1, fv, .int .i64 c.fields.length, .int .i64 y.2])
      (fun y t => y.2 ≤ c.fields.length ∧ Kp s0 t ∧ OwF s0.next t y.1 y.2) (.nils, 0) ⟨by simp, .refl _, .nil _ _⟩ ?_ ?_
    · try simp only [SS, argList, aPut, aFill, ↓reduceIte, Nat.reduceEqDiff, Nat.reduceAdd, Nat.reduceLeDiff, reduceCtorEq, Int.reduceEq, Int.reduceLT, Int.reduceLE, Int.reduceNeg, Int.reduceAdd, Int.reduceSub, Int.reduceToNat]
      repeat ((with_reducible first | refine AWP_seq ?_ | refine AWP_block ?_ | refine AWP_scope ?_ | refine AWP_reg ?_ | refine AWP_draw ?_ | refine AWP_skip ?_ | refine AWP_ret ?_ | refine AWP_exit ?_ | (refine AWP_cond_true ?_ ?_; · simp only [SS, argList, aPut, aFill, ↓reduceIte, Nat.reduceEqDiff, Nat.reduceAdd, Nat.reduceLeDiff, reduceCtorEq, Int.reduceEq, Int.reduceLT, Int.reduceLE, Int.reduceNeg, Int.reduceAdd, Int.reduceSub, Int.reduceToNat]) | (refine AWP_cond_false ?_ ?_; · simp only [SS, argList, aPut, aFill, ↓reduceIte, Nat.reduceEqDiff, Nat.reduceAdd, Nat.reduceLeDiff, reduceCtorEq, Int.reduceEq, Int.reduceLT, Int.reduceLE, Int.reduceNeg, Int.reduceAdd, Int.reduceSub, Int.reduceToNat])); try simp only [SS, argList, aPut, aFill, ↓reduceIte, Nat.reduceEqDiff, Nat.reduceAdd, Nat.reduceLeDiff, reduceCtorEq, Int.reduceEq, Int.reduceLT, Int.reduceLE, Int.reduceNeg, Int.reduceAdd, Int.reduceSub, Int.reduceToNat])
      rfl
    · rintro ⟨v, i⟩ t ⟨hi, hG, hO⟩
      simp only at hi hG hO
      by_cases hil : i < c.fields.length
      · have hil' : (i : Int) < (c.fields.length : Int) := by omega
        obtain ⟨y, hy⟩ : ∃ y, c.fields[i]? = some y := ⟨_, List.getElem?_eq_getElem hil⟩
        obtain ⟨p, hp, hep⟩ := (hfv.rds t (sz := 4) (by simp [Ty.len])).iad i y.cells (by simp [hy])
        have hld := hep.load (some 4)
        have hyl := y.len
        have hym := List.mem_of_getElem? hy
        have htake : List.take 4 y.cells = y.cells := List.take_of_length_le (by omega)
        have h44 : (4 ≤ y.cells.length) = True := by simp [hyl]
        try simp only [SS, argList, aPut, aFill, ↓reduceIte, Nat.reduceEqDiff, Nat.reduceAdd, Nat.reduceLeDiff, reduceCtorEq, Int.reduceEq, Int.reduceLT, Int.reduceLE, Int.reduceNeg, Int.reduceAdd, Int.reduceSub, Int.reduceToNat, hil', hp, hld, hyl, htake, h44]
        repeat ((with_reducible first | refine AWP_seq ?_ | refine AWP_block ?_ | refine AWP_scope ?_ | refine AWP_reg ?_ | refine AWP_draw ?_ | refine AWP_skip ?_ | refine AWP_ret ?_ | refine AWP_exit ?_ | (refine AWP_cond_true ?_ ?_; · simp only [SS, argList, aPut, aFill, ↓reduceIte, Nat.reduceEqDiff, Nat.reduceAdd, Nat.reduceLeDiff, reduceCtorEq, Int.reduceEq, Int.reduceLT, Int.reduceLE, Int.reduceNeg, Int.reduceAdd, Int.reduceSub, Int.reduceToNat, hil', hp, hld, hyl, htake, h44]) | (refine AWP_cond_false ?_ ?_; · simp only [SS, argList, aPut, aFill, ↓reduceIte, Nat.reduceEqDiff, Nat.reduceAdd, Nat.reduceLeDiff, reduceCtorEq, Int.reduceEq, Int.reduceLT, Int.reduceLE, Int.reduceNeg, Int.reduceAdd, Int.reduceSub, Int.reduceToNat, hil', hp, hld, hyl, htake, h44])); try simp only [SS, argList, aPut, aFill, ↓reduceIte, Nat.reduceEqDiff, Nat.reduceAdd, Nat.reduceLeDiff, reduceCtorEq, Int.reduceEq, Int.reduceLT, Int.reduceLE, Int.reduceNeg, Int.reduceAdd, Int.reduceSub, Int.reduceToNat, hil', hp, hld, hyl, htake, h44])
        refine (copied_ok y (hcs y hym) _).mono ?_
        rintro r t2 ⟨rfl, rfl⟩
        try simp only [SS, argList, aPut, aFill, ↓reduceIte, Nat.reduceEqDiff, Nat.reduceAdd, Nat.reduceLeDiff, reduceCtorEq, Int.reduceEq, Int.reduceLT, Int.reduceLE, Int.reduceNeg, Int.reduceAdd, Int.reduceSub, Int.reduceToNat, hyl]
        repeat ((with_reducible first | refine AWP_seq ?_ | refine AWP_block ?_ | refine AWP_scope ?_ | refine AWP_reg ?_ | refine AWP_draw ?_ | refine AWP_skip ?_ | refine AWP_ret ?_ | refine AWP_exit ?_ | (refine AWP_cond_true ?_ ?_; · simp only [SS, argList, aPut, aFill, ↓reduceIte, Nat.reduceEqDiff, Nat.reduceAdd, Nat.reduceLeDiff, reduceCtorEq, Int.reduceEq, Int.reduceLT, Int.reduceLE, Int.reduceNeg, Int.reduceAdd, Int.reduceSub, Int.reduceToNat, hyl]) | (refine AWP_cond_false ?_ ?_; · simp only [SS, argList, aPut, aFill, ↓reduceIte, Nat.reduceEqDiff, Nat.reduceAdd, Nat.reduceLeDiff, reduceCtorEq, Int.reduceEq, Int.reduceLT, Int.reduceLE, Int.reduceNeg, Int.reduceAdd, Int.reduceSub, Int.reduceToNat, hyl])); try simp only [SS, argList, aPut, aFill, ↓reduceIte, Nat.reduceEqDiff, Nat.reduceAdd, Nat.reduceLeDiff, reduceCtorEq, Int.reduceEq, Int.reduceLT, Int.reduceLE, Int.reduceNeg, Int.reduceAdd, Int.reduceSub, Int.reduceToNat, hyl])
        refine ok_own (hG.push _) (hO.kp (.pushed t _)) hyl (by omega) ?_
        intro v' t3 hG3 hO3
        try simp only [SS, argList, aPut, aFill, ↓reduceIte, Nat.reduceEqDiff, Nat.reduceAdd, Nat.reduceLeDiff, reduceCtorEq, Int.reduceEq, Int.reduceLT, Int.reduceLE, Int.reduceNeg, Int.reduceAdd, Int.reduceSub, Int.reduceToNat, wrap_succ (i := i) (by omega)]
        repeat ((with_reducible first | refine AWP_seq ?_ | refine AWP_block ?_ | refine AWP_scope ?_ | refine AWP_reg ?_ | refine AWP_draw ?_ | refine AWP_skip ?_ | refine AWP_ret ?_ | refine AWP_exit ?_ | (refine AWP_cond_true ?_ ?_; · simp only [SS, argList, aPut, aFill, ↓reduceIte, Nat.reduceEqDiff, Nat.reduceAdd, Nat.reduceLeDiff, reduceCtorEq, Int.reduceEq, Int.reduceLT, Int.reduceLE, Int.reduceNeg, Int.reduceAdd, Int.reduceSub, Int.reduceToNat, wrap_succ (i := i) (by omega)]) | (refine AWP_cond_false ?_ ?_; · simp only [SS, argList, aPut, aFill, ↓reduceIte, Nat.reduceEqDiff, Nat.reduceAdd, Nat.reduceLeDiff, reduceCtorEq, Int.reduceEq, Int.reduceLT, Int.reduceLE, Int.reduceNeg, Int.reduceAdd, Int.reduceSub, Int.reduceToNat, wrap_succ (i := i) (by omega)])); try simp only [SS, argList, aPut, aFill, ↓reduceIte, Nat.reduceEqDiff, Nat.reduceAdd, Nat.reduceLeDiff, reduceCtorEq, Int.reduceEq, Int.reduceLT, Int.reduceLE, Int.reduceNeg, Int.reduceAdd, Int.reduceSub, Int.reduceToNat, wrap_succ (i := i) (by omega)])
        exact ⟨(v', i + 1), rfl, ⟨by simp only; omega, hG3, hO3⟩, by simp only; omega⟩
      · have hil' : ¬ (i : Int) < (c.fields.length : Int) := by omega
        have hie : i = c.fields.length := by omega
        have f0 := hG.get e0
        have f1 := hG.get e1
        have hco2 : v.cellsOf = some [v] := by
          obtain ⟨es, h1, _⟩ := hO
          exact h1.co
        have l0 : σ.next < t.next := t.lt f0
        have l1 : σ.next + 1 < t.next := t.lt f1
        have hu : ∀ (o : AObj) (j : Nat), (t.upd (σ.next + 1) o).get j = if j = σ.next + 1 then some o else t.get j := fun o j => Store.get_upd _ _ l1 j
        have hu2 : ∀ (o o' : AObj) (j : Nat), ((t.upd (σ.next + 1) o).upd σ.next o').get j = if j = σ.next then some o' else (t.upd (σ.next + 1) o).get j := fun o o' j => Store.get_upd _ _ (show σ.next < (t.upd (σ.next + 1) o).next from l0) j
        try simp only [SS, argList, aPut, aFill, ↓reduceIte, Nat.reduceEqDiff, Nat.reduceAdd, Nat.reduceLeDiff, reduceCtorEq, Int.reduceEq, Int.reduceLT, Int.reduceLE, Int.reduceNeg, Int.reduceAdd, Int.reduceSub, Int.reduceToNat, hil', f0, f1, hco2, hu, hu2, CON.cellsV]
        repeat ((with_reducible first | refine AWP_seq ?_ | refine AWP_block ?_ | refine AWP_scope ?_ | refine AWP_reg ?_ | refine AWP_draw ?_ | refine AWP_skip ?_ | refine AWP_ret ?_ | refine AWP_exit ?_ | (refine AWP_cond_true ?_ ?_; · simp only [SS, argList, aPut, aFill, ↓reduceIte, Nat.reduceEqDiff, Nat.reduceAdd, Nat.reduceLeDiff, reduceCtorEq, Int.reduceEq, Int.reduceLT, Int.reduceLE, Int.reduceNeg, Int.reduceAdd, Int.reduceSub, Int.reduceToNat, hil', f0, f1, hco2, hu, hu2, CON.cellsV]) | (refine AWP_cond_false ?_ ?_; · simp only [SS, argList, aPut, aFill, ↓reduceIte, Nat.reduceEqDiff, Nat.reduceAdd, Nat.reduceLeDiff, reduceCtorEq, Int.reduceEq, Int.reduceLT, Int.reduceLE, Int.reduceNeg, Int.reduceAdd, Int.reduceSub, Int.reduceToNat, hil', f0, f1, hco2, hu, hu2, CON.cellsV])); try simp only [SS, argList, aPut, aFill, ↓reduceIte, Nat.reduceEqDiff, Nat.reduceAdd, Nat.reduceLeDiff, reduceCtorEq, Int.reduceEq, Int.reduceLT, Int.reduceLE, Int.reduceNeg, Int.reduceAdd, Int.reduceSub, Int.reduceToNat, hil', f0, f1, hco2, hu, hu2, CON.cellsV])
        have hne : ∀ j, j ∈ slIds v → s0.next ≤ j := by
          obtain ⟨es, _, _, _, h4⟩ := hO
          exact h4
        subst hie
        refine ⟨v, by rfl, ((k0.trans hG).upd (by omega) _).upd (by omega) _, (hO.keep fun j hj => ?_).less (by omega)⟩
        have := hne j hj
        rw [hu2, if_neg (by omega), hu, if_neg (by omega)]
theorem all_fresh {σ : Store} {tid pm cm : Nat} {ces : List (AV × AV)} {ov : AV} {T : DT} (h : TblAt σ tid pm cm ces ov T) (hsm : ∀ c, c ∈ T.cs → c.sm) (hnd : (T.cs.map (·.name)).Nodup) (hl : T.cs.length ≤ 1000000) :
    ACalls Try.prog 31 [.ptr tid 0 0 0] σ (AllF σ) := by
  refine in31 (by simp) ?_
  unfold c31
  have hlen := h.gov.rds.len
  simp only [List.length_map] at hlen
  try simp only [SS, argList, aPut, aFill, ↓reduceIte, Nat.reduceEqDiff, Nat.reduceAdd, Nat.reduceLeDiff, reduceCtorEq, Int.reduceEq, Int.reduceLT, Int.reduceLE, Int.reduceNeg, Int.reduceAdd, Int.reduceSub, Int.reduceToNat, h.hd, hlen]
  repeat ((with_reducible first | refine AWP_seq ?_ | refine AWP_block ?_ | refine AWP_scope ?_ | refine AWP_reg ?_ | refine AWP_draw ?_ | refine AWP_skip ?_ | refine AWP_ret ?_ | refine AWP_exit ?_ | (refine AWP_cond_true ?_ ?_; · simp only [SS, argList, aPut, aFill, ↓reduceIte, Nat.reduceEqDiff, Nat.reduceAdd, Nat.reduceLeDiff, reduceCtorEq, Int.reduceEq, Int.reduceLT, Int.reduceLE, Int.reduceNeg, Int.reduceAdd, Int.reduceSub, Int.reduceToNat, h.hd, hlen]) | (refine AWP_cond_false ?_ ?_; · simp only [SS, argList, aPut, aFill, ↓reduceIte, Nat.reduceEqDiff, Nat.reduceAdd, Nat.reduceLeDiff, reduceCtorEq, Int.reduceEq, Int.reduceLT, Int.reduceLE, Int.reduceNeg, Int.reduceAdd, Int.reduceSub, Int.reduceToNat, h.hd, hlen])); try simp only [SS, argList, aPut, aFill, ↓reduceIte, Nat.reduceEqDiff, Nat.reduceAdd, Nat.reduceLeDiff, reduceCtorEq, Int.reduceEq, Int.reduceLT, Int.reduceLE, Int.reduceNeg, Int.reduceAdd, Int.reduceSub, Int.reduceToNat, h.hd, hlen])
  refine AWP_while [0, 3, 14, 15, 16] (fun y : AV × Nat => T.cs.length - y.2) (fun y => [.ptr tid 0 0 0, y.1, ov, .int .i64 T.cs.length, .int .i64 y.2])
    (fun y t => y.2 ≤ T.cs.length ∧ ∃ es, NewA σ t y.1 es ∧ es.length = y.2) (.nils, 0) ⟨by simp, [], .start _, rfl⟩ ?_ ?_
  · try simp only [SS, argList, aPut, aFill, ↓reduceIte, Nat.reduceEqDiff, Nat.reduceAdd, Nat.reduceLeDiff, reduceCtorEq, Int.reduceEq, Int.reduceLT, Int.reduceLE, Int.reduceNeg, Int.reduceAdd, Int.reduceSub, Int.reduceToNat]
    repeat ((with_reducible first | refine AWP_seq ?_ | refine AWP_block ?_ | refine AWP_scope ?_ | refine AWP_reg ?_ | refine AWP_draw ?_ | refine AWP_skip ?_ | refine AWP_ret ?_ | refine AWP_exit ?_ | (refine AWP_cond_true ?_ ?_; · simp only [SS, argList, aPut, aFill, ↓reduceIte, Nat.reduceEqDiff, Nat.reduceAdd, Nat.reduceLeDiff, reduceCtorEq, Int.reduceEq, Int.reduceLT, Int.reduceLE, Int.reduceNeg, Int.reduceAdd, Int.reduceSub, Int.reduceToNat]) | (refine AWP_cond_false ?_ ?_; · simp only [SS, argList, aPut, aFill, ↓reduceIte, Nat.reduceEqDiff, Nat.reduceAdd, Nat.reduceLeDiff, reduceCtorEq, Int.reduceEq, Int.reduceLT, Int.reduceLE, Int.reduceNeg, Int.reduceAdd, Int.reduceSub, Int.reduceToNat])); try simp only [SS, argList, aPut, aFill, ↓reduceIte, Nat.reduceEqDiff, Nat.reduceAdd, Nat.reduceLeDiff, reduceCtorEq, Int.reduceEq, Int.reduceLT, Int.reduceLE, Int.reduceNeg, Int.reduceAdd, Int.reduceSub, Int.reduceToNat])
    rfl
  · rintro ⟨v, i⟩ t ⟨hi, es, hN, hel⟩
    simp only at hi hN hel
    have hG := hN.g
    by_cases hil : i < T.cs.length
    · have hil' : (i : Int) < (T.cs.length : Int) := by omega
      obtain ⟨c, hc⟩ : ∃ c, T.cs[i]? = some c := ⟨_, List.getElem?_eq_getElem hil⟩
      have hA := h.kp hG.kp
      obtain ⟨p, hp, hep⟩ := hA.gov.rds.iad i [.str c.name] (by simp [hc])
      have hld := hep.load none
      have hcm := List.mem_of_getElem? hc
      try simp only [SS, argList, aPut, aFill, ↓reduceIte, Nat.reduceEqDiff, Nat.reduceAdd, Nat.reduceLeDiff, reduceCtorEq, Int.reduceEq, Int.reduceLT, Int.reduceLE, Int.reduceNeg, Int.reduceAdd, Int.reduceSub, Int.reduceToNat, hil', hp, hld]
      repeat ((with_reducible first | refine AWP_seq ?_ | refine AWP_block ?_ | refine AWP_scope ?_ | refine AWP_reg ?_ | refine AWP_draw ?_ | refine AWP_skip ?_ | refine AWP_ret ?_ | refine AWP_exit ?_ | (refine AWP_cond_true ?_ ?_; · simp only [SS, argList, aPut, aFill, ↓reduceIte, Nat.reduceEqDiff, Nat.reduceAdd, Nat.reduceLeDiff, reduceCtorEq, Int.reduceEq, Int.reduceLT, Int.reduceLE, Int.reduceNeg, Int.reduceAdd, Int.reduceSub, Int.reduceToNat, hil', hp, hld]) | (refine AWP_cond_false ?_ ?_; · simp only [SS, argList, aPut, aFill, ↓reduceIte, Nat.reduceEqDiff, Nat.reduceAdd, Nat.reduceLeDiff, reduceCtorEq, Int.reduceEq, Int.reduceLT, Int.reduceLE, Int.reduceNeg, Int.reduceAdd, Int.reduceSub, Int.reduceToNat, hil', hp, hld])); try simp only [SS, argList, aPut, aFill, ↓reduceIte, Nat.reduceEqDiff, Nat.reduceAdd, Nat.reduceLeDiff, reduceCtorEq, Int.reduceEq, Int.reduceLT, Int.reduceLE, Int.reduceNeg, Int.reduceAdd, Int.reduceSub, Int.reduceToNat, hil', hp, hld])
      refine (conG_fresh hA hsm c.name c (DT.find_of hnd hcm)).mono ?_
      rintro r t2 ⟨w, rfl, hk2, hO2⟩
      have hwc : w.cellsOf = some [w] := by
        obtain ⟨es, h1, _⟩ := hO2
        exact h1.co
      try simp only [SS, argList, aPut, aFill, ↓reduceIte, Nat.reduceEqDiff, Nat.reduceAdd, Nat.reduceLeDiff, reduceCtorEq, Int.reduceEq, Int.reduceLT, Int.reduceLE, Int.reduceNeg, Int.reduceAdd, Int.reduceSub, Int.reduceToNat, CON.cellsV, hwc]
      repeat ((with_reducible first | refine AWP_seq ?_ | refine AWP_block ?_ | refine AWP_scope ?_ | refine AWP_reg ?_ | refine AWP_draw ?_ | refine AWP_skip ?_ | refine AWP_ret ?_ | refine AWP_exit ?_ | (refine AWP_cond_true ?_ ?_; · simp only [SS, argList, aPut, aFill, ↓reduceIte, Nat.reduceEqDiff, Nat.reduceAdd, Nat.reduceLeDiff, reduceCtorEq, Int.reduceEq, Int.reduceLT, Int.reduceLE, Int.reduceNeg, Int.reduceAdd, Int.reduceSub, Int.reduceToNat, CON.cellsV, hwc]) | (refine AWP_cond_false ?_ ?_; · simp only [SS, argList, aPut, aFill, ↓reduceIte, Nat.reduceEqDiff, Nat.reduceAdd, Nat.reduceLeDiff, reduceCtorEq, Int.reduceEq, Int.reduceLT, Int.reduceLE, Int.reduceNeg, Int.reduceAdd, Int.reduceSub, Int.reduceToNat, CON.cellsV, hwc])); try simp only [SS, argList, aPut, aFill, ↓reduceIte, Nat.reduceEqDiff, Nat.reduceAdd, Nat.reduceLeDiff, reduceCtorEq, Int.reduceEq, Int.reduceLT, Int.reduceLE, Int.reduceNeg, Int.reduceAdd, Int.reduceSub, Int.reduceToNat, CON.cellsV, hwc])
      refine ok_grow2 ((hG.keep hk2).push _) (by simp) (by simp; omega) (by simp [maxLen]; omega) ?_
      intro v' t3 hG3 hsame hn3 hfr3
      have hO3 : OwF σ.next t3 w c.fields.length := ((hO2.kp (.pushed _ _)).keep fun j hj => hsame j ((hO2.kp (.pushed _ _)).lt hj) fun hm => by
        obtain ⟨_, _, e1⟩ := hO2.ty hj
        obtain ⟨_, _, e2⟩ := (hG.keep hk2).sl.ids hm
        rw [e1] at e2
        simp at e2).less hG.kp.next
      try simp only [SS, argList, aPut, aFill, ↓reduceIte, Nat.reduceEqDiff, Nat.reduceAdd, Nat.reduceLeDiff, reduceCtorEq, Int.reduceEq, Int.reduceLT, Int.reduceLE, Int.reduceNeg, Int.reduceAdd, Int.reduceSub, Int.reduceToNat, wrap_succ (i := i) (by omega)]
      repeat ((with_reducible first | refine AWP_seq ?_ | refine AWP_block ?_ | refine AWP_scope ?_ | refine AWP_reg ?_ | refine AWP_draw ?_ | refine AWP_skip ?_ | refine AWP_ret ?_ | refine AWP_exit ?_ | (refine AWP_cond_true ?_ ?_; · simp only [SS, argList, aPut, aFill, ↓reduceIte, Nat.reduceEqDiff, Nat.reduceAdd, Nat.reduceLeDiff, reduceCtorEq, Int.reduceEq, Int.reduceLT, Int.reduceLE, Int.reduceNeg, Int.reduceAdd, Int.reduceSub, Int.reduceToNat, wrap_succ (i := i) (by omega)]) | (refine AWP_cond_false ?_ ?_; · simp only [SS, argList, aPut, aFill, ↓reduceIte, Nat.reduceEqDiff, Nat.reduceAdd, Nat.reduceLeDiff, reduceCtorEq, Int.reduceEq, Int.reduceLT, Int.reduceLE, Int.reduceNeg, Int.reduceAdd, Int.reduceSub, Int.reduceToNat, wrap_succ (i := i) (by omega)])); try simp only [SS, argList, aPut, aFill, ↓reduceIte, Nat.reduceEqDiff, Nat.reduceAdd, Nat.reduceLeDiff, reduceCtorEq, Int.reduceEq, Int.reduceLT, Int.reduceLE, Int.reduceNeg, Int.reduceAdd, Int.reduceSub, Int.reduceToNat, wrap_succ (i := i) (by omega)])
      refine ⟨(v', i + 1), rfl, ⟨by simp only; omega, _, ⟨hG3, fun e he => ?_⟩, by simp [hel]⟩, by simp only; omega⟩
      rcases List.mem_append.1 he with he | he
      · obtain ⟨x1, x2, x3, x4, w', n, rfl, ho, hn⟩ := hN.each e he
        refine ⟨x1, x2, x3, x4, w', n, rfl, ?_, hn⟩
        have ho2 := (ho.kp hk2).kp (.pushed t2 (.cells 78 0 5 [[.str c.name, .str c.data, .int .i64 c.tag, .int .i64 c.ps, w]]))
        refine ho2.keep fun j hj => hsame j (ho2.lt hj) fun hm => ?_
        obtain ⟨_, _, e1⟩ := ho.ty hj
        obtain ⟨_, _, e2⟩ := hG.sl.ids hm
        rw [e1] at e2
        simp at e2
      · simp at he
        subst he
        exact ⟨_, _, _, _, w, _, rfl, hO3, by have := (hsm c hcm).1; omega⟩
    · have hil' : ¬ (i : Int) < (T.cs.length : Int) := by omega
      try simp only [SS, argList, aPut, aFill, ↓reduceIte, Nat.reduceEqDiff, Nat.reduceAdd, Nat.reduceLeDiff, reduceCtorEq, Int.reduceEq, Int.reduceLT, Int.reduceLE, Int.reduceNeg, Int.reduceAdd, Int.reduceSub, Int.reduceToNat, hil']
      repeat ((with_reducible first | refine AWP_seq ?_ | refine AWP_block ?_ | refine AWP_scope ?_ | refine AWP_reg ?_ | refine AWP_draw ?_ | refine AWP_skip ?_ | refine AWP_ret ?_ | refine AWP_exit ?_ | (refine AWP_cond_true ?_ ?_; · simp only [SS, argList, aPut, aFill, ↓reduceIte, Nat.reduceEqDiff, Nat.reduceAdd, Nat.reduceLeDiff, reduceCtorEq, Int.reduceEq, Int.reduceLT, Int.reduceLE, Int.reduceNeg, Int.reduceAdd, Int.reduceSub, Int.reduceToNat, hil']) | (refine AWP_cond_false ?_ ?_; · simp only [SS, argList, aPut, aFill, ↓reduceIte, Nat.reduceEqDiff, Nat.reduceAdd, Nat.reduceLeDiff, reduceCtorEq, Int.reduceEq, Int.reduceLT, Int.reduceLE, Int.reduceNeg, Int.reduceAdd, Int.reduceSub, Int.reduceToNat, hil'])); try simp only [SS, argList, aPut, aFill, ↓reduceIte, Nat.reduceEqDiff, Nat.reduceAdd, Nat.reduceLeDiff, reduceCtorEq, Int.reduceEq, Int.reduceLT, Int.reduceLE, Int.reduceNeg, Int.reduceAdd, Int.reduceSub, Int.reduceToNat, hil'])
      exact ⟨es, hN, by omega⟩
end Go.Proofs.Ytoejjhehpbmgbaa
