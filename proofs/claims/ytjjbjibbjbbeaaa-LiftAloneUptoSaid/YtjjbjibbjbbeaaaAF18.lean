/- The law LiftAlone. -/
import Derived.Test.YtjjbjibbjbbeaaaAF17
import Derived.Test.YtjjbjibbjbbeaaaAFv2
set_option linter.unusedVariables false
set_option linter.unusedSimpArgs false
namespace Go.Proofs.Ytjjbjibbjbbeaaa
open Go.AL
set_option maxRecDepth 1000000 in
theorem known_run : saysF true (callF (tabOf tabL) (runF (tabOf tabL) 300) 18 [] 0 .nil) = true := by kernel_rfl
theorem known_ok (σ : Store) : ACalls Try.prog 18 [] σ fun r σ' => r = .bool true ∧ σ' = σ := ACalls_shut (ACalls_says tab_ok known_run) σ
theorem lift19' (ds : List (ByteArray × Cr)) (hb : bulkD ds ≤ 9000000) (σ : Store) :
    ACalls Try.prog 19 [.list (ds.map defC)] σ fun r σ' => (∃ b : Bool, r = .tuple [.list (if b then (liftAll ds).map supC else []), .int .i64 (if b then 0 else 1)] ∧ True) ∧ σ' = σ :=
  (lift19_ok ds hb σ).mono fun r s h => by
    rcases h with ⟨rfl | rfl, rfl⟩
    · exact ⟨⟨false, rfl, trivial⟩, rfl⟩
    · exact ⟨⟨true, rfl, trivial⟩, rfl⟩
theorem liftAll_len (ds : List (ByteArray × Cr)) : (liftAll ds).length = (rawAll ds).length := by
  induction ds with
  | nil => rfl
  | cons d r ih =>
    have e1 : liftAll (d :: r) = liftDef d ++ liftAll r := by simp [liftAll]
    have e2 : rawAll (d :: r) = rawDef d ++ rawAll r := by simp [rawAll]
    rw [e1, e2, List.length_append, List.length_append, ih, liftDef, rawDef]
    simp
theorem smallOne (d : ByteArray × Cr) (hb : bulkD [d] ≤ 1048576) (σ : Store) : ACalls Try.prog 16 [.list [defC d]] σ fun r σ' => (∃ b : Bool, r = .bool b ∧ True) ∧ σ' = σ := smallD_ok [d] hb σ
theorem law5 (ds : List (ByteArray × Cr)) (d : ByteArray × Cr) (hb : bulkD ds + bulkD [d] ≤ 1048576) (σ : Store) :
    ACalls Try.prog 5 [.list (ds.map defC), .agg (defC d)] σ fun r σ' => r = .bool true ∧ σ' = σ := by
  refine ACalls_fp (p := fun r => r = .bool true) ?_
  refine in5 (by simp) ?_
  unfold c5
  have hdl := lenD ds
  try simp only [SS, argList, aPut, aFill, ↓reduceIte, Nat.reduceEqDiff, Nat.reduceAdd, Nat.reduceLeDiff, reduceCtorEq, Int.reduceEq, Int.reduceLT, Int.reduceLE, Int.reduceNeg, Int.reduceAdd, Int.reduceSub, Int.reduceToNat]
  iterate 2 ((with_reducible first | refine AWP_seq ?_ | refine AWP_block ?_ | refine AWP_scope ?_ | refine AWP_reg ?_ | refine AWP_draw ?_ | refine AWP_skip ?_ | refine AWP_ret ?_ | refine AWP_exit ?_ | (refine AWP_cond_true ?_ ?_; · simp only [SS, argList, aPut, aFill, ↓reduceIte, Nat.reduceEqDiff, Nat.reduceAdd, Nat.reduceLeDiff, reduceCtorEq, Int.reduceEq, Int.reduceLT, Int.reduceLE, Int.reduceNeg, Int.reduceAdd, Int.reduceSub, Int.reduceToNat]) | (refine AWP_cond_false ?_ ?_; · simp only [SS, argList, aPut, aFill, ↓reduceIte, Nat.reduceEqDiff, Nat.reduceAdd, Nat.reduceLeDiff, reduceCtorEq, Int.reduceEq, Int.reduceLT, Int.reduceLE, Int.reduceNeg, Int.reduceAdd, Int.reduceSub, Int.reduceToNat])); try simp only [SS, argList, aPut, aFill, ↓reduceIte, Nat.reduceEqDiff, Nat.reduceAdd, Nat.reduceLeDiff, reduceCtorEq, Int.reduceEq, Int.reduceLT, Int.reduceLE, Int.reduceNeg, Int.reduceAdd, Int.reduceSub, Int.reduceToNat])
  generalize hs : Store.push _ _ = s1
  have k1 : Kp σ s1 := by rw [← hs]; exact .pushed _ _
  have he : s1.get σ.next = some (.cells 58 0 10 [defC d]) := by rw [← hs, defC_len]; simp [Store.push_get]
  clear hs
  have hdc := defC_len d
  have htk : List.take 10 (defC d) = defC d := List.take_of_length_le (by omega)
  refine AWP_cut [0, 3] (fun _ : Unit => [.list (ds.map defC), .ptr σ.next 0 0 0]) (fun _ s => s1 = s) ?_ ?_
  · try simp only [SS, argList, aPut, aFill, ↓reduceIte, Nat.reduceEqDiff, Nat.reduceAdd, Nat.reduceLeDiff, reduceCtorEq, Int.reduceEq, Int.reduceLT, Int.reduceLE, Int.reduceNeg, Int.reduceAdd, Int.reduceSub, Int.reduceToNat, he, hdc, htk, str_nil]
    repeat' ((with_reducible first | refine AWP_seq ?_ | refine AWP_block ?_ | refine AWP_scope ?_ | refine AWP_reg ?_ | refine AWP_draw ?_ | refine AWP_skip ?_ | refine AWP_ret ?_ | refine AWP_exit ?_ | (refine ok_idx (by first | assumption | omega) (fun b hb => ?_)) | (refine ok_iad (by first | assumption | omega) (fun x hx hxm => ?_)) | (refine And.intro (by omega) ?_) | (refine AWP_cond_true ?_ ?_; · simp only [SS, argList, aPut, aFill, ↓reduceIte, Nat.reduceEqDiff, Nat.reduceAdd, Nat.reduceLeDiff, reduceCtorEq, Int.reduceEq, Int.reduceLT, Int.reduceLE, Int.reduceNeg, Int.reduceAdd, Int.reduceSub, Int.reduceToNat, he, hdc, htk, str_nil, *]) | (refine AWP_cond_false ?_ ?_; · simp only [SS, argList, aPut, aFill, ↓reduceIte, Nat.reduceEqDiff, Nat.reduceAdd, Nat.reduceLeDiff, reduceCtorEq, Int.reduceEq, Int.reduceLT, Int.reduceLE, Int.reduceNeg, Int.reduceAdd, Int.reduceSub, Int.reduceToNat, he, hdc, htk, str_nil, *]) | (refine guardW_b (fun h => ?_) (fun h => ?_) <;> try simp only [dec_t, dec_f, not_t, not_f] at h) | (refine ePick_b (fun h => ?_) (fun h => ?_) <;> try simp only [dec_t, dec_f, not_t, not_f] at h) | (refine AWP_cond_b (by simp only [SS, argList, aPut, aFill, ↓reduceIte, Nat.reduceEqDiff, Nat.reduceAdd, Nat.reduceLeDiff, reduceCtorEq, Int.reduceEq, Int.reduceLT, Int.reduceLE, Int.reduceNeg, Int.reduceAdd, Int.reduceSub, Int.reduceToNat]; exact rfl) (fun h => ?_) (fun h => ?_) <;> try simp only [dec_t, dec_f, not_t, not_f] at h) | (refine (smallD_ok ds (by omega) _).mono ?_; rintro _ _ ⟨⟨b, rfl, hb⟩, rfl⟩) | (refine (smallOne d (by omega) _).mono ?_; rintro _ _ ⟨⟨b, rfl, hb⟩, rfl⟩) | (refine (known_ok _).mono ?_; rintro _ _ ⟨rfl, rfl⟩)) <;> (try simp only [SS, argList, aPut, aFill, ↓reduceIte, Nat.reduceEqDiff, Nat.reduceAdd, Nat.reduceLeDiff, reduceCtorEq, Int.reduceEq, Int.reduceLT, Int.reduceLE, Int.reduceNeg, Int.reduceAdd, Int.reduceSub, Int.reduceToNat, he, hdc, htk, str_nil, *]))
    all_goals first
      | exact FP.same k1 rfl (.bool _)
      | exact ⟨(), trivial⟩
  rintro _ _ rfl
  try simp only [SS, argList, aPut, aFill, ↓reduceIte, Nat.reduceEqDiff, Nat.reduceAdd, Nat.reduceLeDiff, reduceCtorEq, Int.reduceEq, Int.reduceLT, Int.reduceLE, Int.reduceNeg, Int.reduceAdd, Int.reduceSub, Int.reduceToNat]
  repeat ((with_reducible first | refine AWP_seq ?_ | refine AWP_block ?_ | refine AWP_scope ?_ | refine AWP_reg ?_ | refine AWP_draw ?_ | refine AWP_skip ?_ | refine AWP_ret ?_ | refine AWP_exit ?_ | (refine AWP_cond_true ?_ ?_; · simp only [SS, argList, aPut, aFill, ↓reduceIte, Nat.reduceEqDiff, Nat.reduceAdd, Nat.reduceLeDiff, reduceCtorEq, Int.reduceEq, Int.reduceLT, Int.reduceLE, Int.reduceNeg, Int.reduceAdd, Int.reduceSub, Int.reduceToNat]) | (refine AWP_cond_false ?_ ?_; · simp only [SS, argList, aPut, aFill, ↓reduceIte, Nat.reduceEqDiff, Nat.reduceAdd, Nat.reduceLeDiff, reduceCtorEq, Int.reduceEq, Int.reduceLT, Int.reduceLE, Int.reduceNeg, Int.reduceAdd, Int.reduceSub, Int.reduceToNat])); try simp only [SS, argList, aPut, aFill, ↓reduceIte, Nat.reduceEqDiff, Nat.reduceAdd, Nat.reduceLeDiff, reduceCtorEq, Int.reduceEq, Int.reduceLT, Int.reduceLE, Int.reduceNeg, Int.reduceAdd, Int.reduceSub, Int.reduceToNat])
  refine (lift19' ds (by omega) _).mono ?_
  rintro _ _ ⟨⟨b1, rfl, -⟩, rfl⟩
  rename_i s1
  try simp only [SS, argList, aPut, aFill, ↓reduceIte, Nat.reduceEqDiff, Nat.reduceAdd, Nat.reduceLeDiff, reduceCtorEq, Int.reduceEq, Int.reduceLT, Int.reduceLE, Int.reduceNeg, Int.reduceAdd, Int.reduceSub, Int.reduceToNat]
  repeat ((with_reducible first | refine AWP_seq ?_ | refine AWP_block ?_ | refine AWP_scope ?_ | refine AWP_reg ?_ | refine AWP_draw ?_ | refine AWP_skip ?_ | refine AWP_ret ?_ | refine AWP_exit ?_ | (refine AWP_cond_true ?_ ?_; · simp only [SS, argList, aPut, aFill, ↓reduceIte, Nat.reduceEqDiff, Nat.reduceAdd, Nat.reduceLeDiff, reduceCtorEq, Int.reduceEq, Int.reduceLT, Int.reduceLE, Int.reduceNeg, Int.reduceAdd, Int.reduceSub, Int.reduceToNat]) | (refine AWP_cond_false ?_ ?_; · simp only [SS, argList, aPut, aFill, ↓reduceIte, Nat.reduceEqDiff, Nat.reduceAdd, Nat.reduceLeDiff, reduceCtorEq, Int.reduceEq, Int.reduceLT, Int.reduceLE, Int.reduceNeg, Int.reduceAdd, Int.reduceSub, Int.reduceToNat])); try simp only [SS, argList, aPut, aFill, ↓reduceIte, Nat.reduceEqDiff, Nat.reduceAdd, Nat.reduceLeDiff, reduceCtorEq, Int.reduceEq, Int.reduceLT, Int.reduceLE, Int.reduceNeg, Int.reduceAdd, Int.reduceSub, Int.reduceToNat])
  generalize hS1 : (if b1 = true then (liftAll ds).map supC else []) = S1
  generalize hN1 : (if b1 = true then (0 : Int) else 1) = N1
  refine AWP_while [0, 3, 5, 6, 7, 8] (fun y : AV × Nat => ds.length - y.2) (fun y => [.list (ds.map defC), .ptr σ.next 0 0 0, .list S1, .int .i64 N1, y.1, .int .i64 y.2])
    (fun y t => y.2 ≤ ds.length ∧ Grow s1 t y.1 58 10 ((ds.take y.2).map defC)) (.nils, 0) ⟨by simp, .start _ _ _⟩ ?_ ?_
  · try simp only [SS, argList, aPut, aFill, ↓reduceIte, Nat.reduceEqDiff, Nat.reduceAdd, Nat.reduceLeDiff, reduceCtorEq, Int.reduceEq, Int.reduceLT, Int.reduceLE, Int.reduceNeg, Int.reduceAdd, Int.reduceSub, Int.reduceToNat]
    repeat ((with_reducible first | refine AWP_seq ?_ | refine AWP_block ?_ | refine AWP_scope ?_ | refine AWP_reg ?_ | refine AWP_draw ?_ | refine AWP_skip ?_ | refine AWP_ret ?_ | refine AWP_exit ?_ | (refine AWP_cond_true ?_ ?_; · simp only [SS, argList, aPut, aFill, ↓reduceIte, Nat.reduceEqDiff, Nat.reduceAdd, Nat.reduceLeDiff, reduceCtorEq, Int.reduceEq, Int.reduceLT, Int.reduceLE, Int.reduceNeg, Int.reduceAdd, Int.reduceSub, Int.reduceToNat]) | (refine AWP_cond_false ?_ ?_; · simp only [SS, argList, aPut, aFill, ↓reduceIte, Nat.reduceEqDiff, Nat.reduceAdd, Nat.reduceLeDiff, reduceCtorEq, Int.reduceEq, Int.reduceLT, Int.reduceLE, Int.reduceNeg, Int.reduceAdd, Int.reduceSub, Int.reduceToNat])); try simp only [SS, argList, aPut, aFill, ↓reduceIte, Nat.reduceEqDiff, Nat.reduceAdd, Nat.reduceLeDiff, reduceCtorEq, Int.reduceEq, Int.reduceLT, Int.reduceLE, Int.reduceNeg, Int.reduceAdd, Int.reduceSub, Int.reduceToNat])
    rfl
  rintro ⟨v, i⟩ s ⟨hi, hG⟩
  simp only at hi hG
  have hw := wrap_succ (i := i) (by omega)
  by_cases hil : i < ds.length
  · have hil' : (i : Int) < (ds.length : Int) := by omega
    obtain ⟨x, hx⟩ : ∃ x, ds[i]? = some x := ⟨_, List.getElem?_eq_getElem hil⟩
    have hg : (ds.map defC)[i]? = some (defC x) := by simp [hx]
    have hxl := defC_len x
    have hxt : List.take 10 (defC x) = defC x := List.take_of_length_le (by omega)
    try simp only [SS, argList, aPut, aFill, ↓reduceIte, Nat.reduceEqDiff, Nat.reduceAdd, Nat.reduceLeDiff, reduceCtorEq, Int.reduceEq, Int.reduceLT, Int.reduceLE, Int.reduceNeg, Int.reduceAdd, Int.reduceSub, Int.reduceToNat, hil', hg, hxl, hxt]
    repeat ((with_reducible first | refine AWP_seq ?_ | refine AWP_block ?_ | refine AWP_scope ?_ | refine AWP_reg ?_ | refine AWP_draw ?_ | refine AWP_skip ?_ | refine AWP_ret ?_ | refine AWP_exit ?_ | (refine AWP_cond_true ?_ ?_; · simp only [SS, argList, aPut, aFill, ↓reduceIte, Nat.reduceEqDiff, Nat.reduceAdd, Nat.reduceLeDiff, reduceCtorEq, Int.reduceEq, Int.reduceLT, Int.reduceLE, Int.reduceNeg, Int.reduceAdd, Int.reduceSub, Int.reduceToNat, hil', hg, hxl, hxt]) | (refine AWP_cond_false ?_ ?_; · simp only [SS, argList, aPut, aFill, ↓reduceIte, Nat.reduceEqDiff, Nat.reduceAdd, Nat.reduceLeDiff, reduceCtorEq, Int.reduceEq, Int.reduceLT, Int.reduceLE, Int.reduceNeg, Int.reduceAdd, Int.reduceSub, Int.reduceToNat, hil', hg, hxl, hxt])); try simp only [SS, argList, aPut, aFill, ↓reduceIte, Nat.reduceEqDiff, Nat.reduceAdd, Nat.reduceLeDiff, reduceCtorEq, Int.reduceEq, Int.reduceLT, Int.reduceLE, Int.reduceNeg, Int.reduceAdd, Int.reduceSub, Int.reduceToNat, hil', hg, hxl, hxt])
    refine ok_grow hG (es2 := [defC x]) (by simp [defC_len]) (by simp; omega) (by simp [maxLen]; omega) ?_
    intro v' t3 hG3 _ _
    try simp only [SS, argList, aPut, aFill, ↓reduceIte, Nat.reduceEqDiff, Nat.reduceAdd, Nat.reduceLeDiff, reduceCtorEq, Int.reduceEq, Int.reduceLT, Int.reduceLE, Int.reduceNeg, Int.reduceAdd, Int.reduceSub, Int.reduceToNat, hw]
    repeat ((with_reducible first | refine AWP_seq ?_ | refine AWP_block ?_ | refine AWP_scope ?_ | refine AWP_reg ?_ | refine AWP_draw ?_ | refine AWP_skip ?_ | refine AWP_ret ?_ | refine AWP_exit ?_ | (refine AWP_cond_true ?_ ?_; · simp only [SS, argList, aPut, aFill, ↓reduceIte, Nat.reduceEqDiff, Nat.reduceAdd, Nat.reduceLeDiff, reduceCtorEq, Int.reduceEq, Int.reduceLT, Int.reduceLE, Int.reduceNeg, Int.reduceAdd, Int.reduceSub, Int.reduceToNat, hw]) | (refine AWP_cond_false ?_ ?_; · simp only [SS, argList, aPut, aFill, ↓reduceIte, Nat.reduceEqDiff, Nat.reduceAdd, Nat.reduceLeDiff, reduceCtorEq, Int.reduceEq, Int.reduceLT, Int.reduceLE, Int.reduceNeg, Int.reduceAdd, Int.reduceSub, Int.reduceToNat, hw])); try simp only [SS, argList, aPut, aFill, ↓reduceIte, Nat.reduceEqDiff, Nat.reduceAdd, Nat.reduceLeDiff, reduceCtorEq, Int.reduceEq, Int.reduceLT, Int.reduceLE, Int.reduceNeg, Int.reduceAdd, Int.reduceSub, Int.reduceToNat, hw])
    refine ⟨(v', i + 1), rfl, ⟨by simp only; omega, ?_⟩, by simp only; omega⟩
    simp only [take_succ_at hx, List.map_append]; exact hG3
  have hil' : ¬ (i : Int) < (ds.length : Int) := by omega
  rw [List.take_of_length_le (by omega)] at hG
  have he2 := hG.kp.get he
  try simp only [SS, argList, aPut, aFill, ↓reduceIte, Nat.reduceEqDiff, Nat.reduceAdd, Nat.reduceLeDiff, reduceCtorEq, Int.reduceEq, Int.reduceLT, Int.reduceLE, Int.reduceNeg, Int.reduceAdd, Int.reduceSub, Int.reduceToNat, hil', he2, hdc, htk]
  repeat ((with_reducible first | refine AWP_seq ?_ | refine AWP_block ?_ | refine AWP_scope ?_ | refine AWP_reg ?_ | refine AWP_draw ?_ | refine AWP_skip ?_ | refine AWP_ret ?_ | refine AWP_exit ?_ | (refine AWP_cond_true ?_ ?_; · simp only [SS, argList, aPut, aFill, ↓reduceIte, Nat.reduceEqDiff, Nat.reduceAdd, Nat.reduceLeDiff, reduceCtorEq, Int.reduceEq, Int.reduceLT, Int.reduceLE, Int.reduceNeg, Int.reduceAdd, Int.reduceSub, Int.reduceToNat, hil', he2, hdc, htk]) | (refine AWP_cond_false ?_ ?_; · simp only [SS, argList, aPut, aFill, ↓reduceIte, Nat.reduceEqDiff, Nat.reduceAdd, Nat.reduceLeDiff, reduceCtorEq, Int.reduceEq, Int.reduceLT, Int.reduceLE, Int.reduceNeg, Int.reduceAdd, Int.reduceSub, Int.reduceToNat, hil', he2, hdc, htk])); try simp only [SS, argList, aPut, aFill, ↓reduceIte, Nat.reduceEqDiff, Nat.reduceAdd, Nat.reduceLeDiff, reduceCtorEq, Int.reduceEq, Int.reduceLT, Int.reduceLE, Int.reduceNeg, Int.reduceAdd, Int.reduceSub, Int.reduceToNat, hil', he2, hdc, htk])
  refine ok_grow hG (es2 := [defC d]) (by simp [defC_len]) (by simp; omega) (by simp [maxLen]; omega) ?_
  intro v' s3 hG3 _ _
  try simp only [SS, argList, aPut, aFill, ↓reduceIte, Nat.reduceEqDiff, Nat.reduceAdd, Nat.reduceLeDiff, reduceCtorEq, Int.reduceEq, Int.reduceLT, Int.reduceLE, Int.reduceNeg, Int.reduceAdd, Int.reduceSub, Int.reduceToNat]
  repeat ((with_reducible first | refine AWP_seq ?_ | refine AWP_block ?_ | refine AWP_scope ?_ | refine AWP_reg ?_ | refine AWP_draw ?_ | refine AWP_skip ?_ | refine AWP_ret ?_ | refine AWP_exit ?_ | (refine AWP_cond_true ?_ ?_; · simp only [SS, argList, aPut, aFill, ↓reduceIte, Nat.reduceEqDiff, Nat.reduceAdd, Nat.reduceLeDiff, reduceCtorEq, Int.reduceEq, Int.reduceLT, Int.reduceLE, Int.reduceNeg, Int.reduceAdd, Int.reduceSub, Int.reduceToNat]) | (refine AWP_cond_false ?_ ?_; · simp only [SS, argList, aPut, aFill, ↓reduceIte, Nat.reduceEqDiff, Nat.reduceAdd, Nat.reduceLeDiff, reduceCtorEq, Int.reduceEq, Int.reduceLT, Int.reduceLE, Int.reduceNeg, Int.reduceAdd, Int.reduceSub, Int.reduceToNat])); try simp only [SS, argList, aPut, aFill, ↓reduceIte, Nat.reduceEqDiff, Nat.reduceAdd, Nat.reduceLeDiff, reduceCtorEq, Int.reduceEq, Int.reduceLT, Int.reduceLE, Int.reduceNeg, Int.reduceAdd, Int.reduceSub, Int.reduceToNat])
  refine ACalls_frozeA hG3.sl (.cons .here .nil) fun s4 hn4 hg4 => ?_
  have k4 : Kp s1 s4 := ⟨by rw [hn4]; exact hG3.kp.next, fun j hj => by rw [hg4 j (fun hm => by have := hG3.fresh j hm; omega), hG3.kp.keep j hj]⟩
  have he4 := k4.get he
  have kk := k1.trans k4
  have hcat : ds.map defC ++ [defC d] = (ds ++ [d]).map defC := by simp
  rw [hcat]
  refine (lift19' (ds ++ [d]) (by rw [bulkD_app]; omega) _).mono ?_
  rintro _ _ ⟨⟨b2, rfl, -⟩, rfl⟩
  rename_i s4
  try simp only [SS, argList, aPut, aFill, ↓reduceIte, Nat.reduceEqDiff, Nat.reduceAdd, Nat.reduceLeDiff, reduceCtorEq, Int.reduceEq, Int.reduceLT, Int.reduceLE, Int.reduceNeg, Int.reduceAdd, Int.reduceSub, Int.reduceToNat]
  repeat ((with_reducible first | refine AWP_seq ?_ | refine AWP_block ?_ | refine AWP_scope ?_ | refine AWP_reg ?_ | refine AWP_draw ?_ | refine AWP_skip ?_ | refine AWP_ret ?_ | refine AWP_exit ?_ | (refine AWP_cond_true ?_ ?_; · simp only [SS, argList, aPut, aFill, ↓reduceIte, Nat.reduceEqDiff, Nat.reduceAdd, Nat.reduceLeDiff, reduceCtorEq, Int.reduceEq, Int.reduceLT, Int.reduceLE, Int.reduceNeg, Int.reduceAdd, Int.reduceSub, Int.reduceToNat]) | (refine AWP_cond_false ?_ ?_; · simp only [SS, argList, aPut, aFill, ↓reduceIte, Nat.reduceEqDiff, Nat.reduceAdd, Nat.reduceLeDiff, reduceCtorEq, Int.reduceEq, Int.reduceLT, Int.reduceLE, Int.reduceNeg, Int.reduceAdd, Int.reduceSub, Int.reduceToNat])); try simp only [SS, argList, aPut, aFill, ↓reduceIte, Nat.reduceEqDiff, Nat.reduceAdd, Nat.reduceLeDiff, reduceCtorEq, Int.reduceEq, Int.reduceLT, Int.reduceLE, Int.reduceNeg, Int.reduceAdd, Int.reduceSub, Int.reduceToNat])
  subst hS1 hN1
  cases b1 with
  | false =>
    try simp only [SS, argList, aPut, aFill, ↓reduceIte, Nat.reduceEqDiff, Nat.reduceAdd, Nat.reduceLeDiff, reduceCtorEq, Int.reduceEq, Int.reduceLT, Int.reduceLE, Int.reduceNeg, Int.reduceAdd, Int.reduceSub, Int.reduceToNat, str_nil]
    repeat' ((with_reducible first | refine AWP_seq ?_ | refine AWP_block ?_ | refine AWP_scope ?_ | refine AWP_reg ?_ | refine AWP_draw ?_ | refine AWP_skip ?_ | refine AWP_ret ?_ | refine AWP_exit ?_ | (refine ok_idx (by first | assumption | omega) (fun b hb => ?_)) | (refine ok_iad (by first | assumption | omega) (fun x hx hxm => ?_)) | (refine And.intro (by omega) ?_) | (refine AWP_cond_true ?_ ?_; · simp only [SS, argList, aPut, aFill, ↓reduceIte, Nat.reduceEqDiff, Nat.reduceAdd, Nat.reduceLeDiff, reduceCtorEq, Int.reduceEq, Int.reduceLT, Int.reduceLE, Int.reduceNeg, Int.reduceAdd, Int.reduceSub, Int.reduceToNat, str_nil, *]) | (refine AWP_cond_false ?_ ?_; · simp only [SS, argList, aPut, aFill, ↓reduceIte, Nat.reduceEqDiff, Nat.reduceAdd, Nat.reduceLeDiff, reduceCtorEq, Int.reduceEq, Int.reduceLT, Int.reduceLE, Int.reduceNeg, Int.reduceAdd, Int.reduceSub, Int.reduceToNat, str_nil, *]) | (refine guardW_b (fun h => ?_) (fun h => ?_) <;> try simp only [dec_t, dec_f, not_t, not_f] at h) | (refine ePick_b (fun h => ?_) (fun h => ?_) <;> try simp only [dec_t, dec_f, not_t, not_f] at h) | (refine AWP_cond_b (by simp only [SS, argList, aPut, aFill, ↓reduceIte, Nat.reduceEqDiff, Nat.reduceAdd, Nat.reduceLeDiff, reduceCtorEq, Int.reduceEq, Int.reduceLT, Int.reduceLE, Int.reduceNeg, Int.reduceAdd, Int.reduceSub, Int.reduceToNat]; exact rfl) (fun h => ?_) (fun h => ?_) <;> try simp only [dec_t, dec_f, not_t, not_f] at h) | (refine (known_ok _).mono ?_; rintro _ _ ⟨rfl, rfl⟩)) <;> (try simp only [SS, argList, aPut, aFill, ↓reduceIte, Nat.reduceEqDiff, Nat.reduceAdd, Nat.reduceLeDiff, reduceCtorEq, Int.reduceEq, Int.reduceLT, Int.reduceLE, Int.reduceNeg, Int.reduceAdd, Int.reduceSub, Int.reduceToNat, str_nil, *]))
    exact FP.same kk rfl (.bool _)
  | true =>
  cases b2 with
  | false =>
    try simp only [SS, argList, aPut, aFill, ↓reduceIte, Nat.reduceEqDiff, Nat.reduceAdd, Nat.reduceLeDiff, reduceCtorEq, Int.reduceEq, Int.reduceLT, Int.reduceLE, Int.reduceNeg, Int.reduceAdd, Int.reduceSub, Int.reduceToNat, str_nil]
    repeat' ((with_reducible first | refine AWP_seq ?_ | refine AWP_block ?_ | refine AWP_scope ?_ | refine AWP_reg ?_ | refine AWP_draw ?_ | refine AWP_skip ?_ | refine AWP_ret ?_ | refine AWP_exit ?_ | (refine ok_idx (by first | assumption | omega) (fun b hb => ?_)) | (refine ok_iad (by first | assumption | omega) (fun x hx hxm => ?_)) | (refine And.intro (by omega) ?_) | (refine AWP_cond_true ?_ ?_; · simp only [SS, argList, aPut, aFill, ↓reduceIte, Nat.reduceEqDiff, Nat.reduceAdd, Nat.reduceLeDiff, reduceCtorEq, Int.reduceEq, Int.reduceLT, Int.reduceLE, Int.reduceNeg, Int.reduceAdd, Int.reduceSub, Int.reduceToNat, str_nil, *]) | (refine AWP_cond_false ?_ ?_; · simp only [SS, argList, aPut, aFill, ↓reduceIte, Nat.reduceEqDiff, Nat.reduceAdd, Nat.reduceLeDiff, reduceCtorEq, Int.reduceEq, Int.reduceLT, Int.reduceLE, Int.reduceNeg, Int.reduceAdd, Int.reduceSub, Int.reduceToNat, str_nil, *]) | (refine guardW_b (fun h => ?_) (fun h => ?_) <;> try simp only [dec_t, dec_f, not_t, not_f] at h) | (refine ePick_b (fun h => ?_) (fun h => ?_) <;> try simp only [dec_t, dec_f, not_t, not_f] at h) | (refine AWP_cond_b (by simp only [SS, argList, aPut, aFill, ↓reduceIte, Nat.reduceEqDiff, Nat.reduceAdd, Nat.reduceLeDiff, reduceCtorEq, Int.reduceEq, Int.reduceLT, Int.reduceLE, Int.reduceNeg, Int.reduceAdd, Int.reduceSub, Int.reduceToNat]; exact rfl) (fun h => ?_) (fun h => ?_) <;> try simp only [dec_t, dec_f, not_t, not_f] at h) | (refine (known_ok _).mono ?_; rintro _ _ ⟨rfl, rfl⟩)) <;> (try simp only [SS, argList, aPut, aFill, ↓reduceIte, Nat.reduceEqDiff, Nat.reduceAdd, Nat.reduceLeDiff, reduceCtorEq, Int.reduceEq, Int.reduceLT, Int.reduceLE, Int.reduceNeg, Int.reduceAdd, Int.reduceSub, Int.reduceToNat, str_nil, *]))
    exact FP.same kk rfl (.bool _)
  | true =>
  have hsplit : liftAll (ds ++ [d]) = liftAll ds ++ liftDef d := by rw [liftAll_app]; simp [liftAll]
  obtain ⟨hd, tl, hhd, hnm⟩ : ∃ hd tl, liftDef d = hd :: tl ∧ hd.nm = d.1 := ⟨_, _, rfl, rfl⟩
  rw [hhd] at hsplit
  rw [hsplit]
  have hSl : (liftAll ds).length ≤ 100000000 := by rw [liftAll_len]; have := rawAll_len ds; omega
  generalize liftAll ds = S at hSl ⊢
  have h1 : (S.length : Int) < ((S ++ hd :: tl).length : Int) := by simp; omega
  have h2 : (S.length : Int) ≤ ((S ++ hd :: tl).length : Int) := by omega
  have hcut : (∀ q, q ∈ (S ++ hd :: tl).map supC → q.length = 11) = True := eq_true fun q hq => by obtain ⟨y, _, rfl⟩ := List.mem_map.1 hq; exact supC_len y
  have htake : List.take S.length ((S ++ hd :: tl).map supC) = S.map supC := by rw [List.map_append, List.take_append_of_le_length (by simp), List.take_of_length_le (by simp)]
  have hat : ((S ++ hd :: tl).map supC)[S.length]? = some (supC hd) := by simp
  have hsl := supC_len hd
  have hs0 : (supC hd)[0]? = some (.str d.1) := by rw [supC, hnm]; rfl
  have hd0 : (defC d)[0]? = some (.str d.1) := rfl
  try simp only [SS, argList, aPut, aFill, ↓reduceIte, Nat.reduceEqDiff, Nat.reduceAdd, Nat.reduceLeDiff, reduceCtorEq, Int.reduceEq, Int.reduceLT, Int.reduceLE, Int.reduceNeg, Int.reduceAdd, Int.reduceSub, Int.reduceToNat, h1, h2, hcut, htake, hat, hsl, hs0, hd0, he4, str_nil]
  repeat' ((with_reducible first | refine AWP_seq ?_ | refine AWP_block ?_ | refine AWP_scope ?_ | refine AWP_reg ?_ | refine AWP_draw ?_ | refine AWP_skip ?_ | refine AWP_ret ?_ | refine AWP_exit ?_ | (refine ok_idx (by first | assumption | omega) (fun b hb => ?_)) | (refine ok_iad (by first | assumption | omega) (fun x hx hxm => ?_)) | (refine And.intro (by omega) ?_) | (refine AWP_cond_true ?_ ?_; · simp only [SS, argList, aPut, aFill, ↓reduceIte, Nat.reduceEqDiff, Nat.reduceAdd, Nat.reduceLeDiff, reduceCtorEq, Int.reduceEq, Int.reduceLT, Int.reduceLE, Int.reduceNeg, Int.reduceAdd, Int.reduceSub, Int.reduceToNat, h1, h2, hcut, htake, hat, hsl, hs0, hd0, he4, str_nil, *]) | (refine AWP_cond_false ?_ ?_; · simp only [SS, argList, aPut, aFill, ↓reduceIte, Nat.reduceEqDiff, Nat.reduceAdd, Nat.reduceLeDiff, reduceCtorEq, Int.reduceEq, Int.reduceLT, Int.reduceLE, Int.reduceNeg, Int.reduceAdd, Int.reduceSub, Int.reduceToNat, h1, h2, hcut, htake, hat, hsl, hs0, hd0, he4, str_nil, *]) | (refine guardW_b (fun h => ?_) (fun h => ?_) <;> try simp only [dec_t, dec_f, not_t, not_f] at h) | (refine ePick_b (fun h => ?_) (fun h => ?_) <;> try simp only [dec_t, dec_f, not_t, not_f] at h) | (refine AWP_cond_b (by simp only [SS, argList, aPut, aFill, ↓reduceIte, Nat.reduceEqDiff, Nat.reduceAdd, Nat.reduceLeDiff, reduceCtorEq, Int.reduceEq, Int.reduceLT, Int.reduceLE, Int.reduceNeg, Int.reduceAdd, Int.reduceSub, Int.reduceToNat]; exact rfl) (fun h => ?_) (fun h => ?_) <;> try simp only [dec_t, dec_f, not_t, not_f] at h) | (refine (defs_ok S hSl _).mono ?_; rintro _ _ ⟨rfl, rfl⟩) | (refine (sameDefs_ok _ (by simp; omega) _).mono ?_; rintro _ _ ⟨rfl, rfl⟩) | (refine (known_ok _).mono ?_; rintro _ _ ⟨rfl, rfl⟩)) <;> (try simp only [SS, argList, aPut, aFill, ↓reduceIte, Nat.reduceEqDiff, Nat.reduceAdd, Nat.reduceLeDiff, reduceCtorEq, Int.reduceEq, Int.reduceLT, Int.reduceLE, Int.reduceNeg, Int.reduceAdd, Int.reduceSub, Int.reduceToNat, h1, h2, hcut, htake, hat, hsl, hs0, hd0, he4, str_nil, *]))
  exact FP.same kk rfl (.bool _)
end Go.Proofs.Ytjjbjibbjbbeaaa
