/- Definitions of supercombinators; definitions are the same as themselves; which are small. -/
import Derived.Test.YtjjbjibbjbbeaaaAF16
set_option linter.unusedVariables false
set_option linter.unusedSimpArgs false
namespace Go.AL
def defOf (p : Sup) : ByteArray × Cr := (p.nm, if (0 : Int) < (p.ps.length : Int) then .mk 6 ⟨#[]⟩ 0 0 p.ps [p.bd] [] [] [] else p.bd)
def rawD (p : Sup) : List AV := .str p.nm :: (if (0 : Int) < (p.ps.length : Int) then [.int .i64 6, .str ⟨#[]⟩, .int .i64 0, .int .i64 0, strs p.ps, .list [p.bd.cells], .nils, .nils, .nils] else p.bd.cells)
theorem leD_rawD (p : Sup) : LeDL (rawD p) (defC (defOf p)) := by
  unfold rawD defC defOf
  by_cases h : (0 : Int) < (p.ps.length : Int)
  · simp only [if_pos h, Cr.cells_eq]
    exact .cons (.refl _) (.cons (.refl _) (.cons (.refl _) (.cons (.refl _) (.cons (.refl _) (.cons (.refl _) (.cons (.refl _) (.cons .nil (.cons .nil (.cons .nil .nil)))))))))
  · simp only [if_neg h]
    exact .cons (.refl _) (LeDL.rf _)
theorem rawD_len (p : Sup) : (rawD p).length = 10 := by
  unfold rawD; split <;> simp [Cr.len]
theorem leDE_map {α : Type} {f g : α → List AV} (h : ∀ x, LeDL (f x) (g x)) : ∀ l : List α, LeDE (l.map f) (l.map g)
  | [] => .nil
  | x :: r => .cons (h x) (leDE_map h r)
theorem rawD_cln {n : Nat} (p : Sup) : ∀ c, c ∈ rawD p → Cln n c := by
  intro c hc
  unfold rawD at hc
  rcases List.mem_cons.1 hc with rfl | hc
  · exact .str _
  · split at hc
    · simp only [List.mem_cons, List.not_mem_nil, or_false] at hc
      rcases hc with rfl | rfl | rfl | rfl | rfl | rfl | rfl | rfl | rfl
      · exact .int _ _
      · exact .str _
      · exact .int _ _
      · exact .int _ _
      · exact cln_strs _
      · refine .list' fun e he c hc => ?_
        simp at he; subst he
        exact p.bd.cln c hc
      · exact .nils
      · exact .nils
      · exact .nils
    · exact p.bd.cln c hc
end Go.AL
namespace Go.Proofs.Ytjjbjibbjbbeaaa
open Go.AL
theorem defsRaw_ok (l : List Sup) (hl : l.length ≤ 100000000) (σ : Store) : ACalls Try.prog 22 [.list (l.map supC)] σ fun r σ' => r = .list (l.map rawD) ∧ σ' = σ := by
  refine ACalls_fp (p := fun r => r = .list (l.map rawD)) ?_
  refine in22 (by simp) ?_
  unfold c22
  try simp only [SS, argList, aPut, aFill, ↓reduceIte, Nat.reduceEqDiff, Nat.reduceAdd, Nat.reduceLeDiff, reduceCtorEq, Int.reduceEq, Int.reduceLT, Int.reduceLE, Int.reduceNeg, Int.reduceAdd, Int.reduceSub, Int.reduceToNat]
  repeat ((with_reducible first | refine AWP_seq ?_ | refine AWP_block ?_ | refine AWP_scope ?_ | refine AWP_reg ?_ | refine AWP_draw ?_ | refine AWP_skip ?_ | refine AWP_ret ?_ | refine AWP_exit ?_ | (refine AWP_cond_true ?_ ?_; · simp only [SS, argList, aPut, aFill, ↓reduceIte, Nat.reduceEqDiff, Nat.reduceAdd, Nat.reduceLeDiff, reduceCtorEq, Int.reduceEq, Int.reduceLT, Int.reduceLE, Int.reduceNeg, Int.reduceAdd, Int.reduceSub, Int.reduceToNat]) | (refine AWP_cond_false ?_ ?_; · simp only [SS, argList, aPut, aFill, ↓reduceIte, Nat.reduceEqDiff, Nat.reduceAdd, Nat.reduceLeDiff, reduceCtorEq, Int.reduceEq, Int.reduceLT, Int.reduceLE, Int.reduceNeg, Int.reduceAdd, Int.reduceSub, Int.reduceToNat])); try simp only [SS, argList, aPut, aFill, ↓reduceIte, Nat.reduceEqDiff, Nat.reduceAdd, Nat.reduceLeDiff, reduceCtorEq, Int.reduceEq, Int.reduceLT, Int.reduceLE, Int.reduceNeg, Int.reduceAdd, Int.reduceSub, Int.reduceToNat])
  refine AWP_while [0, 3, 4] (fun y : AV × Nat => l.length - y.2) (fun y => [.list (l.map supC), y.1, .int .i64 y.2])
    (fun y t => y.2 ≤ l.length ∧ Grow σ t y.1 58 10 ((l.take y.2).map rawD)) (.nils, 0) ⟨by simp, .start _ _ _⟩ ?_ ?_
  · try simp only [SS, argList, aPut, aFill, ↓reduceIte, Nat.reduceEqDiff, Nat.reduceAdd, Nat.reduceLeDiff, reduceCtorEq, Int.reduceEq, Int.reduceLT, Int.reduceLE, Int.reduceNeg, Int.reduceAdd, Int.reduceSub, Int.reduceToNat]
    repeat ((with_reducible first | refine AWP_seq ?_ | refine AWP_block ?_ | refine AWP_scope ?_ | refine AWP_reg ?_ | refine AWP_draw ?_ | refine AWP_skip ?_ | refine AWP_ret ?_ | refine AWP_exit ?_ | (refine AWP_cond_true ?_ ?_; · simp only [SS, argList, aPut, aFill, ↓reduceIte, Nat.reduceEqDiff, Nat.reduceAdd, Nat.reduceLeDiff, reduceCtorEq, Int.reduceEq, Int.reduceLT, Int.reduceLE, Int.reduceNeg, Int.reduceAdd, Int.reduceSub, Int.reduceToNat]) | (refine AWP_cond_false ?_ ?_; · simp only [SS, argList, aPut, aFill, ↓reduceIte, Nat.reduceEqDiff, Nat.reduceAdd, Nat.reduceLeDiff, reduceCtorEq, Int.reduceEq, Int.reduceLT, Int.reduceLE, Int.reduceNeg, Int.reduceAdd, Int.reduceSub, Int.reduceToNat])); try simp only [SS, argList, aPut, aFill, ↓reduceIte, Nat.reduceEqDiff, Nat.reduceAdd, Nat.reduceLeDiff, reduceCtorEq, Int.reduceEq, Int.reduceLT, Int.reduceLE, Int.reduceNeg, Int.reduceAdd, Int.reduceSub, Int.reduceToNat])
    rfl
  rintro ⟨v, i⟩ t ⟨hi, hG⟩
  simp only at hi hG
  have hw := wrap_succ (i := i) (by omega)
  by_cases hil : i < l.length
  · have hil' : (i : Int) < (l.length : Int) := by omega
    obtain ⟨x, hx⟩ : ∃ x, l[i]? = some x := ⟨_, List.getElem?_eq_getElem hil⟩
    have hg : (l.map supC)[i]? = some (supC x) := by simp [hx]
    by_cases hp : (0 : Int) < (x.ps.length : Int)
    · try simp only [SS, argList, aPut, aFill, ↓reduceIte, Nat.reduceEqDiff, Nat.reduceAdd, Nat.reduceLeDiff, reduceCtorEq, Int.reduceEq, Int.reduceLT, Int.reduceLE, Int.reduceNeg, Int.reduceAdd, Int.reduceSub, Int.reduceToNat, hil', hg, supC, Cr.len, Cr.take9, Cr.drop9, hp]
      repeat ((with_reducible first | refine AWP_seq ?_ | refine AWP_block ?_ | refine AWP_scope ?_ | refine AWP_reg ?_ | refine AWP_draw ?_ | refine AWP_skip ?_ | refine AWP_ret ?_ | refine AWP_exit ?_ | (refine AWP_cond_true ?_ ?_; · simp only [SS, argList, aPut, aFill, ↓reduceIte, Nat.reduceEqDiff, Nat.reduceAdd, Nat.reduceLeDiff, reduceCtorEq, Int.reduceEq, Int.reduceLT, Int.reduceLE, Int.reduceNeg, Int.reduceAdd, Int.reduceSub, Int.reduceToNat, hil', hg, supC, Cr.len, Cr.take9, Cr.drop9, hp]) | (refine AWP_cond_false ?_ ?_; · simp only [SS, argList, aPut, aFill, ↓reduceIte, Nat.reduceEqDiff, Nat.reduceAdd, Nat.reduceLeDiff, reduceCtorEq, Int.reduceEq, Int.reduceLT, Int.reduceLE, Int.reduceNeg, Int.reduceAdd, Int.reduceSub, Int.reduceToNat, hil', hg, supC, Cr.len, Cr.take9, Cr.drop9, hp])); try simp only [SS, argList, aPut, aFill, ↓reduceIte, Nat.reduceEqDiff, Nat.reduceAdd, Nat.reduceLeDiff, reduceCtorEq, Int.reduceEq, Int.reduceLT, Int.reduceLE, Int.reduceNeg, Int.reduceAdd, Int.reduceSub, Int.reduceToNat, hil', hg, supC, Cr.len, Cr.take9, Cr.drop9, hp])
      have hr : rawD x = [.str x.nm, .int .i64 6, .str ⟨#[]⟩, .int .i64 0, .int .i64 0, strs x.ps, .list [x.bd.cells], .nils, .nils, .nils] := by simp only [rawD, if_pos hp]
      rw [← hr]
      refine ok_grow (hG.push _) (es2 := [rawD x]) (by simp [rawD_len]) (by simp; omega) (by simp [maxLen]; omega) ?_
      intro v' t3 hG3 _ _
      try simp only [SS, argList, aPut, aFill, ↓reduceIte, Nat.reduceEqDiff, Nat.reduceAdd, Nat.reduceLeDiff, reduceCtorEq, Int.reduceEq, Int.reduceLT, Int.reduceLE, Int.reduceNeg, Int.reduceAdd, Int.reduceSub, Int.reduceToNat, hw]
      repeat ((with_reducible first | refine AWP_seq ?_ | refine AWP_block ?_ | refine AWP_scope ?_ | refine AWP_reg ?_ | refine AWP_draw ?_ | refine AWP_skip ?_ | refine AWP_ret ?_ | refine AWP_exit ?_ | (refine AWP_cond_true ?_ ?_; · simp only [SS, argList, aPut, aFill, ↓reduceIte, Nat.reduceEqDiff, Nat.reduceAdd, Nat.reduceLeDiff, reduceCtorEq, Int.reduceEq, Int.reduceLT, Int.reduceLE, Int.reduceNeg, Int.reduceAdd, Int.reduceSub, Int.reduceToNat, hw]) | (refine AWP_cond_false ?_ ?_; · simp only [SS, argList, aPut, aFill, ↓reduceIte, Nat.reduceEqDiff, Nat.reduceAdd, Nat.reduceLeDiff, reduceCtorEq, Int.reduceEq, Int.reduceLT, Int.reduceLE, Int.reduceNeg, Int.reduceAdd, Int.reduceSub, Int.reduceToNat, hw])); try simp only [SS, argList, aPut, aFill, ↓reduceIte, Nat.reduceEqDiff, Nat.reduceAdd, Nat.reduceLeDiff, reduceCtorEq, Int.reduceEq, Int.reduceLT, Int.reduceLE, Int.reduceNeg, Int.reduceAdd, Int.reduceSub, Int.reduceToNat, hw])
      refine ⟨(v', i + 1), rfl, ⟨by simp only; omega, ?_⟩, by simp only; omega⟩
      simp only [take_succ_at hx, List.map_append]; exact hG3
    · try simp only [SS, argList, aPut, aFill, ↓reduceIte, Nat.reduceEqDiff, Nat.reduceAdd, Nat.reduceLeDiff, reduceCtorEq, Int.reduceEq, Int.reduceLT, Int.reduceLE, Int.reduceNeg, Int.reduceAdd, Int.reduceSub, Int.reduceToNat, hil', hg, supC, Cr.len, Cr.take9, Cr.drop9, hp]
      repeat ((with_reducible first | refine AWP_seq ?_ | refine AWP_block ?_ | refine AWP_scope ?_ | refine AWP_reg ?_ | refine AWP_draw ?_ | refine AWP_skip ?_ | refine AWP_ret ?_ | refine AWP_exit ?_ | (refine AWP_cond_true ?_ ?_; · simp only [SS, argList, aPut, aFill, ↓reduceIte, Nat.reduceEqDiff, Nat.reduceAdd, Nat.reduceLeDiff, reduceCtorEq, Int.reduceEq, Int.reduceLT, Int.reduceLE, Int.reduceNeg, Int.reduceAdd, Int.reduceSub, Int.reduceToNat, hil', hg, supC, Cr.len, Cr.take9, Cr.drop9, hp]) | (refine AWP_cond_false ?_ ?_; · simp only [SS, argList, aPut, aFill, ↓reduceIte, Nat.reduceEqDiff, Nat.reduceAdd, Nat.reduceLeDiff, reduceCtorEq, Int.reduceEq, Int.reduceLT, Int.reduceLE, Int.reduceNeg, Int.reduceAdd, Int.reduceSub, Int.reduceToNat, hil', hg, supC, Cr.len, Cr.take9, Cr.drop9, hp])); try simp only [SS, argList, aPut, aFill, ↓reduceIte, Nat.reduceEqDiff, Nat.reduceAdd, Nat.reduceLeDiff, reduceCtorEq, Int.reduceEq, Int.reduceLT, Int.reduceLE, Int.reduceNeg, Int.reduceAdd, Int.reduceSub, Int.reduceToNat, hil', hg, supC, Cr.len, Cr.take9, Cr.drop9, hp])
      have hr : rawD x = .str x.nm :: x.bd.cells := by simp only [rawD, if_neg hp]
      rw [← hr]
      refine ok_grow (hG.push _) (es2 := [rawD x]) (by simp [rawD_len]) (by simp; omega) (by simp [maxLen]; omega) ?_
      intro v' t3 hG3 _ _
      try simp only [SS, argList, aPut, aFill, ↓reduceIte, Nat.reduceEqDiff, Nat.reduceAdd, Nat.reduceLeDiff, reduceCtorEq, Int.reduceEq, Int.reduceLT, Int.reduceLE, Int.reduceNeg, Int.reduceAdd, Int.reduceSub, Int.reduceToNat, hw]
      repeat ((with_reducible first | refine AWP_seq ?_ | refine AWP_block ?_ | refine AWP_scope ?_ | refine AWP_reg ?_ | refine AWP_draw ?_ | refine AWP_skip ?_ | refine AWP_ret ?_ | refine AWP_exit ?_ | (refine AWP_cond_true ?_ ?_; · simp only [SS, argList, aPut, aFill, ↓reduceIte, Nat.reduceEqDiff, Nat.reduceAdd, Nat.reduceLeDiff, reduceCtorEq, Int.reduceEq, Int.reduceLT, Int.reduceLE, Int.reduceNeg, Int.reduceAdd, Int.reduceSub, Int.reduceToNat, hw]) | (refine AWP_cond_false ?_ ?_; · simp only [SS, argList, aPut, aFill, ↓reduceIte, Nat.reduceEqDiff, Nat.reduceAdd, Nat.reduceLeDiff, reduceCtorEq, Int.reduceEq, Int.reduceLT, Int.reduceLE, Int.reduceNeg, Int.reduceAdd, Int.reduceSub, Int.reduceToNat, hw])); try simp only [SS, argList, aPut, aFill, ↓reduceIte, Nat.reduceEqDiff, Nat.reduceAdd, Nat.reduceLeDiff, reduceCtorEq, Int.reduceEq, Int.reduceLT, Int.reduceLE, Int.reduceNeg, Int.reduceAdd, Int.reduceSub, Int.reduceToNat, hw])
      refine ⟨(v', i + 1), rfl, ⟨by simp only; omega, ?_⟩, by simp only; omega⟩
      simp only [take_succ_at hx, List.map_append]; exact hG3
  · have hil' : ¬ (i : Int) < (l.length : Int) := by omega
    rw [List.take_of_length_le (by omega)] at hG
    try simp only [SS, argList, aPut, aFill, ↓reduceIte, Nat.reduceEqDiff, Nat.reduceAdd, Nat.reduceLeDiff, reduceCtorEq, Int.reduceEq, Int.reduceLT, Int.reduceLE, Int.reduceNeg, Int.reduceAdd, Int.reduceSub, Int.reduceToNat, hil']
    repeat ((with_reducible first | refine AWP_seq ?_ | refine AWP_block ?_ | refine AWP_scope ?_ | refine AWP_reg ?_ | refine AWP_draw ?_ | refine AWP_skip ?_ | refine AWP_ret ?_ | refine AWP_exit ?_ | (refine AWP_cond_true ?_ ?_; · simp only [SS, argList, aPut, aFill, ↓reduceIte, Nat.reduceEqDiff, Nat.reduceAdd, Nat.reduceLeDiff, reduceCtorEq, Int.reduceEq, Int.reduceLT, Int.reduceLE, Int.reduceNeg, Int.reduceAdd, Int.reduceSub, Int.reduceToNat, hil']) | (refine AWP_cond_false ?_ ?_; · simp only [SS, argList, aPut, aFill, ↓reduceIte, Nat.reduceEqDiff, Nat.reduceAdd, Nat.reduceLeDiff, reduceCtorEq, Int.reduceEq, Int.reduceLT, Int.reduceLE, Int.reduceNeg, Int.reduceAdd, Int.reduceSub, Int.reduceToNat, hil'])); try simp only [SS, argList, aPut, aFill, ↓reduceIte, Nat.reduceEqDiff, Nat.reduceAdd, Nat.reduceLeDiff, reduceCtorEq, Int.reduceEq, Int.reduceLT, Int.reduceLE, Int.reduceNeg, Int.reduceAdd, Int.reduceSub, Int.reduceToNat, hil'])
    refine FP.mk (.list (l.map rawD)) hG.sl .here rfl (.list' fun e he c hc => ?_) hG.kp hG.fresh
    obtain ⟨y, _, rfl⟩ := List.mem_map.1 he
    exact rawD_cln y c hc
theorem defs_ok (l : List Sup) (hl : l.length ≤ 100000000) (σ : Store) : ACalls Try.prog 22 [.list (l.map supC)] σ fun r σ' => r = .list ((l.map defOf).map defC) ∧ σ' = σ := by
  refine ACalls_leD ((defsRaw_ok l hl σ).mono ?_)
  rintro _ _ ⟨rfl, rfl⟩
  refine ⟨_, .list (leDE_map leD_rawD l), ?_, rfl⟩
  simp
theorem sameDefs_ok (l : List (ByteArray × Cr)) (hl : l.length ≤ 100000000) (σ : Store) : ACalls Try.prog 24 [.list (l.map defC), .list (l.map defC)] σ fun r σ' => r = .bool true ∧ σ' = σ := by
  refine in24 (by simp) ?_
  unfold c24
  try simp only [SS, argList, aPut, aFill, ↓reduceIte, Nat.reduceEqDiff, Nat.reduceAdd, Nat.reduceLeDiff, reduceCtorEq, Int.reduceEq, Int.reduceLT, Int.reduceLE, Int.reduceNeg, Int.reduceAdd, Int.reduceSub, Int.reduceToNat]
  repeat ((with_reducible first | refine AWP_seq ?_ | refine AWP_block ?_ | refine AWP_scope ?_ | refine AWP_reg ?_ | refine AWP_draw ?_ | refine AWP_skip ?_ | refine AWP_ret ?_ | refine AWP_exit ?_ | (refine AWP_cond_true ?_ ?_; · simp only [SS, argList, aPut, aFill, ↓reduceIte, Nat.reduceEqDiff, Nat.reduceAdd, Nat.reduceLeDiff, reduceCtorEq, Int.reduceEq, Int.reduceLT, Int.reduceLE, Int.reduceNeg, Int.reduceAdd, Int.reduceSub, Int.reduceToNat]) | (refine AWP_cond_false ?_ ?_; · simp only [SS, argList, aPut, aFill, ↓reduceIte, Nat.reduceEqDiff, Nat.reduceAdd, Nat.reduceLeDiff, reduceCtorEq, Int.reduceEq, Int.reduceLT, Int.reduceLE, Int.reduceNeg, Int.reduceAdd, Int.reduceSub, Int.reduceToNat])); try simp only [SS, argList, aPut, aFill, ↓reduceIte, Nat.reduceEqDiff, Nat.reduceAdd, Nat.reduceLeDiff, reduceCtorEq, Int.reduceEq, Int.reduceLT, Int.reduceLE, Int.reduceNeg, Int.reduceAdd, Int.reduceSub, Int.reduceToNat])
  refine AWP_while [0, 1, 5] (fun i : Nat => l.length - i) (fun i => [.list (l.map defC), .list (l.map defC), .int .i64 i])
    (fun i t => σ = t ∧ i ≤ l.length) 0 ⟨rfl, by simp⟩ ?_ ?_
  · try simp only [SS, argList, aPut, aFill, ↓reduceIte, Nat.reduceEqDiff, Nat.reduceAdd, Nat.reduceLeDiff, reduceCtorEq, Int.reduceEq, Int.reduceLT, Int.reduceLE, Int.reduceNeg, Int.reduceAdd, Int.reduceSub, Int.reduceToNat]
    repeat ((with_reducible first | refine AWP_seq ?_ | refine AWP_block ?_ | refine AWP_scope ?_ | refine AWP_reg ?_ | refine AWP_draw ?_ | refine AWP_skip ?_ | refine AWP_ret ?_ | refine AWP_exit ?_ | (refine AWP_cond_true ?_ ?_; · simp only [SS, argList, aPut, aFill, ↓reduceIte, Nat.reduceEqDiff, Nat.reduceAdd, Nat.reduceLeDiff, reduceCtorEq, Int.reduceEq, Int.reduceLT, Int.reduceLE, Int.reduceNeg, Int.reduceAdd, Int.reduceSub, Int.reduceToNat]) | (refine AWP_cond_false ?_ ?_; · simp only [SS, argList, aPut, aFill, ↓reduceIte, Nat.reduceEqDiff, Nat.reduceAdd, Nat.reduceLeDiff, reduceCtorEq, Int.reduceEq, Int.reduceLT, Int.reduceLE, Int.reduceNeg, Int.reduceAdd, Int.reduceSub, Int.reduceToNat])); try simp only [SS, argList, aPut, aFill, ↓reduceIte, Nat.reduceEqDiff, Nat.reduceAdd, Nat.reduceLeDiff, reduceCtorEq, Int.reduceEq, Int.reduceLT, Int.reduceLE, Int.reduceNeg, Int.reduceAdd, Int.reduceSub, Int.reduceToNat])
    rfl
  rintro i _ ⟨rfl, hi⟩
  have hw := wrap_succ (i := i) (by omega)
  by_cases hil : i < l.length
  · have hil' : (i : Int) < (l.length : Int) := by omega
    obtain ⟨x, hx⟩ : ∃ x, l[i]? = some x := ⟨_, List.getElem?_eq_getElem hil⟩
    have hg : (l.map defC)[i]? = some (defC x) := by simp [hx]
    try simp only [SS, argList, aPut, aFill, ↓reduceIte, Nat.reduceEqDiff, Nat.reduceAdd, Nat.reduceLeDiff, reduceCtorEq, Int.reduceEq, Int.reduceLT, Int.reduceLE, Int.reduceNeg, Int.reduceAdd, Int.reduceSub, Int.reduceToNat, hil', hg, defC, Cr.len, Cr.take9, str_nil]
    repeat' ((with_reducible first | refine AWP_seq ?_ | refine AWP_block ?_ | refine AWP_scope ?_ | refine AWP_reg ?_ | refine AWP_draw ?_ | refine AWP_skip ?_ | refine AWP_ret ?_ | refine AWP_exit ?_ | (refine ok_idx (by first | assumption | omega) (fun b hb => ?_)) | (refine ok_iad (by first | assumption | omega) (fun x hx hxm => ?_)) | (refine And.intro (by omega) ?_) | (refine AWP_cond_true ?_ ?_; · simp only [SS, argList, aPut, aFill, ↓reduceIte, Nat.reduceEqDiff, Nat.reduceAdd, Nat.reduceLeDiff, reduceCtorEq, Int.reduceEq, Int.reduceLT, Int.reduceLE, Int.reduceNeg, Int.reduceAdd, Int.reduceSub, Int.reduceToNat, hil', hg, defC, Cr.len, Cr.take9, str_nil, *]) | (refine AWP_cond_false ?_ ?_; · simp only [SS, argList, aPut, aFill, ↓reduceIte, Nat.reduceEqDiff, Nat.reduceAdd, Nat.reduceLeDiff, reduceCtorEq, Int.reduceEq, Int.reduceLT, Int.reduceLE, Int.reduceNeg, Int.reduceAdd, Int.reduceSub, Int.reduceToNat, hil', hg, defC, Cr.len, Cr.take9, str_nil, *]) | (refine guardW_b (fun h => ?_) (fun h => ?_) <;> try simp only [dec_t, dec_f, not_t, not_f] at h) | (refine ePick_b (fun h => ?_) (fun h => ?_) <;> try simp only [dec_t, dec_f, not_t, not_f] at h) | (refine AWP_cond_b (by simp only [SS, argList, aPut, aFill, ↓reduceIte, Nat.reduceEqDiff, Nat.reduceAdd, Nat.reduceLeDiff, reduceCtorEq, Int.reduceEq, Int.reduceLT, Int.reduceLE, Int.reduceNeg, Int.reduceAdd, Int.reduceSub, Int.reduceToNat]; exact rfl) (fun h => ?_) (fun h => ?_) <;> try simp only [dec_t, dec_f, not_t, not_f] at h) | (refine (same_ok _ _).mono ?_; rintro _ _ ⟨rfl, rfl⟩)) <;> (try simp only [SS, argList, aPut, aFill, ↓reduceIte, Nat.reduceEqDiff, Nat.reduceAdd, Nat.reduceLeDiff, reduceCtorEq, Int.reduceEq, Int.reduceLT, Int.reduceLE, Int.reduceNeg, Int.reduceAdd, Int.reduceSub, Int.reduceToNat, hil', hg, defC, Cr.len, Cr.take9, str_nil, *]))
    exact ⟨i + 1, rfl, by omega, by omega⟩
  · have hil' : ¬ (i : Int) < (l.length : Int) := by omega
    try simp only [SS, argList, aPut, aFill, ↓reduceIte, Nat.reduceEqDiff, Nat.reduceAdd, Nat.reduceLeDiff, reduceCtorEq, Int.reduceEq, Int.reduceLT, Int.reduceLE, Int.reduceNeg, Int.reduceAdd, Int.reduceSub, Int.reduceToNat, hil']
    repeat ((with_reducible first | refine AWP_seq ?_ | refine AWP_block ?_ | refine AWP_scope ?_ | refine AWP_reg ?_ | refine AWP_draw ?_ | refine AWP_skip ?_ | refine AWP_ret ?_ | refine AWP_exit ?_ | (refine AWP_cond_true ?_ ?_; · simp only [SS, argList, aPut, aFill, ↓reduceIte, Nat.reduceEqDiff, Nat.reduceAdd, Nat.reduceLeDiff, reduceCtorEq, Int.reduceEq, Int.reduceLT, Int.reduceLE, Int.reduceNeg, Int.reduceAdd, Int.reduceSub, Int.reduceToNat, hil']) | (refine AWP_cond_false ?_ ?_; · simp only [SS, argList, aPut, aFill, ↓reduceIte, Nat.reduceEqDiff, Nat.reduceAdd, Nat.reduceLeDiff, reduceCtorEq, Int.reduceEq, Int.reduceLT, Int.reduceLE, Int.reduceNeg, Int.reduceAdd, Int.reduceSub, Int.reduceToNat, hil'])); try simp only [SS, argList, aPut, aFill, ↓reduceIte, Nat.reduceEqDiff, Nat.reduceAdd, Nat.reduceLeDiff, reduceCtorEq, Int.reduceEq, Int.reduceLT, Int.reduceLE, Int.reduceNeg, Int.reduceAdd, Int.reduceSub, Int.reduceToNat, hil'])
theorem size' (x : Cr) (h : x.Sm) (σ : Store) : ACalls Try.prog 17 [.agg x.cells] σ fun r σ' => (∃ n : Int, r = .int .i64 n ∧ True) ∧ σ' = σ := (size_ok x h σ).mono fun r s ⟨⟨n, hn⟩, hs⟩ => ⟨⟨n, hn, trivial⟩, hs⟩
theorem smallD_ok (ds : List (ByteArray × Cr)) (hb : bulkD ds ≤ 1048576) (σ : Store) : ACalls Try.prog 16 [.list (ds.map defC)] σ fun r σ' => (∃ b : Bool, r = .bool b ∧ True) ∧ σ' = σ := by
  refine in16 (by simp) ?_
  unfold c16
  have hdl := lenD ds
  try simp only [SS, argList, aPut, aFill, ↓reduceIte, Nat.reduceEqDiff, Nat.reduceAdd, Nat.reduceLeDiff, reduceCtorEq, Int.reduceEq, Int.reduceLT, Int.reduceLE, Int.reduceNeg, Int.reduceAdd, Int.reduceSub, Int.reduceToNat]
  repeat ((with_reducible first | refine AWP_seq ?_ | refine AWP_block ?_ | refine AWP_scope ?_ | refine AWP_reg ?_ | refine AWP_draw ?_ | refine AWP_skip ?_ | refine AWP_ret ?_ | refine AWP_exit ?_ | (refine AWP_cond_true ?_ ?_; · simp only [SS, argList, aPut, aFill, ↓reduceIte, Nat.reduceEqDiff, Nat.reduceAdd, Nat.reduceLeDiff, reduceCtorEq, Int.reduceEq, Int.reduceLT, Int.reduceLE, Int.reduceNeg, Int.reduceAdd, Int.reduceSub, Int.reduceToNat]) | (refine AWP_cond_false ?_ ?_; · simp only [SS, argList, aPut, aFill, ↓reduceIte, Nat.reduceEqDiff, Nat.reduceAdd, Nat.reduceLeDiff, reduceCtorEq, Int.reduceEq, Int.reduceLT, Int.reduceLE, Int.reduceNeg, Int.reduceAdd, Int.reduceSub, Int.reduceToNat])); try simp only [SS, argList, aPut, aFill, ↓reduceIte, Nat.reduceEqDiff, Nat.reduceAdd, Nat.reduceLeDiff, reduceCtorEq, Int.reduceEq, Int.reduceLT, Int.reduceLE, Int.reduceNeg, Int.reduceAdd, Int.reduceSub, Int.reduceToNat])
  refine AWP_while [0, 3, 4] (fun y : Int × Nat => ds.length - y.2) (fun y => [.list (ds.map defC), .int .i64 y.1, .int .i64 y.2])
    (fun y t => σ = t ∧ y.2 ≤ ds.length) (0, 0) ⟨rfl, by simp⟩ ?_ ?_
  · try simp only [SS, argList, aPut, aFill, ↓reduceIte, Nat.reduceEqDiff, Nat.reduceAdd, Nat.reduceLeDiff, reduceCtorEq, Int.reduceEq, Int.reduceLT, Int.reduceLE, Int.reduceNeg, Int.reduceAdd, Int.reduceSub, Int.reduceToNat]
    repeat ((with_reducible first | refine AWP_seq ?_ | refine AWP_block ?_ | refine AWP_scope ?_ | refine AWP_reg ?_ | refine AWP_draw ?_ | refine AWP_skip ?_ | refine AWP_ret ?_ | refine AWP_exit ?_ | (refine AWP_cond_true ?_ ?_; · simp only [SS, argList, aPut, aFill, ↓reduceIte, Nat.reduceEqDiff, Nat.reduceAdd, Nat.reduceLeDiff, reduceCtorEq, Int.reduceEq, Int.reduceLT, Int.reduceLE, Int.reduceNeg, Int.reduceAdd, Int.reduceSub, Int.reduceToNat]) | (refine AWP_cond_false ?_ ?_; · simp only [SS, argList, aPut, aFill, ↓reduceIte, Nat.reduceEqDiff, Nat.reduceAdd, Nat.reduceLeDiff, reduceCtorEq, Int.reduceEq, Int.reduceLT, Int.reduceLE, Int.reduceNeg, Int.reduceAdd, Int.reduceSub, Int.reduceToNat])); try simp only [SS, argList, aPut, aFill, ↓reduceIte, Nat.reduceEqDiff, Nat.reduceAdd, Nat.reduceLeDiff, reduceCtorEq, Int.reduceEq, Int.reduceLT, Int.reduceLE, Int.reduceNeg, Int.reduceAdd, Int.reduceSub, Int.reduceToNat])
    rfl
  rintro ⟨a, i⟩ _ ⟨rfl, hi⟩
  simp only at hi
  have hw := wrap_succ (i := i) (by omega)
  by_cases hil : i < ds.length
  · have hil' : (i : Int) < (ds.length : Int) := by omega
    obtain ⟨x, hx⟩ : ∃ x, ds[i]? = some x := ⟨_, List.getElem?_eq_getElem hil⟩
    have hg : (ds.map defC)[i]? = some (defC x) := by simp [hx]
    have hxb := bulkD_le (List.mem_of_getElem? hx)
    have hsm := x.2.sm_of_bulk (by omega)
    try simp only [SS, argList, aPut, aFill, ↓reduceIte, Nat.reduceEqDiff, Nat.reduceAdd, Nat.reduceLeDiff, reduceCtorEq, Int.reduceEq, Int.reduceLT, Int.reduceLE, Int.reduceNeg, Int.reduceAdd, Int.reduceSub, Int.reduceToNat, hil', hg, defC, Cr.len, Cr.take9, str_nil]
    repeat' ((with_reducible first | refine AWP_seq ?_ | refine AWP_block ?_ | refine AWP_scope ?_ | refine AWP_reg ?_ | refine AWP_draw ?_ | refine AWP_skip ?_ | refine AWP_ret ?_ | refine AWP_exit ?_ | (refine ok_idx (by first | assumption | omega) (fun b hb => ?_)) | (refine ok_iad (by first | assumption | omega) (fun x hx hxm => ?_)) | (refine And.intro (by omega) ?_) | (refine AWP_cond_true ?_ ?_; · simp only [SS, argList, aPut, aFill, ↓reduceIte, Nat.reduceEqDiff, Nat.reduceAdd, Nat.reduceLeDiff, reduceCtorEq, Int.reduceEq, Int.reduceLT, Int.reduceLE, Int.reduceNeg, Int.reduceAdd, Int.reduceSub, Int.reduceToNat, hil', hg, defC, Cr.len, Cr.take9, str_nil, *]) | (refine AWP_cond_false ?_ ?_; · simp only [SS, argList, aPut, aFill, ↓reduceIte, Nat.reduceEqDiff, Nat.reduceAdd, Nat.reduceLeDiff, reduceCtorEq, Int.reduceEq, Int.reduceLT, Int.reduceLE, Int.reduceNeg, Int.reduceAdd, Int.reduceSub, Int.reduceToNat, hil', hg, defC, Cr.len, Cr.take9, str_nil, *]) | (refine guardW_b (fun h => ?_) (fun h => ?_) <;> try simp only [dec_t, dec_f, not_t, not_f] at h) | (refine ePick_b (fun h => ?_) (fun h => ?_) <;> try simp only [dec_t, dec_f, not_t, not_f] at h) | (refine AWP_cond_b (by simp only [SS, argList, aPut, aFill, ↓reduceIte, Nat.reduceEqDiff, Nat.reduceAdd, Nat.reduceLeDiff, reduceCtorEq, Int.reduceEq, Int.reduceLT, Int.reduceLE, Int.reduceNeg, Int.reduceAdd, Int.reduceSub, Int.reduceToNat]; exact rfl) (fun h => ?_) (fun h => ?_) <;> try simp only [dec_t, dec_f, not_t, not_f] at h) | (refine (size' x.2 hsm _).mono ?_; rintro _ _ ⟨⟨b, rfl, hb⟩, rfl⟩)) <;> (try simp only [SS, argList, aPut, aFill, ↓reduceIte, Nat.reduceEqDiff, Nat.reduceAdd, Nat.reduceLeDiff, reduceCtorEq, Int.reduceEq, Int.reduceLT, Int.reduceLE, Int.reduceNeg, Int.reduceAdd, Int.reduceSub, Int.reduceToNat, hil', hg, defC, Cr.len, Cr.take9, str_nil, *]))
    · exact ⟨_, rfl⟩
    · exact ⟨_, rfl⟩
    · exact ⟨(_, i + 1), rfl, by simp only; omega, by simp only; omega⟩
  · have hil' : ¬ (i : Int) < (ds.length : Int) := by omega
    try simp only [SS, argList, aPut, aFill, ↓reduceIte, Nat.reduceEqDiff, Nat.reduceAdd, Nat.reduceLeDiff, reduceCtorEq, Int.reduceEq, Int.reduceLT, Int.reduceLE, Int.reduceNeg, Int.reduceAdd, Int.reduceSub, Int.reduceToNat, hil']
    repeat ((with_reducible first | refine AWP_seq ?_ | refine AWP_block ?_ | refine AWP_scope ?_ | refine AWP_reg ?_ | refine AWP_draw ?_ | refine AWP_skip ?_ | refine AWP_ret ?_ | refine AWP_exit ?_ | (refine AWP_cond_true ?_ ?_; · simp only [SS, argList, aPut, aFill, ↓reduceIte, Nat.reduceEqDiff, Nat.reduceAdd, Nat.reduceLeDiff, reduceCtorEq, Int.reduceEq, Int.reduceLT, Int.reduceLE, Int.reduceNeg, Int.reduceAdd, Int.reduceSub, Int.reduceToNat, hil']) | (refine AWP_cond_false ?_ ?_; · simp only [SS, argList, aPut, aFill, ↓reduceIte, Nat.reduceEqDiff, Nat.reduceAdd, Nat.reduceLeDiff, reduceCtorEq, Int.reduceEq, Int.reduceLT, Int.reduceLE, Int.reduceNeg, Int.reduceAdd, Int.reduceSub, Int.reduceToNat, hil'])); try simp only [SS, argList, aPut, aFill, ↓reduceIte, Nat.reduceEqDiff, Nat.reduceAdd, Nat.reduceLeDiff, reduceCtorEq, Int.reduceEq, Int.reduceLT, Int.reduceLE, Int.reduceNeg, Int.reduceAdd, Int.reduceSub, Int.reduceToNat, hil'])
    exact ⟨_, rfl⟩
end Go.Proofs.Ytjjbjibbjbbeaaa
