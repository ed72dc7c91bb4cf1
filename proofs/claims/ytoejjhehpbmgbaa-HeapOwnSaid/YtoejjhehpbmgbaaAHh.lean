/- Calls on a heap as data; what few, Right, SameInts and Same answer. -/
import Derived.Test.YtoejjhehpbmgbaaAHf
set_option linter.unusedVariables false
set_option linter.unusedSimpArgs false
namespace Go.AL
/-- A call: its kind, its address, its node. -/
structure OpM where
  kind : Int
  a : Int
  n : Nd
def OpM.cells (o : OpM) : List AV := [.int .i64 o.kind, .int .i64 o.a, .int .i64 o.n.tag, .int .i64 o.n.n, ints o.n.l]
def opsV (l : List OpM) : AV := .list (l.map OpM.cells)
def few (l : List OpM) : Bool := decide (l.length ≤ 400) && l.all fun o => decide (o.n.l.length ≤ 20)
end Go.AL
namespace Go.Proofs.Ytoejjhehpbmgbaa
open Go.AL
theorem right_ok (σ : Store) (n : Int) : ACalls Try.prog 18 [.int .i64 n] σ fun r σ' => r = .bool (decide (1 ≤ n ∧ n ≤ 16777216)) ∧ σ' = σ := by
  refine in18 (by simp) ?_
  unfold c18
  by_cases h : 1 ≤ n
  · try simp only [S, argList, aPut, aFill, ↓reduceIte, Nat.reduceEqDiff, Nat.reduceAdd, Nat.reduceLeDiff, reduceCtorEq, h]
    repeat ((with_reducible first | refine AWP_seq ?_ | refine AWP_block ?_ | refine AWP_scope ?_ | refine AWP_reg ?_ | refine AWP_draw ?_ | refine AWP_skip ?_ | refine AWP_ret ?_ | refine AWP_exit ?_ | (refine AWP_cond_true ?_ ?_; · simp only [S, argList, aPut, aFill, ↓reduceIte, Nat.reduceEqDiff, Nat.reduceAdd, Nat.reduceLeDiff, reduceCtorEq, h]) | (refine AWP_cond_false ?_ ?_; · simp only [S, argList, aPut, aFill, ↓reduceIte, Nat.reduceEqDiff, Nat.reduceAdd, Nat.reduceLeDiff, reduceCtorEq, h])); try simp only [S, argList, aPut, aFill, ↓reduceIte, Nat.reduceEqDiff, Nat.reduceAdd, Nat.reduceLeDiff, reduceCtorEq, h])
    try simp [h]
  · try simp only [S, argList, aPut, aFill, ↓reduceIte, Nat.reduceEqDiff, Nat.reduceAdd, Nat.reduceLeDiff, reduceCtorEq, h]
    repeat ((with_reducible first | refine AWP_seq ?_ | refine AWP_block ?_ | refine AWP_scope ?_ | refine AWP_reg ?_ | refine AWP_draw ?_ | refine AWP_skip ?_ | refine AWP_ret ?_ | refine AWP_exit ?_ | (refine AWP_cond_true ?_ ?_; · simp only [S, argList, aPut, aFill, ↓reduceIte, Nat.reduceEqDiff, Nat.reduceAdd, Nat.reduceLeDiff, reduceCtorEq, h]) | (refine AWP_cond_false ?_ ?_; · simp only [S, argList, aPut, aFill, ↓reduceIte, Nat.reduceEqDiff, Nat.reduceAdd, Nat.reduceLeDiff, reduceCtorEq, h])); try simp only [S, argList, aPut, aFill, ↓reduceIte, Nat.reduceEqDiff, Nat.reduceAdd, Nat.reduceLeDiff, reduceCtorEq, h])
    try simp [h]
theorem few_ok (σ : Store) (l : List OpM) : ACalls Try.prog 17 [opsV l] σ fun r σ' => r = .bool (few l) ∧ σ' = σ := by
  refine ACalls_len (j := 0) rfl fun hlen => ?_
  simp only [List.length_map, maxLen] at hlen
  refine in17 (by simp) ?_
  unfold c17
  by_cases h : 400 < l.length
  · have h' : (400 : Int) < (l.length : Int) := by omega
    try simp only [S, argList, aPut, aFill, ↓reduceIte, Nat.reduceEqDiff, Nat.reduceAdd, Nat.reduceLeDiff, reduceCtorEq, opsV, h']
    repeat ((with_reducible first | refine AWP_seq ?_ | refine AWP_block ?_ | refine AWP_scope ?_ | refine AWP_reg ?_ | refine AWP_draw ?_ | refine AWP_skip ?_ | refine AWP_ret ?_ | refine AWP_exit ?_ | (refine AWP_cond_true ?_ ?_; · simp only [S, argList, aPut, aFill, ↓reduceIte, Nat.reduceEqDiff, Nat.reduceAdd, Nat.reduceLeDiff, reduceCtorEq, opsV, h']) | (refine AWP_cond_false ?_ ?_; · simp only [S, argList, aPut, aFill, ↓reduceIte, Nat.reduceEqDiff, Nat.reduceAdd, Nat.reduceLeDiff, reduceCtorEq, opsV, h'])); try simp only [S, argList, aPut, aFill, ↓reduceIte, Nat.reduceEqDiff, Nat.reduceAdd, Nat.reduceLeDiff, reduceCtorEq, opsV, h'])
    have : ¬ l.length ≤ 400 := by omega
    simp [few, this]
  · have h' : ¬ (400 : Int) < (l.length : Int) := by omega
    try simp only [S, argList, aPut, aFill, ↓reduceIte, Nat.reduceEqDiff, Nat.reduceAdd, Nat.reduceLeDiff, reduceCtorEq, opsV, h']
    repeat ((with_reducible first | refine AWP_seq ?_ | refine AWP_block ?_ | refine AWP_scope ?_ | refine AWP_reg ?_ | refine AWP_draw ?_ | refine AWP_skip ?_ | refine AWP_ret ?_ | refine AWP_exit ?_ | (refine AWP_cond_true ?_ ?_; · simp only [S, argList, aPut, aFill, ↓reduceIte, Nat.reduceEqDiff, Nat.reduceAdd, Nat.reduceLeDiff, reduceCtorEq, opsV, h']) | (refine AWP_cond_false ?_ ?_; · simp only [S, argList, aPut, aFill, ↓reduceIte, Nat.reduceEqDiff, Nat.reduceAdd, Nat.reduceLeDiff, reduceCtorEq, opsV, h'])); try simp only [S, argList, aPut, aFill, ↓reduceIte, Nat.reduceEqDiff, Nat.reduceAdd, Nat.reduceLeDiff, reduceCtorEq, opsV, h'])
    refine AWP_while [0, 3] (fun i : Nat => l.length - i) (fun i => [opsV l, .int .i64 i])
      (fun i s => s = σ ∧ i ≤ l.length ∧ (l.take i).all (fun o => decide (o.n.l.length ≤ 20)) = true) 0 ⟨rfl, by omega, by simp⟩ ?_ ?_
    · try simp only [S, argList, aPut, aFill, ↓reduceIte, Nat.reduceEqDiff, Nat.reduceAdd, Nat.reduceLeDiff, reduceCtorEq, opsV]
      repeat ((with_reducible first | refine AWP_seq ?_ | refine AWP_block ?_ | refine AWP_scope ?_ | refine AWP_reg ?_ | refine AWP_draw ?_ | refine AWP_skip ?_ | refine AWP_ret ?_ | refine AWP_exit ?_ | (refine AWP_cond_true ?_ ?_; · simp only [S, argList, aPut, aFill, ↓reduceIte, Nat.reduceEqDiff, Nat.reduceAdd, Nat.reduceLeDiff, reduceCtorEq, opsV]) | (refine AWP_cond_false ?_ ?_; · simp only [S, argList, aPut, aFill, ↓reduceIte, Nat.reduceEqDiff, Nat.reduceAdd, Nat.reduceLeDiff, reduceCtorEq, opsV])); try simp only [S, argList, aPut, aFill, ↓reduceIte, Nat.reduceEqDiff, Nat.reduceAdd, Nat.reduceLeDiff, reduceCtorEq, opsV])
      rfl
    · rintro i s ⟨rfl, hi, hall⟩
      by_cases hil : i < l.length
      · have hil' : (i : Int) < (l.length : Int) := by omega
        obtain ⟨o, ho⟩ : ∃ o, l[i]? = some o := ⟨_, List.getElem?_eq_getElem hil⟩
        have hg : (l.map OpM.cells)[i]? = some o.cells := by simp [ho]
        have hw : IntKind.i64.wrap ((i : Int) + 1) = ((i + 1 : Nat) : Int) := by rw [wrap_of (by omega) (by omega)]; rfl
        by_cases hL : 20 < o.n.l.length
        · have hL' : (20 : Int) < (o.n.l.length : Int) := by omega
          try simp only [S, argList, aPut, aFill, ↓reduceIte, Nat.reduceEqDiff, Nat.reduceAdd, Nat.reduceLeDiff, reduceCtorEq, opsV, hil', hg, OpM.cells, ints, hL']
          repeat ((with_reducible first | refine AWP_seq ?_ | refine AWP_block ?_ | refine AWP_scope ?_ | refine AWP_reg ?_ | refine AWP_draw ?_ | refine AWP_skip ?_ | refine AWP_ret ?_ | refine AWP_exit ?_ | (refine AWP_cond_true ?_ ?_; · simp only [S, argList, aPut, aFill, ↓reduceIte, Nat.reduceEqDiff, Nat.reduceAdd, Nat.reduceLeDiff, reduceCtorEq, opsV, hil', hg, OpM.cells, ints, hL']) | (refine AWP_cond_false ?_ ?_; · simp only [S, argList, aPut, aFill, ↓reduceIte, Nat.reduceEqDiff, Nat.reduceAdd, Nat.reduceLeDiff, reduceCtorEq, opsV, hil', hg, OpM.cells, ints, hL'])); try simp only [S, argList, aPut, aFill, ↓reduceIte, Nat.reduceEqDiff, Nat.reduceAdd, Nat.reduceLeDiff, reduceCtorEq, opsV, hil', hg, OpM.cells, ints, hL'])
          have hx : ¬ o.n.l.length ≤ 20 := by omega
          have : l.all (fun o => decide (o.n.l.length ≤ 20)) = false := by
            rw [List.all_eq_false]; exact ⟨o, List.mem_of_getElem? ho, by simp [hx]⟩
          simp [few, this]
        · have hL' : ¬ (20 : Int) < (o.n.l.length : Int) := by omega
          try simp only [S, argList, aPut, aFill, ↓reduceIte, Nat.reduceEqDiff, Nat.reduceAdd, Nat.reduceLeDiff, reduceCtorEq, opsV, hil', hg, OpM.cells, ints, hL', hw]
          repeat ((with_reducible first | refine AWP_seq ?_ | refine AWP_block ?_ | refine AWP_scope ?_ | refine AWP_reg ?_ | refine AWP_draw ?_ | refine AWP_skip ?_ | refine AWP_ret ?_ | refine AWP_exit ?_ | (refine AWP_cond_true ?_ ?_; · simp only [S, argList, aPut, aFill, ↓reduceIte, Nat.reduceEqDiff, Nat.reduceAdd, Nat.reduceLeDiff, reduceCtorEq, opsV, hil', hg, OpM.cells, ints, hL', hw]) | (refine AWP_cond_false ?_ ?_; · simp only [S, argList, aPut, aFill, ↓reduceIte, Nat.reduceEqDiff, Nat.reduceAdd, Nat.reduceLeDiff, reduceCtorEq, opsV, hil', hg, OpM.cells, ints, hL', hw])); try simp only [S, argList, aPut, aFill, ↓reduceIte, Nat.reduceEqDiff, Nat.reduceAdd, Nat.reduceLeDiff, reduceCtorEq, opsV, hil', hg, OpM.cells, ints, hL', hw])
          refine ⟨i + 1, rfl, ⟨by omega, ?_⟩, by omega⟩
          rw [List.take_add_one, ho, List.all_append, hall]
          have : o.n.l.length ≤ 20 := by omega
          simp [this]
      · have hil' : ¬ (i : Int) < (l.length : Int) := by omega
        try simp only [S, argList, aPut, aFill, ↓reduceIte, Nat.reduceEqDiff, Nat.reduceAdd, Nat.reduceLeDiff, reduceCtorEq, opsV, hil']
        repeat ((with_reducible first | refine AWP_seq ?_ | refine AWP_block ?_ | refine AWP_scope ?_ | refine AWP_reg ?_ | refine AWP_draw ?_ | refine AWP_skip ?_ | refine AWP_ret ?_ | refine AWP_exit ?_ | (refine AWP_cond_true ?_ ?_; · simp only [S, argList, aPut, aFill, ↓reduceIte, Nat.reduceEqDiff, Nat.reduceAdd, Nat.reduceLeDiff, reduceCtorEq, opsV, hil']) | (refine AWP_cond_false ?_ ?_; · simp only [S, argList, aPut, aFill, ↓reduceIte, Nat.reduceEqDiff, Nat.reduceAdd, Nat.reduceLeDiff, reduceCtorEq, opsV, hil'])); try simp only [S, argList, aPut, aFill, ↓reduceIte, Nat.reduceEqDiff, Nat.reduceAdd, Nat.reduceLeDiff, reduceCtorEq, opsV, hil'])
        have hie : i = l.length := by omega
        rw [hie, List.take_length] at hall
        have : l.length ≤ 400 := by omega
        simp [few, hall, this]
end Go.Proofs.Ytoejjhehpbmgbaa
