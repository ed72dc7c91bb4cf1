/- The document's heap: find, All, has, Get, and the rest. -/
import Derived.Test.YtoejjhehpbmgbaaAHu
import Derived.Test.YtoejjhehpbmgbaaAL19
set_option linter.unusedVariables false
set_option linter.unusedSimpArgs false
namespace Go.AL
/-- The document's heap. -/
structure RH where
  cap : Int
  l : List (Int × Nd)
  allocs : Int
def RC.cells (c : Int × Nd) : List AV := [.int .i64 c.1, .int .i64 c.2.tag, .int .i64 c.2.n, ints c.2.l]
def RH.cs (h : RH) : List AV := [.int .i64 h.cap, .list (h.l.map RC.cells), .int .i64 h.allocs]
def RH.av (h : RH) : AV := .agg h.cs
def RH.idx (h : RH) (a : Int) : Option Nat := h.l.findIdx? fun c => c.1 == a
def idxV : Option Nat → Int
  | some i => i
  | none => -1
def RH.at (h : RH) (a : Int) : Option Nd := (h.l.find? fun c => c.1 == a).map (·.2)
def RH.all (h : RH) (l : List Int) : Bool := l.all fun a => (h.idx a).isSome
theorem idx_at (h : RH) (a : Int) : (h.idx a).isSome = (h.at a).isSome := by
  rw [Bool.eq_iff_iff]
  simp [RH.idx, RH.at]
theorem idx_some {h : RH} {a : Int} {i : Nat} (e : h.idx a = some i) : ∃ x, h.l[i]? = some (a, x) ∧ h.at a = some x := by
  unfold RH.idx at e
  rw [List.findIdx?_eq_some_iff_getElem] at e
  obtain ⟨hi, h1, h2⟩ := e
  have h1' : h.l[i].1 = a := by simpa using h1
  refine ⟨h.l[i].2, by rw [List.getElem?_eq_getElem hi, ← h1'], ?_⟩
  unfold RH.at
  have : h.l.find? (fun c => c.1 == a) = some h.l[i] := by
    rw [List.find?_eq_some_iff_getElem]
    exact ⟨h1, i, hi, rfl, fun j hj => by have := h2 j hj; simpa using this⟩
  rw [this]; rfl
theorem idx_none {h : RH} {a : Int} (e : h.idx a = none) : h.at a = none := by
  have := idx_at h a
  rw [e] at this
  simpa using this.symm
end Go.AL
namespace Go.Proofs.Ytoejjhehpbmgbaa
open Go.AL
theorem rfind_ok (σ : Store) (h : RH) (hl : h.l.length ≤ 1000000) (a : Int) : ACalls Try.prog 54 [h.av, .int .i64 a] σ fun r σ' => r = .int .i64 (idxV (h.idx a)) ∧ σ' = σ := by
  refine ACalls_pure (K := fun r => r = .int .i64 (idxV (h.idx a))) ?_
  refine in54 (by simp) ?_
  unfold c54
  try simp only [SS, argList, aPut, aFill, ↓reduceIte, Nat.reduceEqDiff, Nat.reduceAdd, Nat.reduceLeDiff, reduceCtorEq, RH.av, RH.cs]
  repeat ((with_reducible first | refine AWP_seq ?_ | refine AWP_block ?_ | refine AWP_scope ?_ | refine AWP_reg ?_ | refine AWP_draw ?_ | refine AWP_skip ?_ | refine AWP_ret ?_ | refine AWP_exit ?_ | (refine AWP_cond_true ?_ ?_; · simp only [SS, argList, aPut, aFill, ↓reduceIte, Nat.reduceEqDiff, Nat.reduceAdd, Nat.reduceLeDiff, reduceCtorEq, RH.av, RH.cs]) | (refine AWP_cond_false ?_ ?_; · simp only [SS, argList, aPut, aFill, ↓reduceIte, Nat.reduceEqDiff, Nat.reduceAdd, Nat.reduceLeDiff, reduceCtorEq, RH.av, RH.cs])); try simp only [SS, argList, aPut, aFill, ↓reduceIte, Nat.reduceEqDiff, Nat.reduceAdd, Nat.reduceLeDiff, reduceCtorEq, RH.av, RH.cs])
  refine AWP_while [1, 2, 5] (fun i : Nat => h.l.length - i) (fun i => [.int .i64 a, .ptr σ.next 0 0 0, .int .i64 i])
    (fun i s => Kp (σ.push (.cells 43 0 3 [h.cs])) s ∧ i ≤ h.l.length ∧ ∀ c, c ∈ h.l.take i → c.1 ≠ a) 0 ⟨.refl _, by omega, by simp⟩ ?_ ?_
  · try simp only [SS, argList, aPut, aFill, ↓reduceIte, Nat.reduceEqDiff, Nat.reduceAdd, Nat.reduceLeDiff, reduceCtorEq]
    repeat ((with_reducible first | refine AWP_seq ?_ | refine AWP_block ?_ | refine AWP_scope ?_ | refine AWP_reg ?_ | refine AWP_draw ?_ | refine AWP_skip ?_ | refine AWP_ret ?_ | refine AWP_exit ?_ | (refine AWP_cond_true ?_ ?_; · simp only [SS, argList, aPut, aFill, ↓reduceIte, Nat.reduceEqDiff, Nat.reduceAdd, Nat.reduceLeDiff, reduceCtorEq]) | (refine AWP_cond_false ?_ ?_; · simp only [SS, argList, aPut, aFill, ↓reduceIte, Nat.reduceEqDiff, Nat.reduceAdd, Nat.reduceLeDiff, reduceCtorEq])); try simp only [SS, argList, aPut, aFill, ↓reduceIte, Nat.reduceEqDiff, Nat.reduceAdd, Nat.reduceLeDiff, reduceCtorEq])
    rfl
  · rintro i s ⟨hk, hi, hall⟩
    obtain ⟨hb, hlt, hk0⟩ := hk.box
    by_cases hil : i < h.l.length
    · have hil' : (i : Int) < (h.l.length : Int) := by omega
      obtain ⟨c, hc⟩ : ∃ c, h.l[i]? = some c := ⟨_, List.getElem?_eq_getElem hil⟩
      have hg : (h.l.map RC.cells)[i]? = some (RC.cells c) := by simp [hc]
      by_cases hca : c.1 = a
      · try simp only [SS, argList, aPut, aFill, ↓reduceIte, Nat.reduceEqDiff, Nat.reduceAdd, Nat.reduceLeDiff, reduceCtorEq, hb, RH.cs, hil', hg, RC.cells, hca]
        repeat ((with_reducible first | refine AWP_seq ?_ | refine AWP_block ?_ | refine AWP_scope ?_ | refine AWP_reg ?_ | refine AWP_draw ?_ | refine AWP_skip ?_ | refine AWP_ret ?_ | refine AWP_exit ?_ | (refine AWP_cond_true ?_ ?_; · simp only [SS, argList, aPut, aFill, ↓reduceIte, Nat.reduceEqDiff, Nat.reduceAdd, Nat.reduceLeDiff, reduceCtorEq, hb, RH.cs, hil', hg, RC.cells, hca]) | (refine AWP_cond_false ?_ ?_; · simp only [SS, argList, aPut, aFill, ↓reduceIte, Nat.reduceEqDiff, Nat.reduceAdd, Nat.reduceLeDiff, reduceCtorEq, hb, RH.cs, hil', hg, RC.cells, hca])); try simp only [SS, argList, aPut, aFill, ↓reduceIte, Nat.reduceEqDiff, Nat.reduceAdd, Nat.reduceLeDiff, reduceCtorEq, hb, RH.cs, hil', hg, RC.cells, hca])
        refine hk0.out ?_ (.int _ _)
        have : h.idx a = some i := by
          unfold RH.idx
          rw [List.findIdx?_eq_some_iff_getElem]
          have e : h.l[i] = c := by rw [List.getElem?_eq_getElem hil] at hc; exact Option.some.inj hc
          refine ⟨hil, by simp [e, hca], fun j hj => ?_⟩
          have := hall h.l[j] (by rw [List.mem_take_iff_getElem]; exact ⟨j, by omega, rfl⟩)
          simpa using this
        rw [this]; rfl
      · try simp only [SS, argList, aPut, aFill, ↓reduceIte, Nat.reduceEqDiff, Nat.reduceAdd, Nat.reduceLeDiff, reduceCtorEq, hb, RH.cs, hil', hg, RC.cells, hca, wrap_succ (i := i) (by omega)]
        repeat ((with_reducible first | refine AWP_seq ?_ | refine AWP_block ?_ | refine AWP_scope ?_ | refine AWP_reg ?_ | refine AWP_draw ?_ | refine AWP_skip ?_ | refine AWP_ret ?_ | refine AWP_exit ?_ | (refine AWP_cond_true ?_ ?_; · simp only [SS, argList, aPut, aFill, ↓reduceIte, Nat.reduceEqDiff, Nat.reduceAdd, Nat.reduceLeDiff, reduceCtorEq, hb, RH.cs, hil', hg, RC.cells, hca, wrap_succ (i := i) (by omega)]) | (refine AWP_cond_false ?_ ?_; · simp only [SS, argList, aPut, aFill, ↓reduceIte, Nat.reduceEqDiff, Nat.reduceAdd, Nat.reduceLeDiff, reduceCtorEq, hb, RH.cs, hil', hg, RC.cells, hca, wrap_succ (i := i) (by omega)])); try simp only [SS, argList, aPut, aFill, ↓reduceIte, Nat.reduceEqDiff, Nat.reduceAdd, Nat.reduceLeDiff, reduceCtorEq, hb, RH.cs, hil', hg, RC.cells, hca, wrap_succ (i := i) (by omega)])
        refine ⟨i + 1, rfl, ⟨hk, by omega, fun d hd => ?_⟩, by omega⟩
        rw [List.take_add_one, hc] at hd
        simp at hd
        rcases hd with hd | rfl
        · exact hall d hd
        · exact hca
    · have hil' : ¬ (i : Int) < (h.l.length : Int) := by omega
      try simp only [SS, argList, aPut, aFill, ↓reduceIte, Nat.reduceEqDiff, Nat.reduceAdd, Nat.reduceLeDiff, reduceCtorEq, hb, RH.cs, hil']
      repeat ((with_reducible first | refine AWP_seq ?_ | refine AWP_block ?_ | refine AWP_scope ?_ | refine AWP_reg ?_ | refine AWP_draw ?_ | refine AWP_skip ?_ | refine AWP_ret ?_ | refine AWP_exit ?_ | (refine AWP_cond_true ?_ ?_; · simp only [SS, argList, aPut, aFill, ↓reduceIte, Nat.reduceEqDiff, Nat.reduceAdd, Nat.reduceLeDiff, reduceCtorEq, hb, RH.cs, hil']) | (refine AWP_cond_false ?_ ?_; · simp only [SS, argList, aPut, aFill, ↓reduceIte, Nat.reduceEqDiff, Nat.reduceAdd, Nat.reduceLeDiff, reduceCtorEq, hb, RH.cs, hil'])); try simp only [SS, argList, aPut, aFill, ↓reduceIte, Nat.reduceEqDiff, Nat.reduceAdd, Nat.reduceLeDiff, reduceCtorEq, hb, RH.cs, hil'])
      refine hk0.out ?_ (.int _ _)
      have : h.idx a = none := by
        unfold RH.idx
        rw [List.findIdx?_eq_none_iff]
        intro c hc
        have := hall c (by rw [List.take_of_length_le (by omega)]; exact hc)
        simpa using this
      rw [this]; rfl
theorem rall_ok (σ : Store) (h : RH) (hl : h.l.length ≤ 1000000) (l : List Int) : ACalls Try.prog 53 [h.av, ints l] σ fun r σ' => r = .bool (h.all l) ∧ σ' = σ := by
  refine ACalls_len (j := 1) rfl fun hlen => ?_
  simp only [List.length_map, maxLen] at hlen
  refine ACalls_pure (K := fun r => r = .bool (h.all l)) ?_
  refine in53 (by simp) ?_
  unfold c53
  try simp only [SS, argList, aPut, aFill, ↓reduceIte, Nat.reduceEqDiff, Nat.reduceAdd, Nat.reduceLeDiff, reduceCtorEq, RH.av, RH.cs]
  repeat ((with_reducible first | refine AWP_seq ?_ | refine AWP_block ?_ | refine AWP_scope ?_ | refine AWP_reg ?_ | refine AWP_draw ?_ | refine AWP_skip ?_ | refine AWP_ret ?_ | refine AWP_exit ?_ | (refine AWP_cond_true ?_ ?_; · simp only [SS, argList, aPut, aFill, ↓reduceIte, Nat.reduceEqDiff, Nat.reduceAdd, Nat.reduceLeDiff, reduceCtorEq, RH.av, RH.cs]) | (refine AWP_cond_false ?_ ?_; · simp only [SS, argList, aPut, aFill, ↓reduceIte, Nat.reduceEqDiff, Nat.reduceAdd, Nat.reduceLeDiff, reduceCtorEq, RH.av, RH.cs])); try simp only [SS, argList, aPut, aFill, ↓reduceIte, Nat.reduceEqDiff, Nat.reduceAdd, Nat.reduceLeDiff, reduceCtorEq, RH.av, RH.cs])
  refine AWP_while [1, 2, 5] (fun i : Nat => l.length - i) (fun i => [ints l, .ptr σ.next 0 0 0, .int .i64 i])
    (fun i s => Kp (σ.push (.cells 43 0 3 [h.cs])) s ∧ i ≤ l.length ∧ (l.take i).all (fun a => (h.idx a).isSome) = true) 0 ⟨.refl _, by omega, by simp⟩ ?_ ?_
  · try simp only [SS, argList, aPut, aFill, ↓reduceIte, Nat.reduceEqDiff, Nat.reduceAdd, Nat.reduceLeDiff, reduceCtorEq]
    repeat ((with_reducible first | refine AWP_seq ?_ | refine AWP_block ?_ | refine AWP_scope ?_ | refine AWP_reg ?_ | refine AWP_draw ?_ | refine AWP_skip ?_ | refine AWP_ret ?_ | refine AWP_exit ?_ | (refine AWP_cond_true ?_ ?_; · simp only [SS, argList, aPut, aFill, ↓reduceIte, Nat.reduceEqDiff, Nat.reduceAdd, Nat.reduceLeDiff, reduceCtorEq]) | (refine AWP_cond_false ?_ ?_; · simp only [SS, argList, aPut, aFill, ↓reduceIte, Nat.reduceEqDiff, Nat.reduceAdd, Nat.reduceLeDiff, reduceCtorEq])); try simp only [SS, argList, aPut, aFill, ↓reduceIte, Nat.reduceEqDiff, Nat.reduceAdd, Nat.reduceLeDiff, reduceCtorEq])
    rfl
  · rintro i s ⟨hk, hi, hall⟩
    obtain ⟨hb, hlt, hk0⟩ := hk.box
    by_cases hil : i < l.length
    · have hil' : (i : Int) < (l.length : Int) := by omega
      obtain ⟨x, hx⟩ : ∃ x, l[i]? = some x := ⟨_, List.getElem?_eq_getElem hil⟩
      have hg : (l.map fun y => [AV.int .i64 y])[i]? = some [.int .i64 x] := by simp [hx]
      try simp only [SS, argList, aPut, aFill, ↓reduceIte, Nat.reduceEqDiff, Nat.reduceAdd, Nat.reduceLeDiff, reduceCtorEq, ints, hil', hg, hb, RH.cs]
      repeat ((with_reducible first | refine AWP_seq ?_ | refine AWP_block ?_ | refine AWP_scope ?_ | refine AWP_reg ?_ | refine AWP_draw ?_ | refine AWP_skip ?_ | refine AWP_ret ?_ | refine AWP_exit ?_ | (refine AWP_cond_true ?_ ?_; · simp only [SS, argList, aPut, aFill, ↓reduceIte, Nat.reduceEqDiff, Nat.reduceAdd, Nat.reduceLeDiff, reduceCtorEq, ints, hil', hg, hb, RH.cs]) | (refine AWP_cond_false ?_ ?_; · simp only [SS, argList, aPut, aFill, ↓reduceIte, Nat.reduceEqDiff, Nat.reduceAdd, Nat.reduceLeDiff, reduceCtorEq, ints, hil', hg, hb, RH.cs])); try simp only [SS, argList, aPut, aFill, ↓reduceIte, Nat.reduceEqDiff, Nat.reduceAdd, Nat.reduceLeDiff, reduceCtorEq, ints, hil', hg, hb, RH.cs])
      refine (rfind_ok s h hl x).mono ?_
      rintro r s ⟨rfl, rfl⟩
      cases hix : h.idx x with
      | none =>
        have h0 : idxV none < 0 := by simp [idxV]
        try simp only [SS, argList, aPut, aFill, ↓reduceIte, Nat.reduceEqDiff, Nat.reduceAdd, Nat.reduceLeDiff, reduceCtorEq, h0]
        repeat ((with_reducible first | refine AWP_seq ?_ | refine AWP_block ?_ | refine AWP_scope ?_ | refine AWP_reg ?_ | refine AWP_draw ?_ | refine AWP_skip ?_ | refine AWP_ret ?_ | refine AWP_exit ?_ | (refine AWP_cond_true ?_ ?_; · simp only [SS, argList, aPut, aFill, ↓reduceIte, Nat.reduceEqDiff, Nat.reduceAdd, Nat.reduceLeDiff, reduceCtorEq, h0]) | (refine AWP_cond_false ?_ ?_; · simp only [SS, argList, aPut, aFill, ↓reduceIte, Nat.reduceEqDiff, Nat.reduceAdd, Nat.reduceLeDiff, reduceCtorEq, h0])); try simp only [SS, argList, aPut, aFill, ↓reduceIte, Nat.reduceEqDiff, Nat.reduceAdd, Nat.reduceLeDiff, reduceCtorEq, h0])
        refine hk0.out ?_ (.bool _)
        have : h.all l = false := by
          unfold RH.all; rw [List.all_eq_false]; exact ⟨x, List.mem_of_getElem? hx, by simp [hix]⟩
        rw [this]
      | some k =>
        have h0 : ¬ idxV (some k) < 0 := by simp only [idxV]; omega
        try simp only [SS, argList, aPut, aFill, ↓reduceIte, Nat.reduceEqDiff, Nat.reduceAdd, Nat.reduceLeDiff, reduceCtorEq, h0, wrap_succ (i := i) (by omega)]
        repeat ((with_reducible first | refine AWP_seq ?_ | refine AWP_block ?_ | refine AWP_scope ?_ | refine AWP_reg ?_ | refine AWP_draw ?_ | refine AWP_skip ?_ | refine AWP_ret ?_ | refine AWP_exit ?_ | (refine AWP_cond_true ?_ ?_; · simp only [SS, argList, aPut, aFill, ↓reduceIte, Nat.reduceEqDiff, Nat.reduceAdd, Nat.reduceLeDiff, reduceCtorEq, h0, wrap_succ (i := i) (by omega)]) | (refine AWP_cond_false ?_ ?_; · simp only [SS, argList, aPut, aFill, ↓reduceIte, Nat.reduceEqDiff, Nat.reduceAdd, Nat.reduceLeDiff, reduceCtorEq, h0, wrap_succ (i := i) (by omega)])); try simp only [SS, argList, aPut, aFill, ↓reduceIte, Nat.reduceEqDiff, Nat.reduceAdd, Nat.reduceLeDiff, reduceCtorEq, h0, wrap_succ (i := i) (by omega)])
        refine ⟨i + 1, rfl, ⟨hk, by omega, ?_⟩, by omega⟩
        rw [List.take_add_one, hx, List.all_append, hall]
        simp [hix]
    · have hil' : ¬ (i : Int) < (l.length : Int) := by omega
      try simp only [SS, argList, aPut, aFill, ↓reduceIte, Nat.reduceEqDiff, Nat.reduceAdd, Nat.reduceLeDiff, reduceCtorEq, ints, hil']
      repeat ((with_reducible first | refine AWP_seq ?_ | refine AWP_block ?_ | refine AWP_scope ?_ | refine AWP_reg ?_ | refine AWP_draw ?_ | refine AWP_skip ?_ | refine AWP_ret ?_ | refine AWP_exit ?_ | (refine AWP_cond_true ?_ ?_; · simp only [SS, argList, aPut, aFill, ↓reduceIte, Nat.reduceEqDiff, Nat.reduceAdd, Nat.reduceLeDiff, reduceCtorEq, ints, hil']) | (refine AWP_cond_false ?_ ?_; · simp only [SS, argList, aPut, aFill, ↓reduceIte, Nat.reduceEqDiff, Nat.reduceAdd, Nat.reduceLeDiff, reduceCtorEq, ints, hil'])); try simp only [SS, argList, aPut, aFill, ↓reduceIte, Nat.reduceEqDiff, Nat.reduceAdd, Nat.reduceLeDiff, reduceCtorEq, ints, hil'])
      refine hk0.out ?_ (.bool _)
      rw [List.take_of_length_le (by omega)] at hall
      unfold RH.all; rw [hall]
theorem rget_ok (σ : Store) (h : RH) (hl : h.l.length ≤ 1000000) (a : Int) : ACalls Try.prog 46 [h.av, .int .i64 a] σ fun r σ' => r = getR (h.at a) ∧ σ' = σ := by
  refine ACalls_pure (K := fun r => r = getR (h.at a)) (ACalls_le ?_)
  refine in46 (by simp) ?_
  unfold c46
  have hne : (σ.next = σ.next + 1) = False := by simp
  try simp only [SS, argList, aPut, aFill, ↓reduceIte, Nat.reduceEqDiff, Nat.reduceAdd, Nat.reduceLeDiff, reduceCtorEq, RH.av, RH.cs, hne]
  repeat ((with_reducible first | refine AWP_seq ?_ | refine AWP_block ?_ | refine AWP_scope ?_ | refine AWP_reg ?_ | refine AWP_draw ?_ | refine AWP_skip ?_ | refine AWP_ret ?_ | refine AWP_exit ?_ | (refine AWP_cond_true ?_ ?_; · simp only [SS, argList, aPut, aFill, ↓reduceIte, Nat.reduceEqDiff, Nat.reduceAdd, Nat.reduceLeDiff, reduceCtorEq, RH.av, RH.cs, hne]) | (refine AWP_cond_false ?_ ?_; · simp only [SS, argList, aPut, aFill, ↓reduceIte, Nat.reduceEqDiff, Nat.reduceAdd, Nat.reduceLeDiff, reduceCtorEq, RH.av, RH.cs, hne])); try simp only [SS, argList, aPut, aFill, ↓reduceIte, Nat.reduceEqDiff, Nat.reduceAdd, Nat.reduceLeDiff, reduceCtorEq, RH.av, RH.cs, hne])
  refine (rfind_ok _ h hl a).mono ?_
  rintro r s ⟨rfl, rfl⟩
  cases hix : h.idx a with
  | none =>
    have h0 : idxV none < 0 := by simp [idxV]
    try simp only [SS, argList, aPut, aFill, ↓reduceIte, Nat.reduceEqDiff, Nat.reduceAdd, Nat.reduceLeDiff, reduceCtorEq, h0, idx_none hix]
    repeat ((with_reducible first | refine AWP_seq ?_ | refine AWP_block ?_ | refine AWP_scope ?_ | refine AWP_reg ?_ | refine AWP_draw ?_ | refine AWP_skip ?_ | refine AWP_ret ?_ | refine AWP_exit ?_ | (refine AWP_cond_true ?_ ?_; · simp only [SS, argList, aPut, aFill, ↓reduceIte, Nat.reduceEqDiff, Nat.reduceAdd, Nat.reduceLeDiff, reduceCtorEq, h0, idx_none hix]) | (refine AWP_cond_false ?_ ?_; · simp only [SS, argList, aPut, aFill, ↓reduceIte, Nat.reduceEqDiff, Nat.reduceAdd, Nat.reduceLeDiff, reduceCtorEq, h0, idx_none hix])); try simp only [SS, argList, aPut, aFill, ↓reduceIte, Nat.reduceEqDiff, Nat.reduceAdd, Nat.reduceLeDiff, reduceCtorEq, h0, idx_none hix])
    refine ⟨_, Le.tupleL (.cons (Le.aggL (.cons (.refl _) (.cons (.refl _) (.cons Le.nil .nil)))) (.cons (.refl _) .nil)), rfl, Cln.tuple' ?_, by omega, fun i hi => by rw [if_neg (by omega), if_neg (by omega)]⟩
    intro c hc
    simp at hc
    rcases hc with rfl | rfl
    · exact Nd.cln Nd.zero
    · exact .bool _
  | some k =>
    obtain ⟨x, hx, hat⟩ := idx_some hix
    have hkl := (List.getElem?_eq_some_iff.mp hx).1
    have h0 : ¬ idxV (some k) < 0 := by simp only [idxV]; omega
    have h1 : (0 : Int) ≤ (k : Int) := by omega
    have hg : (h.l.map RC.cells)[k]? = some (RC.cells (a, x)) := by simp [hx]
    try simp only [SS, argList, aPut, aFill, ↓reduceIte, Nat.reduceEqDiff, Nat.reduceAdd, Nat.reduceLeDiff, reduceCtorEq, h0, hne]
    repeat ((with_reducible first | refine AWP_seq ?_ | refine AWP_block ?_ | refine AWP_scope ?_ | refine AWP_reg ?_ | refine AWP_draw ?_ | refine AWP_skip ?_ | refine AWP_ret ?_ | refine AWP_exit ?_ | (refine AWP_cond_true ?_ ?_; · simp only [SS, argList, aPut, aFill, ↓reduceIte, Nat.reduceEqDiff, Nat.reduceAdd, Nat.reduceLeDiff, reduceCtorEq, h0, hne]) | (refine AWP_cond_false ?_ ?_; · simp only [SS, argList, aPut, aFill, ↓reduceIte, Nat.reduceEqDiff, Nat.reduceAdd, Nat.reduceLeDiff, reduceCtorEq, h0, hne])); try simp only [SS, argList, aPut, aFill, ↓reduceIte, Nat.reduceEqDiff, Nat.reduceAdd, Nat.reduceLeDiff, reduceCtorEq, h0, hne])
    simp only [idxV]
    try simp only [SS, argList, aPut, aFill, ↓reduceIte, Nat.reduceEqDiff, Nat.reduceAdd, Nat.reduceLeDiff, reduceCtorEq, h1, hg, RC.cells, hne, hat, getR, Nd.cells]
    repeat ((with_reducible first | refine AWP_seq ?_ | refine AWP_block ?_ | refine AWP_scope ?_ | refine AWP_reg ?_ | refine AWP_draw ?_ | refine AWP_skip ?_ | refine AWP_ret ?_ | refine AWP_exit ?_ | (refine AWP_cond_true ?_ ?_; · simp only [SS, argList, aPut, aFill, ↓reduceIte, Nat.reduceEqDiff, Nat.reduceAdd, Nat.reduceLeDiff, reduceCtorEq, h1, hg, RC.cells, hne, hat, getR, Nd.cells]) | (refine AWP_cond_false ?_ ?_; · simp only [SS, argList, aPut, aFill, ↓reduceIte, Nat.reduceEqDiff, Nat.reduceAdd, Nat.reduceLeDiff, reduceCtorEq, h1, hg, RC.cells, hne, hat, getR, Nd.cells])); try simp only [SS, argList, aPut, aFill, ↓reduceIte, Nat.reduceEqDiff, Nat.reduceAdd, Nat.reduceLeDiff, reduceCtorEq, h1, hg, RC.cells, hne, hat, getR, Nd.cells])
    refine ⟨_, .refl _, rfl, Cln.tuple' ?_, by omega, fun i hi => by rw [if_neg (by omega), if_neg (by omega)]⟩
    intro c hc
    simp at hc
    rcases hc with rfl | rfl
    · exact Nd.cln x
    · exact .bool _
end Go.Proofs.Ytoejjhehpbmgbaa
