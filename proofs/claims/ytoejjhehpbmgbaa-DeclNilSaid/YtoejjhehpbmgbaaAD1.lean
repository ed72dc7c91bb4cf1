/- Types ts plain data; what place and copied answer. -/
import Derived.Test.YtoejjhehpbmgbaaADc
import Derived.Test.YtoejjhehpbmgbaaAL20
set_option linter.unusedVariables false
set_option linter.unusedSimpArgs false
namespace Go.AL
/-- A type. -/
inductive Ty where
  | mk (kind n : Int) (name : ByteArray) (args : List Ty)
mutual
def Ty.cells : Ty → List AV
  | .mk k n s ts => [.int .i64 k, .int .i64 n, .str s, .list (Ty.cellsL ts)]
def Ty.cellsL : List Ty → List (List AV)
  | [] => []
  | x :: r => Ty.cells x :: Ty.cellsL r
end
theorem Ty.cellsL_map : ∀ l : List Ty, Ty.cellsL l = l.map Ty.cells
  | [] => rfl
  | x :: r => by rw [Ty.cellsL, Ty.cellsL_map r]; rfl
theorem Ty.cells_eq (k n : Int) (s : ByteArray) (ts : List Ty) : (Ty.mk k n s ts).cells = [.int .i64 k, .int .i64 n, .str s, .list (ts.map Ty.cells)] := by rw [Ty.cells, Ty.cellsL_map]
theorem Ty.len (x : Ty) : x.cells.length = 4 := by cases x; rfl
mutual
/-- Its lists are short. -/
def Ty.sm : Ty → Prop
  | .mk _ _ _ ts => ts.length ≤ 1000000 ∧ Ty.smL ts
def Ty.smL : List Ty → Prop
  | [] => True
  | x :: r => Ty.sm x ∧ Ty.smL r
end
theorem Ty.smL_all : ∀ {l : List Ty}, Ty.smL l ↔ ∀ x, x ∈ l → x.sm
  | [] => by simp [Ty.smL]
  | x :: r => by simp [Ty.smL, Ty.smL_all (l := r)]
theorem Ty.ind {p : Ty → Prop} (h : ∀ k n s ts, (∀ x, x ∈ ts → p x) → p (.mk k n s ts)) : ∀ x, p x
  | .mk k n s ts => h k n s ts fun x hx => Ty.ind h x
termination_by x => SizeOf.sizeOf x
decreasing_by have := List.sizeOf_lt_of_mem hx; simp; omega
theorem Ty.cln {n : Nat} (x : Ty) : ∀ c, c ∈ x.cells → Cln n c := by
  induction x using Ty.ind with
  | _ k m s ts ih =>
    intro c hc
    rw [Ty.cells_eq] at hc
    simp at hc
    rcases hc with rfl | rfl | rfl | rfl
    · exact .int _ _
    · exact .int _ _
    · exact .str _
    · refine .list' fun e he c hc => ?_
      simp at he
      obtain ⟨y, hy, rfl⟩ := he
      exact ih y hy c hc
abbrev strs (l : List ByteArray) : AV := .list (l.map fun s => [.str s])
/-- The place of a text among some. -/
def placeM (l : List ByteArray) (s : ByteArray) : Int := match l.findIdx? (fun x => decide (x = s)) with | some i => i | none => -1
theorem placeM_lt {l : List ByteArray} {s : ByteArray} : placeM l s < 0 ↔ ¬ s ∈ l := by
  unfold placeM
  cases h : l.findIdx? (fun x => decide (x = s)) with
  | none => rw [List.findIdx?_eq_none_iff] at h; simp; intro hm; have := h s hm; simp at this
  | some i =>
    rw [List.findIdx?_eq_some_iff_getElem] at h
    obtain ⟨hi, h1, _⟩ := h
    simp at h1
    simp only [Int.natCast_nonneg, iff_false_intro, show ¬ ((i : Int) < 0) by omega, false_iff, Classical.not_not]
    exact h1 ▸ List.getElem_mem hi
end Go.AL
namespace Go.Proofs.Ytoejjhehpbmgbaa
open Go.AL
theorem place_ok (σ : Store) {v : AV} {l : List ByteArray} (hv : Rds σ v 1 (l.map fun s => [.str s])) (hl : l.length ≤ 1000000000000) (s : ByteArray) : ACalls Try.prog 58 [v, .str s] σ fun r σ' => r = .int .i64 (placeM l s) ∧ σ' = σ := by
  have hlen := hv.len
  simp only [List.length_map] at hlen
  refine in58 (by simp) ?_
  unfold c58
  try simp only [SS, argList, aPut, aFill, ↓reduceIte, Nat.reduceEqDiff, Nat.reduceAdd, Nat.reduceLeDiff, reduceCtorEq, Int.reduceEq, Int.reduceLT, Int.reduceLE, Int.reduceNeg, Int.reduceAdd, Int.reduceSub, Int.reduceToNat, hlen]
  repeat ((with_reducible first | refine AWP_seq ?_ | refine AWP_block ?_ | refine AWP_scope ?_ | refine AWP_reg ?_ | refine AWP_draw ?_ | refine AWP_skip ?_ | refine AWP_ret ?_ | refine AWP_exit ?_ | (refine AWP_cond_true ?_ ?_; · simp only [SS, argList, aPut, aFill, ↓reduceIte, Nat.reduceEqDiff, Nat.reduceAdd, Nat.reduceLeDiff, reduceCtorEq, Int.reduceEq, Int.reduceLT, Int.reduceLE, Int.reduceNeg, Int.reduceAdd, Int.reduceSub, Int.reduceToNat, hlen]) | (refine AWP_cond_false ?_ ?_; · simp only [SS, argList, aPut, aFill, ↓reduceIte, Nat.reduceEqDiff, Nat.reduceAdd, Nat.reduceLeDiff, reduceCtorEq, Int.reduceEq, Int.reduceLT, Int.reduceLE, Int.reduceNeg, Int.reduceAdd, Int.reduceSub, Int.reduceToNat, hlen])); try simp only [SS, argList, aPut, aFill, ↓reduceIte, Nat.reduceEqDiff, Nat.reduceAdd, Nat.reduceLeDiff, reduceCtorEq, Int.reduceEq, Int.reduceLT, Int.reduceLE, Int.reduceNeg, Int.reduceAdd, Int.reduceSub, Int.reduceToNat, hlen])
  refine AWP_while [1, 7, 8, 9] (fun i : Nat => l.length - i) (fun i => [.str s, v, .int .i64 l.length, .int .i64 i])
    (fun i t => t = σ ∧ i ≤ l.length ∧ ∀ x, x ∈ l.take i → x ≠ s) 0 ⟨rfl, by omega, by simp⟩ ?_ ?_
  · try simp only [SS, argList, aPut, aFill, ↓reduceIte, Nat.reduceEqDiff, Nat.reduceAdd, Nat.reduceLeDiff, reduceCtorEq, Int.reduceEq, Int.reduceLT, Int.reduceLE, Int.reduceNeg, Int.reduceAdd, Int.reduceSub, Int.reduceToNat]
    repeat ((with_reducible first | refine AWP_seq ?_ | refine AWP_block ?_ | refine AWP_scope ?_ | refine AWP_reg ?_ | refine AWP_draw ?_ | refine AWP_skip ?_ | refine AWP_ret ?_ | refine AWP_exit ?_ | (refine AWP_cond_true ?_ ?_; · simp only [SS, argList, aPut, aFill, ↓reduceIte, Nat.reduceEqDiff, Nat.reduceAdd, Nat.reduceLeDiff, reduceCtorEq, Int.reduceEq, Int.reduceLT, Int.reduceLE, Int.reduceNeg, Int.reduceAdd, Int.reduceSub, Int.reduceToNat]) | (refine AWP_cond_false ?_ ?_; · simp only [SS, argList, aPut, aFill, ↓reduceIte, Nat.reduceEqDiff, Nat.reduceAdd, Nat.reduceLeDiff, reduceCtorEq, Int.reduceEq, Int.reduceLT, Int.reduceLE, Int.reduceNeg, Int.reduceAdd, Int.reduceSub, Int.reduceToNat])); try simp only [SS, argList, aPut, aFill, ↓reduceIte, Nat.reduceEqDiff, Nat.reduceAdd, Nat.reduceLeDiff, reduceCtorEq, Int.reduceEq, Int.reduceLT, Int.reduceLE, Int.reduceNeg, Int.reduceAdd, Int.reduceSub, Int.reduceToNat])
    rfl
  · rintro i t ⟨rfl, hi, hall⟩
    by_cases hil : i < l.length
    · have hil' : (i : Int) < (l.length : Int) := by omega
      obtain ⟨x, hx⟩ : ∃ x, l[i]? = some x := ⟨_, List.getElem?_eq_getElem hil⟩
      obtain ⟨p, hp, hep⟩ := hv.iad i [.str x] (by simp [hx])
      have hld := hep.load none
      by_cases hxs : x = s
      · subst hxs
        try simp only [SS, argList, aPut, aFill, ↓reduceIte, Nat.reduceEqDiff, Nat.reduceAdd, Nat.reduceLeDiff, reduceCtorEq, Int.reduceEq, Int.reduceLT, Int.reduceLE, Int.reduceNeg, Int.reduceAdd, Int.reduceSub, Int.reduceToNat, hil', hp, hld]
        repeat ((with_reducible first | refine AWP_seq ?_ | refine AWP_block ?_ | refine AWP_scope ?_ | refine AWP_reg ?_ | refine AWP_draw ?_ | refine AWP_skip ?_ | refine AWP_ret ?_ | refine AWP_exit ?_ | (refine AWP_cond_true ?_ ?_; · simp only [SS, argList, aPut, aFill, ↓reduceIte, Nat.reduceEqDiff, Nat.reduceAdd, Nat.reduceLeDiff, reduceCtorEq, Int.reduceEq, Int.reduceLT, Int.reduceLE, Int.reduceNeg, Int.reduceAdd, Int.reduceSub, Int.reduceToNat, hil', hp, hld]) | (refine AWP_cond_false ?_ ?_; · simp only [SS, argList, aPut, aFill, ↓reduceIte, Nat.reduceEqDiff, Nat.reduceAdd, Nat.reduceLeDiff, reduceCtorEq, Int.reduceEq, Int.reduceLT, Int.reduceLE, Int.reduceNeg, Int.reduceAdd, Int.reduceSub, Int.reduceToNat, hil', hp, hld])); try simp only [SS, argList, aPut, aFill, ↓reduceIte, Nat.reduceEqDiff, Nat.reduceAdd, Nat.reduceLeDiff, reduceCtorEq, Int.reduceEq, Int.reduceLT, Int.reduceLE, Int.reduceNeg, Int.reduceAdd, Int.reduceSub, Int.reduceToNat, hil', hp, hld])
        unfold placeM
        have : l.findIdx? (fun y => decide (y = x)) = some i := by
          rw [List.findIdx?_eq_some_iff_getElem]
          have e : l[i] = x := by rw [List.getElem?_eq_getElem hil] at hx; exact Option.some.inj hx
          refine ⟨hil, by simp [e], fun j hj => ?_⟩
          have := hall l[j] (by rw [List.mem_take_iff_getElem]; exact ⟨j, by omega, rfl⟩)
          simpa using this
        rw [this]
      · try simp only [SS, argList, aPut, aFill, ↓reduceIte, Nat.reduceEqDiff, Nat.reduceAdd, Nat.reduceLeDiff, reduceCtorEq, Int.reduceEq, Int.reduceLT, Int.reduceLE, Int.reduceNeg, Int.reduceAdd, Int.reduceSub, Int.reduceToNat, hil', hp, hld, hxs, wrap_succ (i := i) (by omega)]
        repeat ((with_reducible first | refine AWP_seq ?_ | refine AWP_block ?_ | refine AWP_scope ?_ | refine AWP_reg ?_ | refine AWP_draw ?_ | refine AWP_skip ?_ | refine AWP_ret ?_ | refine AWP_exit ?_ | (refine AWP_cond_true ?_ ?_; · simp only [SS, argList, aPut, aFill, ↓reduceIte, Nat.reduceEqDiff, Nat.reduceAdd, Nat.reduceLeDiff, reduceCtorEq, Int.reduceEq, Int.reduceLT, Int.reduceLE, Int.reduceNeg, Int.reduceAdd, Int.reduceSub, Int.reduceToNat, hil', hp, hld, hxs, wrap_succ (i := i) (by omega)]) | (refine AWP_cond_false ?_ ?_; · simp only [SS, argList, aPut, aFill, ↓reduceIte, Nat.reduceEqDiff, Nat.reduceAdd, Nat.reduceLeDiff, reduceCtorEq, Int.reduceEq, Int.reduceLT, Int.reduceLE, Int.reduceNeg, Int.reduceAdd, Int.reduceSub, Int.reduceToNat, hil', hp, hld, hxs, wrap_succ (i := i) (by omega)])); try simp only [SS, argList, aPut, aFill, ↓reduceIte, Nat.reduceEqDiff, Nat.reduceAdd, Nat.reduceLeDiff, reduceCtorEq, Int.reduceEq, Int.reduceLT, Int.reduceLE, Int.reduceNeg, Int.reduceAdd, Int.reduceSub, Int.reduceToNat, hil', hp, hld, hxs, wrap_succ (i := i) (by omega)])
        refine ⟨i + 1, rfl, ⟨by omega, fun y hy => ?_⟩, by omega⟩
        rw [List.take_add_one, hx] at hy
        simp at hy
        rcases hy with hy | rfl
        · exact hall y hy
        · exact hxs
    · have hil' : ¬ (i : Int) < (l.length : Int) := by omega
      try simp only [SS, argList, aPut, aFill, ↓reduceIte, Nat.reduceEqDiff, Nat.reduceAdd, Nat.reduceLeDiff, reduceCtorEq, Int.reduceEq, Int.reduceLT, Int.reduceLE, Int.reduceNeg, Int.reduceAdd, Int.reduceSub, Int.reduceToNat, hil']
      repeat ((with_reducible first | refine AWP_seq ?_ | refine AWP_block ?_ | refine AWP_scope ?_ | refine AWP_reg ?_ | refine AWP_draw ?_ | refine AWP_skip ?_ | refine AWP_ret ?_ | refine AWP_exit ?_ | (refine AWP_cond_true ?_ ?_; · simp only [SS, argList, aPut, aFill, ↓reduceIte, Nat.reduceEqDiff, Nat.reduceAdd, Nat.reduceLeDiff, reduceCtorEq, Int.reduceEq, Int.reduceLT, Int.reduceLE, Int.reduceNeg, Int.reduceAdd, Int.reduceSub, Int.reduceToNat, hil']) | (refine AWP_cond_false ?_ ?_; · simp only [SS, argList, aPut, aFill, ↓reduceIte, Nat.reduceEqDiff, Nat.reduceAdd, Nat.reduceLeDiff, reduceCtorEq, Int.reduceEq, Int.reduceLT, Int.reduceLE, Int.reduceNeg, Int.reduceAdd, Int.reduceSub, Int.reduceToNat, hil'])); try simp only [SS, argList, aPut, aFill, ↓reduceIte, Nat.reduceEqDiff, Nat.reduceAdd, Nat.reduceLeDiff, reduceCtorEq, Int.reduceEq, Int.reduceLT, Int.reduceLE, Int.reduceNeg, Int.reduceAdd, Int.reduceSub, Int.reduceToNat, hil'])
      unfold placeM
      have : l.findIdx? (fun y => decide (y = s)) = none := by
        rw [List.findIdx?_eq_none_iff]
        intro x hx
        have := hall x (by rw [List.take_of_length_le (by omega)]; exact hx)
        simpa using this
      rw [this]
theorem copied_ok (x : Ty) : x.sm → ∀ σ : Store, ACalls Try.prog 52 [.agg x.cells] σ fun r σ' => r = .agg x.cells ∧ σ' = σ := by
  induction x using Ty.ind with
  | _ k m s ts ih =>
    intro hsm σ
    have hsm' : ts.length ≤ 1000000 ∧ ∀ y, y ∈ ts → y.sm := by
      unfold Ty.sm at hsm
      exact ⟨hsm.1, Ty.smL_all.1 hsm.2⟩
    obtain ⟨hn, hsa⟩ := hsm'
    have hcl : Cln σ.next (.agg (Ty.mk k m s ts).cells) := .agg' (Ty.cln _)
    rw [Ty.cells_eq] at hcl ⊢
    refine ACalls_pure (K := fun r => r = .agg [.int .i64 k, .int .i64 m, .str s, .list (ts.map Ty.cells)]) (ACalls_froze ?_)
    refine in52 (by simp) ?_
    unfold c52
    try simp only [SS, argList, aPut, aFill, ↓reduceIte, Nat.reduceEqDiff, Nat.reduceAdd, Nat.reduceLeDiff, reduceCtorEq, Int.reduceEq, Int.reduceLT, Int.reduceLE, Int.reduceNeg, Int.reduceAdd, Int.reduceSub, Int.reduceToNat]
    repeat ((with_reducible first | refine AWP_seq ?_ | refine AWP_block ?_ | refine AWP_scope ?_ | refine AWP_reg ?_ | refine AWP_draw ?_ | refine AWP_skip ?_ | refine AWP_ret ?_ | refine AWP_exit ?_ | (refine AWP_cond_true ?_ ?_; · simp only [SS, argList, aPut, aFill, ↓reduceIte, Nat.reduceEqDiff, Nat.reduceAdd, Nat.reduceLeDiff, reduceCtorEq, Int.reduceEq, Int.reduceLT, Int.reduceLE, Int.reduceNeg, Int.reduceAdd, Int.reduceSub, Int.reduceToNat]) | (refine AWP_cond_false ?_ ?_; · simp only [SS, argList, aPut, aFill, ↓reduceIte, Nat.reduceEqDiff, Nat.reduceAdd, Nat.reduceLeDiff, reduceCtorEq, Int.reduceEq, Int.reduceLT, Int.reduceLE, Int.reduceNeg, Int.reduceAdd, Int.reduceSub, Int.reduceToNat])); try simp only [SS, argList, aPut, aFill, ↓reduceIte, Nat.reduceEqDiff, Nat.reduceAdd, Nat.reduceLeDiff, reduceCtorEq, Int.reduceEq, Int.reduceLT, Int.reduceLE, Int.reduceNeg, Int.reduceAdd, Int.reduceSub, Int.reduceToNat])
    generalize hs0 : Store.push _ _ = s0
    have e0 : s0.get σ.next = some (.cells 85 0 4 [[.int .i64 k, .int .i64 m, .str s, .list (ts.map Ty.cells)]]) := by rw [← hs0]; simp [Store.push_get, Store.push_next]
    have e1 : s0.get (σ.next + 1) = some (.cells 85 0 4 [[.int .i64 0, .int .i64 0, .str ⟨#[]⟩, .nils]]) := by rw [← hs0]; simp [Store.push_get, Store.push_next]
    have k0 : Kp σ s0 := by rw [← hs0]; exact ((Kp.refl σ).push _).push _
    have n0 : s0.next = σ.next + 2 := by rw [← hs0]; simp [Store.push_next]
    clear hs0
    try simp only [SS, argList, aPut, aFill, ↓reduceIte, Nat.reduceEqDiff, Nat.reduceAdd, Nat.reduceLeDiff, reduceCtorEq, Int.reduceEq, Int.reduceLT, Int.reduceLE, Int.reduceNeg, Int.reduceAdd, Int.reduceSub, Int.reduceToNat, e0]
    repeat ((with_reducible first | refine AWP_seq ?_ | refine AWP_block ?_ | refine AWP_scope ?_ | refine AWP_reg ?_ | refine AWP_draw ?_ | refine AWP_skip ?_ | refine AWP_ret ?_ | refine AWP_exit ?_ | (refine AWP_cond_true ?_ ?_; · simp only [SS, argList, aPut, aFill, ↓reduceIte, Nat.reduceEqDiff, Nat.reduceAdd, Nat.reduceLeDiff, reduceCtorEq, Int.reduceEq, Int.reduceLT, Int.reduceLE, Int.reduceNeg, Int.reduceAdd, Int.reduceSub, Int.reduceToNat, e0]) | (refine AWP_cond_false ?_ ?_; · simp only [SS, argList, aPut, aFill, ↓reduceIte, Nat.reduceEqDiff, Nat.reduceAdd, Nat.reduceLeDiff, reduceCtorEq, Int.reduceEq, Int.reduceLT, Int.reduceLE, Int.reduceNeg, Int.reduceAdd, Int.reduceSub, Int.reduceToNat, e0])); try simp only [SS, argList, aPut, aFill, ↓reduceIte, Nat.reduceEqDiff, Nat.reduceAdd, Nat.reduceLeDiff, reduceCtorEq, Int.reduceEq, Int.reduceLT, Int.reduceLE, Int.reduceNeg, Int.reduceAdd, Int.reduceSub, Int.reduceToNat, e0])
    refine AWP_while [1, 2, 3, 7, 8, 9] (fun y : AV × Nat => ts.length - y.2) (fun y => [.ptr σ.next 0 0 0, .ptr (σ.next + 1) 0 0 0, y.1, .list (ts.map Ty.cells), .int .i64 ts.length, .int .i64 y.2])
      (fun y t => y.2 ≤ ts.length ∧ Grow s0 t y.1 85 4 ((ts.take y.2).map Ty.cells)) (.nils, 0) ⟨by simp, .start _ _ _⟩ ?_ ?_
    · try simp only [SS, argList, aPut, aFill, ↓reduceIte, Nat.reduceEqDiff, Nat.reduceAdd, Nat.reduceLeDiff, reduceCtorEq, Int.reduceEq, Int.reduceLT, Int.reduceLE, Int.reduceNeg, Int.reduceAdd, Int.reduceSub, Int.reduceToNat]
      repeat ((with_reducible first | refine AWP_seq ?_ | refine AWP_block ?_ | refine AWP_scope ?_ | refine AWP_reg ?_ | refine AWP_draw ?_ | refine AWP_skip ?_ | refine AWP_ret ?_ | refine AWP_exit ?_ | (refine AWP_cond_true ?_ ?_; · simp only [SS, argList, aPut, aFill, ↓reduceIte, Nat.reduceEqDiff, Nat.reduceAdd, Nat.reduceLeDiff, reduceCtorEq, Int.reduceEq, Int.reduceLT, Int.reduceLE, Int.reduceNeg, Int.reduceAdd, Int.reduceSub, Int.reduceToNat]) | (refine AWP_cond_false ?_ ?_; · simp only [SS, argList, aPut, aFill, ↓reduceIte, Nat.reduceEqDiff, Nat.reduceAdd, Nat.reduceLeDiff, reduceCtorEq, Int.reduceEq, Int.reduceLT, Int.reduceLE, Int.reduceNeg, Int.reduceAdd, Int.reduceSub, Int.reduceToNat])); try simp only [SS, argList, aPut, aFill, ↓reduceIte, Nat.reduceEqDiff, Nat.reduceAdd, Nat.reduceLeDiff, reduceCtorEq, Int.reduceEq, Int.reduceLT, Int.reduceLE, Int.reduceNeg, Int.reduceAdd, Int.reduceSub, Int.reduceToNat])
      rfl
    · rintro ⟨v, i⟩ t ⟨hi, hG⟩
      simp only at hi hG
      by_cases hil : i < ts.length
      · have hil' : (i : Int) < (ts.length : Int) := by omega
        obtain ⟨y, hy⟩ : ∃ y, ts[i]? = some y := ⟨_, List.getElem?_eq_getElem hil⟩
        have hg : (ts.map Ty.cells)[i]? = some y.cells := by simp [hy]
        have hyl := y.len
        have hym := List.mem_of_getElem? hy
        have htake : List.take 4 y.cells = y.cells := List.take_of_length_le (by omega)
        have h44 : (4 ≤ y.cells.length) = True := by simp [hyl]
        try simp only [SS, argList, aPut, aFill, ↓reduceIte, Nat.reduceEqDiff, Nat.reduceAdd, Nat.reduceLeDiff, reduceCtorEq, Int.reduceEq, Int.reduceLT, Int.reduceLE, Int.reduceNeg, Int.reduceAdd, Int.reduceSub, Int.reduceToNat, hil', hg, hyl, htake, h44]
        repeat ((with_reducible first | refine AWP_seq ?_ | refine AWP_block ?_ | refine AWP_scope ?_ | refine AWP_reg ?_ | refine AWP_draw ?_ | refine AWP_skip ?_ | refine AWP_ret ?_ | refine AWP_exit ?_ | (refine AWP_cond_true ?_ ?_; · simp only [SS, argList, aPut, aFill, ↓reduceIte, Nat.reduceEqDiff, Nat.reduceAdd, Nat.reduceLeDiff, reduceCtorEq, Int.reduceEq, Int.reduceLT, Int.reduceLE, Int.reduceNeg, Int.reduceAdd, Int.reduceSub, Int.reduceToNat, hil', hg, hyl, htake, h44]) | (refine AWP_cond_false ?_ ?_; · simp only [SS, argList, aPut, aFill, ↓reduceIte, Nat.reduceEqDiff, Nat.reduceAdd, Nat.reduceLeDiff, reduceCtorEq, Int.reduceEq, Int.reduceLT, Int.reduceLE, Int.reduceNeg, Int.reduceAdd, Int.reduceSub, Int.reduceToNat, hil', hg, hyl, htake, h44])); try simp only [SS, argList, aPut, aFill, ↓reduceIte, Nat.reduceEqDiff, Nat.reduceAdd, Nat.reduceLeDiff, reduceCtorEq, Int.reduceEq, Int.reduceLT, Int.reduceLE, Int.reduceNeg, Int.reduceAdd, Int.reduceSub, Int.reduceToNat, hil', hg, hyl, htake, h44])
        refine (ih y hym (hsa y hym) _).mono ?_
        rintro r t2 ⟨rfl, rfl⟩
        have hG2 := hG.push (.cells 85 0 4 [y.cells])
        try simp only [SS, argList, aPut, aFill, ↓reduceIte, Nat.reduceEqDiff, Nat.reduceAdd, Nat.reduceLeDiff, reduceCtorEq, Int.reduceEq, Int.reduceLT, Int.reduceLE, Int.reduceNeg, Int.reduceAdd, Int.reduceSub, Int.reduceToNat, hyl]
        repeat ((with_reducible first | refine AWP_seq ?_ | refine AWP_block ?_ | refine AWP_scope ?_ | refine AWP_reg ?_ | refine AWP_draw ?_ | refine AWP_skip ?_ | refine AWP_ret ?_ | refine AWP_exit ?_ | (refine AWP_cond_true ?_ ?_; · simp only [SS, argList, aPut, aFill, ↓reduceIte, Nat.reduceEqDiff, Nat.reduceAdd, Nat.reduceLeDiff, reduceCtorEq, Int.reduceEq, Int.reduceLT, Int.reduceLE, Int.reduceNeg, Int.reduceAdd, Int.reduceSub, Int.reduceToNat, hyl]) | (refine AWP_cond_false ?_ ?_; · simp only [SS, argList, aPut, aFill, ↓reduceIte, Nat.reduceEqDiff, Nat.reduceAdd, Nat.reduceLeDiff, reduceCtorEq, Int.reduceEq, Int.reduceLT, Int.reduceLE, Int.reduceNeg, Int.reduceAdd, Int.reduceSub, Int.reduceToNat, hyl])); try simp only [SS, argList, aPut, aFill, ↓reduceIte, Nat.reduceEqDiff, Nat.reduceAdd, Nat.reduceLeDiff, reduceCtorEq, Int.reduceEq, Int.reduceLT, Int.reduceLE, Int.reduceNeg, Int.reduceAdd, Int.reduceSub, Int.reduceToNat, hyl])
        refine ok_grow hG2 (by simp [hyl]) (by simp; omega) (by simp [maxLen]; omega) ?_
        intro v' t3 hG3 _ _
        try simp only [SS, argList, aPut, aFill, ↓reduceIte, Nat.reduceEqDiff, Nat.reduceAdd, Nat.reduceLeDiff, reduceCtorEq, Int.reduceEq, Int.reduceLT, Int.reduceLE, Int.reduceNeg, Int.reduceAdd, Int.reduceSub, Int.reduceToNat, wrap_succ (i := i) (by omega)]
        repeat ((with_reducible first | refine AWP_seq ?_ | refine AWP_block ?_ | refine AWP_scope ?_ | refine AWP_reg ?_ | refine AWP_draw ?_ | refine AWP_skip ?_ | refine AWP_ret ?_ | refine AWP_exit ?_ | (refine AWP_cond_true ?_ ?_; · simp only [SS, argList, aPut, aFill, ↓reduceIte, Nat.reduceEqDiff, Nat.reduceAdd, Nat.reduceLeDiff, reduceCtorEq, Int.reduceEq, Int.reduceLT, Int.reduceLE, Int.reduceNeg, Int.reduceAdd, Int.reduceSub, Int.reduceToNat, wrap_succ (i := i) (by omega)]) | (refine AWP_cond_false ?_ ?_; · simp only [SS, argList, aPut, aFill, ↓reduceIte, Nat.reduceEqDiff, Nat.reduceAdd, Nat.reduceLeDiff, reduceCtorEq, Int.reduceEq, Int.reduceLT, Int.reduceLE, Int.reduceNeg, Int.reduceAdd, Int.reduceSub, Int.reduceToNat, wrap_succ (i := i) (by omega)])); try simp only [SS, argList, aPut, aFill, ↓reduceIte, Nat.reduceEqDiff, Nat.reduceAdd, Nat.reduceLeDiff, reduceCtorEq, Int.reduceEq, Int.reduceLT, Int.reduceLE, Int.reduceNeg, Int.reduceAdd, Int.reduceSub, Int.reduceToNat, wrap_succ (i := i) (by omega)])
        refine ⟨(v', i + 1), rfl, ⟨by simp only; omega, ?_⟩, by simp only; omega⟩
        have : (ts.take (i + 1)).map Ty.cells = (ts.take i).map Ty.cells ++ [y.cells] := by rw [List.take_add_one, hy]; simp
        simp only [this]; exact hG3
      · have hil' : ¬ (i : Int) < (ts.length : Int) := by omega
        rw [List.take_of_length_le (by omega)] at hG
        have f0 := hG.kp.get e0
        have f1 := hG.kp.get e1
        have l0 : σ.next < t.next := t.lt f0
        have l1 : σ.next + 1 < t.next := t.lt f1
        have hu : ∀ (o : AObj) (j : Nat), (t.upd σ.next o).get j = if j = σ.next then some o else t.get j := fun o j => Store.get_upd _ _ l0 j
        have hu2 : ∀ (o o' : AObj) (j : Nat), ((t.upd σ.next o).upd (σ.next + 1) o').get j = if j = σ.next + 1 then some o' else (t.upd σ.next o).get j := fun o o' j => Store.get_upd _ _ (show σ.next + 1 < (t.upd σ.next o).next from l1) j
        try simp only [SS, argList, aPut, aFill, ↓reduceIte, Nat.reduceEqDiff, Nat.reduceAdd, Nat.reduceLeDiff, reduceCtorEq, Int.reduceEq, Int.reduceLT, Int.reduceLE, Int.reduceNeg, Int.reduceAdd, Int.reduceSub, Int.reduceToNat, hil', f0, f1, hG.sl.co, hu, hu2]
        repeat ((with_reducible first | refine AWP_seq ?_ | refine AWP_block ?_ | refine AWP_scope ?_ | refine AWP_reg ?_ | refine AWP_draw ?_ | refine AWP_skip ?_ | refine AWP_ret ?_ | refine AWP_exit ?_ | (refine AWP_cond_true ?_ ?_; · simp only [SS, argList, aPut, aFill, ↓reduceIte, Nat.reduceEqDiff, Nat.reduceAdd, Nat.reduceLeDiff, reduceCtorEq, Int.reduceEq, Int.reduceLT, Int.reduceLE, Int.reduceNeg, Int.reduceAdd, Int.reduceSub, Int.reduceToNat, hil', f0, f1, hG.sl.co, hu, hu2]) | (refine AWP_cond_false ?_ ?_; · simp only [SS, argList, aPut, aFill, ↓reduceIte, Nat.reduceEqDiff, Nat.reduceAdd, Nat.reduceLeDiff, reduceCtorEq, Int.reduceEq, Int.reduceLT, Int.reduceLE, Int.reduceNeg, Int.reduceAdd, Int.reduceSub, Int.reduceToNat, hil', f0, f1, hG.sl.co, hu, hu2])); try simp only [SS, argList, aPut, aFill, ↓reduceIte, Nat.reduceEqDiff, Nat.reduceAdd, Nat.reduceLeDiff, reduceCtorEq, Int.reduceEq, Int.reduceLT, Int.reduceLE, Int.reduceNeg, Int.reduceAdd, Int.reduceSub, Int.reduceToNat, hil', f0, f1, hG.sl.co, hu, hu2])
        have hne : ∀ j, j ∈ slIds v → s0.next ≤ j := fun j hj => hG.fresh j hj
        refine ⟨v, 85, 4, _, .agg [.int .i64 k, .int .i64 m, .str s, .list (ts.map Ty.cells)], hG.sl.keep fun j hj => ?_, .agg (.cons (.refl _) (.cons (.refl _) (.cons (.refl _) (.cons .here .nil)))), fun σ2 hn2 hg2 => ⟨rfl, hcl, ?_, fun j hj => ?_⟩⟩
        · have := hne j hj
          rw [hu2, if_neg (by omega), hu, if_neg (by omega)]
        · rw [hn2]; have := hG.kp.next; omega
        · rw [hg2 j (fun hm => by have := hne j hm; omega), if_neg (by omega), if_neg (by omega), hG.kp.keep j (by omega), k0.keep j hj]
end Go.Proofs.Ytoejjhehpbmgbaa
