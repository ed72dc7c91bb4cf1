/- A part of the proof of the claim: the abstract layer, the contracts of the functions, the law (no condition of its own). -/
import Derived.Test.YtjjbjibbjbbeaaaK3
/- Sizes. -/
set_option linter.unusedVariables false
set_option linter.unusedSimpArgs false
namespace Go.AL
/-- Its lists are short. -/
inductive Cr.Sm : Cr → Prop
  | mk {k : Int} {nm : ByteArray} {n ar : Int} {ps : List ByteArray} {gs : List Cr} {al : List (AltH × Cr)} {bs : List (ByteArray × Cr)} {pk : List (Int × Cr)} (hps : ps.length ≤ 1048576) (hgs : gs.length ≤ 1048576) (hal : al.length ≤ 1048576) (hbs : bs.length ≤ 1048576) (hpk : pk.length ≤ 1048576)
    (h1 : ∀ x, x ∈ gs → Cr.Sm x) (h2 : ∀ x, x ∈ al → Cr.Sm x.2) (h5 : ∀ x, x ∈ al → x.1.ps.length ≤ 1048576) (h3 : ∀ x, x ∈ bs → Cr.Sm x.2) (h4 : ∀ x, x ∈ pk → Cr.Sm x.2) : Cr.Sm (.mk k nm n ar ps gs al bs pk)
end Go.AL
namespace Go.Proofs.Ytjjbjibbjbbeaaa
open Go.AL
theorem size_ok : ∀ x : Cr, x.Sm → ∀ σ : Store, ACalls Try.prog 17 [.agg x.cells] σ fun r s => (∃ n : Int, r = .int .i64 n) ∧ s = σ := by
  intro x
  induction x using Cr.ind with
  | _ k nm n ar ps gs al bs pk ih1 ih2 ih3 ih4 =>
    intro hs σ
    cases hs with
    | mk hps hgs hal hbs hpk h1 h2 h5 h3 h4 =>
    refine ACalls_fp (p := fun r => ∃ n : Int, r = .int .i64 n) ?_
    refine in17 (by simp) ?_
    unfold c17
    rw [Cr.cells_eq]
    refine raw ?_
    repeat (first | (with_reducible refine unr ?_; try simp only [ZZ, ↓reduceIte, Nat.reduceEqDiff, Nat.reduceAdd, Nat.reduceLeDiff, reduceCtorEq, Int.reduceEq, Int.reduceLT, Int.reduceLE, Int.reduceNeg, Int.reduceAdd, Int.reduceSub, Int.reduceToNat]) | (with_reducible first | refine W1 ?_ | refine W2 ?_ | refine W3 ?_ | refine W4 ?_ | refine W5 ?_ | refine W6 ?_ | refine W7 ?_ | refine W8 ?_ | refine W9 ?_))
    generalize hs1 : Store.push _ _ = s1
    have k1 : Kp σ s1 := by rw [← hs1]; exact .pushed _ _
    have he : s1.get σ.next = some (.cells 54 0 9 [[.int .i64 k, .str nm, .int .i64 n, .int .i64 ar, strs ps, .list (gs.map Cr.cells), .list (al.map altC), .list (bs.map bindC), .list (pk.map pickC)]]) := by rw [← hs1]; simp [Store.push_get]
    clear hs1
    refine AWP_while [1, 3, 4] (fun y : Int × Nat => gs.length - y.2) (fun y => [.ptr σ.next 0 0 0, .int .i64 y.1, .int .i64 y.2]) (fun y t => s1 = t ∧ y.2 ≤ gs.length) (1, 0) ⟨rfl, by simp⟩ ?_ ?_
    · refine raw ?_
      repeat (first | (with_reducible refine unr ?_; try simp only [ZZ, ↓reduceIte, Nat.reduceEqDiff, Nat.reduceAdd, Nat.reduceLeDiff, reduceCtorEq, Int.reduceEq, Int.reduceLT, Int.reduceLE, Int.reduceNeg, Int.reduceAdd, Int.reduceSub, Int.reduceToNat]) | (with_reducible first | refine W1 ?_ | refine W2 ?_ | refine W3 ?_ | refine W4 ?_ | refine W5 ?_ | refine W6 ?_ | refine W7 ?_ | refine W8 ?_ | refine W9 ?_))
      rfl
    rintro ⟨a4, i⟩ t ⟨rfl, hi⟩
    simp only at hi
    by_cases hil : i < gs.length
    · have hil' : (i : Int) < (gs.length : Int) := by omega
      obtain ⟨x, hx⟩ : ∃ x, gs[i]? = some x := ⟨_, List.getElem?_eq_getElem hil⟩
      have hg : (gs.map Cr.cells)[i]? = some (Cr.cells x) := by simp [hx]
      have hxm := List.mem_of_getElem? hx
      have hxl := x.len
      have htake : List.take 9 x.cells = x.cells := List.take_of_length_le (by omega)
      have h99 : (9 ≤ x.cells.length) = True := by simp [hxl]
      refine raw ?_
      repeat (first | (with_reducible refine unr ?_; try simp only [ZZ, ↓reduceIte, Nat.reduceEqDiff, Nat.reduceAdd, Nat.reduceLeDiff, reduceCtorEq, Int.reduceEq, Int.reduceLT, Int.reduceLE, Int.reduceNeg, Int.reduceAdd, Int.reduceSub, Int.reduceToNat, he, hil', hg, hxl, htake, h99]) | (with_reducible first | refine W1 ?_ | refine W2 ?_ | refine W3 ?_ | refine W4 ?_ | refine W5 ?_ | refine W6 ?_ | refine W7 ?_ | refine W8 ?_ | refine W9 ?_))
      refine (ih1 x hxm (h1 x hxm) _).mono ?_
      rintro r s ⟨⟨m, rfl⟩, rfl⟩
      refine raw ?_
      repeat (first | (with_reducible refine unr ?_; try simp only [ZZ, ↓reduceIte, Nat.reduceEqDiff, Nat.reduceAdd, Nat.reduceLeDiff, reduceCtorEq, Int.reduceEq, Int.reduceLT, Int.reduceLE, Int.reduceNeg, Int.reduceAdd, Int.reduceSub, Int.reduceToNat, wrap_succ (i := i) (by omega)]) | (with_reducible first | refine W1 ?_ | refine W2 ?_ | refine W3 ?_ | refine W4 ?_ | refine W5 ?_ | refine W6 ?_ | refine W7 ?_ | refine W8 ?_ | refine W9 ?_))
      exact ⟨(_, i + 1), rfl, by simp only; omega, by simp only; omega⟩
    have hil' : ¬ (i : Int) < (gs.length : Int) := by omega
    refine raw ?_
    repeat (first | (with_reducible refine unr ?_; try simp only [ZZ, ↓reduceIte, Nat.reduceEqDiff, Nat.reduceAdd, Nat.reduceLeDiff, reduceCtorEq, Int.reduceEq, Int.reduceLT, Int.reduceLE, Int.reduceNeg, Int.reduceAdd, Int.reduceSub, Int.reduceToNat, he, hil']) | (with_reducible first | refine W1 ?_ | refine W2 ?_ | refine W3 ?_ | refine W4 ?_ | refine W5 ?_ | refine W6 ?_ | refine W7 ?_ | refine W8 ?_ | refine W9 ?_))
    clear hil hil' hi
    refine AWP_while [1, 3, 5] (fun y : Int × Nat => al.length - y.2) (fun y => [.ptr σ.next 0 0 0, .int .i64 y.1, .int .i64 y.2]) (fun y t => s1 = t ∧ y.2 ≤ al.length) (a4, 0) ⟨rfl, by simp⟩ ?_ ?_
    · refine raw ?_
      repeat (first | (with_reducible refine unr ?_; try simp only [ZZ, ↓reduceIte, Nat.reduceEqDiff, Nat.reduceAdd, Nat.reduceLeDiff, reduceCtorEq, Int.reduceEq, Int.reduceLT, Int.reduceLE, Int.reduceNeg, Int.reduceAdd, Int.reduceSub, Int.reduceToNat]) | (with_reducible first | refine W1 ?_ | refine W2 ?_ | refine W3 ?_ | refine W4 ?_ | refine W5 ?_ | refine W6 ?_ | refine W7 ?_ | refine W8 ?_ | refine W9 ?_))
      rfl
    rintro ⟨a5, i⟩ t ⟨rfl, hi⟩
    simp only at hi
    by_cases hil : i < al.length
    · have hil' : (i : Int) < (al.length : Int) := by omega
      obtain ⟨x, hx⟩ : ∃ x, al[i]? = some x := ⟨_, List.getElem?_eq_getElem hil⟩
      have hg : (al.map altC)[i]? = some (altC x) := by simp [hx]
      have hxm := List.mem_of_getElem? hx
      have hxl := x.2.len
      have htake : List.take 9 x.2.cells = x.2.cells := List.take_of_length_le (by omega)
      have h99 : (13 ≤ x.2.cells.length + 4) = True := by simp [hxl]
      refine raw ?_
      repeat (first | (with_reducible refine unr ?_; try simp only [ZZ, ↓reduceIte, Nat.reduceEqDiff, Nat.reduceAdd, Nat.reduceLeDiff, reduceCtorEq, Int.reduceEq, Int.reduceLT, Int.reduceLE, Int.reduceNeg, Int.reduceAdd, Int.reduceSub, Int.reduceToNat, he, hil', hg, hxl, htake, h99, altC, AltH.cells]) | (with_reducible first | refine W1 ?_ | refine W2 ?_ | refine W3 ?_ | refine W4 ?_ | refine W5 ?_ | refine W6 ?_ | refine W7 ?_ | refine W8 ?_ | refine W9 ?_))
      refine (ih2 x hxm (h2 x hxm) _).mono ?_
      rintro r s ⟨⟨m, rfl⟩, rfl⟩
      refine raw ?_
      repeat (first | (with_reducible refine unr ?_; try simp only [ZZ, ↓reduceIte, Nat.reduceEqDiff, Nat.reduceAdd, Nat.reduceLeDiff, reduceCtorEq, Int.reduceEq, Int.reduceLT, Int.reduceLE, Int.reduceNeg, Int.reduceAdd, Int.reduceSub, Int.reduceToNat, wrap_succ (i := i) (by omega)]) | (with_reducible first | refine W1 ?_ | refine W2 ?_ | refine W3 ?_ | refine W4 ?_ | refine W5 ?_ | refine W6 ?_ | refine W7 ?_ | refine W8 ?_ | refine W9 ?_))
      exact ⟨(_, i + 1), rfl, by simp only; omega, by simp only; omega⟩
    have hil' : ¬ (i : Int) < (al.length : Int) := by omega
    refine raw ?_
    repeat (first | (with_reducible refine unr ?_; try simp only [ZZ, ↓reduceIte, Nat.reduceEqDiff, Nat.reduceAdd, Nat.reduceLeDiff, reduceCtorEq, Int.reduceEq, Int.reduceLT, Int.reduceLE, Int.reduceNeg, Int.reduceAdd, Int.reduceSub, Int.reduceToNat, he, hil']) | (with_reducible first | refine W1 ?_ | refine W2 ?_ | refine W3 ?_ | refine W4 ?_ | refine W5 ?_ | refine W6 ?_ | refine W7 ?_ | refine W8 ?_ | refine W9 ?_))
    clear hil hil' hi
    refine AWP_while [1, 3, 6] (fun y : Int × Nat => bs.length - y.2) (fun y => [.ptr σ.next 0 0 0, .int .i64 y.1, .int .i64 y.2]) (fun y t => s1 = t ∧ y.2 ≤ bs.length) (a5, 0) ⟨rfl, by simp⟩ ?_ ?_
    · refine raw ?_
      repeat (first | (with_reducible refine unr ?_; try simp only [ZZ, ↓reduceIte, Nat.reduceEqDiff, Nat.reduceAdd, Nat.reduceLeDiff, reduceCtorEq, Int.reduceEq, Int.reduceLT, Int.reduceLE, Int.reduceNeg, Int.reduceAdd, Int.reduceSub, Int.reduceToNat]) | (with_reducible first | refine W1 ?_ | refine W2 ?_ | refine W3 ?_ | refine W4 ?_ | refine W5 ?_ | refine W6 ?_ | refine W7 ?_ | refine W8 ?_ | refine W9 ?_))
      rfl
    rintro ⟨a6, i⟩ t ⟨rfl, hi⟩
    simp only at hi
    by_cases hil : i < bs.length
    · have hil' : (i : Int) < (bs.length : Int) := by omega
      obtain ⟨x, hx⟩ : ∃ x, bs[i]? = some x := ⟨_, List.getElem?_eq_getElem hil⟩
      have hg : (bs.map bindC)[i]? = some (bindC x) := by simp [hx]
      have hxm := List.mem_of_getElem? hx
      have hxl := x.2.len
      have htake : List.take 9 x.2.cells = x.2.cells := List.take_of_length_le (by omega)
      have h99 : (10 ≤ x.2.cells.length + 1) = True := by simp [hxl]
      refine raw ?_
      repeat (first | (with_reducible refine unr ?_; try simp only [ZZ, ↓reduceIte, Nat.reduceEqDiff, Nat.reduceAdd, Nat.reduceLeDiff, reduceCtorEq, Int.reduceEq, Int.reduceLT, Int.reduceLE, Int.reduceNeg, Int.reduceAdd, Int.reduceSub, Int.reduceToNat, he, hil', hg, hxl, htake, h99, bindC]) | (with_reducible first | refine W1 ?_ | refine W2 ?_ | refine W3 ?_ | refine W4 ?_ | refine W5 ?_ | refine W6 ?_ | refine W7 ?_ | refine W8 ?_ | refine W9 ?_))
      refine (ih3 x hxm (h3 x hxm) _).mono ?_
      rintro r s ⟨⟨m, rfl⟩, rfl⟩
      refine raw ?_
      repeat (first | (with_reducible refine unr ?_; try simp only [ZZ, ↓reduceIte, Nat.reduceEqDiff, Nat.reduceAdd, Nat.reduceLeDiff, reduceCtorEq, Int.reduceEq, Int.reduceLT, Int.reduceLE, Int.reduceNeg, Int.reduceAdd, Int.reduceSub, Int.reduceToNat, wrap_succ (i := i) (by omega)]) | (with_reducible first | refine W1 ?_ | refine W2 ?_ | refine W3 ?_ | refine W4 ?_ | refine W5 ?_ | refine W6 ?_ | refine W7 ?_ | refine W8 ?_ | refine W9 ?_))
      exact ⟨(_, i + 1), rfl, by simp only; omega, by simp only; omega⟩
    have hil' : ¬ (i : Int) < (bs.length : Int) := by omega
    refine raw ?_
    repeat (first | (with_reducible refine unr ?_; try simp only [ZZ, ↓reduceIte, Nat.reduceEqDiff, Nat.reduceAdd, Nat.reduceLeDiff, reduceCtorEq, Int.reduceEq, Int.reduceLT, Int.reduceLE, Int.reduceNeg, Int.reduceAdd, Int.reduceSub, Int.reduceToNat, he, hil']) | (with_reducible first | refine W1 ?_ | refine W2 ?_ | refine W3 ?_ | refine W4 ?_ | refine W5 ?_ | refine W6 ?_ | refine W7 ?_ | refine W8 ?_ | refine W9 ?_))
    clear hil hil' hi
    refine AWP_while [1, 3, 7] (fun y : Int × Nat => pk.length - y.2) (fun y => [.ptr σ.next 0 0 0, .int .i64 y.1, .int .i64 y.2]) (fun y t => s1 = t ∧ y.2 ≤ pk.length) (a6, 0) ⟨rfl, by simp⟩ ?_ ?_
    · refine raw ?_
      repeat (first | (with_reducible refine unr ?_; try simp only [ZZ, ↓reduceIte, Nat.reduceEqDiff, Nat.reduceAdd, Nat.reduceLeDiff, reduceCtorEq, Int.reduceEq, Int.reduceLT, Int.reduceLE, Int.reduceNeg, Int.reduceAdd, Int.reduceSub, Int.reduceToNat]) | (with_reducible first | refine W1 ?_ | refine W2 ?_ | refine W3 ?_ | refine W4 ?_ | refine W5 ?_ | refine W6 ?_ | refine W7 ?_ | refine W8 ?_ | refine W9 ?_))
      rfl
    rintro ⟨a7, i⟩ t ⟨rfl, hi⟩
    simp only at hi
    by_cases hil : i < pk.length
    · have hil' : (i : Int) < (pk.length : Int) := by omega
      obtain ⟨x, hx⟩ : ∃ x, pk[i]? = some x := ⟨_, List.getElem?_eq_getElem hil⟩
      have hg : (pk.map pickC)[i]? = some (pickC x) := by simp [hx]
      have hxm := List.mem_of_getElem? hx
      have hxl := x.2.len
      have htake : List.take 9 x.2.cells = x.2.cells := List.take_of_length_le (by omega)
      have h99 : (10 ≤ x.2.cells.length + 1) = True := by simp [hxl]
      refine raw ?_
      repeat (first | (with_reducible refine unr ?_; try simp only [ZZ, ↓reduceIte, Nat.reduceEqDiff, Nat.reduceAdd, Nat.reduceLeDiff, reduceCtorEq, Int.reduceEq, Int.reduceLT, Int.reduceLE, Int.reduceNeg, Int.reduceAdd, Int.reduceSub, Int.reduceToNat, he, hil', hg, hxl, htake, h99, pickC]) | (with_reducible first | refine W1 ?_ | refine W2 ?_ | refine W3 ?_ | refine W4 ?_ | refine W5 ?_ | refine W6 ?_ | refine W7 ?_ | refine W8 ?_ | refine W9 ?_))
      refine (ih4 x hxm (h4 x hxm) _).mono ?_
      rintro r s ⟨⟨m, rfl⟩, rfl⟩
      refine raw ?_
      repeat (first | (with_reducible refine unr ?_; try simp only [ZZ, ↓reduceIte, Nat.reduceEqDiff, Nat.reduceAdd, Nat.reduceLeDiff, reduceCtorEq, Int.reduceEq, Int.reduceLT, Int.reduceLE, Int.reduceNeg, Int.reduceAdd, Int.reduceSub, Int.reduceToNat, wrap_succ (i := i) (by omega)]) | (with_reducible first | refine W1 ?_ | refine W2 ?_ | refine W3 ?_ | refine W4 ?_ | refine W5 ?_ | refine W6 ?_ | refine W7 ?_ | refine W8 ?_ | refine W9 ?_))
      exact ⟨(_, i + 1), rfl, by simp only; omega, by simp only; omega⟩
    have hil' : ¬ (i : Int) < (pk.length : Int) := by omega
    refine raw ?_
    repeat (first | (with_reducible refine unr ?_; try simp only [ZZ, ↓reduceIte, Nat.reduceEqDiff, Nat.reduceAdd, Nat.reduceLeDiff, reduceCtorEq, Int.reduceEq, Int.reduceLT, Int.reduceLE, Int.reduceNeg, Int.reduceAdd, Int.reduceSub, Int.reduceToNat, he, hil']) | (with_reducible first | refine W1 ?_ | refine W2 ?_ | refine W3 ?_ | refine W4 ?_ | refine W5 ?_ | refine W6 ?_ | refine W7 ?_ | refine W8 ?_ | refine W9 ?_))
    clear hil hil' hi
    exact FP.same k1 ⟨_, rfl⟩ (.int _ _)
end Go.Proofs.Ytjjbjibbjbbeaaa
/- Small ones: what begins with, numbers read, local names. -/
set_option linter.unusedVariables false
set_option linter.unusedSimpArgs false
namespace Go.Proofs.Ytjjbjibbjbbeaaa
open Go.AL
theorem prefix_ok (s p : ByteArray) (σ : Store) : ACalls Try.prog 173 [.str s, .str p] σ fun r σ' => (∃ b : Bool, r = .bool b ∧ (b = true → p.size ≤ s.size)) ∧ σ' = σ := by
  refine in173 (by simp) ?_
  unfold c173
  by_cases h : p.size ≤ s.size
  · have h' : (p.size : Int) ≤ (s.size : Int) := by omega
    have h0 : (0 : Int) ≤ (p.size : Int) := by omega
    refine raw ?_
    repeat (first | (with_reducible refine unr ?_; try simp only [ZZ, ↓reduceIte, Nat.reduceEqDiff, Nat.reduceAdd, Nat.reduceLeDiff, reduceCtorEq, Int.reduceEq, Int.reduceLT, Int.reduceLE, Int.reduceNeg, Int.reduceAdd, Int.reduceSub, Int.reduceToNat, h', h0]) | (with_reducible first | refine W1 ?_ | refine W2 ?_ | refine W3 ?_ | refine W4 ?_ | refine W5 ?_ | refine W6 ?_ | refine W7 ?_ | refine W8 ?_ | refine W9 ?_))
    exact ⟨_, rfl, fun _ => h⟩
  · have h' : ¬ (p.size : Int) ≤ (s.size : Int) := by omega
    refine raw ?_
    repeat (first | (with_reducible refine unr ?_; try simp only [ZZ, ↓reduceIte, Nat.reduceEqDiff, Nat.reduceAdd, Nat.reduceLeDiff, reduceCtorEq, Int.reduceEq, Int.reduceLT, Int.reduceLE, Int.reduceNeg, Int.reduceAdd, Int.reduceSub, Int.reduceToNat, h']) | (with_reducible first | refine W1 ?_ | refine W2 ?_ | refine W3 ?_ | refine W4 ?_ | refine W5 ?_ | refine W6 ?_ | refine W7 ?_ | refine W8 ?_ | refine W9 ?_))
    exact ⟨_, rfl, by simp⟩
theorem hasPrefix_ok (s p : ByteArray) (σ : Store) : ACalls Try.prog 169 [.str s, .str p] σ fun r σ' => (∃ b : Bool, r = .bool b ∧ (b = true → p.size ≤ s.size)) ∧ σ' = σ := by
  refine in169 (by simp) ?_
  unfold c169
  refine raw ?_
  repeat (first | (with_reducible refine unr ?_; try simp only [ZZ, ↓reduceIte, Nat.reduceEqDiff, Nat.reduceAdd, Nat.reduceLeDiff, reduceCtorEq, Int.reduceEq, Int.reduceLT, Int.reduceLE, Int.reduceNeg, Int.reduceAdd, Int.reduceSub, Int.reduceToNat]) | (with_reducible first | refine W1 ?_ | refine W2 ?_ | refine W3 ?_ | refine W4 ?_ | refine W5 ?_ | refine W6 ?_ | refine W7 ?_ | refine W8 ?_ | refine W9 ?_))
  refine (prefix_ok s p σ).mono ?_
  rintro r t ⟨⟨b, rfl, hb⟩, rfl⟩
  refine raw ?_
  repeat (first | (with_reducible refine unr ?_; try simp only [ZZ, ↓reduceIte, Nat.reduceEqDiff, Nat.reduceAdd, Nat.reduceLeDiff, reduceCtorEq, Int.reduceEq, Int.reduceLT, Int.reduceLE, Int.reduceNeg, Int.reduceAdd, Int.reduceSub, Int.reduceToNat]) | (with_reducible first | refine W1 ?_ | refine W2 ?_ | refine W3 ?_ | refine W4 ?_ | refine W5 ?_ | refine W6 ?_ | refine W7 ?_ | refine W8 ?_ | refine W9 ?_))
  exact ⟨b, rfl, hb⟩
end Go.Proofs.Ytjjbjibbjbbeaaa
/- What is free in an expression, and what is made of it, as plain functions. -/
set_option linter.unusedVariables false
set_option linter.unusedSimpArgs false
namespace Go.AL
/-! ### Bulk -/
mutual
def Cr.bulk : Cr → Nat
  | .mk k nm n ar ps gs al bs pk => 1 + nm.size + ps.length + Cr.bulkL gs + Cr.bulkA al + Cr.bulkB bs + Cr.bulkP pk
def Cr.bulkL : List Cr → Nat
  | [] => 0
  | x :: r => Cr.bulk x + Cr.bulkL r
def Cr.bulkA : List (AltH × Cr) → Nat
  | [] => 0
  | (h, x) :: r => h.ps.length + Cr.bulk x + Cr.bulkA r
def Cr.bulkB : List (ByteArray × Cr) → Nat
  | [] => 0
  | (s, x) :: r => 1 + Cr.bulk x + Cr.bulkB r
def Cr.bulkP : List (Int × Cr) → Nat
  | [] => 0
  | (s, x) :: r => Cr.bulk x + Cr.bulkP r
end
theorem Cr.bulk_pos (x : Cr) : 1 ≤ x.bulk := by cases x; rw [Cr.bulk]; omega
theorem Cr.bulkL_le {x : Cr} : ∀ {l : List Cr}, x ∈ l → x.bulk ≤ Cr.bulkL l
  | y :: r, h => by
    rw [Cr.bulkL]
    rcases List.mem_cons.1 h with rfl | h
    · omega
    · have := Cr.bulkL_le h; omega
theorem Cr.bulkA_le {x : AltH × Cr} : ∀ {l : List (AltH × Cr)}, x ∈ l → x.1.ps.length + x.2.bulk ≤ Cr.bulkA l
  | (g, y) :: r, h => by
    rw [Cr.bulkA]
    rcases List.mem_cons.1 h with rfl | h
    · simp only; omega
    · have := Cr.bulkA_le h; omega
theorem Cr.bulkB_le {x : ByteArray × Cr} : ∀ {l : List (ByteArray × Cr)}, x ∈ l → 1 + x.2.bulk ≤ Cr.bulkB l
  | (g, y) :: r, h => by
    rw [Cr.bulkB]
    rcases List.mem_cons.1 h with rfl | h
    · simp only; omega
    · have := Cr.bulkB_le h; omega
theorem Cr.bulkP_le {x : Int × Cr} : ∀ {l : List (Int × Cr)}, x ∈ l → x.2.bulk ≤ Cr.bulkP l
  | (g, y) :: r, h => by
    rw [Cr.bulkP]
    rcases List.mem_cons.1 h with rfl | h
    · simp only; omega
    · have := Cr.bulkP_le h; omega
theorem Cr.lenL : ∀ l : List Cr, l.length ≤ Cr.bulkL l
  | [] => by simp
  | x :: r => by rw [Cr.bulkL, List.length_cons]; have := Cr.lenL r; have := x.bulk_pos; omega
theorem Cr.lenA : ∀ l : List (AltH × Cr), l.length ≤ Cr.bulkA l
  | [] => by simp
  | (h, x) :: r => by rw [Cr.bulkA, List.length_cons]; have := Cr.lenA r; have := x.bulk_pos; omega
theorem Cr.lenB : ∀ l : List (ByteArray × Cr), l.length ≤ Cr.bulkB l
  | [] => by simp
  | (h, x) :: r => by rw [Cr.bulkB, List.length_cons]; have := Cr.lenB r; have := x.bulk_pos; omega
theorem Cr.lenP : ∀ l : List (Int × Cr), l.length ≤ Cr.bulkP l
  | [] => by simp
  | (h, x) :: r => by rw [Cr.bulkP, List.length_cons]; have := Cr.lenP r; have := x.bulk_pos; omega
theorem Cr.sm_of_bulk (x : Cr) (h : x.bulk ≤ 1048576) : x.Sm := by
  induction x using Cr.ind with
  | _ k nm n ar ps gs al bs pk h1 h2 h3 h4 =>
    rw [Cr.bulk] at h
    have := Cr.lenL gs; have := Cr.lenA al; have := Cr.lenB bs; have := Cr.lenP pk
    refine .mk (by omega) (by omega) (by omega) (by omega) (by omega) (fun x hx => h1 x hx ?_) (fun x hx => h2 x hx ?_) (fun x hx => ?_) (fun x hx => h3 x hx ?_) (fun x hx => h4 x hx ?_)
    · have := Cr.bulkL_le hx; omega
    · have := Cr.bulkA_le hx; omega
    · have := Cr.bulkA_le hx; omega
    · have := Cr.bulkB_le hx; omega
    · have := Cr.bulkP_le hx; omega

/-! ### Shapes: each function has one part -/
inductive Cr.Sh : Cr → Prop
  | mk {k : Int} {nm : ByteArray} {n ar : Int} {ps : List ByteArray} {gs : List Cr} {al : List (AltH × Cr)} {bs : List (ByteArray × Cr)} {pk : List (Int × Cr)} (h : k = 6 → gs.length = 1)
    (h1 : ∀ x, x ∈ gs → Cr.Sh x) (h2 : ∀ x, x ∈ al → Cr.Sh x.2) (h3 : ∀ x, x ∈ bs → Cr.Sh x.2) (h4 : ∀ x, x ∈ pk → Cr.Sh x.2) : Cr.Sh (.mk k nm n ar ps gs al bs pk)
/-! ### What is free -/

/-! ### What is made -/
/-- A supercombinator. -/
structure Sup where
  nm : ByteArray
  ps : List ByteArray
  bd : Cr
def Cr.zero : Cr := .mk 0 ⟨#[]⟩ 0 0 [] [] [] [] []
def Cr.glob (s : ByteArray) : Cr := .mk 2 s 0 0 [] [] [] [] []
def Cr.app (f a : Cr) : Cr := .mk 5 ⟨#[]⟩ 0 0 [] [f, a] [] [] []
end Go.AL
/- Numbers read: some number, some fault. -/
set_option linter.unusedVariables false
set_option linter.unusedSimpArgs false
namespace Go.AL
/-- Some number and some fault. -/
def TwoInts (r : AV) : Prop := ∃ n e : Int, r = .tuple [.int .i64 n, .int .i64 e]
@[congr] theorem TwoInts_congr {w : Prop} (hw : Visit = w) {r r' : AV} (h : r = r') : TwoInts r = TwoInts r' := by rw [h]
theorem TwoInts.mk (n e : Int) : TwoInts (.tuple [.int .i64 n, .int .i64 e]) := ⟨n, e, rfl⟩
end Go.AL
namespace Go.Proofs.Ytjjbjibbjbbeaaa
open Go.AL
theorem parse_ok (s : ByteArray) (σ : Store) : ACalls Try.prog 141 [.str s] σ fun r σ' => TwoInts r ∧ σ' = σ := by
  refine in141 (by simp) ?_
  unfold c141
  try simp only [ZZ, ↓reduceIte, Nat.reduceEqDiff, Nat.reduceAdd, Nat.reduceLeDiff, reduceCtorEq, Int.reduceEq, Int.reduceLT, Int.reduceLE, Int.reduceNeg, Int.reduceAdd, Int.reduceSub, Int.reduceToNat]
  iterate 5 ((with_reducible first | refine W1 ?_ | refine W2 ?_ | refine W3 ?_ | refine W4 ?_ | refine W5 ?_ | refine W6 ?_ | refine W7 ?_ | refine W8 ?_ | refine W9 ?_); refine unr ?_; try simp only [ZZ, ↓reduceIte, Nat.reduceEqDiff, Nat.reduceAdd, Nat.reduceLeDiff, reduceCtorEq, Int.reduceEq, Int.reduceLT, Int.reduceLE, Int.reduceNeg, Int.reduceAdd, Int.reduceSub, Int.reduceToNat])
  refine AWP_cut [0, 2, 3, 4, 5] (fun b : Bool => [.str s, .int .i64 0, .int .i64 0, .str s, .bool b]) (fun b t => t = σ ∧ (b = true → 0 < s.size)) ?_ ?_
  · refine raw ?_
    repeat' (first | (with_reducible refine unr ?_; try simp only [ZZ, ↓reduceIte, Nat.reduceEqDiff, Nat.reduceAdd, Nat.reduceLeDiff, reduceCtorEq, Int.reduceEq, Int.reduceLT, Int.reduceLE, Int.reduceNeg, Int.reduceAdd, Int.reduceSub, Int.reduceToNat, str_nil, *]) | (with_reducible first | refine W1 ?_ | refine W2 ?_ | refine W3 ?_ | refine W4 ?_ | refine W5 ?_ | refine W6 ?_ | refine W7 ?_ | refine W8 ?_ | refine W9 ?_ | refine ok_idx (by first | assumption | omega) (fun b hb => raw ?_) | refine ok_iad (by first | assumption | omega) (fun x hx hxm => raw ?_) | refine And.intro (by omega) (raw ?_) | (refine guardW_b (fun h => raw ?_) (fun h => raw ?_) <;> try simp only [Ty] at h) | (refine ePick_b (fun h => raw ?_) (fun h => raw ?_) <;> try simp only [Ty] at h) | (refine condW_b (fun h => raw ?_) (fun h => raw ?_) <;> try simp only [Ty] at h)))
    · exact ⟨_, rfl, by simp; omega⟩
    · exact ⟨_, rfl, by simp⟩
  rintro b t ⟨rfl, hb⟩
  refine AWP_cut [0, 2, 3, 4, 5] (fun x : ByteArray => [.str s, .int .i64 0, .int .i64 0, .str x, .bool b]) (fun x s => s = t) ?_ ?_
  · refine raw ?_
    repeat' (first | (with_reducible refine unr ?_; try simp only [ZZ, ↓reduceIte, Nat.reduceEqDiff, Nat.reduceAdd, Nat.reduceLeDiff, reduceCtorEq, Int.reduceEq, Int.reduceLT, Int.reduceLE, Int.reduceNeg, Int.reduceAdd, Int.reduceSub, Int.reduceToNat, str_nil, *]) | (with_reducible first | refine W1 ?_ | refine W2 ?_ | refine W3 ?_ | refine W4 ?_ | refine W5 ?_ | refine W6 ?_ | refine W7 ?_ | refine W8 ?_ | refine W9 ?_ | refine ok_idx (by first | assumption | omega) (fun b hb => raw ?_) | refine ok_iad (by first | assumption | omega) (fun x hx hxm => raw ?_) | refine And.intro (by omega) (raw ?_) | (refine guardW_b (fun h => raw ?_) (fun h => raw ?_) <;> try simp only [Ty] at h) | (refine ePick_b (fun h => raw ?_) (fun h => raw ?_) <;> try simp only [Ty] at h) | (refine condW_b (fun h => raw ?_) (fun h => raw ?_) <;> try simp only [Ty] at h)))
    · have := hb h
      simp only [h] at *
      refine raw ?_
      repeat' (first | (with_reducible refine unr ?_; try simp only [ZZ, ↓reduceIte, Nat.reduceEqDiff, Nat.reduceAdd, Nat.reduceLeDiff, reduceCtorEq, Int.reduceEq, Int.reduceLT, Int.reduceLE, Int.reduceNeg, Int.reduceAdd, Int.reduceSub, Int.reduceToNat, str_nil, *]) | (with_reducible first | refine W1 ?_ | refine W2 ?_ | refine W3 ?_ | refine W4 ?_ | refine W5 ?_ | refine W6 ?_ | refine W7 ?_ | refine W8 ?_ | refine W9 ?_ | refine ok_idx (by first | assumption | omega) (fun b hb => raw ?_) | refine ok_iad (by first | assumption | omega) (fun x hx hxm => raw ?_) | refine And.intro (by omega) (raw ?_) | (refine guardW_b (fun h => raw ?_) (fun h => raw ?_) <;> try simp only [Ty] at h) | (refine ePick_b (fun h => raw ?_) (fun h => raw ?_) <;> try simp only [Ty] at h) | (refine condW_b (fun h => raw ?_) (fun h => raw ?_) <;> try simp only [Ty] at h)))
      exact ⟨_, rfl⟩
    · exact ⟨_, rfl⟩
  rintro x t rfl
  refine AWP_cut [0, 2, 3, 4, 5] (fun z : Unit => [.str s, .int .i64 0, .int .i64 0, .str x, .bool b]) (fun z s => s = t ∧ x.size ≤ 19) ?_ ?_
  · refine raw ?_
    repeat' (first | (with_reducible refine unr ?_; try simp only [ZZ, ↓reduceIte, Nat.reduceEqDiff, Nat.reduceAdd, Nat.reduceLeDiff, reduceCtorEq, Int.reduceEq, Int.reduceLT, Int.reduceLE, Int.reduceNeg, Int.reduceAdd, Int.reduceSub, Int.reduceToNat, str_nil, *]) | (with_reducible first | refine W1 ?_ | refine W2 ?_ | refine W3 ?_ | refine W4 ?_ | refine W5 ?_ | refine W6 ?_ | refine W7 ?_ | refine W8 ?_ | refine W9 ?_ | refine ok_idx (by first | assumption | omega) (fun b hb => raw ?_) | refine ok_iad (by first | assumption | omega) (fun x hx hxm => raw ?_) | refine And.intro (by omega) (raw ?_) | (refine guardW_b (fun h => raw ?_) (fun h => raw ?_) <;> try simp only [Ty] at h) | (refine ePick_b (fun h => raw ?_) (fun h => raw ?_) <;> try simp only [Ty] at h) | (refine condW_b (fun h => raw ?_) (fun h => raw ?_) <;> try simp only [Ty] at h)))
    all_goals first
      | exact .mk _ _
      | exact ⟨(), by omega⟩
  rintro _ t ⟨rfl, hx⟩
  refine raw ?_
  repeat (first | (with_reducible refine unr ?_; try simp only [ZZ, ↓reduceIte, Nat.reduceEqDiff, Nat.reduceAdd, Nat.reduceLeDiff, reduceCtorEq, Int.reduceEq, Int.reduceLT, Int.reduceLE, Int.reduceNeg, Int.reduceAdd, Int.reduceSub, Int.reduceToNat]) | (with_reducible first | refine W1 ?_ | refine W2 ?_ | refine W3 ?_ | refine W4 ?_ | refine W5 ?_ | refine W6 ?_ | refine W7 ?_ | refine W8 ?_ | refine W9 ?_))
  refine AWP_while [0, 4, 5, 6, 7, 8] (fun y : Int × Nat => x.size - y.2) (fun y => [.str s, .str x, .bool b, .int .u64 y.1, .bool true, .int .i64 y.2]) (fun y s => s = t ∧ y.2 ≤ x.size) (0, 0) ⟨rfl, by simp⟩ ?_ ?_
  · refine raw ?_
    repeat (first | (with_reducible refine unr ?_; try simp only [ZZ, ↓reduceIte, Nat.reduceEqDiff, Nat.reduceAdd, Nat.reduceLeDiff, reduceCtorEq, Int.reduceEq, Int.reduceLT, Int.reduceLE, Int.reduceNeg, Int.reduceAdd, Int.reduceSub, Int.reduceToNat]) | (with_reducible first | refine W1 ?_ | refine W2 ?_ | refine W3 ?_ | refine W4 ?_ | refine W5 ?_ | refine W6 ?_ | refine W7 ?_ | refine W8 ?_ | refine W9 ?_))
    rfl
  rintro ⟨a, i⟩ t ⟨rfl, hi⟩
  simp only at hi
  have hw := wrap_succ (i := i) (by omega)
  refine raw ?_
  repeat' (first | (with_reducible refine unr ?_; try simp only [ZZ, ↓reduceIte, Nat.reduceEqDiff, Nat.reduceAdd, Nat.reduceLeDiff, reduceCtorEq, Int.reduceEq, Int.reduceLT, Int.reduceLE, Int.reduceNeg, Int.reduceAdd, Int.reduceSub, Int.reduceToNat, str_nil, *]) | (with_reducible first | refine W1 ?_ | refine W2 ?_ | refine W3 ?_ | refine W4 ?_ | refine W5 ?_ | refine W6 ?_ | refine W7 ?_ | refine W8 ?_ | refine W9 ?_ | refine ok_idx (by first | assumption | omega) (fun b hb => raw ?_) | refine ok_iad (by first | assumption | omega) (fun x hx hxm => raw ?_) | refine And.intro (by omega) (raw ?_) | (refine guardW_b (fun h => raw ?_) (fun h => raw ?_) <;> try simp only [Ty] at h) | (refine ePick_b (fun h => raw ?_) (fun h => raw ?_) <;> try simp only [Ty] at h) | (refine condW_b (fun h => raw ?_) (fun h => raw ?_) <;> try simp only [Ty] at h)))
  all_goals first
    | exact .mk _ _
    | exact ⟨(_, i + 1), rfl, by simp only; omega, by simp only; omega⟩
end Go.Proofs.Ytjjbjibbjbbeaaa
/- Local names, names joined. -/
set_option linter.unusedVariables false
set_option linter.unusedSimpArgs false
namespace Go.AL
/-- Some truth. -/
def SomeB (r : AV) : Prop := ∃ b : Bool, r = .bool b
@[congr] theorem SomeB_congr {w : Prop} (hw : Visit = w) {r r' : AV} (h : r = r') : SomeB r = SomeB r' := by rw [h]
theorem SomeB.mk (b : Bool) : SomeB (.bool b) := ⟨b, rfl⟩
theorem SomeB.out {r : AV} (h : SomeB r) : ∃ b : Bool, r = .bool b ∧ True := by obtain ⟨b, h⟩ := h; exact ⟨b, h, trivial⟩
theorem map_take' {α β : Type} (f : α → β) (l : List α) (i : Nat) : List.take i (l.map f) = (l.take i).map f := List.map_take.symm
theorem map_drop' {α β : Type} (f : α → β) (l : List α) (i : Nat) : List.drop i (l.map f) = (l.drop i).map f := List.map_drop.symm
theorem Cr.take9 (x : Cr) : List.take 9 x.cells = x.cells := List.take_of_length_le (by rw [x.len]; omega)
theorem mem_strs {l : List ByteArray} {q : List AV} (h : q ∈ l.map fun s => [AV.str s]) : q.length = 1 := by
  obtain ⟨x, _, rfl⟩ := List.mem_map.1 h; rfl
theorem all_strs (l : List ByteArray) : (∀ q, q ∈ (l.map fun s => [AV.str s]) → q.length = 1) = True := by
  simp
end Go.AL
namespace Go.Proofs.Ytjjbjibbjbbeaaa
open Go.AL
theorem parse' (s : ByteArray) (σ : Store) : ACalls Try.prog 141 [.str s] σ fun r σ' => (∃ p : Int × Int, r = .tuple [.int .i64 p.1, .int .i64 p.2] ∧ True) ∧ σ' = σ :=
  (parse_ok s σ).mono fun r t ⟨⟨a, b, h⟩, h2⟩ => ⟨⟨(a, b), h, trivial⟩, h2⟩
theorem contains_strs (l : List ByteArray) (hl : l.length ≤ 9223372036854775806) (k : ByteArray) (σ : Store) : ACalls Try.prog 85 [strs l, .str k] σ fun r σ' => r = .bool (@decide (k ∈ l) (Classical.propDecidable _)) ∧ σ' = σ :=
  contains_ok (l := l) (v := strs l) (.list σ (fun q hq => mem_strs hq)) hl k
theorem local_ok (s : ByteArray) (σ : Store) : ACalls Try.prog 154 [.str s] σ fun r σ' => SomeB r ∧ σ' = σ := by
  refine in154 (by simp) ?_
  unfold c154
  refine raw ?_
  repeat' (first | (with_reducible refine unr ?_; try simp only [ZZ, ↓reduceIte, Nat.reduceEqDiff, Nat.reduceAdd, Nat.reduceLeDiff, reduceCtorEq, Int.reduceEq, Int.reduceLT, Int.reduceLE, Int.reduceNeg, Int.reduceAdd, Int.reduceSub, Int.reduceToNat, str_nil, *]) | (with_reducible first | refine W1 ?_ | refine W2 ?_ | refine W3 ?_ | refine W4 ?_ | refine W5 ?_ | refine W6 ?_ | refine W7 ?_ | refine W8 ?_ | refine W9 ?_ | refine ok_idx (by first | assumption | omega) (fun b hb => raw ?_) | refine ok_iad (by first | assumption | omega) (fun x hx hxm => raw ?_) | refine And.intro (by omega) (raw ?_) | (refine guardW_b (fun h => raw ?_) (fun h => raw ?_) <;> try simp only [Ty] at h) | (refine ePick_b (fun h => raw ?_) (fun h => raw ?_) <;> try simp only [Ty] at h) | (refine condW_b (fun h => raw ?_) (fun h => raw ?_) <;> try simp only [Ty] at h) | (refine (hasPrefix_ok _ _ _).mono ?_; rintro _ _ ⟨⟨b, rfl, hb⟩, rfl⟩; refine raw ?_) | (refine (parse' _ _).mono ?_; rintro _ _ ⟨⟨b, rfl, hb⟩, rfl⟩; refine raw ?_)))
  all_goals first
    | exact .mk _
    | skip
  rename_i b1 hb1 h1 σ1
  have h35 : (⟨#[35]⟩ : ByteArray).size = 1 := rfl
  have hs : (1 : Int) ≤ (s.size : Int) := by have := hb1 h1; omega
  refine raw ?_
  repeat' (first | (with_reducible refine unr ?_; try simp only [ZZ, ↓reduceIte, Nat.reduceEqDiff, Nat.reduceAdd, Nat.reduceLeDiff, reduceCtorEq, Int.reduceEq, Int.reduceLT, Int.reduceLE, Int.reduceNeg, Int.reduceAdd, Int.reduceSub, Int.reduceToNat, str_nil, *]) | (with_reducible first | refine W1 ?_ | refine W2 ?_ | refine W3 ?_ | refine W4 ?_ | refine W5 ?_ | refine W6 ?_ | refine W7 ?_ | refine W8 ?_ | refine W9 ?_ | refine ok_idx (by first | assumption | omega) (fun b hb => raw ?_) | refine ok_iad (by first | assumption | omega) (fun x hx hxm => raw ?_) | refine And.intro (by omega) (raw ?_) | (refine guardW_b (fun h => raw ?_) (fun h => raw ?_) <;> try simp only [Ty] at h) | (refine ePick_b (fun h => raw ?_) (fun h => raw ?_) <;> try simp only [Ty] at h) | (refine condW_b (fun h => raw ?_) (fun h => raw ?_) <;> try simp only [Ty] at h) | (refine (parse' _ _).mono ?_; rintro _ _ ⟨⟨b, rfl, hb⟩, rfl⟩; refine raw ?_)))
  exact .mk _
theorem local' (s : ByteArray) (σ : Store) : ACalls Try.prog 154 [.str s] σ fun r σ' => (∃ b : Bool, r = .bool b ∧ True) ∧ σ' = σ := (local_ok s σ).mono fun _ _ h => ⟨h.1.out, h.2⟩
theorem joined_ok (a b : List ByteArray) (ha : a.length + b.length ≤ 100000000) (σ : Store) : ACalls Try.prog 143 [strs a, strs b] σ fun r σ' => r = strs (a ++ b) ∧ σ' = σ := by
  refine ACalls_fp (p := fun r => r = strs (a ++ b)) ?_
  refine in143 (by simp) ?_
  unfold c143
  refine raw ?_
  repeat (first | (with_reducible refine unr ?_; try simp only [ZZ, ↓reduceIte, Nat.reduceEqDiff, Nat.reduceAdd, Nat.reduceLeDiff, reduceCtorEq, Int.reduceEq, Int.reduceLT, Int.reduceLE, Int.reduceNeg, Int.reduceAdd, Int.reduceSub, Int.reduceToNat]) | (with_reducible first | refine W1 ?_ | refine W2 ?_ | refine W3 ?_ | refine W4 ?_ | refine W5 ?_ | refine W6 ?_ | refine W7 ?_ | refine W8 ?_ | refine W9 ?_))
  refine ok_grow (.start σ 9 1) (by intro q hq; exact mem_strs hq) (by simp; omega) (by simp [maxLen]; omega) ?_
  intro v s1 hG _ _
  refine raw ?_
  repeat (first | (with_reducible refine unr ?_; try simp only [ZZ, ↓reduceIte, Nat.reduceEqDiff, Nat.reduceAdd, Nat.reduceLeDiff, reduceCtorEq, Int.reduceEq, Int.reduceLT, Int.reduceLE, Int.reduceNeg, Int.reduceAdd, Int.reduceSub, Int.reduceToNat]) | (with_reducible first | refine W1 ?_ | refine W2 ?_ | refine W3 ?_ | refine W4 ?_ | refine W5 ?_ | refine W6 ?_ | refine W7 ?_ | refine W8 ?_ | refine W9 ?_))
  refine ok_grow hG (by intro q hq; exact mem_strs hq) (by simp; omega) (by simp [maxLen]; omega) ?_
  intro v2 s2 hG2 _ _
  refine raw ?_
  repeat (first | (with_reducible refine unr ?_; try simp only [ZZ, ↓reduceIte, Nat.reduceEqDiff, Nat.reduceAdd, Nat.reduceLeDiff, reduceCtorEq, Int.reduceEq, Int.reduceLT, Int.reduceLE, Int.reduceNeg, Int.reduceAdd, Int.reduceSub, Int.reduceToNat]) | (with_reducible first | refine W1 ?_ | refine W2 ?_ | refine W3 ?_ | refine W4 ?_ | refine W5 ?_ | refine W6 ?_ | refine W7 ?_ | refine W8 ?_ | refine W9 ?_))
  exact FP.mk (strs (a ++ b)) (by simpa using hG2.sl) .here rfl (cln_strs _) hG2.kp hG2.fresh
theorem locals_ok (l : List ByteArray) (hl : l.length ≤ 100000000) (σ : Store) : ACalls Try.prog 111 [strs l] σ fun r σ' => SomeB r ∧ σ' = σ := by
  refine in111 (by simp) ?_
  unfold c111
  refine raw ?_
  repeat (first | (with_reducible refine unr ?_; try simp only [ZZ, ↓reduceIte, Nat.reduceEqDiff, Nat.reduceAdd, Nat.reduceLeDiff, reduceCtorEq, Int.reduceEq, Int.reduceLT, Int.reduceLE, Int.reduceNeg, Int.reduceAdd, Int.reduceSub, Int.reduceToNat]) | (with_reducible first | refine W1 ?_ | refine W2 ?_ | refine W3 ?_ | refine W4 ?_ | refine W5 ?_ | refine W6 ?_ | refine W7 ?_ | refine W8 ?_ | refine W9 ?_))
  refine AWP_while [0, 5, 6, 7] (fun i : Nat => l.length - i) (fun i => [strs l, strs l, .int .i64 l.length, .int .i64 i]) (fun i t => t = σ ∧ i ≤ l.length) 0 ⟨rfl, by simp⟩ ?_ ?_
  · refine raw ?_
    repeat (first | (with_reducible refine unr ?_; try simp only [ZZ, ↓reduceIte, Nat.reduceEqDiff, Nat.reduceAdd, Nat.reduceLeDiff, reduceCtorEq, Int.reduceEq, Int.reduceLT, Int.reduceLE, Int.reduceNeg, Int.reduceAdd, Int.reduceSub, Int.reduceToNat]) | (with_reducible first | refine W1 ?_ | refine W2 ?_ | refine W3 ?_ | refine W4 ?_ | refine W5 ?_ | refine W6 ?_ | refine W7 ?_ | refine W8 ?_ | refine W9 ?_))
    rfl
  rintro i t ⟨rfl, hi⟩
  have hw := wrap_succ (i := i) (by omega)
  refine raw ?_
  repeat' (first | (with_reducible refine unr ?_; try simp only [ZZ, ↓reduceIte, Nat.reduceEqDiff, Nat.reduceAdd, Nat.reduceLeDiff, reduceCtorEq, Int.reduceEq, Int.reduceLT, Int.reduceLE, Int.reduceNeg, Int.reduceAdd, Int.reduceSub, Int.reduceToNat, all_strs, map_take', map_drop', str_nil, *]) | (with_reducible first | refine W1 ?_ | refine W2 ?_ | refine W3 ?_ | refine W4 ?_ | refine W5 ?_ | refine W6 ?_ | refine W7 ?_ | refine W8 ?_ | refine W9 ?_ | refine ok_idx (by first | assumption | omega) (fun b hb => raw ?_) | refine ok_iad (by first | assumption | omega) (fun x hx hxm => raw ?_) | refine And.intro (by omega) (raw ?_) | (refine guardW_b (fun h => raw ?_) (fun h => raw ?_) <;> try simp only [Ty] at h) | (refine ePick_b (fun h => raw ?_) (fun h => raw ?_) <;> try simp only [Ty] at h) | (refine condW_b (fun h => raw ?_) (fun h => raw ?_) <;> try simp only [Ty] at h) | (refine (local' _ _).mono ?_; rintro _ _ ⟨⟨b, rfl, hb⟩, rfl⟩; refine raw ?_) | (refine (contains_strs _ (by simp; omega) _ _).mono ?_; rintro _ _ ⟨rfl, rfl⟩; refine raw ?_)))
  all_goals first
    | exact .mk _
    | exact ⟨i + 1, rfl, by omega, by omega⟩
theorem names_ok (l : List (ByteArray × Cr)) (hl : l.length ≤ 100000000) (σ : Store) : ACalls Try.prog 136 [.list (l.map bindC)] σ fun r σ' => r = strs (l.map (·.1)) ∧ σ' = σ := by
  refine ACalls_fp (p := fun r => r = strs (l.map (·.1))) ?_
  refine in136 (by simp) ?_
  unfold c136
  refine raw ?_
  repeat (first | (with_reducible refine unr ?_; try simp only [ZZ, ↓reduceIte, Nat.reduceEqDiff, Nat.reduceAdd, Nat.reduceLeDiff, reduceCtorEq, Int.reduceEq, Int.reduceLT, Int.reduceLE, Int.reduceNeg, Int.reduceAdd, Int.reduceSub, Int.reduceToNat]) | (with_reducible first | refine W1 ?_ | refine W2 ?_ | refine W3 ?_ | refine W4 ?_ | refine W5 ?_ | refine W6 ?_ | refine W7 ?_ | refine W8 ?_ | refine W9 ?_))
  refine AWP_while [0, 3, 6, 7, 8] (fun y : AV × Nat => l.length - y.2) (fun y => [.list (l.map bindC), y.1, .list (l.map bindC), .int .i64 l.length, .int .i64 y.2])
    (fun y t => y.2 ≤ l.length ∧ Grow σ t y.1 9 1 ((l.take y.2).map fun x => [.str x.1])) (.nils, 0) ⟨by simp, .start _ _ _⟩ ?_ ?_
  · refine raw ?_
    repeat (first | (with_reducible refine unr ?_; try simp only [ZZ, ↓reduceIte, Nat.reduceEqDiff, Nat.reduceAdd, Nat.reduceLeDiff, reduceCtorEq, Int.reduceEq, Int.reduceLT, Int.reduceLE, Int.reduceNeg, Int.reduceAdd, Int.reduceSub, Int.reduceToNat]) | (with_reducible first | refine W1 ?_ | refine W2 ?_ | refine W3 ?_ | refine W4 ?_ | refine W5 ?_ | refine W6 ?_ | refine W7 ?_ | refine W8 ?_ | refine W9 ?_))
    rfl
  rintro ⟨v, i⟩ t ⟨hi, hG⟩
  simp only at hi hG
  have hw := wrap_succ (i := i) (by omega)
  refine raw ?_
  repeat' (first | (with_reducible refine unr ?_; try simp only [ZZ, ↓reduceIte, Nat.reduceEqDiff, Nat.reduceAdd, Nat.reduceLeDiff, reduceCtorEq, Int.reduceEq, Int.reduceLT, Int.reduceLE, Int.reduceNeg, Int.reduceAdd, Int.reduceSub, Int.reduceToNat, bindC, Cr.len, Cr.take9, str_nil, *]) | (with_reducible first | refine W1 ?_ | refine W2 ?_ | refine W3 ?_ | refine W4 ?_ | refine W5 ?_ | refine W6 ?_ | refine W7 ?_ | refine W8 ?_ | refine W9 ?_ | refine ok_idx (by first | assumption | omega) (fun b hb => raw ?_) | refine ok_iad (by first | assumption | omega) (fun x hx hxm => raw ?_) | refine And.intro (by omega) (raw ?_) | (refine guardW_b (fun h => raw ?_) (fun h => raw ?_) <;> try simp only [Ty] at h) | (refine ePick_b (fun h => raw ?_) (fun h => raw ?_) <;> try simp only [Ty] at h) | (refine condW_b (fun h => raw ?_) (fun h => raw ?_) <;> try simp only [Ty] at h)))
  · refine ok_grow (hG.push _) (es2 := [[.str x.1]]) (by simp) (by simp; omega) (by simp [maxLen]; omega) ?_
    intro v' t3 hG3 _ _
    refine raw ?_
    repeat (first | (with_reducible refine unr ?_; try simp only [ZZ, ↓reduceIte, Nat.reduceEqDiff, Nat.reduceAdd, Nat.reduceLeDiff, reduceCtorEq, Int.reduceEq, Int.reduceLT, Int.reduceLE, Int.reduceNeg, Int.reduceAdd, Int.reduceSub, Int.reduceToNat, hw]) | (with_reducible first | refine W1 ?_ | refine W2 ?_ | refine W3 ?_ | refine W4 ?_ | refine W5 ?_ | refine W6 ?_ | refine W7 ?_ | refine W8 ?_ | refine W9 ?_))
    refine ⟨(v', i + 1), rfl, ⟨by simp only; omega, ?_⟩, by simp only; omega⟩
    have : (l.take (i + 1)).map (fun x => [AV.str x.1]) = (l.take i).map (fun x => [AV.str x.1]) ++ [[AV.str x.1]] := by rw [List.take_add_one, hx]; simp
    simp only [this]; exact hG3
  · rw [List.take_of_length_le (by omega)] at hG
    exact FP.mk (strs (l.map (·.1))) (by simpa [Function.comp_def] using hG.sl) .here rfl (cln_strs _) hG.kp hG.fresh
end Go.Proofs.Ytjjbjibbjbbeaaa
/- The last # of a text; names of operators. -/
set_option linter.unusedVariables false
set_option linter.unusedSimpArgs false
namespace Go.AL
/-- Some text. -/
def SomeS (r : AV) : Prop := ∃ b : ByteArray, r = .str b
@[congr] theorem SomeS_congr {w : Prop} (hw : Visit = w) {r r' : AV} (h : r = r') : SomeS r = SomeS r' := by rw [h]
theorem SomeS.mk (b : ByteArray) : SomeS (.str b) := ⟨b, rfl⟩
theorem SomeS.out {r : AV} (h : SomeS r) : ∃ b : ByteArray, r = .str b ∧ True := by obtain ⟨b, h⟩ := h; exact ⟨b, h, trivial⟩
/-- Some number, no less than -1 and below a bound. -/
def Below (n : Nat) (r : AV) : Prop := ∃ b : Int, r = .int .i64 b ∧ -1 ≤ b ∧ b < n
@[congr] theorem Below_congr {w : Prop} (hw : Visit = w) {n : Nat} {r r' : AV} (h : r = r') : Below n r = Below n r' := by rw [h]
/-- Some number. -/
def SomeI (r : AV) : Prop := ∃ b : Int, r = .int .i64 b
@[congr] theorem SomeI_congr {w : Prop} (hw : Visit = w) {r r' : AV} (h : r = r') : SomeI r = SomeI r' := by rw [h]
theorem SomeI.mk (b : Int) : SomeI (.int .i64 b) := ⟨b, rfl⟩
theorem SomeI.out {r : AV} (h : SomeI r) : ∃ b : Int, r = .int .i64 b ∧ True := by obtain ⟨b, h⟩ := h; exact ⟨b, h, trivial⟩
end Go.AL
namespace Go.Proofs.Ytjjbjibbjbbeaaa
open Go.AL
theorem opName_ok (n : Int) (σ : Store) : ACalls Try.prog 110 [.int .i64 n] σ fun r σ' => SomeS r ∧ σ' = σ := by
  refine in110 (by simp) ?_
  unfold c110
  refine raw ?_
  repeat' (first | (with_reducible refine unr ?_; try simp only [ZZ, ↓reduceIte, Nat.reduceEqDiff, Nat.reduceAdd, Nat.reduceLeDiff, reduceCtorEq, Int.reduceEq, Int.reduceLT, Int.reduceLE, Int.reduceNeg, Int.reduceAdd, Int.reduceSub, Int.reduceToNat, str_nil, *]) | (with_reducible first | refine W1 ?_ | refine W2 ?_ | refine W3 ?_ | refine W4 ?_ | refine W5 ?_ | refine W6 ?_ | refine W7 ?_ | refine W8 ?_ | refine W9 ?_ | refine ok_idx (by first | assumption | omega) (fun b hb => raw ?_) | refine ok_iad (by first | assumption | omega) (fun x hx hxm => raw ?_) | refine And.intro (by omega) (raw ?_) | (refine guardW_b (fun h => raw ?_) (fun h => raw ?_) <;> try simp only [Ty] at h) | (refine ePick_b (fun h => raw ?_) (fun h => raw ?_) <;> try simp only [Ty] at h) | (refine condW_b (fun h => raw ?_) (fun h => raw ?_) <;> try simp only [Ty] at h)))
  all_goals exact .mk _
theorem opName' (n : Int) (σ : Store) : ACalls Try.prog 110 [.int .i64 n] σ fun r σ' => (∃ b : ByteArray, r = .str b ∧ True) ∧ σ' = σ := (opName_ok n σ).mono fun _ _ h => ⟨h.1.out, h.2⟩
theorem op_ok (s : ByteArray) (σ : Store) : ACalls Try.prog 83 [.str s] σ fun r σ' => SomeI r ∧ σ' = σ := by
  refine in83 (by simp) ?_
  unfold c83
  refine raw ?_
  repeat' (first | (with_reducible refine unr ?_; try simp only [ZZ, ↓reduceIte, Nat.reduceEqDiff, Nat.reduceAdd, Nat.reduceLeDiff, reduceCtorEq, Int.reduceEq, Int.reduceLT, Int.reduceLE, Int.reduceNeg, Int.reduceAdd, Int.reduceSub, Int.reduceToNat, str_nil, *]) | (with_reducible first | refine W1 ?_ | refine W2 ?_ | refine W3 ?_ | refine W4 ?_ | refine W5 ?_ | refine W6 ?_ | refine W7 ?_ | refine W8 ?_ | refine W9 ?_ | refine ok_idx (by first | assumption | omega) (fun b hb => raw ?_) | refine ok_iad (by first | assumption | omega) (fun x hx hxm => raw ?_) | refine And.intro (by omega) (raw ?_) | (refine guardW_b (fun h => raw ?_) (fun h => raw ?_) <;> try simp only [Ty] at h) | (refine ePick_b (fun h => raw ?_) (fun h => raw ?_) <;> try simp only [Ty] at h) | (refine condW_b (fun h => raw ?_) (fun h => raw ?_) <;> try simp only [Ty] at h)))
  · exact .mk _
  refine AWP_while [0, 3] (fun i : Nat => 12 - i) (fun i => [.str s, .int .i64 i]) (fun i t => t = σ ∧ i ≤ 12) 1 ⟨rfl, by simp⟩ ?_ ?_
  · refine raw ?_
    repeat (first | (with_reducible refine unr ?_; try simp only [ZZ, ↓reduceIte, Nat.reduceEqDiff, Nat.reduceAdd, Nat.reduceLeDiff, reduceCtorEq, Int.reduceEq, Int.reduceLT, Int.reduceLE, Int.reduceNeg, Int.reduceAdd, Int.reduceSub, Int.reduceToNat]) | (with_reducible first | refine W1 ?_ | refine W2 ?_ | refine W3 ?_ | refine W4 ?_ | refine W5 ?_ | refine W6 ?_ | refine W7 ?_ | refine W8 ?_ | refine W9 ?_))
    rfl
  rintro i t ⟨rfl, hi⟩
  have hw := wrap_succ (i := i) (by omega)
  refine raw ?_
  repeat' (first | (with_reducible refine unr ?_; try simp only [ZZ, ↓reduceIte, Nat.reduceEqDiff, Nat.reduceAdd, Nat.reduceLeDiff, reduceCtorEq, Int.reduceEq, Int.reduceLT, Int.reduceLE, Int.reduceNeg, Int.reduceAdd, Int.reduceSub, Int.reduceToNat, str_nil, *]) | (with_reducible first | refine W1 ?_ | refine W2 ?_ | refine W3 ?_ | refine W4 ?_ | refine W5 ?_ | refine W6 ?_ | refine W7 ?_ | refine W8 ?_ | refine W9 ?_ | refine ok_idx (by first | assumption | omega) (fun b hb => raw ?_) | refine ok_iad (by first | assumption | omega) (fun x hx hxm => raw ?_) | refine And.intro (by omega) (raw ?_) | (refine guardW_b (fun h => raw ?_) (fun h => raw ?_) <;> try simp only [Ty] at h) | (refine ePick_b (fun h => raw ?_) (fun h => raw ?_) <;> try simp only [Ty] at h) | (refine condW_b (fun h => raw ?_) (fun h => raw ?_) <;> try simp only [Ty] at h) | (refine (opName' _ _).mono ?_; rintro _ _ ⟨⟨b, rfl, hb⟩, rfl⟩; refine raw ?_)))
  all_goals first
    | exact .mk _
    | exact ⟨i + 1, rfl, by omega, by omega⟩
theorem op' (s : ByteArray) (σ : Store) : ACalls Try.prog 83 [.str s] σ fun r σ' => (∃ b : Int, r = .int .i64 b ∧ True) ∧ σ' = σ := (op_ok s σ).mono fun _ _ h => ⟨h.1.out, h.2⟩
end Go.Proofs.Ytjjbjibbjbbeaaa
/- Which expressions may be: each function among them has one part. -/
set_option linter.unusedVariables false
set_option linter.unusedSimpArgs false
namespace Go.AL
theorem row5_eq (a b c d e a' b' c' d' e' : Int) : aBin (.row [.int, .int, .int, .int, .int]) .eql (.agg [.int .i64 a, .int .i64 b, .int .i64 c, .int .i64 d, .int .i64 e]) (.agg [.int .i64 a', .int .i64 b', .int .i64 c', .int .i64 d', .int .i64 e']) =
    some (.bool (decide (a = a' ∧ b = b' ∧ c = c' ∧ d = d' ∧ e = e'))) := by simp [aBin, eqFs, eq1]
theorem row5_ne (a b c d e a' b' c' d' e' : Int) : aBin (.row [.int, .int, .int, .int, .int]) .neq (.agg [.int .i64 a, .int .i64 b, .int .i64 c, .int .i64 d, .int .i64 e]) (.agg [.int .i64 a', .int .i64 b', .int .i64 c', .int .i64 d', .int .i64 e']) =
    some (.bool (!decide (a = a' ∧ b = b' ∧ c = c' ∧ d = d' ∧ e = e'))) := by simp [aBin, eqFs, eq1]
/-- Some truth; if so, each function among the parts has one part. -/
def RB (p : Prop) (r : AV) : Prop := ∃ b : Bool, r = .bool b ∧ (b = true → p)
@[congr] theorem RB_congr {w : Prop} (hw : Visit = w) {p : Prop} {r r' : AV} (h : r = r') : RB p r = RB p r' := by rw [h]
theorem RB.f {p : Prop} : RB p (.bool false) := ⟨false, rfl, by simp⟩
theorem RB.t {p : Prop} {b : Bool} (h : p) : RB p (.bool b) := ⟨b, rfl, fun _ => h⟩
/-- The checker and its names. -/
structure Chk (σ : Store) (cid : Nat) (v : AV) (l : List ByteArray) : Prop where
  hd : σ.get cid = some (.cells 196 0 1 [[v]])
  sl : SliceAt σ v 9 1 (l.map fun s => [.str s])
  len : l.length ≤ 100000000
theorem Chk.keep {σ s : Store} {cid : Nat} {v : AV} {l : List ByteArray} (h : Chk σ cid v l) (k : Kp σ s) : Chk s cid v l :=
  ⟨k.get h.hd, h.sl.keep fun i hi => k.keep i (h.sl.lt hi), h.len⟩
theorem Cr.Sh.nil {k : Int} {nm : ByteArray} {n ar : Int} {ps : List ByteArray} {gs : List Cr} {al : List (AltH × Cr)} {bs : List (ByteArray × Cr)} {pk : List (Int × Cr)} (h6 : k ≠ 6)
    (h : (ps.length : Int) = 0 ∧ (gs.length : Int) = 0 ∧ (al.length : Int) = 0 ∧ (bs.length : Int) = 0 ∧ (pk.length : Int) = 0) : (Cr.mk k nm n ar ps gs al bs pk).Sh := by
  obtain ⟨_, h1, h2, h3, h4⟩ := h
  have h1 : gs = [] := List.eq_nil_of_length_eq_zero (by omega)
  have h2 : al = [] := List.eq_nil_of_length_eq_zero (by omega)
  have h3 : bs = [] := List.eq_nil_of_length_eq_zero (by omega)
  have h4 : pk = [] := List.eq_nil_of_length_eq_zero (by omega)
  subst h1 h2 h3 h4
  exact .mk (fun h => absurd h h6) (by simp) (by simp) (by simp) (by simp)
theorem Cr.bulkB_le2 {x : ByteArray × Cr} : ∀ {l : List (ByteArray × Cr)}, x ∈ l → l.length + x.2.bulk ≤ Cr.bulkB l
  | (g, y) :: r, h => by
    rw [Cr.bulkB, List.length_cons]
    rcases List.mem_cons.1 h with rfl | h
    · have := Cr.lenB r; simp only; omega
    · have := Cr.bulkB_le2 h; omega
theorem all_nil {α : Type} {p : α → Prop} {l : List α} (h : (l.length : Int) = 0) : ∀ x, x ∈ l → p x := by
  have : l = [] := List.eq_nil_of_length_eq_zero (by omega)
  subst this; simp
theorem all_succ {α : Type} {p : α → Prop} {l : List α} {i : Nat} {x : α} (h : ∀ y, y ∈ l.take i → p y) (hx : l[i]? = some x) (hp : p x) : ∀ y, y ∈ l.take (i + 1) → p y := by
  intro y hy
  rw [List.take_add_one, hx] at hy
  rcases List.mem_append.1 hy with h1 | h1
  · exact h y h1
  · simp at h1; subst h1; exact hp
end Go.AL
namespace Go.Proofs.Ytjjbjibbjbbeaaa
open Go.AL
theorem indexI_ok {σ : Store} {v : AV} {l : List Int} (h : Rds σ v 1 (l.map fun s => [.int .i64 s])) (hl : l.length ≤ 9223372036854775806) (k : Int) :
    ACalls Try.prog 172 [v, .int .i64 k] σ fun r σ' => SomeI r ∧ σ' = σ := by
  refine in172 (by simp) ?_
  unfold c172
  have hlen := h.len
  simp only [List.length_map] at hlen
  refine raw ?_
  repeat (first | (with_reducible refine unr ?_; try simp only [ZZ, ↓reduceIte, Nat.reduceEqDiff, Nat.reduceAdd, Nat.reduceLeDiff, reduceCtorEq, Int.reduceEq, Int.reduceLT, Int.reduceLE, Int.reduceNeg, Int.reduceAdd, Int.reduceSub, Int.reduceToNat, hlen]) | (with_reducible first | refine W1 ?_ | refine W2 ?_ | refine W3 ?_ | refine W4 ?_ | refine W5 ?_ | refine W6 ?_ | refine W7 ?_ | refine W8 ?_ | refine W9 ?_))
  refine AWP_while [0, 1, 7, 8] (fun i : Nat => l.length - i) (fun i => [v, .int .i64 k, .int .i64 l.length, .int .i64 i])
    (fun i s => s = σ ∧ i ≤ l.length) 0 ⟨rfl, by omega⟩ ?_ ?_
  · refine raw ?_
    repeat (first | (with_reducible refine unr ?_; try simp only [ZZ, ↓reduceIte, Nat.reduceEqDiff, Nat.reduceAdd, Nat.reduceLeDiff, reduceCtorEq, Int.reduceEq, Int.reduceLT, Int.reduceLE, Int.reduceNeg, Int.reduceAdd, Int.reduceSub, Int.reduceToNat]) | (with_reducible first | refine W1 ?_ | refine W2 ?_ | refine W3 ?_ | refine W4 ?_ | refine W5 ?_ | refine W6 ?_ | refine W7 ?_ | refine W8 ?_ | refine W9 ?_))
    rfl
  · rintro i s ⟨rfl, hi⟩
    have hw := wrap_succ (i := i) (by omega)
    by_cases hil : i < l.length
    · have hil' : (i : Int) < (l.length : Int) := by omega
      obtain ⟨x, hx⟩ : ∃ x, l[i]? = some x := ⟨_, List.getElem?_eq_getElem hil⟩
      obtain ⟨p, hp, hep⟩ := h.iad i [.int .i64 x] (by simp [hx])
      have hld := hep.load none
      refine raw ?_
      repeat' (first | (with_reducible refine unr ?_; try simp only [ZZ, ↓reduceIte, Nat.reduceEqDiff, Nat.reduceAdd, Nat.reduceLeDiff, reduceCtorEq, Int.reduceEq, Int.reduceLT, Int.reduceLE, Int.reduceNeg, Int.reduceAdd, Int.reduceSub, Int.reduceToNat, str_nil, *]) | (with_reducible first | refine W1 ?_ | refine W2 ?_ | refine W3 ?_ | refine W4 ?_ | refine W5 ?_ | refine W6 ?_ | refine W7 ?_ | refine W8 ?_ | refine W9 ?_ | refine ok_idx (by first | assumption | omega) (fun b hb => raw ?_) | refine ok_iad (by first | assumption | omega) (fun x hx hxm => raw ?_) | refine And.intro (by omega) (raw ?_) | (refine guardW_b (fun h => raw ?_) (fun h => raw ?_) <;> try simp only [Ty] at h) | (refine ePick_b (fun h => raw ?_) (fun h => raw ?_) <;> try simp only [Ty] at h) | (refine condW_b (fun h => raw ?_) (fun h => raw ?_) <;> try simp only [Ty] at h)))
      all_goals first
        | exact .mk _
        | exact ⟨i + 1, rfl, by omega, by omega⟩
    · refine raw ?_
      repeat' (first | (with_reducible refine unr ?_; try simp only [ZZ, ↓reduceIte, Nat.reduceEqDiff, Nat.reduceAdd, Nat.reduceLeDiff, reduceCtorEq, Int.reduceEq, Int.reduceLT, Int.reduceLE, Int.reduceNeg, Int.reduceAdd, Int.reduceSub, Int.reduceToNat, str_nil, *]) | (with_reducible first | refine W1 ?_ | refine W2 ?_ | refine W3 ?_ | refine W4 ?_ | refine W5 ?_ | refine W6 ?_ | refine W7 ?_ | refine W8 ?_ | refine W9 ?_ | refine ok_idx (by first | assumption | omega) (fun b hb => raw ?_) | refine ok_iad (by first | assumption | omega) (fun x hx hxm => raw ?_) | refine And.intro (by omega) (raw ?_) | (refine guardW_b (fun h => raw ?_) (fun h => raw ?_) <;> try simp only [Ty] at h) | (refine ePick_b (fun h => raw ?_) (fun h => raw ?_) <;> try simp only [Ty] at h) | (refine condW_b (fun h => raw ?_) (fun h => raw ?_) <;> try simp only [Ty] at h)))
      all_goals first
        | exact .mk _
        | exact absurd ‹_› (by omega)
theorem indexI' {σ : Store} {v : AV} {l : List Int} (h : Rds σ v 1 (l.map fun s => [.int .i64 s])) (hl : l.length ≤ 9223372036854775806) (k : Int) :
    ACalls Try.prog 172 [v, .int .i64 k] σ fun r σ' => (∃ b : Int, r = .int .i64 b ∧ True) ∧ σ' = σ := (indexI_ok h hl k).mono fun _ _ h => ⟨h.1.out, h.2⟩
theorem containsI_ok {σ : Store} {v : AV} {l : List Int} (h : Rds σ v 1 (l.map fun s => [.int .i64 s])) (hl : l.length ≤ 9223372036854775806) (k : Int) :
    ACalls Try.prog 160 [v, .int .i64 k] σ fun r σ' => SomeB r ∧ σ' = σ := by
  refine in160 (by simp) ?_
  unfold c160
  refine raw ?_
  repeat' (first | (with_reducible refine unr ?_; try simp only [ZZ, ↓reduceIte, Nat.reduceEqDiff, Nat.reduceAdd, Nat.reduceLeDiff, reduceCtorEq, Int.reduceEq, Int.reduceLT, Int.reduceLE, Int.reduceNeg, Int.reduceAdd, Int.reduceSub, Int.reduceToNat, str_nil, *]) | (with_reducible first | refine W1 ?_ | refine W2 ?_ | refine W3 ?_ | refine W4 ?_ | refine W5 ?_ | refine W6 ?_ | refine W7 ?_ | refine W8 ?_ | refine W9 ?_ | refine ok_idx (by first | assumption | omega) (fun b hb => raw ?_) | refine ok_iad (by first | assumption | omega) (fun x hx hxm => raw ?_) | refine And.intro (by omega) (raw ?_) | (refine guardW_b (fun h => raw ?_) (fun h => raw ?_) <;> try simp only [Ty] at h) | (refine ePick_b (fun h => raw ?_) (fun h => raw ?_) <;> try simp only [Ty] at h) | (refine condW_b (fun h => raw ?_) (fun h => raw ?_) <;> try simp only [Ty] at h) | (refine (indexI' h hl k).mono ?_; rintro _ _ ⟨⟨b, rfl, hb⟩, rfl⟩; refine raw ?_)))
  exact .mk _
theorem containsI' {σ : Store} {v : AV} {l : List Int} (h : Rds σ v 1 (l.map fun s => [.int .i64 s])) (hl : l.length ≤ 9223372036854775806) (k : Int) :
    ACalls Try.prog 160 [v, .int .i64 k] σ fun r σ' => (∃ b : Bool, r = .bool b ∧ True) ∧ σ' = σ := (containsI_ok h hl k).mono fun _ _ h => ⟨h.1.out, h.2⟩
theorem locals' (l : List ByteArray) (hl : l.length ≤ 100000000) (σ : Store) : ACalls Try.prog 111 [strs l] σ fun r σ' => (∃ b : Bool, r = .bool b ∧ True) ∧ σ' = σ := (locals_ok l hl σ).mono fun _ _ h => ⟨h.1.out, h.2⟩
end Go.Proofs.Ytjjbjibbjbbeaaa
/- Right: true only where each function has one part. -/
set_option linter.unusedVariables false
set_option linter.unusedSimpArgs false
namespace Go.AL
end Go.AL
namespace Go.Proofs.Ytjjbjibbjbbeaaa
open Go.AL
end Go.Proofs.Ytjjbjibbjbbeaaa
/- What is free in an expression. -/
set_option linter.unusedVariables false
set_option linter.unusedSimpArgs false
namespace Go.AL
theorem Cr.bulkA_app : ∀ l m : List (AltH × Cr), Cr.bulkA (l ++ m) = Cr.bulkA l + Cr.bulkA m
  | [], m => by simp [Cr.bulkA]
  | (h, x) :: r, m => by rw [List.cons_append, Cr.bulkA, Cr.bulkA, Cr.bulkA_app r m]; omega
theorem Cr.bulkB_app : ∀ l m : List (ByteArray × Cr), Cr.bulkB (l ++ m) = Cr.bulkB l + Cr.bulkB m
  | [], m => by simp [Cr.bulkB]
  | (h, x) :: r, m => by rw [List.cons_append, Cr.bulkB, Cr.bulkB, Cr.bulkB_app r m]; omega
theorem Cr.bulkP_app : ∀ l m : List (Int × Cr), Cr.bulkP (l ++ m) = Cr.bulkP l + Cr.bulkP m
  | [], m => by simp [Cr.bulkP]
  | (h, x) :: r, m => by rw [List.cons_append, Cr.bulkP, Cr.bulkP, Cr.bulkP_app r m]; omega
theorem Cr.lenB2 : ∀ l : List (ByteArray × Cr), 2 * l.length ≤ Cr.bulkB l
  | [] => by simp
  | (h, x) :: r => by rw [Cr.bulkB, List.length_cons]; have := Cr.lenB2 r; have := x.bulk_pos; omega
theorem split_at {α : Type} {l : List α} {i : Nat} {x : α} (h : l[i]? = some x) : l = l.take i ++ x :: l.drop (i + 1) := by
  obtain ⟨hi, rfl⟩ := List.getElem?_eq_some_iff.1 h
  conv => lhs; rw [← List.take_append_drop i l]
  rw [List.drop_eq_getElem_cons hi]
theorem take_succ_at {α : Type} {l : List α} {i : Nat} {x : α} (h : l[i]? = some x) : l.take (i + 1) = l.take i ++ [x] := by rw [List.take_add_one, h]; rfl
theorem Cr.bulkA_take {l : List (AltH × Cr)} {i : Nat} {x : AltH × Cr} (h : l[i]? = some x) : Cr.bulkA (l.take i) + x.1.ps.length + x.2.bulk ≤ Cr.bulkA l := by
  conv => rhs; rw [split_at h, Cr.bulkA_app]
  obtain ⟨h, y⟩ := x
  rw [Cr.bulkA]; simp only; omega
theorem Cr.bulkB_take {l : List (ByteArray × Cr)} {i : Nat} {x : ByteArray × Cr} (h : l[i]? = some x) : Cr.bulkB (l.take i) + 1 + x.2.bulk ≤ Cr.bulkB l := by
  conv => rhs; rw [split_at h, Cr.bulkB_app]
  obtain ⟨h, y⟩ := x
  rw [Cr.bulkB]; simp only; omega
theorem Cr.bulkP_take {l : List (Int × Cr)} {i : Nat} {x : Int × Cr} (h : l[i]? = some x) : Cr.bulkP (l.take i) + x.2.bulk ≤ Cr.bulkP l := by
  conv => rhs; rw [split_at h, Cr.bulkP_app]
  obtain ⟨h, y⟩ := x
  rw [Cr.bulkP]; simp only; omega

/-! ### The finder -/
structure FindAt (σ : Store) (fid : Nat) (vb vo : AV) (bound out : List ByteArray) : Prop where
  hd : σ.get fid = some (.cells 192 0 2 [[vb, vo]])
  sb : SliceAt σ vb 9 1 (bound.map fun s => [.str s])
  so : SliceAt σ vo 9 1 (out.map fun s => [.str s])
  nb : fid ∉ slIds vb
  no : fid ∉ slIds vo
  dj : ∀ j, j ∈ slIds vb → j ∉ slIds vo
/-- What is none of the finder's is as it was. -/
structure FF (σ s : Store) (fid : Nat) (vb vo vb' vo' : AV) : Prop where
  next : σ.next ≤ s.next
  keep : ∀ j, j < σ.next → j ≠ fid → j ∉ slIds vb → j ∉ slIds vo → s.get j = σ.get j
  fb : ∀ j, j ∈ slIds vb' → j ∈ slIds vb ∨ σ.next ≤ j
  fo : ∀ j, j ∈ slIds vo' → j ∈ slIds vo ∨ σ.next ≤ j
theorem FF.refl (σ : Store) (fid : Nat) (vb vo : AV) : FF σ σ fid vb vo vb vo := ⟨Nat.le_refl _, fun _ _ _ _ _ => rfl, fun _ h => .inl h, fun _ h => .inl h⟩
theorem FF.trans {σ s u : Store} {fid : Nat} {vb vo vb' vo' vb2 vo2 : AV} (h : FF σ s fid vb vo vb' vo') (k : FF s u fid vb' vo' vb2 vo2) : FF σ u fid vb vo vb2 vo2 where
  next := Nat.le_trans h.next k.next
  keep j hj h1 h2 h3 := by
    rw [k.keep j (Nat.lt_of_lt_of_le hj h.next) h1 (fun hm => (h.fb j hm).elim h2 (fun h => absurd hj (by omega))) (fun hm => (h.fo j hm).elim h3 (fun h => absurd hj (by omega))), h.keep j hj h1 h2 h3]
  fb j hj := (k.fb j hj).elim (h.fb j) fun hh => .inr (Nat.le_trans h.next hh)
  fo j hj := (k.fo j hj).elim (h.fo j) fun hh => .inr (Nat.le_trans h.next hh)
theorem FF.kp {σ s : Store} (k : Kp σ s) (fid : Nat) (vb vo : AV) : FF σ s fid vb vo vb vo := ⟨k.next, fun j hj _ _ _ => k.keep j hj, fun _ h => .inl h, fun _ h => .inl h⟩
theorem FF.push {σ s : Store} {fid : Nat} {vb vo vb' vo' : AV} (h : FF σ s fid vb vo vb' vo') (o : AObj) : FF σ (s.push o) fid vb vo vb' vo' := h.trans (FF.kp (.pushed _ _) _ _ _)
theorem FindAt.keep {σ s : Store} {fid : Nat} {vb vo : AV} {b o : List ByteArray} (h : FindAt σ fid vb vo b o) (k : Kp σ s) : FindAt s fid vb vo b o :=
  ⟨k.get h.hd, h.sb.keep fun i hi => k.keep i (h.sb.lt hi), h.so.keep fun i hi => k.keep i (h.so.lt hi), h.nb, h.no, h.dj⟩
theorem FF.get {σ s : Store} {fid : Nat} {vb vo vb' vo' : AV} (h : FF σ s fid vb vo vb' vo') {j : Nat} {o : AObj} (hj : σ.get j = some o) (h1 : j ≠ fid) (h2 : j ∉ slIds vb) (h3 : j ∉ slIds vo) : s.get j = some o := by
  rw [h.keep j (σ.lt hj) h1 h2 h3]; exact hj
/-- The finder behind a call. -/
def LookPost (σ : Store) (fid : Nat) (vb vo : AV) (b o : List ByteArray) (s : Store) : Prop := ∃ vb' vo', FindAt s fid vb' vo' b o ∧ FF σ s fid vb vo vb' vo'
@[congr] theorem LookPost_congr {w : Prop} (hw : Visit = w) {σ : Store} {fid : Nat} {vb vo : AV} {b o : List ByteArray} {s s' : Store} (h : s = s') : LookPost σ fid vb vo b o s = LookPost σ fid vb vo b o s' := by rw [h]
end Go.AL
namespace Go.Proofs.Ytjjbjibbjbbeaaa
open Go.AL
end Go.Proofs.Ytjjbjibbjbbeaaa
/- What is free in an expression: look, Free. -/
set_option linter.unusedVariables false
set_option linter.unusedSimpArgs false
namespace Go.Proofs.Ytjjbjibbjbbeaaa
open Go.AL
end Go.Proofs.Ytjjbjibbjbbeaaa
/- A number's text: one text for each number. -/
set_option linter.unusedVariables false
set_option linter.unusedSimpArgs false
namespace Go.AL
end Go.AL
namespace Go.Proofs.Ytjjbjibbjbbeaaa
open Go.AL
end Go.Proofs.Ytjjbjibbjbbeaaa
/- The lifter: an expression's parts. -/
set_option linter.unusedVariables false
set_option linter.unusedSimpArgs false
namespace Go.AL
def supC (p : Sup) : List AV := .str p.nm :: strs p.ps :: p.bd.cells
theorem Cr.drop9 (x : Cr) : List.drop 9 x.cells = [] := List.drop_of_length_le (by rw [x.len]; omega)
structure LiftAt (σ : Store) (fid : Nat) (v : AV) (df : ByteArray) (es : List (List AV)) : Prop where
  hd : σ.get fid = some (.cells 120 0 2 [[.str df, v]])
  sl : SliceAt σ v 71 11 es
  nv : fid ∉ slIds v
/-- The lifter behind a call. -/
def LPost (σ : Store) (fid : Nat) (v : AV) (df : ByteArray) (es : List (List AV)) (s : Store) : Prop :=
  ∃ v', LiftAt s fid v' df es ∧ σ.next ≤ s.next ∧ (∀ j, j < σ.next → j ≠ fid → j ∉ slIds v → s.get j = σ.get j) ∧ (∀ j, j ∈ slIds v' → j ∈ slIds v ∨ σ.next ≤ j)
@[congr] theorem LPost_congr {w : Prop} (hw : Visit = w) {σ : Store} {fid : Nat} {v : AV} {df : ByteArray} {es : List (List AV)} {s s' : Store} (h : s = s') : LPost σ fid v df es s = LPost σ fid v df es s' := by rw [h]
/-- The lifter amid a function's own variables (those from N on are newer). -/
structure MS (σ s : Store) (N fid : Nat) (v v' : AV) (df : ByteArray) (es : List (List AV)) : Prop where
  la : LiftAt s fid v' df es
  le : σ.next ≤ N
  next : N ≤ s.next
  keep : ∀ j, j < σ.next → j ≠ fid → j ∉ slIds v → s.get j = σ.get j
  fresh : ∀ j, j ∈ slIds v' → (j ∈ slIds v ∧ j < σ.next) ∨ N ≤ j
  fid : fid < σ.next
theorem MS.start {σ s : Store} {N fid : Nat} {v : AV} {df : ByteArray} {es : List (List AV)} (h : LiftAt σ fid v df es) (k : Kp σ s) (hN : N = s.next) : MS σ s N fid v v df es :=
  ⟨⟨k.get h.hd, h.sl.keep fun i hi => k.keep i (h.sl.lt hi), h.nv⟩, by have := k.next; omega, by omega, fun j hj _ _ => k.keep j hj, fun j hj => .inl ⟨hj, h.sl.lt hj⟩, σ.lt h.hd⟩
section
variable {σ s s2 : Store} {N fid : Nat} {v v' : AV} {df : ByteArray} {es es2 : List (List AV)}
theorem MS.out (h : MS σ s N fid v v' df es) : LPost σ fid v df es s := ⟨v', h.la, by have := h.le; have := h.next; omega, h.keep, fun j hj => (h.fresh j hj).elim (fun a => .inl a.1) (fun a => .inr (by have := h.le; omega))⟩
theorem MS.push (h : MS σ s N fid v v' df es) (o : AObj) : MS σ (s.push o) N fid v v' df es :=
  ⟨⟨(Kp.pushed s o).get h.la.hd, h.la.sl.keep fun i hi => (Kp.pushed s o).keep i (h.la.sl.lt hi), h.la.nv⟩, h.le, by rw [Store.push_next]; have := h.next; omega, fun j hj h1 h2 => by rw [(Kp.pushed s o).keep j (by have := h.le; have := h.next; omega), h.keep j hj h1 h2], h.fresh, h.fid⟩
theorem MS.chg (h : MS σ s N fid v v' df es) {s2 : Store} {id : Nat} (h1 : σ.next ≤ id) (h2 : id ∉ slIds v') (hn : s2.next = s.next) (hg : ∀ j, j ≠ id → s2.get j = s.get j) : MS σ s2 N fid v v' df es :=
  ⟨⟨by rw [hg _ (by have := h.fid; omega)]; exact h.la.hd, h.la.sl.keep fun i hi => hg i (fun e => h2 (e ▸ hi)), h.la.nv⟩, h.le, by rw [hn]; exact h.next, fun j hj a b => by rw [hg j (by omega), h.keep j hj a b], h.fresh, h.fid⟩
theorem MS.upd (h : MS σ s N fid v v' df es) {id : Nat} (o : AObj) (h1 : σ.next ≤ id) (h2 : id ∉ slIds v') : MS σ (s.upd id o) N fid v v' df es :=
  h.chg h1 h2 rfl fun j hj => Store.get_upd_ne _ _ hj
theorem MS.call (h : MS σ s N fid v v' df es) (k : LPost s fid v' df es2 s2) : ∃ v2, MS σ s2 N fid v v2 df es2 ∧ (∀ j, j < s.next → j ≠ fid → j ∉ slIds v' → s2.get j = s.get j) ∧ (∀ j, j ∈ slIds v2 → j ∈ slIds v' ∨ s.next ≤ j) ∧ s.next ≤ s2.next := by
  obtain ⟨v2, hl, hn, hk, hf⟩ := k
  refine ⟨v2, ⟨hl, h.le, by have := h.next; omega, fun j hj a b => ?_, fun j hj => ?_, h.fid⟩, hk, hf, hn⟩
  · rw [hk j (by have := h.le; have := h.next; omega) a (fun hm => (h.fresh j hm).elim (fun q => b q.1) (fun q => by have := h.le; omega)), h.keep j hj a b]
  · rcases hf j hj with q | q
    · exact h.fresh j q
    · exact .inr (by have := h.next; omega)
/-- An own variable is none of the lifter's. -/
theorem MS.loc (h : MS σ s N fid v v' df es) {j : Nat} (h1 : σ.next ≤ j) (h2 : j < N) : j ∉ slIds v' := fun hm => (h.fresh j hm).elim (fun q => by omega) (fun q => by omega)
/-- A slice that is built beside. -/
structure Bes (s : Store) (N : Nat) (v' u : AV) (ty sz : Nat) (us : List (List AV)) : Prop where
  sl : SliceAt s u ty sz us
  new : ∀ j, j ∈ slIds u → N ≤ j
  dj : ∀ j, j ∈ slIds u → j ∉ slIds v'
theorem Bes.start (s : Store) (N : Nat) (v' : AV) (ty sz : Nat) : Bes s N v' .nils ty sz [] := ⟨.nil _ _ _, by simp [slIds], by simp [slIds]⟩
theorem Bes.call {u : AV} {ty sz : Nat} {us : List (List AV)} (hB : Bes s N v' u ty sz us) {v2 : AV} (hf : N > fid) (hk : ∀ j, j < s.next → j ≠ fid → j ∉ slIds v' → s2.get j = s.get j) (hfr : ∀ j, j ∈ slIds v2 → j ∈ slIds v' ∨ s.next ≤ j) : Bes s2 N v2 u ty sz us :=
  ⟨hB.sl.keep fun j hj => hk j (hB.sl.lt hj) (by have := hB.new j hj; omega) (hB.dj j hj), hB.new, fun j hj hm => (hfr j hm).elim (hB.dj j hj) (fun q => by have := hB.sl.lt hj; omega)⟩
theorem Bes.push {u : AV} {ty sz : Nat} {us : List (List AV)} (hB : Bes s N v' u ty sz us) (o : AObj) : Bes (s.push o) N v' u ty sz us :=
  ⟨hB.sl.keep fun j hj => (Kp.pushed s o).keep j (hB.sl.lt hj), hB.new, hB.dj⟩
theorem Bes.upd {u : AV} {ty sz : Nat} {us : List (List AV)} (hB : Bes s N v' u ty sz us) {id : Nat} (o : AObj) (h : id ∉ slIds u) : Bes (s.upd id o) N v' u ty sz us :=
  ⟨hB.sl.keep fun j hj => Store.get_upd_ne _ _ (fun e => h (e ▸ hj)), hB.new, hB.dj⟩
end
end Go.AL
namespace Go.Proofs.Ytjjbjibbjbbeaaa
open Go.AL
end Go.Proofs.Ytjjbjibbjbbeaaa
/- The lifter: named, now, later. -/
set_option linter.unusedVariables false
set_option linter.unusedSimpArgs false
namespace Go.AL
theorem set_one {es : List (List AV)} {n : Nat} (h : n = es.length) (q q' : List AV) (m : List (List AV)) : (es ++ [q] ++ m).set n q' = es ++ [q'] ++ m := by
  subst h
  rw [List.append_assoc, List.set_append_right _ _ (Nat.le_refl _)]
  simp
section
variable {σ s s2 : Store} {N fid : Nat} {v v' : AV} {df : ByteArray} {es es2 : List (List AV)}
theorem MS.sset {id ver n : Nat} {es' : List (List AV)} (h : MS σ s N fid v (.own id ver 11 0 n) df es) (hn : n = es.length) (hg : s.get id = some (.cells 71 ver 11 (es ++ es'))) (hl : es2.length = es.length) :
    MS σ (s.upd id (.cells 71 ver 11 (es2 ++ es'))) N fid v (.own id ver 11 0 n) df es2 := by
  have hne : id ≠ fid := fun e => h.la.nv (by simp [slIds, e])
  refine ⟨⟨by rw [Store.get_upd_ne _ _ (fun e => hne e.symm)]; exact h.la.hd, .inr ⟨id, ver, es', by rw [hl, ← hn], Store.get_upd_self _ _ (s.lt hg)⟩, h.la.nv⟩, h.le, h.next, fun j hj a b => ?_, h.fresh, h.fid⟩
  rw [Store.get_upd_ne _ _ (fun e => ?_), h.keep j hj a b]
  subst e
  exact (h.fresh j (by simp [slIds])).elim (fun q => b q.1) (fun q => by have := h.le; omega)
end
end Go.AL
namespace Go.Proofs.Ytjjbjibbjbbeaaa
open Go.AL
end Go.Proofs.Ytjjbjibbjbbeaaa
/- Lift: each definition alone. -/
set_option linter.unusedVariables false
set_option linter.unusedSimpArgs false
namespace Go.AL
def defBody : Cr → List ByteArray × Cr
  | .mk k nm n ar ps gs al bs pk => if k = 6 then (ps, gs.headD .zero) else ([], .mk k nm n ar ps gs al bs pk)
def defPc : Cr → AV
  | .mk k nm n ar ps gs al bs pk => if k = 6 then strs ps else .nils
theorem supC_len (p : Sup) : (supC p).length = 11 := by simp [supC, Cr.len]
mutual
theorem LeD.rf (a : AV) : LeD a a := .refl a
theorem LeDL.rf : ∀ a : List AV, LeDL a a
  | [] => .nil
  | x :: r => .cons (.refl x) (LeDL.rf r)
end
theorem SubL.rf {v w : AV} : ∀ a : List AV, SubL v w a a
  | [] => .nil
  | x :: r => .cons (.refl x) (SubL.rf r)
theorem LeDE.rf : ∀ a : List (List AV), LeDE a a
  | [] => .nil
  | x :: r => .cons (LeDL.rf x) (LeDE.rf r)
theorem LeDE.app {a b c d : List (List AV)} (h : LeDE a b) (k : LeDE c d) : LeDE (a ++ c) (b ++ d) := by
  induction a generalizing b with
  | nil => cases h; exact k
  | cons x r ih => cases h with | cons h t => exact .cons h (ih t)
theorem SliceAt.elems {σ : Store} {v : AV} {ty sz : Nat} {es : List (List AV)} (h : SliceAt σ v ty sz es) : elemsOf σ sz v = some es := by
  rcases h with ⟨rfl, rfl⟩ | ⟨id, ver, es', rfl, h⟩
  · rfl
  · rw [elems_own, h, elems2_some, if_pos ⟨rfl, rfl, by simp⟩, List.drop_zero, List.take_left']
    rfl
theorem Cr.Sh.body {x : Cr} (h : x.Sh) : (defBody x).2.Sh := by
  cases h with
  | mk h6 h1 h2 h3 h4 =>
    rename_i k nm n ar ps gs al bs pk
    rw [defBody]
    split
    · rename_i hk
      match gs, h6 hk with
      | [y], _ => exact h1 y (by simp)
    · exact .mk h6 h1 h2 h3 h4
theorem Cr.parts (x : Cr) : ∃ (k : Int) (ps : List ByteArray) (gs : List Cr), x.cells[0]? = some (.int .i64 k) ∧ x.cells[4]? = some (strs ps) ∧ x.cells[5]? = some (.list (gs.map Cr.cells)) ∧
    defBody x = (if k = 6 then (ps, gs.headD .zero) else ([], x)) ∧ defPc x = (if k = 6 then strs ps else .nils) ∧ (x.Sh → k = 6 → ∃ y, gs = [y]) ∧ ps.length ≤ x.bulk := by
  obtain ⟨k, nm, n, ar, ps, gs, al, bs, pk⟩ := x
  refine ⟨k, ps, gs, by rw [Cr.cells_eq]; rfl, by rw [Cr.cells_eq]; rfl, by rw [Cr.cells_eq]; rfl, rfl, rfl, fun h h6 => ?_, by rw [Cr.bulk]; omega⟩
  cases h with
  | mk hh h1 h2 h3 h4 =>
    match gs, hh h6 with
    | [y], _ => exact ⟨y, rfl⟩
end Go.AL
namespace Go.Proofs.Ytjjbjibbjbbeaaa
open Go.AL
end Go.Proofs.Ytjjbjibbjbbeaaa
/- An expression is the same as itself; definitions of supercombinators. -/
set_option linter.unusedVariables false
set_option linter.unusedSimpArgs false
namespace Go.AL
end Go.AL
namespace Go.Proofs.Ytjjbjibbjbbeaaa
open Go.AL
end Go.Proofs.Ytjjbjibbjbbeaaa
/- Definitions of supercombinators; definitions are the same as themselves; which are small. -/
set_option linter.unusedVariables false
set_option linter.unusedSimpArgs false
namespace Go.AL
theorem leDE_map {α : Type} {f g : α → List AV} (h : ∀ x, LeDL (f x) (g x)) : ∀ l : List α, LeDE (l.map f) (l.map g)
  | [] => .nil
  | x :: r => .cons (h x) (leDE_map h r)
end Go.AL
namespace Go.Proofs.Ytjjbjibbjbbeaaa
open Go.AL
end Go.Proofs.Ytjjbjibbjbbeaaa
/- Codes, as plain functions. -/
set_option linter.unusedVariables false
set_option linter.unusedSimpArgs false
namespace Go.AL
/-! ### Shapes: how many parts what has -/
inductive Cr.Tw : Cr → Prop
  | mk {k : Int} {nm : ByteArray} {n ar : Int} {ps : List ByteArray} {gs : List Cr} {al : List (AltH × Cr)} {bs : List (ByteArray × Cr)} {pk : List (Int × Cr)} (h0 : k = 9 → 1 ≤ n ∧ n ≤ 11) (h2 : k = 5 ∨ k = 9 → gs.length = 2) (h1 : k = 6 ∨ k = 7 ∨ k = 8 ∨ k = 11 → gs.length = 1)
    (g1 : ∀ x, x ∈ gs → Cr.Tw x) (g2 : ∀ x, x ∈ al → Cr.Tw x.2) (g3 : ∀ x, x ∈ bs → Cr.Tw x.2) (g4 : ∀ x, x ∈ pk → Cr.Tw x.2) : Cr.Tw (.mk k nm n ar ps gs al bs pk)
/-- An instruction. -/
structure Ins where
  op : Int
  k : Int
  n : Int
  js : List (Int × Int)
def jC (p : Int × Int) : List AV := [.int .i64 p.1, .int .i64 p.2]
def insC (i : Ins) : List AV := [.int .i64 i.op, .int .i64 i.k, .int .i64 i.n, .list (i.js.map jC)]
def ik (op k : Int) : Ins := ⟨op, k, 0, []⟩
/-- The globals: supercombinators, constructors with their numbers of fields. -/
structure Gl where
  sup : List ByteArray
  con : List (ByteArray × Nat)
noncomputable def idx (l : List ByteArray) (s : ByteArray) : Option Nat := l.findIdx? fun x => @decide (x = s) (Classical.propDecidable _)
noncomputable def conIdx (g : Gl) (s : ByteArray) : Int := match idx (g.con.map (·.1)) s with | some i => (i : Int) | none => 0
def operS (g : Gl) (op : Int) : Int := (g.sup.length : Int) + g.con.length + op - 1
noncomputable def globS (g : Gl) (O : ByteArray → Int) (s : ByteArray) : Int := match idx g.sup s with | some i => (i : Int) | none => operS g (O s)
abbrev Lv := List (ByteArray × Int)
def lvC (p : ByteArray × Int) : List AV := [.str p.1, .int .i64 p.2]
def nums : Nat → Int → Int → List ByteArray → Lv
  | i, fr, st, [] => []
  | i, fr, st, s :: r => (s, fr + i * st) :: nums (i + 1) fr st r
def withS (lv : Lv) (l : List ByteArray) (fr st : Int) : Lv := lv ++ nums 0 fr st l
noncomputable def findS : Lv → ByteArray → Int
  | [], s => 0
  | p :: r, s => @ite _ (∃ q ∈ r, q.1 = s) (Classical.propDecidable _) (findS r s) (@ite _ (p.1 = s) (Classical.propDecidable _) p.2 0)
theorem nums_len (l : List ByteArray) : ∀ i fr st, (nums i fr st l).length = l.length := by
  induction l with
  | nil => intros; rfl
  | cons s r ih => intro i fr st; rw [nums, List.length_cons, List.length_cons, ih]
theorem withS_len (lv : Lv) (l : List ByteArray) (fr st : Int) : (withS lv l fr st).length = lv.length + l.length := by rw [withS, List.length_append, nums_len]
section
variable (g : Gl) (O : ByteArray → Int)
mutual
noncomputable def latS (lv : Lv) (d : Int) : Cr → List Ins
  | .mk k nm n ar ps gs al bs pk =>
    if k = 1 then [ik 1 (d - 1 - findS lv nm)]
    else if k = 2 then [ik 2 (globS g O nm)]
    else if k = 4 then [ik 2 ((g.sup.length : Int) + conIdx g nm)]
    else if k = 3 then [⟨3, 0, n, []⟩]
    else if k = 5 then (latL lv (d + 1) gs).getD 1 [] ++ (latL lv (d + 1) gs).getD 0 [] ++ [ik 4 0]
    else if k = 9 then (latL lv (d + 1) gs).getD 1 [] ++ (latL lv (d + 1) gs).getD 0 [] ++ [ik 2 (operS g n), ik 4 0, ik 4 0]
    else if k = 7 then ik 8 bs.length :: latB (withS lv (bs.map (·.1)) d 1) (d + bs.length) (bs.length : Int) bs ++ (latL (withS lv (bs.map (·.1)) d 1) (d + bs.length) gs).getD 0 [] ++ [ik 7 bs.length]
    else []
noncomputable def latL (lv : Lv) (d : Int) : List Cr → List (List Ins)
  | [] => []
  | x :: r => latS lv d x :: latL lv (d - 1) r
noncomputable def latB (lv : Lv) (d n : Int) : List (ByteArray × Cr) → List Ins
  | [] => []
  | (s, x) :: r => latS lv d x ++ [ik 5 (n - 1)] ++ latB lv d (n - 1) r
end
/-- What makes bindings' nodes. -/
noncomputable def bindS (lv : Lv) (d : Int) (bs : List (ByteArray × Cr)) : List Ins := ik 8 bs.length :: latB g O (withS lv (bs.map (·.1)) d 1) (d + bs.length) (bs.length : Int) bs
def endS (d : Int) : List Ins := [ik 5 d, ik 6 d, ik 10 0]
mutual
noncomputable def valS (lv : Lv) (d : Int) (last : Bool) (base : Nat) : Cr → List Ins
  | .mk k nm n ar ps gs al bs pk =>
    if k = 9 then (valL lv d base 2 false gs).flatten ++ [⟨16, 0, n, []⟩] ++ (if last then endS d else [])
    else if k = 7 then bindS g O lv d bs ++ (valL (withS lv (bs.map (·.1)) d 1) (d + bs.length) (base + (bindS g O lv d bs).length) 1 last gs).flatten ++ (if last then [] else [ik 7 bs.length])
    else if k = 8 then
      (valL lv d base 1 false gs).flatten ++
        [⟨13, altK lv d last (base + (valL lv d base 1 false gs).flatten.length + 1) (-1) al, 0, altJ lv d last (base + (valL lv d base 1 false gs).flatten.length + 1) al⟩] ++
        altS lv d last (base + (valL lv d base 1 false gs).flatten.length + 1) (base + (valL lv d base 1 false gs).flatten.length + 1 + (altS lv d last (base + (valL lv d base 1 false gs).flatten.length + 1) 0 al).length) al
    else if k = 11 then
      [⟨14, ((base + 1 : Nat) : Int), 0, pickJ lv d last (base + 1 + (valL lv d (base + 1) 1 last gs).flatten.length + (if last then 0 else 1)) pk⟩] ++
        ((valL lv d (base + 1) 1 last gs).flatten ++ (if last then [] else [ik 15 ((base + 1 + (valL lv d (base + 1) 1 last gs).flatten.length + (if last then 0 else 1) + (pickS lv d last (base + 1 + (valL lv d (base + 1) 1 last gs).flatten.length + (if last then 0 else 1)) 0 pk).length : Nat) : Int)])) ++
        pickS lv d last (base + 1 + (valL lv d (base + 1) 1 last gs).flatten.length + (if last then 0 else 1)) (base + 1 + (valL lv d (base + 1) 1 last gs).flatten.length + (if last then 0 else 1) + (pickS lv d last (base + 1 + (valL lv d (base + 1) 1 last gs).flatten.length + (if last then 0 else 1)) 0 pk).length) pk
    else if k = 10 then [ik 17 0]
    else if k = 3 then [⟨3, 0, n, []⟩] ++ (if last then endS d else [])
    else latS g O lv d (.mk k nm n ar ps gs al bs pk) ++ (if last then endS d else [ik 9 0])
/-- Some parts, one behind the other, each one deeper. -/
noncomputable def valL (lv : Lv) (d : Int) (base : Nat) (m : Nat) (last : Bool) : List Cr → List (List Ins)
  | [] => []
  | x :: r => match m with | 0 => [] | m + 1 => valS lv d last base x :: valL lv (d + 1) (base + (valS lv d last base x).length) m last r
noncomputable def altS (lv : Lv) (d : Int) (last : Bool) (base e : Nat) : List (AltH × Cr) → List Ins
  | [] => []
  | (h, x) :: r =>
    ((if h.k = 1 then ik 12 h.ps.length else ik 6 1) :: valS (withS lv h.ps (d + h.ps.length - 1) (-1)) (d + h.ps.length) last (base + 1) x ++ (if h.k = 1 ∧ last = false then [ik 7 h.ps.length] else []) ++ (if last then [] else [ik 15 e])) ++
      altS lv d last (base + ((if h.k = 1 then ik 12 h.ps.length else ik 6 1) :: valS (withS lv h.ps (d + h.ps.length - 1) (-1)) (d + h.ps.length) last (base + 1) x ++ (if h.k = 1 ∧ last = false then [ik 7 h.ps.length] else []) ++ (if last then [] else [ik 15 (0 : Int)])).length) e r
noncomputable def altJ (lv : Lv) (d : Int) (last : Bool) (base : Nat) : List (AltH × Cr) → List (Int × Int)
  | [] => []
  | (h, x) :: r =>
    (if h.k = 1 then [(conIdx g h.nm, (base : Int))] else if h.k = 2 then [(h.n, (base : Int))] else []) ++
      altJ lv d last (base + ((if h.k = 1 then ik 12 h.ps.length else ik 6 1) :: valS (withS lv h.ps (d + h.ps.length - 1) (-1)) (d + h.ps.length) last (base + 1) x ++ (if h.k = 1 ∧ last = false then [ik 7 h.ps.length] else []) ++ (if last then [] else [ik 15 (0 : Int)])).length) r
noncomputable def altK (lv : Lv) (d : Int) (last : Bool) (base : Nat) (K : Int) : List (AltH × Cr) → Int
  | [] => K
  | (h, x) :: r =>
      altK lv d last (base + ((if h.k = 1 then ik 12 h.ps.length else ik 6 1) :: valS (withS lv h.ps (d + h.ps.length - 1) (-1)) (d + h.ps.length) last (base + 1) x ++ (if h.k = 1 ∧ last = false then [ik 7 h.ps.length] else []) ++ (if last then [] else [ik 15 (0 : Int)])).length) (if h.k = 1 ∨ h.k = 2 then K else (base : Int)) r
noncomputable def pickS (lv : Lv) (d : Int) (last : Bool) (base e : Nat) : List (Int × Cr) → List Ins
  | [] => []
  | (s, x) :: r => (valS lv d last base x ++ (if last then [] else [ik 15 e])) ++ pickS lv d last (base + (valS lv d last base x).length + (if last then 0 else 1)) e r
noncomputable def pickJ (lv : Lv) (d : Int) (last : Bool) (base : Nat) : List (Int × Cr) → List (Int × Int)
  | [] => []
  | (s, x) :: r => (s, (base : Int)) :: pickJ lv d last (base + (valS lv d last base x).length + (if last then 0 else 1)) r
end
end
end Go.AL
