/- A part of the proof of the claim: the abstract layer, the contracts of the functions, the law (no condition of its own). -/
import Derived.Test.YtjjbjibbjbbeaaaK6
import Derived.Test.YtjjbjibbjbbeaaaProg
import Derived.KernelRfl
/- Which supercombinators are flat: of two that are, no two names are the same. -/
set_option linter.unusedVariables false
set_option linter.unusedSimpArgs false
namespace Go.AL
/-- What is flat; now: it is asked at once. -/
inductive Cr.Fl : Bool → Cr → Prop
  | mk {now : Bool} {k : Int} {nm : ByteArray} {n ar : Int} {ps : List ByteArray} {gs : List Cr} {al : List (AltH × Cr)} {bs : List (ByteArray × Cr)} {pk : List (Int × Cr)} (h6 : k ≠ 6) (hl : now = false → k ≠ 8 ∧ k ≠ 10 ∧ k ≠ 11)
    (g1 : ∀ x, x ∈ gs → Cr.Fl (now && !decide (k = 5)) x) (g2 : ∀ x, x ∈ al → Cr.Fl now x.2) (g3 : ∀ x, x ∈ bs → Cr.Fl false x.2) (g4 : ∀ x, x ∈ pk → Cr.Fl now x.2) : Cr.Fl now (.mk k nm n ar ps gs al bs pk)
def LateP (k : Int) (b : Bool) : Prop := b = false → k ≠ 8 ∧ k ≠ 10 ∧ k ≠ 11
def FlK (k : Int) (now : Bool) : Prop := k ≠ 6 ∧ (now = false → k ≠ 8 ∧ k ≠ 10 ∧ k ≠ 11)
end Go.AL
namespace Go.Proofs.Ytjjbjibbjbbeaaa
open Go.AL
abbrev FlatC (x : Cr) : Prop := ∀ (now : Bool) (σ : Store), ACalls Try.prog 112 [.agg x.cells, .bool now] σ fun r s => (∃ b : Bool, r = .bool b ∧ (b = true → x.Fl now)) ∧ s = σ
set_option maxHeartbeats 1000000 in
theorem flat_ok : ∀ x : Cr, x.bulk ≤ 10000000 → FlatC x := by
  intro x
  induction x using Cr.ind with
  | _ k nm n ar ps gs al bs pk ih1 ih2 ih3 ih4 =>
    intro hb now σ
    rw [Cr.bulk] at hb
    have l1 := Cr.lenL gs; have l2 := Cr.lenA al; have l3 := Cr.lenB bs; have l4 := Cr.lenP pk
    have i1 := fun (x : Cr) (hx : x ∈ gs) => ih1 x hx (by have := Cr.bulkL_le hx; omega)
    have i2 := fun (x : AltH × Cr) (hx : x ∈ al) => ih2 x hx (by have := Cr.bulkA_le hx; omega)
    have i3 := fun (x : ByteArray × Cr) (hx : x ∈ bs) => ih3 x hx (by have := Cr.bulkB_le hx; omega)
    have i4 := fun (x : Int × Cr) (hx : x ∈ pk) => ih4 x hx (by have := Cr.bulkP_le hx; omega)
    refine ACalls_fp (p := RB ((Cr.mk k nm n ar ps gs al bs pk).Fl now)) ?_
    refine in112 (by simp) ?_
    unfold c112
    rw [Cr.cells_eq]
    try simp only [ZZ, ↓reduceIte, Nat.reduceEqDiff, Nat.reduceAdd, Nat.reduceLeDiff, reduceCtorEq, Int.reduceEq, Int.reduceLT, Int.reduceLE, Int.reduceNeg, Int.reduceAdd, Int.reduceSub, Int.reduceToNat]
    iterate 2 ((with_reducible first | refine W1 ?_ | refine W2 ?_ | refine W3 ?_ | refine W4 ?_ | refine W5 ?_ | refine W6 ?_ | refine W7 ?_ | refine W8 ?_ | refine W9 ?_); refine unr ?_; try simp only [ZZ, ↓reduceIte, Nat.reduceEqDiff, Nat.reduceAdd, Nat.reduceLeDiff, reduceCtorEq, Int.reduceEq, Int.reduceLT, Int.reduceLE, Int.reduceNeg, Int.reduceAdd, Int.reduceSub, Int.reduceToNat])
    generalize hs : Store.push _ _ = s1
    have k1 : Kp σ s1 := by rw [← hs]; exact .pushed _ _
    have g1 : s1.get σ.next = some (.cells 54 0 9 [[.int .i64 k, .str nm, .int .i64 n, .int .i64 ar, strs ps, .list (gs.map Cr.cells), .list (al.map altC), .list (bs.map bindC), .list (pk.map pickC)]]) := by rw [← hs]; simp [Store.push_get, Store.push_next]
    clear hs
    have he1 := g1
    refine AWP_cut [1, 2, 5] (fun b : Bool => [.bool now, .ptr σ.next 0 0 0, .bool b]) (fun b s => s1 = s ∧ LateP k b) ?_ ?_
    · refine raw ?_
      repeat' (first | (with_reducible refine unr ?_; try simp only [ZZ, ↓reduceIte, Nat.reduceEqDiff, Nat.reduceAdd, Nat.reduceLeDiff, reduceCtorEq, Int.reduceEq, Int.reduceLT, Int.reduceLE, Int.reduceNeg, Int.reduceAdd, Int.reduceSub, Int.reduceToNat, g1, str_nil, *]) | (with_reducible first | refine W1 ?_ | refine W2 ?_ | refine W3 ?_ | refine W4 ?_ | refine W5 ?_ | refine W6 ?_ | refine W7 ?_ | refine W8 ?_ | refine W9 ?_ | refine ok_idx (by first | assumption | omega) (fun b hb => raw ?_) | refine ok_iad (by first | assumption | omega) (fun x hx hxm => raw ?_) | refine And.intro (by omega) (raw ?_) | (refine guardW_b (fun h => raw ?_) (fun h => raw ?_) <;> try simp only [Ty] at h) | (refine ePick_b (fun h => raw ?_) (fun h => raw ?_) <;> try simp only [Ty] at h) | (refine condW_b (fun h => raw ?_) (fun h => raw ?_) <;> try simp only [Ty] at h)))
      all_goals first
        | exact ⟨_, rfl, fun hl => by first | (simp at hl; done) | (have := of_decide_eq_false hl; omega)⟩
    rintro late _ ⟨rfl, hlt⟩
    refine AWP_cut [1, 2] (fun _ : Unit => [.bool now, .ptr σ.next 0 0 0]) (fun _ s => s1 = s ∧ FlK k now) ?_ ?_
    · refine raw ?_
      repeat' (first | (with_reducible refine unr ?_; try simp only [ZZ, ↓reduceIte, Nat.reduceEqDiff, Nat.reduceAdd, Nat.reduceLeDiff, reduceCtorEq, Int.reduceEq, Int.reduceLT, Int.reduceLE, Int.reduceNeg, Int.reduceAdd, Int.reduceSub, Int.reduceToNat, g1, str_nil, *]) | (with_reducible first | refine W1 ?_ | refine W2 ?_ | refine W3 ?_ | refine W4 ?_ | refine W5 ?_ | refine W6 ?_ | refine W7 ?_ | refine W8 ?_ | refine W9 ?_ | refine ok_idx (by first | assumption | omega) (fun b hb => raw ?_) | refine ok_iad (by first | assumption | omega) (fun x hx hxm => raw ?_) | refine And.intro (by omega) (raw ?_) | (refine guardW_b (fun h => raw ?_) (fun h => raw ?_) <;> try simp only [Ty] at h) | (refine ePick_b (fun h => raw ?_) (fun h => raw ?_) <;> try simp only [Ty] at h) | (refine condW_b (fun h => raw ?_) (fun h => raw ?_) <;> try simp only [Ty] at h)))
      all_goals first
        | exact FP.same k1 RB.f (.bool _)
        | exact ⟨(), by omega, fun e => by first | exact hlt (by assumption) | simp_all⟩
    rintro _ _ ⟨rfl, hkk⟩
    refine AWP_cut [1, 2] (fun _ : Unit => [.bool now, .ptr σ.next 0 0 0]) (fun _ s => Kp s1 s ∧ ∀ x, x ∈ gs → x.Fl (now && !decide (k = 5))) ?_ ?_
    · refine raw ?_
      repeat (first | (with_reducible refine unr ?_; try simp only [ZZ, ↓reduceIte, Nat.reduceEqDiff, Nat.reduceAdd, Nat.reduceLeDiff, reduceCtorEq, Int.reduceEq, Int.reduceLT, Int.reduceLE, Int.reduceNeg, Int.reduceAdd, Int.reduceSub, Int.reduceToNat, he1]) | (with_reducible first | refine W1 ?_ | refine W2 ?_ | refine W3 ?_ | refine W4 ?_ | refine W5 ?_ | refine W6 ?_ | refine W7 ?_ | refine W8 ?_ | refine W9 ?_))
      refine AWP_while [1, 2, 38, 39, 40] (fun i : Nat => gs.length - i) (fun i => [.bool now, .ptr σ.next 0 0 0, .list (gs.map Cr.cells), .int .i64 gs.length, .int .i64 i]) (fun i t => Kp s1 t ∧ i ≤ gs.length ∧ ∀ x, x ∈ gs.take i → x.Fl (now && !decide (k = 5))) 0 ⟨.refl _, by simp, by simp⟩ ?_ ?_
      · refine raw ?_
        repeat (first | (with_reducible refine unr ?_; try simp only [ZZ, ↓reduceIte, Nat.reduceEqDiff, Nat.reduceAdd, Nat.reduceLeDiff, reduceCtorEq, Int.reduceEq, Int.reduceLT, Int.reduceLE, Int.reduceNeg, Int.reduceAdd, Int.reduceSub, Int.reduceToNat]) | (with_reducible first | refine W1 ?_ | refine W2 ?_ | refine W3 ?_ | refine W4 ?_ | refine W5 ?_ | refine W6 ?_ | refine W7 ?_ | refine W8 ?_ | refine W9 ?_))
        rfl
      rintro i t ⟨k2, hi, hall⟩
      have he1 := k2.get g1
      have hq1 := lt_ne (t.lt he1)
      have kk := k1.trans k2
      have hw := wrap_succ (i := i) (by omega)
      by_cases hil : i < gs.length
      · have hil' : (i : Int) < (gs.length : Int) := by omega
        obtain ⟨x, hx⟩ : ∃ x, gs[i]? = some x := ⟨_, List.getElem?_eq_getElem hil⟩
        have hg : (gs.map Cr.cells)[i]? = some (Cr.cells x) := by simp [hx]
        have hxm := List.mem_of_getElem? hx
        refine raw ?_
        repeat' (first | (with_reducible refine unr ?_; try simp only [ZZ, ↓reduceIte, Nat.reduceEqDiff, Nat.reduceAdd, Nat.reduceLeDiff, reduceCtorEq, Int.reduceEq, Int.reduceLT, Int.reduceLE, Int.reduceNeg, Int.reduceAdd, Int.reduceSub, Int.reduceToNat, he1, hil', hg, Cr.len, Cr.take9, hq1, str_nil, *]) | (with_reducible first | refine W1 ?_ | refine W2 ?_ | refine W3 ?_ | refine W4 ?_ | refine W5 ?_ | refine W6 ?_ | refine W7 ?_ | refine W8 ?_ | refine W9 ?_ | refine ok_idx (by first | assumption | omega) (fun b hb => raw ?_) | refine ok_iad (by first | assumption | omega) (fun x hx hxm => raw ?_) | refine And.intro (by omega) (raw ?_) | (refine guardW_b (fun h => raw ?_) (fun h => raw ?_) <;> try simp only [Ty] at h) | (refine ePick_b (fun h => raw ?_) (fun h => raw ?_) <;> try simp only [Ty] at h) | (refine condW_b (fun h => raw ?_) (fun h => raw ?_) <;> try simp only [Ty] at h) | (refine (i1 x hxm _ _).mono ?_; rintro _ _ ⟨⟨b, rfl, hb⟩, rfl⟩; refine raw ?_)))
        all_goals first
          | exact FP.same (k1.trans (k2.push _)) RB.f (.bool _)
          | exact ⟨i + 1, rfl, ⟨k2.push _, by omega, by (have hq := hb h); (have e : now = true := by assumption); subst e; exact all_succ (p := fun x => x.Fl (true && !decide (k = 5))) hall hx (by rw [Bool.true_and]; exact hq)⟩, by omega⟩
          | exact ⟨i + 1, rfl, ⟨k2.push _, by omega, by (have hq := hb h); (have e : now = false := by assumption); subst e; exact all_succ (p := fun x => x.Fl (false && !decide (k = 5))) hall hx (by rw [Bool.false_and]; exact hq)⟩, by omega⟩
      · have hil' : ¬ (i : Int) < (gs.length : Int) := by omega
        rw [List.take_of_length_le (by omega)] at hall
        refine raw ?_
        repeat (first | (with_reducible refine unr ?_; try simp only [ZZ, ↓reduceIte, Nat.reduceEqDiff, Nat.reduceAdd, Nat.reduceLeDiff, reduceCtorEq, Int.reduceEq, Int.reduceLT, Int.reduceLE, Int.reduceNeg, Int.reduceAdd, Int.reduceSub, Int.reduceToNat, he1, hil']) | (with_reducible first | refine W1 ?_ | refine W2 ?_ | refine W3 ?_ | refine W4 ?_ | refine W5 ?_ | refine W6 ?_ | refine W7 ?_ | refine W8 ?_ | refine W9 ?_))
        exact ⟨(), k2, hall⟩
    rintro _ s2 ⟨k2, q1⟩
    have he1 := k2.get g1
    refine AWP_cut [1, 2] (fun _ : Unit => [.bool now, .ptr σ.next 0 0 0]) (fun _ s => Kp s1 s ∧ ∀ x, x ∈ al → x.2.Fl now) ?_ ?_
    · refine raw ?_
      repeat (first | (with_reducible refine unr ?_; try simp only [ZZ, ↓reduceIte, Nat.reduceEqDiff, Nat.reduceAdd, Nat.reduceLeDiff, reduceCtorEq, Int.reduceEq, Int.reduceLT, Int.reduceLE, Int.reduceNeg, Int.reduceAdd, Int.reduceSub, Int.reduceToNat, he1]) | (with_reducible first | refine W1 ?_ | refine W2 ?_ | refine W3 ?_ | refine W4 ?_ | refine W5 ?_ | refine W6 ?_ | refine W7 ?_ | refine W8 ?_ | refine W9 ?_))
      refine AWP_while [1, 2, 55, 56, 57] (fun i : Nat => al.length - i) (fun i => [.bool now, .ptr σ.next 0 0 0, .list (al.map altC), .int .i64 al.length, .int .i64 i]) (fun i t => Kp s1 t ∧ i ≤ al.length ∧ ∀ x, x ∈ al.take i → x.2.Fl now) 0 ⟨k2, by simp, by simp⟩ ?_ ?_
      · refine raw ?_
        repeat (first | (with_reducible refine unr ?_; try simp only [ZZ, ↓reduceIte, Nat.reduceEqDiff, Nat.reduceAdd, Nat.reduceLeDiff, reduceCtorEq, Int.reduceEq, Int.reduceLT, Int.reduceLE, Int.reduceNeg, Int.reduceAdd, Int.reduceSub, Int.reduceToNat]) | (with_reducible first | refine W1 ?_ | refine W2 ?_ | refine W3 ?_ | refine W4 ?_ | refine W5 ?_ | refine W6 ?_ | refine W7 ?_ | refine W8 ?_ | refine W9 ?_))
        rfl
      rintro i t ⟨k2, hi, hall⟩
      have he1 := k2.get g1
      have hq1 := lt_ne (t.lt he1)
      have kk := k1.trans k2
      have hw := wrap_succ (i := i) (by omega)
      by_cases hil : i < al.length
      · have hil' : (i : Int) < (al.length : Int) := by omega
        obtain ⟨x, hx⟩ : ∃ x, al[i]? = some x := ⟨_, List.getElem?_eq_getElem hil⟩
        have hg : (al.map altC)[i]? = some (altC x) := by simp [hx]
        have hxm := List.mem_of_getElem? hx
        refine raw ?_
        repeat' (first | (with_reducible refine unr ?_; try simp only [ZZ, ↓reduceIte, Nat.reduceEqDiff, Nat.reduceAdd, Nat.reduceLeDiff, reduceCtorEq, Int.reduceEq, Int.reduceLT, Int.reduceLE, Int.reduceNeg, Int.reduceAdd, Int.reduceSub, Int.reduceToNat, he1, hil', hg, altC, AltH.cells, Cr.len, Cr.take9, hq1, str_nil, *]) | (with_reducible first | refine W1 ?_ | refine W2 ?_ | refine W3 ?_ | refine W4 ?_ | refine W5 ?_ | refine W6 ?_ | refine W7 ?_ | refine W8 ?_ | refine W9 ?_ | refine ok_idx (by first | assumption | omega) (fun b hb => raw ?_) | refine ok_iad (by first | assumption | omega) (fun x hx hxm => raw ?_) | refine And.intro (by omega) (raw ?_) | (refine guardW_b (fun h => raw ?_) (fun h => raw ?_) <;> try simp only [Ty] at h) | (refine ePick_b (fun h => raw ?_) (fun h => raw ?_) <;> try simp only [Ty] at h) | (refine condW_b (fun h => raw ?_) (fun h => raw ?_) <;> try simp only [Ty] at h) | (refine (i2 x hxm _ _).mono ?_; rintro _ _ ⟨⟨b, rfl, hb⟩, rfl⟩; refine raw ?_)))
        all_goals first
          | exact FP.same (k1.trans (k2.push _)) RB.f (.bool _)
          | exact ⟨i + 1, rfl, ⟨k2.push _, by omega, all_succ (p := fun x => x.2.Fl now) hall hx (hb h)⟩, by omega⟩
      · have hil' : ¬ (i : Int) < (al.length : Int) := by omega
        rw [List.take_of_length_le (by omega)] at hall
        refine raw ?_
        repeat (first | (with_reducible refine unr ?_; try simp only [ZZ, ↓reduceIte, Nat.reduceEqDiff, Nat.reduceAdd, Nat.reduceLeDiff, reduceCtorEq, Int.reduceEq, Int.reduceLT, Int.reduceLE, Int.reduceNeg, Int.reduceAdd, Int.reduceSub, Int.reduceToNat, he1, hil']) | (with_reducible first | refine W1 ?_ | refine W2 ?_ | refine W3 ?_ | refine W4 ?_ | refine W5 ?_ | refine W6 ?_ | refine W7 ?_ | refine W8 ?_ | refine W9 ?_))
        exact ⟨(), k2, hall⟩
    rintro _ s2 ⟨k2, q2⟩
    have he1 := k2.get g1
    refine AWP_cut [1, 2] (fun _ : Unit => [.bool now, .ptr σ.next 0 0 0]) (fun _ s => Kp s1 s ∧ ∀ x, x ∈ bs → x.2.Fl false) ?_ ?_
    · refine raw ?_
      repeat (first | (with_reducible refine unr ?_; try simp only [ZZ, ↓reduceIte, Nat.reduceEqDiff, Nat.reduceAdd, Nat.reduceLeDiff, reduceCtorEq, Int.reduceEq, Int.reduceLT, Int.reduceLE, Int.reduceNeg, Int.reduceAdd, Int.reduceSub, Int.reduceToNat, he1]) | (with_reducible first | refine W1 ?_ | refine W2 ?_ | refine W3 ?_ | refine W4 ?_ | refine W5 ?_ | refine W6 ?_ | refine W7 ?_ | refine W8 ?_ | refine W9 ?_))
      refine AWP_while [1, 2, 68, 69, 70] (fun i : Nat => bs.length - i) (fun i => [.bool now, .ptr σ.next 0 0 0, .list (bs.map bindC), .int .i64 bs.length, .int .i64 i]) (fun i t => Kp s1 t ∧ i ≤ bs.length ∧ ∀ x, x ∈ bs.take i → x.2.Fl false) 0 ⟨k2, by simp, by simp⟩ ?_ ?_
      · refine raw ?_
        repeat (first | (with_reducible refine unr ?_; try simp only [ZZ, ↓reduceIte, Nat.reduceEqDiff, Nat.reduceAdd, Nat.reduceLeDiff, reduceCtorEq, Int.reduceEq, Int.reduceLT, Int.reduceLE, Int.reduceNeg, Int.reduceAdd, Int.reduceSub, Int.reduceToNat]) | (with_reducible first | refine W1 ?_ | refine W2 ?_ | refine W3 ?_ | refine W4 ?_ | refine W5 ?_ | refine W6 ?_ | refine W7 ?_ | refine W8 ?_ | refine W9 ?_))
        rfl
      rintro i t ⟨k2, hi, hall⟩
      have he1 := k2.get g1
      have hq1 := lt_ne (t.lt he1)
      have kk := k1.trans k2
      have hw := wrap_succ (i := i) (by omega)
      by_cases hil : i < bs.length
      · have hil' : (i : Int) < (bs.length : Int) := by omega
        obtain ⟨x, hx⟩ : ∃ x, bs[i]? = some x := ⟨_, List.getElem?_eq_getElem hil⟩
        have hg : (bs.map bindC)[i]? = some (bindC x) := by simp [hx]
        have hxm := List.mem_of_getElem? hx
        refine raw ?_
        repeat' (first | (with_reducible refine unr ?_; try simp only [ZZ, ↓reduceIte, Nat.reduceEqDiff, Nat.reduceAdd, Nat.reduceLeDiff, reduceCtorEq, Int.reduceEq, Int.reduceLT, Int.reduceLE, Int.reduceNeg, Int.reduceAdd, Int.reduceSub, Int.reduceToNat, he1, hil', hg, bindC, Cr.len, Cr.take9, hq1, str_nil, *]) | (with_reducible first | refine W1 ?_ | refine W2 ?_ | refine W3 ?_ | refine W4 ?_ | refine W5 ?_ | refine W6 ?_ | refine W7 ?_ | refine W8 ?_ | refine W9 ?_ | refine ok_idx (by first | assumption | omega) (fun b hb => raw ?_) | refine ok_iad (by first | assumption | omega) (fun x hx hxm => raw ?_) | refine And.intro (by omega) (raw ?_) | (refine guardW_b (fun h => raw ?_) (fun h => raw ?_) <;> try simp only [Ty] at h) | (refine ePick_b (fun h => raw ?_) (fun h => raw ?_) <;> try simp only [Ty] at h) | (refine condW_b (fun h => raw ?_) (fun h => raw ?_) <;> try simp only [Ty] at h) | (refine (i3 x hxm _ _).mono ?_; rintro _ _ ⟨⟨b, rfl, hb⟩, rfl⟩; refine raw ?_)))
        all_goals first
          | exact FP.same (k1.trans (k2.push _)) RB.f (.bool _)
          | exact ⟨i + 1, rfl, ⟨k2.push _, by omega, all_succ (p := fun x => x.2.Fl false) hall hx (hb h)⟩, by omega⟩
      · have hil' : ¬ (i : Int) < (bs.length : Int) := by omega
        rw [List.take_of_length_le (by omega)] at hall
        refine raw ?_
        repeat (first | (with_reducible refine unr ?_; try simp only [ZZ, ↓reduceIte, Nat.reduceEqDiff, Nat.reduceAdd, Nat.reduceLeDiff, reduceCtorEq, Int.reduceEq, Int.reduceLT, Int.reduceLE, Int.reduceNeg, Int.reduceAdd, Int.reduceSub, Int.reduceToNat, he1, hil']) | (with_reducible first | refine W1 ?_ | refine W2 ?_ | refine W3 ?_ | refine W4 ?_ | refine W5 ?_ | refine W6 ?_ | refine W7 ?_ | refine W8 ?_ | refine W9 ?_))
        exact ⟨(), k2, hall⟩
    rintro _ s2 ⟨k2, q3⟩
    have he1 := k2.get g1
    refine raw ?_
    repeat (first | (with_reducible refine unr ?_; try simp only [ZZ, ↓reduceIte, Nat.reduceEqDiff, Nat.reduceAdd, Nat.reduceLeDiff, reduceCtorEq, Int.reduceEq, Int.reduceLT, Int.reduceLE, Int.reduceNeg, Int.reduceAdd, Int.reduceSub, Int.reduceToNat, he1]) | (with_reducible first | refine W1 ?_ | refine W2 ?_ | refine W3 ?_ | refine W4 ?_ | refine W5 ?_ | refine W6 ?_ | refine W7 ?_ | refine W8 ?_ | refine W9 ?_))
    refine AWP_while [1, 2, 80, 81, 82] (fun i : Nat => pk.length - i) (fun i => [.bool now, .ptr σ.next 0 0 0, .list (pk.map pickC), .int .i64 pk.length, .int .i64 i]) (fun i t => Kp s1 t ∧ i ≤ pk.length ∧ ∀ x, x ∈ pk.take i → x.2.Fl now) 0 ⟨k2, by simp, by simp⟩ ?_ ?_
    · refine raw ?_
      repeat (first | (with_reducible refine unr ?_; try simp only [ZZ, ↓reduceIte, Nat.reduceEqDiff, Nat.reduceAdd, Nat.reduceLeDiff, reduceCtorEq, Int.reduceEq, Int.reduceLT, Int.reduceLE, Int.reduceNeg, Int.reduceAdd, Int.reduceSub, Int.reduceToNat]) | (with_reducible first | refine W1 ?_ | refine W2 ?_ | refine W3 ?_ | refine W4 ?_ | refine W5 ?_ | refine W6 ?_ | refine W7 ?_ | refine W8 ?_ | refine W9 ?_))
      rfl
    rintro i t ⟨k2, hi, hall⟩
    have he1 := k2.get g1
    have hq1 := lt_ne (t.lt he1)
    have kk := k1.trans k2
    have hw := wrap_succ (i := i) (by omega)
    by_cases hil : i < pk.length
    · have hil' : (i : Int) < (pk.length : Int) := by omega
      obtain ⟨x, hx⟩ : ∃ x, pk[i]? = some x := ⟨_, List.getElem?_eq_getElem hil⟩
      have hg : (pk.map pickC)[i]? = some (pickC x) := by simp [hx]
      have hxm := List.mem_of_getElem? hx
      refine raw ?_
      repeat' (first | (with_reducible refine unr ?_; try simp only [ZZ, ↓reduceIte, Nat.reduceEqDiff, Nat.reduceAdd, Nat.reduceLeDiff, reduceCtorEq, Int.reduceEq, Int.reduceLT, Int.reduceLE, Int.reduceNeg, Int.reduceAdd, Int.reduceSub, Int.reduceToNat, he1, hil', hg, pickC, Cr.len, Cr.take9, hq1, str_nil, *]) | (with_reducible first | refine W1 ?_ | refine W2 ?_ | refine W3 ?_ | refine W4 ?_ | refine W5 ?_ | refine W6 ?_ | refine W7 ?_ | refine W8 ?_ | refine W9 ?_ | refine ok_idx (by first | assumption | omega) (fun b hb => raw ?_) | refine ok_iad (by first | assumption | omega) (fun x hx hxm => raw ?_) | refine And.intro (by omega) (raw ?_) | (refine guardW_b (fun h => raw ?_) (fun h => raw ?_) <;> try simp only [Ty] at h) | (refine ePick_b (fun h => raw ?_) (fun h => raw ?_) <;> try simp only [Ty] at h) | (refine condW_b (fun h => raw ?_) (fun h => raw ?_) <;> try simp only [Ty] at h) | (refine (i4 x hxm _ _).mono ?_; rintro _ _ ⟨⟨b, rfl, hb⟩, rfl⟩; refine raw ?_)))
      all_goals first
        | exact FP.same (k1.trans (k2.push _)) RB.f (.bool _)
        | exact ⟨i + 1, rfl, ⟨k2.push _, by omega, all_succ (p := fun x => x.2.Fl now) hall hx (hb h)⟩, by omega⟩
    · have hil' : ¬ (i : Int) < (pk.length : Int) := by omega
      rw [List.take_of_length_le (by omega)] at hall
      refine raw ?_
      repeat (first | (with_reducible refine unr ?_; try simp only [ZZ, ↓reduceIte, Nat.reduceEqDiff, Nat.reduceAdd, Nat.reduceLeDiff, reduceCtorEq, Int.reduceEq, Int.reduceLT, Int.reduceLE, Int.reduceNeg, Int.reduceAdd, Int.reduceSub, Int.reduceToNat, he1, hil']) | (with_reducible first | refine W1 ?_ | refine W2 ?_ | refine W3 ?_ | refine W4 ?_ | refine W5 ?_ | refine W6 ?_ | refine W7 ?_ | refine W8 ?_ | refine W9 ?_))
      exact FP.same kk (RB.t (.mk hkk.1 hkk.2 q1 q2 q3 hall)) (.bool _)
end Go.Proofs.Ytjjbjibbjbbeaaa
/- Flat. -/
set_option linter.unusedVariables false
set_option linter.unusedSimpArgs false
namespace Go.AL
/-- Supercombinators' bulk. -/
def bulkS : List Sup → Nat
  | [] => 0
  | p :: r => p.nm.size + 1 + p.ps.length + p.bd.bulk + bulkS r
theorem bulkS_le {x : Sup} : ∀ {l : List Sup}, x ∈ l → x.nm.size + 1 + x.ps.length + x.bd.bulk ≤ bulkS l
  | y :: r, h => by
    rw [bulkS]
    rcases List.mem_cons.1 h with rfl | h
    · omega
    · have := bulkS_le h; omega
theorem lenS : ∀ l : List Sup, l.length ≤ bulkS l
  | [] => by simp
  | x :: r => by rw [bulkS, List.length_cons]; have := lenS r; omega
/-- What flat supercombinators are. -/
def FlatQ (x : Sup) : Prop := x.bd.Rt (inS x.ps) ∧ x.bd.Fl true
def FlatP (l : List Sup) : Prop := (∀ x, x ∈ l → FlatQ x) ∧ (l.map (·.nm)).Nodup
theorem supC_t11 (p : Sup) : List.take 11 (supC p) = supC p := List.take_of_length_le (by rw [supC_len]; omega)
end Go.AL
namespace Go.Proofs.Ytjjbjibbjbbeaaa
open Go.AL
theorem flatS_ok (l : List Sup) (hb : bulkS l ≤ 9000000) (σ : Store) :
    ACalls Try.prog 62 [.list (l.map supC)] σ fun r σ' => RB (FlatP l) r ∧ σ' = σ := by
  refine ACalls_fp (p := RB _) ?_
  refine in62 (by simp) ?_
  unfold c62
  have hdl := lenS l
  refine raw ?_
  repeat (first | (with_reducible refine unr ?_; try simp only [ZZ, ↓reduceIte, Nat.reduceEqDiff, Nat.reduceAdd, Nat.reduceLeDiff, reduceCtorEq, Int.reduceEq, Int.reduceLT, Int.reduceLE, Int.reduceNeg, Int.reduceAdd, Int.reduceSub, Int.reduceToNat]) | (with_reducible first | refine W1 ?_ | refine W2 ?_ | refine W3 ?_ | refine W4 ?_ | refine W5 ?_ | refine W6 ?_ | refine W7 ?_ | refine W8 ?_ | refine W9 ?_))
  generalize hs : Store.push _ _ = s
  have k1 : Kp σ s := by rw [← hs]; exact .pushed _ _
  have he : s.get σ.next = some (.cells 196 0 1 [[.nils]]) := by rw [← hs]; simp [Store.push_get]
  have hsn : s.next = σ.next + 1 := by rw [← hs]; rfl
  clear hs
  refine AWP_while [0, 3, 10, 11, 12] (fun i : Nat => l.length - i) (fun i => [.list (l.map supC), .ptr σ.next 0 0 0, .list (l.map supC), .int .i64 l.length, .int .i64 i])
    (fun i t => i ≤ l.length ∧ Kp σ t ∧ ((l.take i).map (·.nm)).Nodup ∧ ∃ v, Chk t σ.next v ((l.take i).map (·.nm)) ∧ ∀ j, j ∈ slIds v → σ.next < j) 0 ⟨by simp, k1, by simp, .nils, ⟨he, .nil _ _ _, by simp⟩, by simp [slIds]⟩ ?_ ?_
  · refine raw ?_
    repeat (first | (with_reducible refine unr ?_; try simp only [ZZ, ↓reduceIte, Nat.reduceEqDiff, Nat.reduceAdd, Nat.reduceLeDiff, reduceCtorEq, Int.reduceEq, Int.reduceLT, Int.reduceLE, Int.reduceNeg, Int.reduceAdd, Int.reduceSub, Int.reduceToNat]) | (with_reducible first | refine W1 ?_ | refine W2 ?_ | refine W3 ?_ | refine W4 ?_ | refine W5 ?_ | refine W6 ?_ | refine W7 ?_ | refine W8 ?_ | refine W9 ?_))
    rfl
  rintro i t ⟨hi, k2, hnd, v, hc, hf⟩
  have hw := wrap_succ (i := i) (by omega)
  by_cases hil : i < l.length
  · have hil' : (i : Int) < (l.length : Int) := by omega
    obtain ⟨x, hx⟩ : ∃ x, l[i]? = some x := ⟨_, List.getElem?_eq_getElem hil⟩
    have hxm := List.mem_of_getElem? hx
    have hg : (l.map supC)[i]? = some (supC x) := by simp [hx]
    have hxb := bulkS_le hxm
    have hcp := hc.keep (.pushed t (.cells 71 0 11 [supC x]))
    simp only [supC] at hcp
    have hq := lt_ne (t.lt hc.hd)
    have hcon := contains_ok (hcp.sl.rds) (by have := hcp.len; omega) x.nm
    generalize hdc : @decide (x.nm ∈ (l.take i).map (·.nm)) (Classical.propDecidable _) = dc at hcon
    refine raw ?_
    repeat' (first | (with_reducible refine unr ?_; try simp only [ZZ, ↓reduceIte, Nat.reduceEqDiff, Nat.reduceAdd, Nat.reduceLeDiff, reduceCtorEq, Int.reduceEq, Int.reduceLT, Int.reduceLE, Int.reduceNeg, Int.reduceAdd, Int.reduceSub, Int.reduceToNat, hil', hg, supC, Cr.len, Cr.take9, Cr.drop9, hc.hd, hq, str_nil, *]) | (with_reducible first | refine W1 ?_ | refine W2 ?_ | refine W3 ?_ | refine W4 ?_ | refine W5 ?_ | refine W6 ?_ | refine W7 ?_ | refine W8 ?_ | refine W9 ?_ | refine ok_idx (by first | assumption | omega) (fun b hb => raw ?_) | refine ok_iad (by first | assumption | omega) (fun x hx hxm => raw ?_) | refine And.intro (by omega) (raw ?_) | (refine guardW_b (fun h => raw ?_) (fun h => raw ?_) <;> try simp only [Ty] at h) | (refine ePick_b (fun h => raw ?_) (fun h => raw ?_) <;> try simp only [Ty] at h) | (refine condW_b (fun h => raw ?_) (fun h => raw ?_) <;> try simp only [Ty] at h) | (refine (op' _ _).mono ?_; rintro _ _ ⟨⟨b, rfl, hb⟩, rfl⟩; refine raw ?_) | (refine (locals' _ (by omega) _).mono ?_; rintro _ _ ⟨⟨b, rfl, hb⟩, rfl⟩; refine raw ?_) | (refine (hcon).mono ?_; rintro _ _ ⟨rfl, rfl⟩; refine raw ?_)))
    · exact FP.same (k2.trans (.pushed _ _)) RB.f (.bool _)
    · exact FP.same (k2.trans (.pushed _ _)) RB.f (.bool _)
    · exact FP.same (k2.trans (.pushed _ _)) RB.f (.bool _)
    · exact FP.same (k2.trans (.pushed _ _)) RB.f (.bool _)
    · rename_i hdf
      rw [hdf] at hdc
      have hnm : x.nm ∉ (l.take i).map (·.nm) := @of_decide_eq_false _ (Classical.propDecidable _) hdc
      refine ok_app hcp.sl (es2 := [[.str x.nm]]) (by simp) (by simp; omega) (by simp [maxLen]; omega) ?_
      intro v' t3 hsl hfr
      have kp : Kp t (t.push (.cells 71 0 11 [AV.str x.nm :: strs x.ps :: x.bd.cells])) := .pushed _ _
      have hlt0 := (t.push (.cells 71 0 11 [AV.str x.nm :: strs x.ps :: x.bd.cells])).lt hcp.hd
      have hd3 : t3.get σ.next = some (.cells 196 0 1 [[v]]) := by
        rw [hfr.keep _ hlt0 (fun hm => by have := hf _ hm; omega)]; exact hcp.hd
      have hlt := t3.lt hd3
      refine raw ?_
      repeat (first | (with_reducible refine unr ?_; try simp only [ZZ, ↓reduceIte, Nat.reduceEqDiff, Nat.reduceAdd, Nat.reduceLeDiff, reduceCtorEq, Int.reduceEq, Int.reduceLT, Int.reduceLE, Int.reduceNeg, Int.reduceAdd, Int.reduceSub, Int.reduceToNat, hd3, hw, hsl.co]) | (with_reducible first | refine W1 ?_ | refine W2 ?_ | refine W3 ?_ | refine W4 ?_ | refine W5 ?_ | refine W6 ?_ | refine W7 ?_ | refine W8 ?_ | refine W9 ?_))
      have hne : ∀ j, j ∈ slIds v' → σ.next < j := fun j hj => by
        rcases hfr.fresh j hj with h1 | h1
        · exact hf j h1
        · omega
      have et : (l.take (i + 1)).map (·.nm) = (l.take i).map (·.nm) ++ [x.nm] := by rw [take_succ_at hx]; simp
      refine ⟨i + 1, rfl, ⟨by omega, ⟨?_, fun j hj => ?_⟩, ?_, v', ⟨Store.get_upd_self _ _ hlt, ?_, by simp; omega⟩, hne⟩, by omega⟩
      · have := hfr.next; have := kp.next; have := k2.next; rw [Store.upd_next]; omega
      · rw [Store.get_upd_ne _ _ (by omega), hfr.keep j (by have := kp.next; have := k2.next; omega) (fun hm => by have := hf _ hm; omega), kp.keep j (by have := k2.next; omega), k2.keep j hj]
      · rw [et]
        exact List.nodup_append.2 ⟨hnd, by simp, by intro a ha b hb e; simp at hb; subst hb; subst e; exact hnm ha⟩
      · rw [et, List.map_append]
        exact hsl.keep fun j hj => Store.get_upd_ne _ _ (by have := hne j hj; omega)
  · have hil' : ¬ (i : Int) < (l.length : Int) := by omega
    rw [List.take_of_length_le (by omega)] at hc hnd
    refine raw ?_
    repeat (first | (with_reducible refine unr ?_; try simp only [ZZ, ↓reduceIte, Nat.reduceEqDiff, Nat.reduceAdd, Nat.reduceLeDiff, reduceCtorEq, Int.reduceEq, Int.reduceLT, Int.reduceLE, Int.reduceNeg, Int.reduceAdd, Int.reduceSub, Int.reduceToNat, hil']) | (with_reducible first | refine W1 ?_ | refine W2 ?_ | refine W3 ?_ | refine W4 ?_ | refine W5 ?_ | refine W6 ?_ | refine W7 ?_ | refine W8 ?_ | refine W9 ?_))
    refine AWP_while [3, 52, 53, 54] (fun i : Nat => l.length - i) (fun i => [.ptr σ.next 0 0 0, .list (l.map supC), .int .i64 l.length, .int .i64 i])
      (fun i s => i ≤ l.length ∧ Kp t s ∧ ∀ x, x ∈ l.take i → FlatQ x) 0 ⟨by simp, .refl _, by simp⟩ ?_ ?_
    · refine raw ?_
      repeat (first | (with_reducible refine unr ?_; try simp only [ZZ, ↓reduceIte, Nat.reduceEqDiff, Nat.reduceAdd, Nat.reduceLeDiff, reduceCtorEq, Int.reduceEq, Int.reduceLT, Int.reduceLE, Int.reduceNeg, Int.reduceAdd, Int.reduceSub, Int.reduceToNat]) | (with_reducible first | refine W1 ?_ | refine W2 ?_ | refine W3 ?_ | refine W4 ?_ | refine W5 ?_ | refine W6 ?_ | refine W7 ?_ | refine W8 ?_ | refine W9 ?_))
      rfl
    clear hw hil hil' hi
    rintro i t2 ⟨hi, k3, hall⟩
    have hw := wrap_succ (i := i) (by omega)
    by_cases hil : i < l.length
    · have hil' : (i : Int) < (l.length : Int) := by omega
      obtain ⟨x, hx⟩ : ∃ x, l[i]? = some x := ⟨_, List.getElem?_eq_getElem hil⟩
      have hxm := List.mem_of_getElem? hx
      have hg : (l.map supC)[i]? = some (supC x) := by simp [hx]
      have hxb := bulkS_le hxm
      refine raw ?_
      repeat' (first | (with_reducible refine unr ?_; try simp only [ZZ, ↓reduceIte, Nat.reduceEqDiff, Nat.reduceAdd, Nat.reduceLeDiff, reduceCtorEq, Int.reduceEq, Int.reduceLT, Int.reduceLE, Int.reduceNeg, Int.reduceAdd, Int.reduceSub, Int.reduceToNat, hil', hg, supC, Cr.len, Cr.take9, Cr.drop9, str_nil, *]) | (with_reducible first | refine W1 ?_ | refine W2 ?_ | refine W3 ?_ | refine W4 ?_ | refine W5 ?_ | refine W6 ?_ | refine W7 ?_ | refine W8 ?_ | refine W9 ?_ | refine ok_idx (by first | assumption | omega) (fun b hb => raw ?_) | refine ok_iad (by first | assumption | omega) (fun x hx hxm => raw ?_) | refine And.intro (by omega) (raw ?_) | (refine guardW_b (fun h => raw ?_) (fun h => raw ?_) <;> try simp only [Ty] at h) | (refine ePick_b (fun h => raw ?_) (fun h => raw ?_) <;> try simp only [Ty] at h) | (refine condW_b (fun h => raw ?_) (fun h => raw ?_) <;> try simp only [Ty] at h) | (refine (flat_ok x.bd (by omega) true _).mono ?_; rintro _ _ ⟨⟨b, rfl, hb⟩, rfl⟩; refine raw ?_) | (refine (rightT_ok x.bd _ _ _ _ x.ps ((hc.keep k3).keep (.pushed _ _)) (by omega)).mono ?_; rintro _ _ ⟨⟨b, rfl, hb⟩, rfl⟩; refine raw ?_)))
      · exact FP.same (k2.trans (k3.push _)) RB.f (.bool _)
      · exact FP.same (k2.trans (k3.push _)) RB.f (.bool _)
      · exact ⟨i + 1, rfl, ⟨by omega, k3.push _, all_succ (p := FlatQ) hall hx ⟨hb h, by solve_by_elim⟩⟩, by omega⟩
    · have hil' : ¬ (i : Int) < (l.length : Int) := by omega
      rw [List.take_of_length_le (by omega)] at hall
      refine raw ?_
      repeat (first | (with_reducible refine unr ?_; try simp only [ZZ, ↓reduceIte, Nat.reduceEqDiff, Nat.reduceAdd, Nat.reduceLeDiff, reduceCtorEq, Int.reduceEq, Int.reduceLT, Int.reduceLE, Int.reduceNeg, Int.reduceAdd, Int.reduceSub, Int.reduceToNat, hil']) | (with_reducible first | refine W1 ?_ | refine W2 ?_ | refine W3 ?_ | refine W4 ?_ | refine W5 ?_ | refine W6 ?_ | refine W7 ?_ | refine W8 ?_ | refine W9 ?_))
      exact FP.same (k2.trans k3) (RB.t ⟨hall, hnd⟩) (.bool _)
end Go.Proofs.Ytjjbjibbjbbeaaa
/- The table of the globals. -/
set_option linter.unusedVariables false
set_option linter.unusedSimpArgs false
namespace Go.AL
/-- A constructor as a value. -/
structure Con5 where
  nm : ByteArray
  data : ByteArray
  tag : Int
  par : Int
  fs : List (List AV)
def con5C (c : Con5) : List AV := [.str c.nm, .str c.data, .int .i64 c.tag, .int .i64 c.par, .list c.fs]
def glOf (l : List Sup) (cons : List Con5) : Gl := ⟨l.map (·.nm), cons.map fun c => (c.nm, c.fs.length)⟩
def ents : Nat → List ByteArray → List (AV × AV)
  | i, [] => []
  | i, s :: r => (.str s, .int .i64 (i : Int)) :: ents (i + 1) r
theorem ents_len : ∀ (l : List ByteArray) (i : Nat), (ents i l).length = l.length
  | [], i => rfl
  | s :: r, i => by rw [ents, List.length_cons, List.length_cons, ents_len r]
theorem ents_app : ∀ (l m : List ByteArray) (i : Nat), ents i (l ++ m) = ents i l ++ ents (i + l.length) m
  | [], m, i => by simp [ents]
  | s :: r, m, i => by rw [List.cons_append, ents, ents, ents_app r m, List.length_cons, List.cons_append, show i + 1 + r.length = i + (r.length + 1) by omega]
theorem idx_cons (s k : ByteArray) (r : List ByteArray) : idx (s :: r) k = @ite _ (s = k) (Classical.propDecidable _) (some 0) ((idx r k).map (· + 1)) := by
  unfold idx
  rw [List.findIdx?_cons]
  by_cases h : s = k
  · simp [h]
  · simp [h]
theorem idx_none {l : List ByteArray} {k : ByteArray} : idx l k = none ↔ k ∉ l := by
  unfold idx
  rw [List.findIdx?_eq_none_iff]
  constructor
  · intro h hm
    have := h k hm
    simp at this
  · intro h x hx
    simp
    rintro rfl
    exact h hx
theorem aFind_ents (k : ByteArray) : ∀ (l : List ByteArray) (i p : Nat), (idx l k = none ∧ aFind .str (.str k) (ents i l) p = some none) ∨ ∃ m j, idx l k = some m ∧ aFind .str (.str k) (ents i l) p = some (some (j, .int .i64 ((i + m : Nat) : Int)))
  | [], i, p => .inl ⟨rfl, rfl⟩
  | s :: r, i, p => by
    rw [idx_cons, ents]
    simp only [aFind, keyEq_str]
    by_cases h : s = k
    · right
      refine ⟨0, p, by rw [if_pos h], ?_⟩
      rw [decide_eq_true h.symm]
      simp
    · rw [if_neg h, decide_eq_false (fun e => h e.symm)]
      rcases aFind_ents k r (i + 1) (p + 1) with ⟨h1, h2⟩ | ⟨m, j, h1, h2⟩
      · left; rw [h1]; exact ⟨rfl, h2⟩
      · right
        refine ⟨m + 1, j, by rw [h1]; rfl, ?_⟩
        rw [show i + (m + 1) = i + 1 + m by omega]
        exact h2
theorem aFind_new {k : ByteArray} {l : List ByteArray} (h : k ∉ l) : aFind .str (.str k) (ents 0 l) 0 = some none := by
  rcases aFind_ents k l 0 0 with ⟨_, h2⟩ | ⟨m, j, h1, _⟩
  · exact h2
  · rw [idx_none.2 h] at h1; cases h1
end Go.AL
namespace Go.Proofs.Ytjjbjibbjbbeaaa
open Go.AL
theorem fits_ok {σ : Store} {T tid : Nat} {g : Gl} (ht : TAt σ T tid g) (s : ByteArray) (n : Int) : ACalls Try.prog 113 [.ptr tid 0 0 0, .str s, .int .i64 n] σ fun r s' => (∃ b : Bool, r = .bool b ∧ (b = true → g.con ≠ [])) ∧ s' = σ := by
  refine in113 (by simp) ?_
  unfold c113
  obtain ⟨⟨sm, cm, fv, sme, cme, t1, t2, t3, t4, t5, t6, t7, t8, t9, t10, t11⟩, hsm⟩ := ht
  rcases t6 s with ⟨hi, hf⟩ | ⟨i, j, hi, hf⟩
  · refine raw ?_
    repeat (first | (with_reducible refine unr ?_; try simp only [ZZ, ↓reduceIte, Nat.reduceEqDiff, Nat.reduceAdd, Nat.reduceLeDiff, reduceCtorEq, Int.reduceEq, Int.reduceLT, Int.reduceLE, Int.reduceNeg, Int.reduceAdd, Int.reduceSub, Int.reduceToNat, t1, t3, hf, findVal]) | (with_reducible first | refine W1 ?_ | refine W2 ?_ | refine W3 ?_ | refine W4 ?_ | refine W5 ?_ | refine W6 ?_ | refine W7 ?_ | refine W8 ?_ | refine W9 ?_))
    exact ⟨_, rfl, by simp⟩
  · have hlt := idx_lt hi
    simp only [List.length_map] at hlt
    obtain ⟨c, hc⟩ : ∃ c, g.con[i]? = some c := ⟨_, List.getElem?_eq_getElem hlt⟩
    obtain ⟨q, hq, hep⟩ := t7.rds.iad i [.int .i64 (c.2 : Int)] (by simp [hc])
    have hld := hep.load none
    refine raw ?_
    repeat (first | (with_reducible refine unr ?_; try simp only [ZZ, ↓reduceIte, Nat.reduceEqDiff, Nat.reduceAdd, Nat.reduceLeDiff, reduceCtorEq, Int.reduceEq, Int.reduceLT, Int.reduceLE, Int.reduceNeg, Int.reduceAdd, Int.reduceSub, Int.reduceToNat, t1, t3, hf, findVal, hq, hld]) | (with_reducible first | refine W1 ?_ | refine W2 ?_ | refine W3 ?_ | refine W4 ?_ | refine W5 ?_ | refine W6 ?_ | refine W7 ?_ | refine W8 ?_ | refine W9 ?_))
    exact ⟨_, rfl, fun _ e => by rw [e] at hc; simp at hc⟩
theorem tableOf_ok (l : List Sup) (hnd : (l.map (·.nm)).Nodup) (cons : List Con5) (hl : l.length + cons.length ≤ 100000000) (σ : Store) :
    ACalls Try.prog 105 [.list (l.map supC), .list (cons.map con5C)] σ fun r s => (r = .tuple [.nilp, .bool false] ∨ ∃ tid b, r = .tuple [.ptr tid 0 0 0, .bool b] ∧ TAt s s.next tid (glOf l cons) ∧ (b = true → cons ≠ [])) ∧ Kp σ s := by
  refine in105 (by simp) ?_
  unfold c105
  try simp only [ZZ, ↓reduceIte, Nat.reduceEqDiff, Nat.reduceAdd, Nat.reduceLeDiff, reduceCtorEq, Int.reduceEq, Int.reduceLT, Int.reduceLE, Int.reduceNeg, Int.reduceAdd, Int.reduceSub, Int.reduceToNat]
  iterate 4 ((with_reducible first | refine W1 ?_ | refine W2 ?_ | refine W3 ?_ | refine W4 ?_ | refine W5 ?_ | refine W6 ?_ | refine W7 ?_ | refine W8 ?_ | refine W9 ?_); refine unr ?_; try simp only [ZZ, ↓reduceIte, Nat.reduceEqDiff, Nat.reduceAdd, Nat.reduceLeDiff, reduceCtorEq, Int.reduceEq, Int.reduceLT, Int.reduceLE, Int.reduceNeg, Int.reduceAdd, Int.reduceSub, Int.reduceToNat])
  generalize hs : Store.push _ _ = s1
  have k1 : Kp σ s1 := by rw [← hs]; exact ((Kp.pushed _ _).push _).push _
  have n1 : s1.next = σ.next + 3 := by rw [← hs]; rfl
  have e1 : s1.get σ.next = some (.map []) := by rw [← hs]; simp [Store.push_get, Store.push_next]; intro h; omega
  have e2 : s1.get (σ.next + 1) = some (.map []) := by rw [← hs]; simp [Store.push_get, Store.push_next]
  have e3 : s1.get (σ.next + 2) = some (.cells 223 0 3 [[.map σ.next, .map (σ.next + 1), .nils]]) := by rw [← hs]; simp [Store.push_get, Store.push_next]
  clear hs
  refine AWP_cut [1, 6] (fun _ : Unit => [.list (cons.map con5C), .ptr (σ.next + 2) 0 0 0]) (fun _ s => Kp σ s ∧ s.get σ.next = some (.map (ents 0 (l.map (·.nm)))) ∧ s.get (σ.next + 1) = some (.map []) ∧ s.get (σ.next + 2) = some (.cells 223 0 3 [[.map σ.next, .map (σ.next + 1), .nils]])) ?_ ?_
  · refine raw ?_
    repeat (first | (with_reducible refine unr ?_; try simp only [ZZ, ↓reduceIte, Nat.reduceEqDiff, Nat.reduceAdd, Nat.reduceLeDiff, reduceCtorEq, Int.reduceEq, Int.reduceLT, Int.reduceLE, Int.reduceNeg, Int.reduceAdd, Int.reduceSub, Int.reduceToNat]) | (with_reducible first | refine W1 ?_ | refine W2 ?_ | refine W3 ?_ | refine W4 ?_ | refine W5 ?_ | refine W6 ?_ | refine W7 ?_ | refine W8 ?_ | refine W9 ?_))
    refine AWP_while [1, 6, 17, 18, 19] (fun i : Nat => l.length - i) (fun i => [.list (cons.map con5C), .ptr (σ.next + 2) 0 0 0, .list (l.map supC), .int .i64 l.length, .int .i64 i])
      (fun i s => i ≤ l.length ∧ Kp σ s ∧ s.get σ.next = some (.map (ents 0 ((l.take i).map (·.nm)))) ∧ s.get (σ.next + 1) = some (.map []) ∧ s.get (σ.next + 2) = some (.cells 223 0 3 [[.map σ.next, .map (σ.next + 1), .nils]])) 0 ⟨by simp, k1, by simpa [ents] using e1, e2, e3⟩ ?_ ?_
    · refine raw ?_
      repeat (first | (with_reducible refine unr ?_; try simp only [ZZ, ↓reduceIte, Nat.reduceEqDiff, Nat.reduceAdd, Nat.reduceLeDiff, reduceCtorEq, Int.reduceEq, Int.reduceLT, Int.reduceLE, Int.reduceNeg, Int.reduceAdd, Int.reduceSub, Int.reduceToNat]) | (with_reducible first | refine W1 ?_ | refine W2 ?_ | refine W3 ?_ | refine W4 ?_ | refine W5 ?_ | refine W6 ?_ | refine W7 ?_ | refine W8 ?_ | refine W9 ?_))
      rfl
    rintro i s ⟨hi, k2, f1, f2, f3⟩
    have hw := wrap_succ (i := i) (by omega)
    by_cases hil : i < l.length
    · have hil' : (i : Int) < (l.length : Int) := by omega
      obtain ⟨x, hx⟩ : ∃ x, l[i]? = some x := ⟨_, List.getElem?_eq_getElem hil⟩
      have hg : (l.map supC)[i]? = some (supC x) := by simp [hx]
      have q1 := lt_ne (s.lt f1)
      have q2 := lt_ne (s.lt f2)
      have q3 := lt_ne (s.lt f3)
      have hnm : x.nm ∉ (l.take i).map (·.nm) := by
        intro hm
        have e := split_at hx
        rw [e, List.map_append, List.map_cons] at hnd
        exact (List.nodup_append.1 hnd).2.2 _ hm _ (by simp) rfl
      have hfn := aFind_new hnm
      refine raw ?_
      repeat (first | (with_reducible refine unr ?_; try simp only [ZZ, ↓reduceIte, Nat.reduceEqDiff, Nat.reduceAdd, Nat.reduceLeDiff, reduceCtorEq, Int.reduceEq, Int.reduceLT, Int.reduceLE, Int.reduceNeg, Int.reduceAdd, Int.reduceSub, Int.reduceToNat, hil', hg, supC, Cr.len, Cr.take9, Cr.drop9, f1, f3, q1, q2, q3, hfn, mapPut, hw]) | (with_reducible first | refine W1 ?_ | refine W2 ?_ | refine W3 ?_ | refine W4 ?_ | refine W5 ?_ | refine W6 ?_ | refine W7 ?_ | refine W8 ?_ | refine W9 ?_))
      have et : (l.take (i + 1)).map (·.nm) = (l.take i).map (·.nm) ++ [x.nm] := by rw [take_succ_at hx]; simp
      have hli : ((l.take i).map (·.nm)).length = i := by simp; omega
      refine ⟨i + 1, rfl, ⟨by omega, (k2.upd (Nat.le_refl _) _).push _, ?_, ?_, ?_⟩, by omega⟩
      · rw [Store.get_upd_self _ _ (s.lt f1), et, ents_app, hli, Nat.zero_add]
        rfl
      · rw [Store.get_upd_ne _ _ (by omega)]; exact f2
      · rw [Store.get_upd_ne _ _ (by omega)]; exact f3
    · have hil' : ¬ (i : Int) < (l.length : Int) := by omega
      rw [List.take_of_length_le (by omega)] at f1
      refine raw ?_
      repeat (first | (with_reducible refine unr ?_; try simp only [ZZ, ↓reduceIte, Nat.reduceEqDiff, Nat.reduceAdd, Nat.reduceLeDiff, reduceCtorEq, Int.reduceEq, Int.reduceLT, Int.reduceLE, Int.reduceNeg, Int.reduceAdd, Int.reduceSub, Int.reduceToNat, hil']) | (with_reducible first | refine W1 ?_ | refine W2 ?_ | refine W3 ?_ | refine W4 ?_ | refine W5 ?_ | refine W6 ?_ | refine W7 ?_ | refine W8 ?_ | refine W9 ?_))
      exact ⟨(), k2, f1, f2, f3⟩
  rintro _ s ⟨k2, f1, f2, f3⟩
  refine AWP_cut [6] (fun _ : Unit => [.ptr (σ.next + 2) 0 0 0]) (fun _ s => Kp σ s ∧ TAt s s.next (σ.next + 2) (glOf l cons)) ?_ ?_
  · refine raw ?_
    repeat (first | (with_reducible refine unr ?_; try simp only [ZZ, ↓reduceIte, Nat.reduceEqDiff, Nat.reduceAdd, Nat.reduceLeDiff, reduceCtorEq, Int.reduceEq, Int.reduceLT, Int.reduceLE, Int.reduceNeg, Int.reduceAdd, Int.reduceSub, Int.reduceToNat]) | (with_reducible first | refine W1 ?_ | refine W2 ?_ | refine W3 ?_ | refine W4 ?_ | refine W5 ?_ | refine W6 ?_ | refine W7 ?_ | refine W8 ?_ | refine W9 ?_))
    refine AWP_while [6, 32, 33, 34] (fun y : AV × Nat => cons.length - y.2) (fun y => [.ptr (σ.next + 2) 0 0 0, .list (cons.map con5C), .int .i64 cons.length, .int .i64 y.2])
      (fun y s => y.2 ≤ cons.length ∧ Kp σ s ∧ s.get σ.next = some (.map (ents 0 (l.map (·.nm)))) ∧ s.get (σ.next + 1) = some (.map (ents 0 ((cons.take y.2).map (·.nm)))) ∧ s.get (σ.next + 2) = some (.cells 223 0 3 [[.map σ.next, .map (σ.next + 1), y.1]]) ∧
        SliceAt s y.1 3 1 ((cons.take y.2).map fun c => [.int .i64 (c.fs.length : Int)]) ∧ ∀ j, j ∈ slIds y.1 → σ.next + 3 ≤ j) (.nils, 0) ⟨by simp, k2, f1, by simpa [ents] using f2, f3, by simpa using SliceAt.nil s 3 1, by simp [slIds]⟩ ?_ ?_
    · refine raw ?_
      repeat (first | (with_reducible refine unr ?_; try simp only [ZZ, ↓reduceIte, Nat.reduceEqDiff, Nat.reduceAdd, Nat.reduceLeDiff, reduceCtorEq, Int.reduceEq, Int.reduceLT, Int.reduceLE, Int.reduceNeg, Int.reduceAdd, Int.reduceSub, Int.reduceToNat]) | (with_reducible first | refine W1 ?_ | refine W2 ?_ | refine W3 ?_ | refine W4 ?_ | refine W5 ?_ | refine W6 ?_ | refine W7 ?_ | refine W8 ?_ | refine W9 ?_))
      rfl
    clear k2 f1 f2 f3
    rintro ⟨fv, i⟩ s ⟨hi, k2, f1, f2, f3, hsl, hfv⟩
    simp only at hi f2 f3 hsl hfv
    have hw := wrap_succ (i := i) (by omega)
    have q1 := lt_ne (s.lt f1)
    have q2 := lt_ne (s.lt f2)
    have q3 := lt_ne (s.lt f3)
    by_cases hil : i < cons.length
    · have hil' : (i : Int) < (cons.length : Int) := by omega
      obtain ⟨x, hx⟩ : ∃ x, cons[i]? = some x := ⟨_, List.getElem?_eq_getElem hil⟩
      have hg : (cons.map con5C)[i]? = some (con5C x) := by simp [hx]
      have kp := (k2.push (.cells 87 0 5 [con5C x]))
      by_cases hm : x.nm ∈ (cons.take i).map (·.nm)
      · obtain ⟨m, j, _, hf⟩ : ∃ m j, idx ((cons.take i).map (·.nm)) x.nm = some m ∧ aFind .str (.str x.nm) (ents 0 ((cons.take i).map (·.nm))) 0 = some (some (j, .int .i64 ((0 + m : Nat) : Int))) := by
          rcases aFind_ents x.nm ((cons.take i).map (·.nm)) 0 0 with ⟨h1, _⟩ | ⟨m, j, h1, h2⟩
          · exact absurd hm (idx_none.1 h1)
          · exact ⟨m, j, h1, h2⟩
        refine raw ?_
        repeat' (first | (with_reducible refine unr ?_; try simp only [ZZ, ↓reduceIte, Nat.reduceEqDiff, Nat.reduceAdd, Nat.reduceLeDiff, reduceCtorEq, Int.reduceEq, Int.reduceLT, Int.reduceLE, Int.reduceNeg, Int.reduceAdd, Int.reduceSub, Int.reduceToNat, hil', hg, con5C, f2, f3, q2, q3, hf, findVal, str_nil, *]) | (with_reducible first | refine W1 ?_ | refine W2 ?_ | refine W3 ?_ | refine W4 ?_ | refine W5 ?_ | refine W6 ?_ | refine W7 ?_ | refine W8 ?_ | refine W9 ?_ | refine ok_idx (by first | assumption | omega) (fun b hb => raw ?_) | refine ok_iad (by first | assumption | omega) (fun x hx hxm => raw ?_) | refine And.intro (by omega) (raw ?_) | (refine guardW_b (fun h => raw ?_) (fun h => raw ?_) <;> try simp only [Ty] at h) | (refine ePick_b (fun h => raw ?_) (fun h => raw ?_) <;> try simp only [Ty] at h) | (refine condW_b (fun h => raw ?_) (fun h => raw ?_) <;> try simp only [Ty] at h)))
        exact ⟨Or.inl trivial, kp⟩
      · have hf := aFind_new hm
        have hu2 : ∀ o, (s.upd (σ.next + 1) o).get (σ.next + 2) = some (.cells 223 0 3 [[.map σ.next, .map (σ.next + 1), fv]]) := fun o => by rw [Store.get_upd_ne _ _ (by omega)]; exact f3
        refine raw ?_
        repeat' (first | (with_reducible refine unr ?_; try simp only [ZZ, ↓reduceIte, Nat.reduceEqDiff, Nat.reduceAdd, Nat.reduceLeDiff, reduceCtorEq, Int.reduceEq, Int.reduceLT, Int.reduceLE, Int.reduceNeg, Int.reduceAdd, Int.reduceSub, Int.reduceToNat, hil', hg, con5C, f2, f3, q2, q3, hf, findVal, mapPut, hu2, str_nil, *]) | (with_reducible first | refine W1 ?_ | refine W2 ?_ | refine W3 ?_ | refine W4 ?_ | refine W5 ?_ | refine W6 ?_ | refine W7 ?_ | refine W8 ?_ | refine W9 ?_ | refine ok_idx (by first | assumption | omega) (fun b hb => raw ?_) | refine ok_iad (by first | assumption | omega) (fun x hx hxm => raw ?_) | refine And.intro (by omega) (raw ?_) | (refine guardW_b (fun h => raw ?_) (fun h => raw ?_) <;> try simp only [Ty] at h) | (refine ePick_b (fun h => raw ?_) (fun h => raw ?_) <;> try simp only [Ty] at h) | (refine condW_b (fun h => raw ?_) (fun h => raw ?_) <;> try simp only [Ty] at h)))
        · exact ⟨Or.inl trivial, kp⟩
        generalize hs4 : Store.push _ _ = s4
        have k4 : Kp σ s4 := by rw [← hs4]; exact (k2.upd (by omega) _).push _
        have n4 : s4.next = s.next + 1 := by rw [← hs4]; rfl
        have g1 : s4.get σ.next = some (.map (ents 0 (l.map (·.nm)))) := by rw [← hs4, Store.push_get, if_neg (by rw [Store.upd_next]; simpa using q1), Store.get_upd_ne _ _ (by omega)]; exact f1
        have et : (cons.take (i + 1)).map (·.nm) = (cons.take i).map (·.nm) ++ [x.nm] := by rw [take_succ_at hx]; simp
        have hli : ((cons.take i).map (·.nm)).length = i := by simp; omega
        have g2 : s4.get (σ.next + 1) = some (.map (ents 0 ((cons.take (i + 1)).map (·.nm)))) := by
          rw [← hs4, Store.push_get, if_neg (by rw [Store.upd_next]; simpa using q2), Store.get_upd_self _ _ (s.lt f2), et, ents_app, hli, Nat.zero_add]
          rfl
        have g3 : s4.get (σ.next + 2) = some (.cells 223 0 3 [[.map σ.next, .map (σ.next + 1), fv]]) := by rw [← hs4, Store.push_get, if_neg (by rw [Store.upd_next]; simpa using q3), Store.get_upd_ne _ _ (by omega)]; exact f3
        have hsl4 : SliceAt s4 fv 3 1 ((cons.take i).map fun c => [.int .i64 (c.fs.length : Int)]) := hsl.keep fun j hj => by
          have h1 := hfv j hj
          have h2 := hsl.lt hj
          rw [← hs4, Store.push_get, if_neg (by rw [Store.upd_next]; omega), Store.get_upd_ne _ _ (by omega)]
        clear hs4
        refine ok_app hsl4 (es2 := [[.int .i64 (x.fs.length : Int)]]) (by simp) (by simp; omega) (by simp [maxLen]; omega) ?_
        intro fv5 s5 hsl5 hfr
        have l3 := s.lt f3
        have m1 := hfr.keep σ.next (by omega) (fun hm => by have := hfv _ hm; omega)
        have m2 := hfr.keep (σ.next + 1) (by omega) (fun hm => by have := hfv _ hm; omega)
        have m3 := hfr.keep (σ.next + 2) (by omega) (fun hm => by have := hfv _ hm; omega)
        rw [g1] at m1
        rw [g2] at m2
        rw [g3] at m3
        have hfv5 : ∀ j, j ∈ slIds fv5 → σ.next + 3 ≤ j := fun j hj => (hfr.fresh j hj).elim (hfv j) (fun q => by have := k2.next; have := s.lt f3; omega)
        have k5 : Kp σ s5 := ⟨by have := k4.next; have := hfr.next; omega, fun j hj => by rw [hfr.keep j (by have := k4.next; omega) (fun hm => by have := hfv _ hm; omega), k4.keep j hj]⟩
        refine raw ?_
        repeat (first | (with_reducible refine unr ?_; try simp only [ZZ, ↓reduceIte, Nat.reduceEqDiff, Nat.reduceAdd, Nat.reduceLeDiff, reduceCtorEq, Int.reduceEq, Int.reduceLT, Int.reduceLE, Int.reduceNeg, Int.reduceAdd, Int.reduceSub, Int.reduceToNat, m3, hsl5.co, hw]) | (with_reducible first | refine W1 ?_ | refine W2 ?_ | refine W3 ?_ | refine W4 ?_ | refine W5 ?_ | refine W6 ?_ | refine W7 ?_ | refine W8 ?_ | refine W9 ?_))
        refine ⟨(fv5, i + 1), rfl, ⟨by simp only; omega, k5.upd (by omega) _, ?_, ?_, Store.get_upd_self _ _ (s5.lt m3), ?_, hfv5⟩, by simp only; omega⟩
        · rw [Store.get_upd_ne _ _ (by omega)]; exact m1
        · rw [Store.get_upd_ne _ _ (by omega)]; exact m2
        · have e : ((cons.take (i + 1)).map fun c => [AV.int .i64 (c.fs.length : Int)]) = ((cons.take i).map fun c => [AV.int .i64 (c.fs.length : Int)]) ++ [[AV.int .i64 (x.fs.length : Int)]] := by rw [take_succ_at hx]; simp
          simp only [e]
          exact hsl5.keep fun j hj => Store.get_upd_ne _ _ (by have := hfv5 j hj; omega)
    · have hil' : ¬ (i : Int) < (cons.length : Int) := by omega
      rw [List.take_of_length_le (by omega)] at f2 hsl
      refine raw ?_
      repeat (first | (with_reducible refine unr ?_; try simp only [ZZ, ↓reduceIte, Nat.reduceEqDiff, Nat.reduceAdd, Nat.reduceLeDiff, reduceCtorEq, Int.reduceEq, Int.reduceLT, Int.reduceLE, Int.reduceNeg, Int.reduceAdd, Int.reduceSub, Int.reduceToNat, hil']) | (with_reducible first | refine W1 ?_ | refine W2 ?_ | refine W3 ?_ | refine W4 ?_ | refine W5 ?_ | refine W6 ?_ | refine W7 ?_ | refine W8 ?_ | refine W9 ?_))
      refine ⟨(), k2, ⟨σ.next, σ.next + 1, fv, _, _, f3, f1, f2, ?_, ?_, ?_, ?_, s.lt f3, s.lt f1, s.lt f2, fun j hj => hsl.lt hj⟩, ?_⟩
      · rw [ents_len]; rfl
      · intro k
        rcases aFind_ents k (l.map (·.nm)) 0 0 with h | ⟨m, j, h1, h2⟩
        · exact .inl h
        · exact .inr ⟨m, j, h1, by simpa using h2⟩
      · intro k
        have e : (glOf l cons).con.map (·.1) = cons.map (·.nm) := by simp [glOf, Function.comp_def]
        rw [e]
        rcases aFind_ents k (cons.map (·.nm)) 0 0 with h | ⟨m, j, h1, h2⟩
        · exact .inl h
        · exact .inr ⟨m, j, h1, by simpa using h2⟩
      · have e : ((glOf l cons).con.map fun c => [AV.int .i64 (c.2 : Int)]) = cons.map fun c => [AV.int .i64 (c.fs.length : Int)] := by simp [glOf, Function.comp_def]
        rw [e]; exact hsl
      · simp [glOf]; omega
  rintro _ s ⟨k2, ht⟩
  refine raw ?_
  repeat (first | (with_reducible refine unr ?_; try simp only [ZZ, ↓reduceIte, Nat.reduceEqDiff, Nat.reduceAdd, Nat.reduceLeDiff, reduceCtorEq, Int.reduceEq, Int.reduceLT, Int.reduceLE, Int.reduceNeg, Int.reduceAdd, Int.reduceSub, Int.reduceToNat]) | (with_reducible first | refine W1 ?_ | refine W2 ?_ | refine W3 ?_ | refine W4 ?_ | refine W5 ?_ | refine W6 ?_ | refine W7 ?_ | refine W8 ?_ | refine W9 ?_))
  refine (fits_ok ht _ _).mono ?_
  rintro _ _ ⟨⟨b1, rfl, hb1⟩, rfl⟩
  rename_i s
  cases b1 with
  | true =>
    refine raw ?_
    repeat (first | (with_reducible refine unr ?_; try simp only [ZZ, ↓reduceIte, Nat.reduceEqDiff, Nat.reduceAdd, Nat.reduceLeDiff, reduceCtorEq, Int.reduceEq, Int.reduceLT, Int.reduceLE, Int.reduceNeg, Int.reduceAdd, Int.reduceSub, Int.reduceToNat]) | (with_reducible first | refine W1 ?_ | refine W2 ?_ | refine W3 ?_ | refine W4 ?_ | refine W5 ?_ | refine W6 ?_ | refine W7 ?_ | refine W8 ?_ | refine W9 ?_))
    refine (fits_ok ht _ _).mono ?_
    rintro _ _ ⟨⟨b2, rfl, -⟩, rfl⟩
    rename_i s
    refine raw ?_
    repeat (first | (with_reducible refine unr ?_; try simp only [ZZ, ↓reduceIte, Nat.reduceEqDiff, Nat.reduceAdd, Nat.reduceLeDiff, reduceCtorEq, Int.reduceEq, Int.reduceLT, Int.reduceLE, Int.reduceNeg, Int.reduceAdd, Int.reduceSub, Int.reduceToNat]) | (with_reducible first | refine W1 ?_ | refine W2 ?_ | refine W3 ?_ | refine W4 ?_ | refine W5 ?_ | refine W6 ?_ | refine W7 ?_ | refine W8 ?_ | refine W9 ?_))
    exact ⟨.inr ⟨_, _, rfl, ht, fun _ e => hb1 rfl (by rw [e]; rfl)⟩, k2⟩
  | false =>
    refine raw ?_
    repeat (first | (with_reducible refine unr ?_; try simp only [ZZ, ↓reduceIte, Nat.reduceEqDiff, Nat.reduceAdd, Nat.reduceLeDiff, reduceCtorEq, Int.reduceEq, Int.reduceLT, Int.reduceLE, Int.reduceNeg, Int.reduceAdd, Int.reduceSub, Int.reduceToNat]) | (with_reducible first | refine W1 ?_ | refine W2 ?_ | refine W3 ?_ | refine W4 ?_ | refine W5 ?_ | refine W6 ?_ | refine W7 ?_ | refine W8 ?_ | refine W9 ?_))
    exact ⟨.inr ⟨_, _, rfl, ht, by simp⟩, k2⟩
end Go.Proofs.Ytjjbjibbjbbeaaa
/- Which expressions are known; what is opened. -/
set_option linter.unusedVariables false
set_option linter.unusedSimpArgs false
namespace Go.AL
theorem TAt.kp {σ s : Store} {T tid : Nat} {g : Gl} (h : TAt σ T tid g) (hT : T ≤ σ.next) (k : Kp σ s) : TAt s T tid g := h.keep fun j hj => k.keep j (by omega)
end Go.AL
namespace Go.Proofs.Ytjjbjibbjbbeaaa
open Go.AL
abbrev KnownC (x : Cr) : Prop := ∀ (σ : Store) (T tid : Nat) (g : Gl), TAt σ T tid g → T ≤ σ.next → ACalls Try.prog 64 [.ptr tid 0 0 0, .agg x.cells] σ fun r s => (∃ b : Bool, r = .bool b ∧ True) ∧ s = σ
set_option maxHeartbeats 1000000 in
theorem known_okX : ∀ x : Cr, x.bulk ≤ 10000000 → KnownC x := by
  intro x
  induction x using Cr.ind with
  | _ k nm n ar ps gs al bs pk ih1 ih2 ih3 ih4 =>
    intro hb σ T tid g ht hT
    rw [Cr.bulk] at hb
    have l1 := Cr.lenL gs; have l2 := Cr.lenA al; have l3 := Cr.lenB bs; have l4 := Cr.lenP pk
    have i1 := fun (x : Cr) (hx : x ∈ gs) => ih1 x hx (by have := Cr.bulkL_le hx; omega)
    have i2 := fun (x : AltH × Cr) (hx : x ∈ al) => ih2 x hx (by have := Cr.bulkA_le hx; omega)
    have i3 := fun (x : ByteArray × Cr) (hx : x ∈ bs) => ih3 x hx (by have := Cr.bulkB_le hx; omega)
    have i4 := fun (x : Int × Cr) (hx : x ∈ pk) => ih4 x hx (by have := Cr.bulkP_le hx; omega)
    refine (ACalls_fp (p := SomeB) ?_).mono fun r s h => ⟨h.1.out, h.2⟩
    refine in64 (by simp) ?_
    unfold c64
    rw [Cr.cells_eq]
    try simp only [ZZ, ↓reduceIte, Nat.reduceEqDiff, Nat.reduceAdd, Nat.reduceLeDiff, reduceCtorEq, Int.reduceEq, Int.reduceLT, Int.reduceLE, Int.reduceNeg, Int.reduceAdd, Int.reduceSub, Int.reduceToNat]
    iterate 2 ((with_reducible first | refine W1 ?_ | refine W2 ?_ | refine W3 ?_ | refine W4 ?_ | refine W5 ?_ | refine W6 ?_ | refine W7 ?_ | refine W8 ?_ | refine W9 ?_); refine unr ?_; try simp only [ZZ, ↓reduceIte, Nat.reduceEqDiff, Nat.reduceAdd, Nat.reduceLeDiff, reduceCtorEq, Int.reduceEq, Int.reduceLT, Int.reduceLE, Int.reduceNeg, Int.reduceAdd, Int.reduceSub, Int.reduceToNat])
    generalize hs : Store.push _ _ = s1
    have k1 : Kp σ s1 := by rw [← hs]; exact .pushed _ _
    have g1 : s1.get σ.next = some (.cells 54 0 9 [[.int .i64 k, .str nm, .int .i64 n, .int .i64 ar, strs ps, .list (gs.map Cr.cells), .list (al.map altC), .list (bs.map bindC), .list (pk.map pickC)]]) := by rw [← hs]; simp [Store.push_get, Store.push_next]
    clear hs
    have he1 := g1
    have ht1 := ht.kp hT k1
    have hT1 : T ≤ s1.next := by have := k1.next; omega
    refine AWP_cut [0, 3] (fun _ : Unit => [.ptr tid 0 0 0, .ptr σ.next 0 0 0]) (fun _ s => s1 = s) ?_ ?_
    · refine raw ?_
      repeat' (first | (with_reducible refine unr ?_; try simp only [ZZ, ↓reduceIte, Nat.reduceEqDiff, Nat.reduceAdd, Nat.reduceLeDiff, reduceCtorEq, Int.reduceEq, Int.reduceLT, Int.reduceLE, Int.reduceNeg, Int.reduceAdd, Int.reduceSub, Int.reduceToNat, g1, str_nil, *]) | (with_reducible first | refine W1 ?_ | refine W2 ?_ | refine W3 ?_ | refine W4 ?_ | refine W5 ?_ | refine W6 ?_ | refine W7 ?_ | refine W8 ?_ | refine W9 ?_ | refine ok_idx (by first | assumption | omega) (fun b hb => raw ?_) | refine ok_iad (by first | assumption | omega) (fun x hx hxm => raw ?_) | refine And.intro (by omega) (raw ?_) | (refine guardW_b (fun h => raw ?_) (fun h => raw ?_) <;> try simp only [Ty] at h) | (refine ePick_b (fun h => raw ?_) (fun h => raw ?_) <;> try simp only [Ty] at h) | (refine condW_b (fun h => raw ?_) (fun h => raw ?_) <;> try simp only [Ty] at h) | (refine (fits_ok ht1 _ _).mono ?_; rintro _ _ ⟨⟨b, rfl, hb⟩, rfl⟩; refine raw ?_)))
      all_goals first
        | exact ⟨(), trivial⟩
        | exact FP.same k1 (SomeB.mk _) (.bool _)
    rintro _ _ rfl
    refine AWP_cut [0, 3] (fun _ : Unit => [.ptr tid 0 0 0, .ptr σ.next 0 0 0]) (fun _ s => Kp s1 s) ?_ ?_
    · refine raw ?_
      repeat (first | (with_reducible refine unr ?_; try simp only [ZZ, ↓reduceIte, Nat.reduceEqDiff, Nat.reduceAdd, Nat.reduceLeDiff, reduceCtorEq, Int.reduceEq, Int.reduceLT, Int.reduceLE, Int.reduceNeg, Int.reduceAdd, Int.reduceSub, Int.reduceToNat, he1]) | (with_reducible first | refine W1 ?_ | refine W2 ?_ | refine W3 ?_ | refine W4 ?_ | refine W5 ?_ | refine W6 ?_ | refine W7 ?_ | refine W8 ?_ | refine W9 ?_))
      refine AWP_while [0, 3, 26, 27, 28] (fun i : Nat => gs.length - i) (fun i => [.ptr tid 0 0 0, .ptr σ.next 0 0 0, .list (gs.map Cr.cells), .int .i64 gs.length, .int .i64 i]) (fun i t => Kp s1 t ∧ i ≤ gs.length) 0 ⟨.refl _, by simp⟩ ?_ ?_
      · refine raw ?_
        repeat (first | (with_reducible refine unr ?_; try simp only [ZZ, ↓reduceIte, Nat.reduceEqDiff, Nat.reduceAdd, Nat.reduceLeDiff, reduceCtorEq, Int.reduceEq, Int.reduceLT, Int.reduceLE, Int.reduceNeg, Int.reduceAdd, Int.reduceSub, Int.reduceToNat]) | (with_reducible first | refine W1 ?_ | refine W2 ?_ | refine W3 ?_ | refine W4 ?_ | refine W5 ?_ | refine W6 ?_ | refine W7 ?_ | refine W8 ?_ | refine W9 ?_))
        rfl
      rintro i t ⟨k2, hi⟩
      have he1 := k2.get g1
      have hq1 := lt_ne (t.lt he1)
      have kk := k1.trans k2
      have hw := wrap_succ (i := i) (by omega)
      by_cases hil : i < gs.length
      · have hil' : (i : Int) < (gs.length : Int) := by omega
        obtain ⟨x, hx⟩ : ∃ x, gs[i]? = some x := ⟨_, List.getElem?_eq_getElem hil⟩
        have hg : (gs.map Cr.cells)[i]? = some (Cr.cells x) := by simp [hx]
        have hxm := List.mem_of_getElem? hx
        have htp := fun o => ht1.kp hT1 (k2.push o)
        have hTp := fun o => (show T ≤ (t.push o).next by rw [Store.push_next]; have := k2.next; omega)
        refine raw ?_
        repeat' (first | (with_reducible refine unr ?_; try simp only [ZZ, ↓reduceIte, Nat.reduceEqDiff, Nat.reduceAdd, Nat.reduceLeDiff, reduceCtorEq, Int.reduceEq, Int.reduceLT, Int.reduceLE, Int.reduceNeg, Int.reduceAdd, Int.reduceSub, Int.reduceToNat, he1, hil', hg, Cr.len, Cr.take9, hq1, str_nil, *]) | (with_reducible first | refine W1 ?_ | refine W2 ?_ | refine W3 ?_ | refine W4 ?_ | refine W5 ?_ | refine W6 ?_ | refine W7 ?_ | refine W8 ?_ | refine W9 ?_ | refine ok_idx (by first | assumption | omega) (fun b hb => raw ?_) | refine ok_iad (by first | assumption | omega) (fun x hx hxm => raw ?_) | refine And.intro (by omega) (raw ?_) | (refine guardW_b (fun h => raw ?_) (fun h => raw ?_) <;> try simp only [Ty] at h) | (refine ePick_b (fun h => raw ?_) (fun h => raw ?_) <;> try simp only [Ty] at h) | (refine condW_b (fun h => raw ?_) (fun h => raw ?_) <;> try simp only [Ty] at h) | (refine (i1 x hxm _ T tid g (htp _) (hTp _)).mono ?_; rintro _ _ ⟨⟨b, rfl, hb⟩, rfl⟩; refine raw ?_)))
        all_goals first
          | exact FP.same (k1.trans (k2.push _)) (SomeB.mk _) (.bool _)
          | exact ⟨i + 1, rfl, ⟨k2.push _, by omega⟩, by omega⟩
          | exact ⟨i + 1, rfl, by omega, by omega⟩
      · have hil' : ¬ (i : Int) < (gs.length : Int) := by omega
        refine raw ?_
        repeat (first | (with_reducible refine unr ?_; try simp only [ZZ, ↓reduceIte, Nat.reduceEqDiff, Nat.reduceAdd, Nat.reduceLeDiff, reduceCtorEq, Int.reduceEq, Int.reduceLT, Int.reduceLE, Int.reduceNeg, Int.reduceAdd, Int.reduceSub, Int.reduceToNat, he1, hil']) | (with_reducible first | refine W1 ?_ | refine W2 ?_ | refine W3 ?_ | refine W4 ?_ | refine W5 ?_ | refine W6 ?_ | refine W7 ?_ | refine W8 ?_ | refine W9 ?_))
        exact ⟨(), k2⟩
    rintro _ s2 k2
    have he1 := k2.get g1
    refine AWP_cut [0, 3] (fun _ : Unit => [.ptr tid 0 0 0, .ptr σ.next 0 0 0]) (fun _ s => Kp s1 s) ?_ ?_
    · refine raw ?_
      repeat (first | (with_reducible refine unr ?_; try simp only [ZZ, ↓reduceIte, Nat.reduceEqDiff, Nat.reduceAdd, Nat.reduceLeDiff, reduceCtorEq, Int.reduceEq, Int.reduceLT, Int.reduceLE, Int.reduceNeg, Int.reduceAdd, Int.reduceSub, Int.reduceToNat, he1]) | (with_reducible first | refine W1 ?_ | refine W2 ?_ | refine W3 ?_ | refine W4 ?_ | refine W5 ?_ | refine W6 ?_ | refine W7 ?_ | refine W8 ?_ | refine W9 ?_))
      refine AWP_while [0, 3, 38, 39, 40] (fun i : Nat => al.length - i) (fun i => [.ptr tid 0 0 0, .ptr σ.next 0 0 0, .list (al.map altC), .int .i64 al.length, .int .i64 i]) (fun i t => Kp s1 t ∧ i ≤ al.length) 0 ⟨k2, by simp⟩ ?_ ?_
      · refine raw ?_
        repeat (first | (with_reducible refine unr ?_; try simp only [ZZ, ↓reduceIte, Nat.reduceEqDiff, Nat.reduceAdd, Nat.reduceLeDiff, reduceCtorEq, Int.reduceEq, Int.reduceLT, Int.reduceLE, Int.reduceNeg, Int.reduceAdd, Int.reduceSub, Int.reduceToNat]) | (with_reducible first | refine W1 ?_ | refine W2 ?_ | refine W3 ?_ | refine W4 ?_ | refine W5 ?_ | refine W6 ?_ | refine W7 ?_ | refine W8 ?_ | refine W9 ?_))
        rfl
      rintro i t ⟨k2, hi⟩
      have he1 := k2.get g1
      have hq1 := lt_ne (t.lt he1)
      have kk := k1.trans k2
      have hw := wrap_succ (i := i) (by omega)
      by_cases hil : i < al.length
      · have hil' : (i : Int) < (al.length : Int) := by omega
        obtain ⟨x, hx⟩ : ∃ x, al[i]? = some x := ⟨_, List.getElem?_eq_getElem hil⟩
        have hg : (al.map altC)[i]? = some (altC x) := by simp [hx]
        have hxm := List.mem_of_getElem? hx
        have htp := fun o => ht1.kp hT1 (k2.push o)
        have hTp := fun o => (show T ≤ (t.push o).next by rw [Store.push_next]; have := k2.next; omega)
        refine raw ?_
        repeat' (first | (with_reducible refine unr ?_; try simp only [ZZ, ↓reduceIte, Nat.reduceEqDiff, Nat.reduceAdd, Nat.reduceLeDiff, reduceCtorEq, Int.reduceEq, Int.reduceLT, Int.reduceLE, Int.reduceNeg, Int.reduceAdd, Int.reduceSub, Int.reduceToNat, he1, hil', hg, altC, AltH.cells, Cr.len, Cr.take9, hq1, str_nil, *]) | (with_reducible first | refine W1 ?_ | refine W2 ?_ | refine W3 ?_ | refine W4 ?_ | refine W5 ?_ | refine W6 ?_ | refine W7 ?_ | refine W8 ?_ | refine W9 ?_ | refine ok_idx (by first | assumption | omega) (fun b hb => raw ?_) | refine ok_iad (by first | assumption | omega) (fun x hx hxm => raw ?_) | refine And.intro (by omega) (raw ?_) | (refine guardW_b (fun h => raw ?_) (fun h => raw ?_) <;> try simp only [Ty] at h) | (refine ePick_b (fun h => raw ?_) (fun h => raw ?_) <;> try simp only [Ty] at h) | (refine condW_b (fun h => raw ?_) (fun h => raw ?_) <;> try simp only [Ty] at h) | (refine (i2 x hxm _ T tid g (htp _) (hTp _)).mono ?_; rintro _ _ ⟨⟨b, rfl, hb⟩, rfl⟩; refine raw ?_) | (refine (fits_ok (htp _) _ _).mono ?_; rintro _ _ ⟨⟨b, rfl, hb⟩, rfl⟩; refine raw ?_)))
        all_goals first
          | exact FP.same (k1.trans (k2.push _)) (SomeB.mk _) (.bool _)
          | exact ⟨i + 1, rfl, ⟨k2.push _, by omega⟩, by omega⟩
          | exact ⟨i + 1, rfl, by omega, by omega⟩
      · have hil' : ¬ (i : Int) < (al.length : Int) := by omega
        refine raw ?_
        repeat (first | (with_reducible refine unr ?_; try simp only [ZZ, ↓reduceIte, Nat.reduceEqDiff, Nat.reduceAdd, Nat.reduceLeDiff, reduceCtorEq, Int.reduceEq, Int.reduceLT, Int.reduceLE, Int.reduceNeg, Int.reduceAdd, Int.reduceSub, Int.reduceToNat, he1, hil']) | (with_reducible first | refine W1 ?_ | refine W2 ?_ | refine W3 ?_ | refine W4 ?_ | refine W5 ?_ | refine W6 ?_ | refine W7 ?_ | refine W8 ?_ | refine W9 ?_))
        exact ⟨(), k2⟩
    rintro _ s2 k2
    have he1 := k2.get g1
    refine AWP_cut [0, 3] (fun _ : Unit => [.ptr tid 0 0 0, .ptr σ.next 0 0 0]) (fun _ s => Kp s1 s) ?_ ?_
    · refine raw ?_
      repeat (first | (with_reducible refine unr ?_; try simp only [ZZ, ↓reduceIte, Nat.reduceEqDiff, Nat.reduceAdd, Nat.reduceLeDiff, reduceCtorEq, Int.reduceEq, Int.reduceLT, Int.reduceLE, Int.reduceNeg, Int.reduceAdd, Int.reduceSub, Int.reduceToNat, he1]) | (with_reducible first | refine W1 ?_ | refine W2 ?_ | refine W3 ?_ | refine W4 ?_ | refine W5 ?_ | refine W6 ?_ | refine W7 ?_ | refine W8 ?_ | refine W9 ?_))
      refine AWP_while [0, 3, 66, 67, 68] (fun i : Nat => bs.length - i) (fun i => [.ptr tid 0 0 0, .ptr σ.next 0 0 0, .list (bs.map bindC), .int .i64 bs.length, .int .i64 i]) (fun i t => Kp s1 t ∧ i ≤ bs.length) 0 ⟨k2, by simp⟩ ?_ ?_
      · refine raw ?_
        repeat (first | (with_reducible refine unr ?_; try simp only [ZZ, ↓reduceIte, Nat.reduceEqDiff, Nat.reduceAdd, Nat.reduceLeDiff, reduceCtorEq, Int.reduceEq, Int.reduceLT, Int.reduceLE, Int.reduceNeg, Int.reduceAdd, Int.reduceSub, Int.reduceToNat]) | (with_reducible first | refine W1 ?_ | refine W2 ?_ | refine W3 ?_ | refine W4 ?_ | refine W5 ?_ | refine W6 ?_ | refine W7 ?_ | refine W8 ?_ | refine W9 ?_))
        rfl
      rintro i t ⟨k2, hi⟩
      have he1 := k2.get g1
      have hq1 := lt_ne (t.lt he1)
      have kk := k1.trans k2
      have hw := wrap_succ (i := i) (by omega)
      by_cases hil : i < bs.length
      · have hil' : (i : Int) < (bs.length : Int) := by omega
        obtain ⟨x, hx⟩ : ∃ x, bs[i]? = some x := ⟨_, List.getElem?_eq_getElem hil⟩
        have hg : (bs.map bindC)[i]? = some (bindC x) := by simp [hx]
        have hxm := List.mem_of_getElem? hx
        have htp := fun o => ht1.kp hT1 (k2.push o)
        have hTp := fun o => (show T ≤ (t.push o).next by rw [Store.push_next]; have := k2.next; omega)
        refine raw ?_
        repeat' (first | (with_reducible refine unr ?_; try simp only [ZZ, ↓reduceIte, Nat.reduceEqDiff, Nat.reduceAdd, Nat.reduceLeDiff, reduceCtorEq, Int.reduceEq, Int.reduceLT, Int.reduceLE, Int.reduceNeg, Int.reduceAdd, Int.reduceSub, Int.reduceToNat, he1, hil', hg, bindC, Cr.len, Cr.take9, hq1, str_nil, *]) | (with_reducible first | refine W1 ?_ | refine W2 ?_ | refine W3 ?_ | refine W4 ?_ | refine W5 ?_ | refine W6 ?_ | refine W7 ?_ | refine W8 ?_ | refine W9 ?_ | refine ok_idx (by first | assumption | omega) (fun b hb => raw ?_) | refine ok_iad (by first | assumption | omega) (fun x hx hxm => raw ?_) | refine And.intro (by omega) (raw ?_) | (refine guardW_b (fun h => raw ?_) (fun h => raw ?_) <;> try simp only [Ty] at h) | (refine ePick_b (fun h => raw ?_) (fun h => raw ?_) <;> try simp only [Ty] at h) | (refine condW_b (fun h => raw ?_) (fun h => raw ?_) <;> try simp only [Ty] at h) | (refine (i3 x hxm _ T tid g (htp _) (hTp _)).mono ?_; rintro _ _ ⟨⟨b, rfl, hb⟩, rfl⟩; refine raw ?_)))
        all_goals first
          | exact FP.same (k1.trans (k2.push _)) (SomeB.mk _) (.bool _)
          | exact ⟨i + 1, rfl, ⟨k2.push _, by omega⟩, by omega⟩
          | exact ⟨i + 1, rfl, by omega, by omega⟩
      · have hil' : ¬ (i : Int) < (bs.length : Int) := by omega
        refine raw ?_
        repeat (first | (with_reducible refine unr ?_; try simp only [ZZ, ↓reduceIte, Nat.reduceEqDiff, Nat.reduceAdd, Nat.reduceLeDiff, reduceCtorEq, Int.reduceEq, Int.reduceLT, Int.reduceLE, Int.reduceNeg, Int.reduceAdd, Int.reduceSub, Int.reduceToNat, he1, hil']) | (with_reducible first | refine W1 ?_ | refine W2 ?_ | refine W3 ?_ | refine W4 ?_ | refine W5 ?_ | refine W6 ?_ | refine W7 ?_ | refine W8 ?_ | refine W9 ?_))
        exact ⟨(), k2⟩
    rintro _ s2 k2
    have he1 := k2.get g1
    refine raw ?_
    repeat (first | (with_reducible refine unr ?_; try simp only [ZZ, ↓reduceIte, Nat.reduceEqDiff, Nat.reduceAdd, Nat.reduceLeDiff, reduceCtorEq, Int.reduceEq, Int.reduceLT, Int.reduceLE, Int.reduceNeg, Int.reduceAdd, Int.reduceSub, Int.reduceToNat, he1]) | (with_reducible first | refine W1 ?_ | refine W2 ?_ | refine W3 ?_ | refine W4 ?_ | refine W5 ?_ | refine W6 ?_ | refine W7 ?_ | refine W8 ?_ | refine W9 ?_))
    refine AWP_while [0, 3, 79, 80, 81] (fun i : Nat => pk.length - i) (fun i => [.ptr tid 0 0 0, .ptr σ.next 0 0 0, .list (pk.map pickC), .int .i64 pk.length, .int .i64 i]) (fun i t => Kp s1 t ∧ i ≤ pk.length) 0 ⟨k2, by simp⟩ ?_ ?_
    · refine raw ?_
      repeat (first | (with_reducible refine unr ?_; try simp only [ZZ, ↓reduceIte, Nat.reduceEqDiff, Nat.reduceAdd, Nat.reduceLeDiff, reduceCtorEq, Int.reduceEq, Int.reduceLT, Int.reduceLE, Int.reduceNeg, Int.reduceAdd, Int.reduceSub, Int.reduceToNat]) | (with_reducible first | refine W1 ?_ | refine W2 ?_ | refine W3 ?_ | refine W4 ?_ | refine W5 ?_ | refine W6 ?_ | refine W7 ?_ | refine W8 ?_ | refine W9 ?_))
      rfl
    rintro i t ⟨k2, hi⟩
    have he1 := k2.get g1
    have hq1 := lt_ne (t.lt he1)
    have kk := k1.trans k2
    have hw := wrap_succ (i := i) (by omega)
    by_cases hil : i < pk.length
    · have hil' : (i : Int) < (pk.length : Int) := by omega
      obtain ⟨x, hx⟩ : ∃ x, pk[i]? = some x := ⟨_, List.getElem?_eq_getElem hil⟩
      have hg : (pk.map pickC)[i]? = some (pickC x) := by simp [hx]
      have hxm := List.mem_of_getElem? hx
      have htp := fun o => ht1.kp hT1 (k2.push o)
      have hTp := fun o => (show T ≤ (t.push o).next by rw [Store.push_next]; have := k2.next; omega)
      refine raw ?_
      repeat' (first | (with_reducible refine unr ?_; try simp only [ZZ, ↓reduceIte, Nat.reduceEqDiff, Nat.reduceAdd, Nat.reduceLeDiff, reduceCtorEq, Int.reduceEq, Int.reduceLT, Int.reduceLE, Int.reduceNeg, Int.reduceAdd, Int.reduceSub, Int.reduceToNat, he1, hil', hg, pickC, Cr.len, Cr.take9, hq1, str_nil, *]) | (with_reducible first | refine W1 ?_ | refine W2 ?_ | refine W3 ?_ | refine W4 ?_ | refine W5 ?_ | refine W6 ?_ | refine W7 ?_ | refine W8 ?_ | refine W9 ?_ | refine ok_idx (by first | assumption | omega) (fun b hb => raw ?_) | refine ok_iad (by first | assumption | omega) (fun x hx hxm => raw ?_) | refine And.intro (by omega) (raw ?_) | (refine guardW_b (fun h => raw ?_) (fun h => raw ?_) <;> try simp only [Ty] at h) | (refine ePick_b (fun h => raw ?_) (fun h => raw ?_) <;> try simp only [Ty] at h) | (refine condW_b (fun h => raw ?_) (fun h => raw ?_) <;> try simp only [Ty] at h) | (refine (i4 x hxm _ T tid g (htp _) (hTp _)).mono ?_; rintro _ _ ⟨⟨b, rfl, hb⟩, rfl⟩; refine raw ?_)))
      all_goals first
        | exact FP.same (k1.trans (k2.push _)) (SomeB.mk _) (.bool _)
        | exact ⟨i + 1, rfl, ⟨k2.push _, by omega⟩, by omega⟩
        | exact ⟨i + 1, rfl, by omega, by omega⟩
    · have hil' : ¬ (i : Int) < (pk.length : Int) := by omega
      refine raw ?_
      repeat (first | (with_reducible refine unr ?_; try simp only [ZZ, ↓reduceIte, Nat.reduceEqDiff, Nat.reduceAdd, Nat.reduceLeDiff, reduceCtorEq, Int.reduceEq, Int.reduceLT, Int.reduceLE, Int.reduceNeg, Int.reduceAdd, Int.reduceSub, Int.reduceToNat, he1, hil']) | (with_reducible first | refine W1 ?_ | refine W2 ?_ | refine W3 ?_ | refine W4 ?_ | refine W5 ?_ | refine W6 ?_ | refine W7 ?_ | refine W8 ?_ | refine W9 ?_))
      exact FP.same kk (SomeB.mk _) (.bool _)
end Go.Proofs.Ytjjbjibbjbbeaaa
/- What is opened. -/
set_option linter.unusedVariables false
set_option linter.unusedSimpArgs false
namespace Go.AL
theorem TAt.up {σ : Store} {T T' tid : Nat} {g : Gl} (h : TAt σ T tid g) (hT : T ≤ T') : TAt σ T' tid g := by
  obtain ⟨⟨sm, cm, fv, sme, cme, h1, h2, h3, h4, h5, h6, h7, h8, h9, h10, h11⟩, hs⟩ := h
  exact ⟨⟨sm, cm, fv, sme, cme, h1, h2, h3, h4, h5, h6, h7, by omega, by omega, by omega, fun j hj => by have := h11 j hj; omega⟩, hs⟩
end Go.AL
namespace Go.Proofs.Ytjjbjibbjbbeaaa
open Go.AL
theorem open_ok (l : List Sup) (cons : List Con5) (hb : bulkS l ≤ 9000000) (hl : l.length + cons.length ≤ 100000000) (σ : Store) :
    ACalls Try.prog 56 [.list (l.map supC), .list (cons.map con5C)] σ fun r s => (r = .tuple [.nilp, .bool false] ∨ ∃ tid, r = .tuple [.ptr tid 0 0 0, .bool true] ∧ TAt s s.next tid (glOf l cons) ∧ FlatP l ∧ cons ≠ []) ∧ Kp σ s := by
  refine in56 (by simp) ?_
  unfold c56
  refine raw ?_
  repeat (first | (with_reducible refine unr ?_; try simp only [ZZ, ↓reduceIte, Nat.reduceEqDiff, Nat.reduceAdd, Nat.reduceLeDiff, reduceCtorEq, Int.reduceEq, Int.reduceLT, Int.reduceLE, Int.reduceNeg, Int.reduceAdd, Int.reduceSub, Int.reduceToNat]) | (with_reducible first | refine W1 ?_ | refine W2 ?_ | refine W3 ?_ | refine W4 ?_ | refine W5 ?_ | refine W6 ?_ | refine W7 ?_ | refine W8 ?_ | refine W9 ?_))
  refine (flatS_ok l hb _).mono ?_
  rintro _ _ ⟨⟨b, rfl, hF⟩, rfl⟩
  rename_i σ
  cases b with
  | false =>
    refine raw ?_
    repeat (first | (with_reducible refine unr ?_; try simp only [ZZ, ↓reduceIte, Nat.reduceEqDiff, Nat.reduceAdd, Nat.reduceLeDiff, reduceCtorEq, Int.reduceEq, Int.reduceLT, Int.reduceLE, Int.reduceNeg, Int.reduceAdd, Int.reduceSub, Int.reduceToNat]) | (with_reducible first | refine W1 ?_ | refine W2 ?_ | refine W3 ?_ | refine W4 ?_ | refine W5 ?_ | refine W6 ?_ | refine W7 ?_ | refine W8 ?_ | refine W9 ?_))
    exact ⟨.inl trivial, .refl _⟩
  | true =>
    have hF := hF rfl
    refine raw ?_
    repeat (first | (with_reducible refine unr ?_; try simp only [ZZ, ↓reduceIte, Nat.reduceEqDiff, Nat.reduceAdd, Nat.reduceLeDiff, reduceCtorEq, Int.reduceEq, Int.reduceLT, Int.reduceLE, Int.reduceNeg, Int.reduceAdd, Int.reduceSub, Int.reduceToNat]) | (with_reducible first | refine W1 ?_ | refine W2 ?_ | refine W3 ?_ | refine W4 ?_ | refine W5 ?_ | refine W6 ?_ | refine W7 ?_ | refine W8 ?_ | refine W9 ?_))
    refine (tableOf_ok l hF.2 cons hl _).mono ?_
    rintro _ s1 ⟨rfl | ⟨tid, b, rfl, ht, hne⟩, k1⟩
    · refine raw ?_
      repeat (first | (with_reducible refine unr ?_; try simp only [ZZ, ↓reduceIte, Nat.reduceEqDiff, Nat.reduceAdd, Nat.reduceLeDiff, reduceCtorEq, Int.reduceEq, Int.reduceLT, Int.reduceLE, Int.reduceNeg, Int.reduceAdd, Int.reduceSub, Int.reduceToNat]) | (with_reducible first | refine W1 ?_ | refine W2 ?_ | refine W3 ?_ | refine W4 ?_ | refine W5 ?_ | refine W6 ?_ | refine W7 ?_ | refine W8 ?_ | refine W9 ?_))
      exact ⟨.inl trivial, k1⟩
    · cases b with
      | false =>
        refine raw ?_
        repeat (first | (with_reducible refine unr ?_; try simp only [ZZ, ↓reduceIte, Nat.reduceEqDiff, Nat.reduceAdd, Nat.reduceLeDiff, reduceCtorEq, Int.reduceEq, Int.reduceLT, Int.reduceLE, Int.reduceNeg, Int.reduceAdd, Int.reduceSub, Int.reduceToNat]) | (with_reducible first | refine W1 ?_ | refine W2 ?_ | refine W3 ?_ | refine W4 ?_ | refine W5 ?_ | refine W6 ?_ | refine W7 ?_ | refine W8 ?_ | refine W9 ?_))
        exact ⟨.inl trivial, k1⟩
      | true =>
        refine raw ?_
        repeat (first | (with_reducible refine unr ?_; try simp only [ZZ, ↓reduceIte, Nat.reduceEqDiff, Nat.reduceAdd, Nat.reduceLeDiff, reduceCtorEq, Int.reduceEq, Int.reduceLT, Int.reduceLE, Int.reduceNeg, Int.reduceAdd, Int.reduceSub, Int.reduceToNat]) | (with_reducible first | refine W1 ?_ | refine W2 ?_ | refine W3 ?_ | refine W4 ?_ | refine W5 ?_ | refine W6 ?_ | refine W7 ?_ | refine W8 ?_ | refine W9 ?_))
        refine AWP_while [0, 6, 21, 22, 23] (fun i : Nat => l.length - i) (fun i => [.list (l.map supC), .ptr tid 0 0 0, .list (l.map supC), .int .i64 l.length, .int .i64 i]) (fun i t => Kp s1 t ∧ i ≤ l.length) 0 ⟨.refl _, by simp⟩ ?_ ?_
        · refine raw ?_
          repeat (first | (with_reducible refine unr ?_; try simp only [ZZ, ↓reduceIte, Nat.reduceEqDiff, Nat.reduceAdd, Nat.reduceLeDiff, reduceCtorEq, Int.reduceEq, Int.reduceLT, Int.reduceLE, Int.reduceNeg, Int.reduceAdd, Int.reduceSub, Int.reduceToNat]) | (with_reducible first | refine W1 ?_ | refine W2 ?_ | refine W3 ?_ | refine W4 ?_ | refine W5 ?_ | refine W6 ?_ | refine W7 ?_ | refine W8 ?_ | refine W9 ?_))
          rfl
        rintro i t ⟨k2, hi⟩
        have hw := wrap_succ (i := i) (by omega)
        by_cases hil : i < l.length
        · have hil' : (i : Int) < (l.length : Int) := by omega
          obtain ⟨x, hx⟩ : ∃ x, l[i]? = some x := ⟨_, List.getElem?_eq_getElem hil⟩
          have hg : (l.map supC)[i]? = some (supC x) := by simp [hx]
          have hxm := List.mem_of_getElem? hx
          have hxb := bulkS_le hxm
          have htp := fun o => ht.kp (Nat.le_refl _) (k2.push o)
          have hTp := fun o => (show s1.next ≤ (t.push o).next by rw [Store.push_next]; have := k2.next; omega)
          refine raw ?_
          repeat' (first | (with_reducible refine unr ?_; try simp only [ZZ, ↓reduceIte, Nat.reduceEqDiff, Nat.reduceAdd, Nat.reduceLeDiff, reduceCtorEq, Int.reduceEq, Int.reduceLT, Int.reduceLE, Int.reduceNeg, Int.reduceAdd, Int.reduceSub, Int.reduceToNat, hil', hg, supC, Cr.len, Cr.take9, Cr.drop9, str_nil, *]) | (with_reducible first | refine W1 ?_ | refine W2 ?_ | refine W3 ?_ | refine W4 ?_ | refine W5 ?_ | refine W6 ?_ | refine W7 ?_ | refine W8 ?_ | refine W9 ?_ | refine ok_idx (by first | assumption | omega) (fun b hb => raw ?_) | refine ok_iad (by first | assumption | omega) (fun x hx hxm => raw ?_) | refine And.intro (by omega) (raw ?_) | (refine guardW_b (fun h => raw ?_) (fun h => raw ?_) <;> try simp only [Ty] at h) | (refine ePick_b (fun h => raw ?_) (fun h => raw ?_) <;> try simp only [Ty] at h) | (refine condW_b (fun h => raw ?_) (fun h => raw ?_) <;> try simp only [Ty] at h) | (refine (known_okX x.bd (by omega) _ _ _ _ (htp _) (hTp _)).mono ?_; rintro _ _ ⟨⟨b, rfl, hb⟩, rfl⟩; refine raw ?_)))
          · exact ⟨.inl trivial, k1.trans (k2.push _)⟩
          · exact ⟨i + 1, rfl, ⟨k2.push _, by omega⟩, by omega⟩
        · have hil' : ¬ (i : Int) < (l.length : Int) := by omega
          refine raw ?_
          repeat (first | (with_reducible refine unr ?_; try simp only [ZZ, ↓reduceIte, Nat.reduceEqDiff, Nat.reduceAdd, Nat.reduceLeDiff, reduceCtorEq, Int.reduceEq, Int.reduceLT, Int.reduceLE, Int.reduceNeg, Int.reduceAdd, Int.reduceSub, Int.reduceToNat, hil']) | (with_reducible first | refine W1 ?_ | refine W2 ?_ | refine W3 ?_ | refine W4 ?_ | refine W5 ?_ | refine W6 ?_ | refine W7 ?_ | refine W8 ?_ | refine W9 ?_))
          exact ⟨.inr ⟨tid, rfl, (ht.kp (Nat.le_refl _) k2).up k2.next, hF, hne rfl⟩, k1.trans k2⟩
end Go.Proofs.Ytjjbjibbjbbeaaa
/- What is compiled. -/
set_option linter.unusedVariables false
set_option linter.unusedSimpArgs false
namespace Go.AL
theorem codeC_len (c : Cd) : (codeC c).length = 4 := rfl
theorem codeC_t4 (c : Cd) : List.take 4 (codeC c) = codeC c := rfl
/-- The constructors' codes from a number on. -/
def consS : Nat → List Con5 → List Cd
  | _, [] => []
  | k, c :: r => conS k (c.nm, c.fs.length) :: consS (k + 1) r
theorem consS_len : ∀ (l : List Con5) (k : Nat), (consS k l).length = l.length
  | [], k => rfl
  | c :: r, k => by rw [consS, List.length_cons, List.length_cons, consS_len r]
theorem consS_app : ∀ (l m : List Con5) (k : Nat), consS k (l ++ m) = consS k l ++ consS (k + l.length) m
  | [], m, k => by simp [consS]
  | c :: r, m, k => by rw [List.cons_append, consS, consS, consS_app r m, List.length_cons, List.cons_append, show k + 1 + r.length = k + (r.length + 1) by omega]
def opsS (n : Nat) : List Cd := (List.range n).map fun (i : Nat) => opS' ((i + 1 : Nat) : Int)
theorem opsS_succ (n : Nat) : opsS (n + 1) = opsS n ++ [opS' ((n + 1 : Nat) : Int)] := by simp [opsS, List.range_succ]
noncomputable def compS (l : List Sup) (cons : List Con5) : List Cd := l.map (superS (glOf l cons)) ++ consS 0 cons ++ opsS 11
theorem codes_cln {n : Nat} (l : List Cd) : Cln n (.list (l.map codeC)) := by
  refine .list' fun e he c hc => ?_
  obtain ⟨y, _, rfl⟩ := List.mem_map.1 he
  simp only [codeC, List.mem_cons, List.not_mem_nil, or_false] at hc
  rcases hc with rfl | rfl | rfl | rfl
  · exact .str _
  · exact .int _ _
  · exact .bool _
  · refine .list' fun e he c hc => ?_
    obtain ⟨p, _, rfl⟩ := List.mem_map.1 he
    simp only [insC, List.mem_cons, List.not_mem_nil, or_false] at hc
    rcases hc with rfl | rfl | rfl | rfl
    · exact .int _ _
    · exact .int _ _
    · exact .int _ _
    · refine .list' fun e he c hc => ?_
      obtain ⟨p, _, rfl⟩ := List.mem_map.1 he
      simp only [jC, List.mem_cons, List.not_mem_nil, or_false] at hc
      rcases hc with rfl | rfl <;> exact .int _ _
/-- What is compiled, as a result. -/
def CompP (l : List Sup) (cons : List Con5) (r : AV) : Prop := r = .tuple [.nils, .int .i64 1] ∨ (FlatP l ∧ cons ≠ [] ∧ r = .tuple [.list ((compS l cons).map codeC), .int .i64 0])
@[congr] theorem CompP_congr {w : Prop} (hw : Visit = w) {l : List Sup} {cons : List Con5} {r r' : AV} (h : r = r') : CompP l cons r = CompP l cons r' := by rw [h]
end Go.AL
namespace Go.Proofs.Ytjjbjibbjbbeaaa
open Go.AL
theorem comp_ok (l : List Sup) (cons : List Con5) (hb : bulkS l ≤ 3000000) (hc : cons.length ≤ 10000000) (σ : Store) :
    ACalls Try.prog 27 [.list (l.map supC), .list (cons.map con5C)] σ fun r s => CompP l cons r ∧ s = σ := by
  refine ACalls_fp (p := CompP l cons) ?_
  have hll := lenS l
  refine in27 (by simp) ?_
  unfold c27
  refine raw ?_
  repeat (first | (with_reducible refine unr ?_; try simp only [ZZ, ↓reduceIte, Nat.reduceEqDiff, Nat.reduceAdd, Nat.reduceLeDiff, reduceCtorEq, Int.reduceEq, Int.reduceLT, Int.reduceLE, Int.reduceNeg, Int.reduceAdd, Int.reduceSub, Int.reduceToNat]) | (with_reducible first | refine W1 ?_ | refine W2 ?_ | refine W3 ?_ | refine W4 ?_ | refine W5 ?_ | refine W6 ?_ | refine W7 ?_ | refine W8 ?_ | refine W9 ?_))
  refine (open_ok l cons (by omega) (by omega) _).mono ?_
  rintro _ s1 ⟨rfl | ⟨tid, rfl, ht, hF, hne⟩, k1⟩
  · refine raw ?_
    repeat (first | (with_reducible refine unr ?_; try simp only [ZZ, ↓reduceIte, Nat.reduceEqDiff, Nat.reduceAdd, Nat.reduceLeDiff, reduceCtorEq, Int.reduceEq, Int.reduceLT, Int.reduceLE, Int.reduceNeg, Int.reduceAdd, Int.reduceSub, Int.reduceToNat]) | (with_reducible first | refine W1 ?_ | refine W2 ?_ | refine W3 ?_ | refine W4 ?_ | refine W5 ?_ | refine W6 ?_ | refine W7 ?_ | refine W8 ?_ | refine W9 ?_))
    exact FP.same k1 (.inl rfl) (.tuple' (by simp [Cln.nils, Cln.int]))
  refine raw ?_
  repeat (first | (with_reducible refine unr ?_; try simp only [ZZ, ↓reduceIte, Nat.reduceEqDiff, Nat.reduceAdd, Nat.reduceLeDiff, reduceCtorEq, Int.reduceEq, Int.reduceLT, Int.reduceLE, Int.reduceNeg, Int.reduceAdd, Int.reduceSub, Int.reduceToNat]) | (with_reducible first | refine W1 ?_ | refine W2 ?_ | refine W3 ?_ | refine W4 ?_ | refine W5 ?_ | refine W6 ?_ | refine W7 ?_ | refine W8 ?_ | refine W9 ?_))
  generalize hgl : glOf l cons = g at ht
  have hcon : ∀ (i : Nat) (c : Con5), cons[i]? = some c → g.con[i]? = some (c.nm, c.fs.length) := by
    intro i c h
    rw [← hgl]
    simp [glOf, h]
  refine AWP_while [1, 6, 8, 22, 23, 24] (fun y : AV × Nat => l.length - y.2) (fun y => [.list (cons.map con5C), .ptr tid 0 0 0, y.1, .list (l.map supC), .int .i64 l.length, .int .i64 y.2])
    (fun y t => y.2 ≤ l.length ∧ Grow s1 t y.1 81 4 (((l.take y.2).map (superS g)).map codeC)) (.nils, 0) ⟨by simp, .start _ _ _⟩ ?_ ?_
  · refine raw ?_
    repeat (first | (with_reducible refine unr ?_; try simp only [ZZ, ↓reduceIte, Nat.reduceEqDiff, Nat.reduceAdd, Nat.reduceLeDiff, reduceCtorEq, Int.reduceEq, Int.reduceLT, Int.reduceLE, Int.reduceNeg, Int.reduceAdd, Int.reduceSub, Int.reduceToNat]) | (with_reducible first | refine W1 ?_ | refine W2 ?_ | refine W3 ?_ | refine W4 ?_ | refine W5 ?_ | refine W6 ?_ | refine W7 ?_ | refine W8 ?_ | refine W9 ?_))
    rfl
  rintro ⟨v, i⟩ t ⟨hi, hG⟩
  simp only at hi hG
  have hw := wrap_succ (i := i) (by omega)
  by_cases hil : i < l.length
  · have hil' : (i : Int) < (l.length : Int) := by omega
    obtain ⟨x, hx⟩ : ∃ x, l[i]? = some x := ⟨_, List.getElem?_eq_getElem hil⟩
    have hg : (l.map supC)[i]? = some (supC x) := by simp [hx]
    have hxm := List.mem_of_getElem? hx
    have hxb := bulkS_le hxm
    have hxl := supC_len x
    have hxt := supC_t11 x
    refine raw ?_
    repeat (first | (with_reducible refine unr ?_; try simp only [ZZ, ↓reduceIte, Nat.reduceEqDiff, Nat.reduceAdd, Nat.reduceLeDiff, reduceCtorEq, Int.reduceEq, Int.reduceLT, Int.reduceLE, Int.reduceNeg, Int.reduceAdd, Int.reduceSub, Int.reduceToNat, hil', hg, hxl, hxt]) | (with_reducible first | refine W1 ?_ | refine W2 ?_ | refine W3 ?_ | refine W4 ?_ | refine W5 ?_ | refine W6 ?_ | refine W7 ?_ | refine W8 ?_ | refine W9 ?_))
    have kp := (hG.push (.cells 71 0 11 [supC x])).kp
    refine (super_ok x (hF.1 x hxm).1.tw _ _ _ _ (ht.kp (Nat.le_refl _) kp) kp.next (by omega)).mono ?_
    rintro _ _ ⟨rfl, rfl⟩
    refine raw ?_
    repeat (first | (with_reducible refine unr ?_; try simp only [ZZ, ↓reduceIte, Nat.reduceEqDiff, Nat.reduceAdd, Nat.reduceLeDiff, reduceCtorEq, Int.reduceEq, Int.reduceLT, Int.reduceLE, Int.reduceNeg, Int.reduceAdd, Int.reduceSub, Int.reduceToNat, codeC_len, codeC_t4]) | (with_reducible first | refine W1 ?_ | refine W2 ?_ | refine W3 ?_ | refine W4 ?_ | refine W5 ?_ | refine W6 ?_ | refine W7 ?_ | refine W8 ?_ | refine W9 ?_))
    refine ok_grow (hG.push _) (es2 := [codeC (superS g x)]) (by simp [codeC_len]) (by simp; omega) (by simp [maxLen]; omega) ?_
    intro v' t3 hG3 _ _
    refine raw ?_
    repeat (first | (with_reducible refine unr ?_; try simp only [ZZ, ↓reduceIte, Nat.reduceEqDiff, Nat.reduceAdd, Nat.reduceLeDiff, reduceCtorEq, Int.reduceEq, Int.reduceLT, Int.reduceLE, Int.reduceNeg, Int.reduceAdd, Int.reduceSub, Int.reduceToNat, hw]) | (with_reducible first | refine W1 ?_ | refine W2 ?_ | refine W3 ?_ | refine W4 ?_ | refine W5 ?_ | refine W6 ?_ | refine W7 ?_ | refine W8 ?_ | refine W9 ?_))
    refine ⟨(v', i + 1), rfl, ⟨by simp only; omega, ?_⟩, by simp only; omega⟩
    simp only [take_succ_at hx, List.map_append]; exact hG3
  have hil' : ¬ (i : Int) < (l.length : Int) := by omega
  rw [List.take_of_length_le (by omega)] at hG
  refine raw ?_
  repeat (first | (with_reducible refine unr ?_; try simp only [ZZ, ↓reduceIte, Nat.reduceEqDiff, Nat.reduceAdd, Nat.reduceLeDiff, reduceCtorEq, Int.reduceEq, Int.reduceLT, Int.reduceLE, Int.reduceNeg, Int.reduceAdd, Int.reduceSub, Int.reduceToNat, hil']) | (with_reducible first | refine W1 ?_ | refine W2 ?_ | refine W3 ?_ | refine W4 ?_ | refine W5 ?_ | refine W6 ?_ | refine W7 ?_ | refine W8 ?_ | refine W9 ?_))
  clear hw hil hil' hi
  refine AWP_while [6, 8, 35, 36, 37] (fun y : AV × Nat => cons.length - y.2) (fun y => [.ptr tid 0 0 0, y.1, .list (cons.map con5C), .int .i64 cons.length, .int .i64 y.2])
    (fun y t => y.2 ≤ cons.length ∧ Grow s1 t y.1 81 4 ((l.map (superS g) ++ consS 0 (cons.take y.2)).map codeC)) (v, 0) ⟨by simp, by simpa [consS] using hG⟩ ?_ ?_
  · refine raw ?_
    repeat (first | (with_reducible refine unr ?_; try simp only [ZZ, ↓reduceIte, Nat.reduceEqDiff, Nat.reduceAdd, Nat.reduceLeDiff, reduceCtorEq, Int.reduceEq, Int.reduceLT, Int.reduceLE, Int.reduceNeg, Int.reduceAdd, Int.reduceSub, Int.reduceToNat]) | (with_reducible first | refine W1 ?_ | refine W2 ?_ | refine W3 ?_ | refine W4 ?_ | refine W5 ?_ | refine W6 ?_ | refine W7 ?_ | refine W8 ?_ | refine W9 ?_))
    rfl
  clear hG
  rintro ⟨v, i⟩ t ⟨hi, hG⟩
  simp only at hi hG
  have hw := wrap_succ (i := i) (by omega)
  by_cases hil : i < cons.length
  · have hil' : (i : Int) < (cons.length : Int) := by omega
    obtain ⟨x, hx⟩ : ∃ x, cons[i]? = some x := ⟨_, List.getElem?_eq_getElem hil⟩
    have hg : (cons.map con5C)[i]? = some (con5C x) := by simp [hx]
    have hgc := hcon i x hx
    refine raw ?_
    repeat (first | (with_reducible refine unr ?_; try simp only [ZZ, ↓reduceIte, Nat.reduceEqDiff, Nat.reduceAdd, Nat.reduceLeDiff, reduceCtorEq, Int.reduceEq, Int.reduceLT, Int.reduceLE, Int.reduceNeg, Int.reduceAdd, Int.reduceSub, Int.reduceToNat, hil', hg, con5C]) | (with_reducible first | refine W1 ?_ | refine W2 ?_ | refine W3 ?_ | refine W4 ?_ | refine W5 ?_ | refine W6 ?_ | refine W7 ?_ | refine W8 ?_ | refine W9 ?_))
    have kp := (hG.push (.cells 87 0 5 [con5C x])).kp
    refine (con_ok i _ _ _ _ g (ht.kp (Nat.le_refl _) kp) kp.next hgc).mono ?_
    rintro _ _ ⟨rfl, rfl⟩
    refine raw ?_
    repeat (first | (with_reducible refine unr ?_; try simp only [ZZ, ↓reduceIte, Nat.reduceEqDiff, Nat.reduceAdd, Nat.reduceLeDiff, reduceCtorEq, Int.reduceEq, Int.reduceLT, Int.reduceLE, Int.reduceNeg, Int.reduceAdd, Int.reduceSub, Int.reduceToNat, codeC_len, codeC_t4]) | (with_reducible first | refine W1 ?_ | refine W2 ?_ | refine W3 ?_ | refine W4 ?_ | refine W5 ?_ | refine W6 ?_ | refine W7 ?_ | refine W8 ?_ | refine W9 ?_))
    refine ok_grow (hG.push _) (es2 := [codeC (conS i (x.nm, x.fs.length))]) (by simp [codeC_len]) (by simp [consS_len]; omega) (by simp [maxLen, consS_len]; omega) ?_
    intro v' t3 hG3 _ _
    refine raw ?_
    repeat (first | (with_reducible refine unr ?_; try simp only [ZZ, ↓reduceIte, Nat.reduceEqDiff, Nat.reduceAdd, Nat.reduceLeDiff, reduceCtorEq, Int.reduceEq, Int.reduceLT, Int.reduceLE, Int.reduceNeg, Int.reduceAdd, Int.reduceSub, Int.reduceToNat, hw]) | (with_reducible first | refine W1 ?_ | refine W2 ?_ | refine W3 ?_ | refine W4 ?_ | refine W5 ?_ | refine W6 ?_ | refine W7 ?_ | refine W8 ?_ | refine W9 ?_))
    refine ⟨(v', i + 1), rfl, ⟨by simp only; omega, ?_⟩, by simp only; omega⟩
    have hli : (cons.take i).length = i := by simp; omega
    simp only [take_succ_at hx, consS_app, consS, hli, Nat.zero_add, ← List.append_assoc]
    rw [List.map_append]
    exact hG3
  have hil' : ¬ (i : Int) < (cons.length : Int) := by omega
  rw [List.take_of_length_le (by omega)] at hG
  refine raw ?_
  repeat (first | (with_reducible refine unr ?_; try simp only [ZZ, ↓reduceIte, Nat.reduceEqDiff, Nat.reduceAdd, Nat.reduceLeDiff, reduceCtorEq, Int.reduceEq, Int.reduceLT, Int.reduceLE, Int.reduceNeg, Int.reduceAdd, Int.reduceSub, Int.reduceToNat, hil']) | (with_reducible first | refine W1 ?_ | refine W2 ?_ | refine W3 ?_ | refine W4 ?_ | refine W5 ?_ | refine W6 ?_ | refine W7 ?_ | refine W8 ?_ | refine W9 ?_))
  clear hw hil hil' hi
  refine AWP_while [6, 8, 13] (fun y : AV × Nat => 11 - y.2) (fun y => [.ptr tid 0 0 0, y.1, .int .i64 ((y.2 + 1 : Nat) : Int)])
    (fun y t => y.2 ≤ 11 ∧ Grow s1 t y.1 81 4 ((l.map (superS g) ++ consS 0 cons ++ opsS y.2).map codeC)) (v, 0) ⟨by simp, by simpa [opsS] using hG⟩ ?_ ?_
  · refine raw ?_
    repeat (first | (with_reducible refine unr ?_; try simp only [ZZ, ↓reduceIte, Nat.reduceEqDiff, Nat.reduceAdd, Nat.reduceLeDiff, reduceCtorEq, Int.reduceEq, Int.reduceLT, Int.reduceLE, Int.reduceNeg, Int.reduceAdd, Int.reduceSub, Int.reduceToNat]) | (with_reducible first | refine W1 ?_ | refine W2 ?_ | refine W3 ?_ | refine W4 ?_ | refine W5 ?_ | refine W6 ?_ | refine W7 ?_ | refine W8 ?_ | refine W9 ?_))
    rfl
  clear hG
  rintro ⟨v, i⟩ t ⟨hi, hG⟩
  simp only at hi hG
  have hw := wrap_succ (i := i + 1) (by omega)
  by_cases hil : i < 11
  · have hil' : ((i + 1 : Nat) : Int) ≤ 11 := by omega
    refine raw ?_
    repeat (first | (with_reducible refine unr ?_; try simp only [ZZ, ↓reduceIte, Nat.reduceEqDiff, Nat.reduceAdd, Nat.reduceLeDiff, reduceCtorEq, Int.reduceEq, Int.reduceLT, Int.reduceLE, Int.reduceNeg, Int.reduceAdd, Int.reduceSub, Int.reduceToNat, hil']) | (with_reducible first | refine W1 ?_ | refine W2 ?_ | refine W3 ?_ | refine W4 ?_ | refine W5 ?_ | refine W6 ?_ | refine W7 ?_ | refine W8 ?_ | refine W9 ?_))
    refine (oper_ok _ _ _ _ g (ht.kp (Nat.le_refl _) hG.kp) hG.kp.next).mono ?_
    rintro _ _ ⟨rfl, rfl⟩
    refine raw ?_
    repeat (first | (with_reducible refine unr ?_; try simp only [ZZ, ↓reduceIte, Nat.reduceEqDiff, Nat.reduceAdd, Nat.reduceLeDiff, reduceCtorEq, Int.reduceEq, Int.reduceLT, Int.reduceLE, Int.reduceNeg, Int.reduceAdd, Int.reduceSub, Int.reduceToNat, codeC_len, codeC_t4]) | (with_reducible first | refine W1 ?_ | refine W2 ?_ | refine W3 ?_ | refine W4 ?_ | refine W5 ?_ | refine W6 ?_ | refine W7 ?_ | refine W8 ?_ | refine W9 ?_))
    refine ok_grow hG (es2 := [codeC (opS' ((i + 1 : Nat) : Int))]) (by simp [codeC_len]) (by simp [consS_len, opsS]; omega) (by simp [maxLen, consS_len, opsS]; omega) ?_
    intro v' t3 hG3 _ _
    refine raw ?_
    repeat (first | (with_reducible refine unr ?_; try simp only [ZZ, ↓reduceIte, Nat.reduceEqDiff, Nat.reduceAdd, Nat.reduceLeDiff, reduceCtorEq, Int.reduceEq, Int.reduceLT, Int.reduceLE, Int.reduceNeg, Int.reduceAdd, Int.reduceSub, Int.reduceToNat, hw]) | (with_reducible first | refine W1 ?_ | refine W2 ?_ | refine W3 ?_ | refine W4 ?_ | refine W5 ?_ | refine W6 ?_ | refine W7 ?_ | refine W8 ?_ | refine W9 ?_))
    refine ⟨(v', i + 1), rfl, ⟨by simp only; omega, ?_⟩, by simp only; omega⟩
    rw [opsS_succ, ← List.append_assoc, List.map_append]
    exact hG3
  have hil' : ¬ ((i + 1 : Nat) : Int) ≤ 11 := by omega
  obtain rfl : i = 11 := by omega
  refine raw ?_
  repeat (first | (with_reducible refine unr ?_; try simp only [ZZ, ↓reduceIte, Nat.reduceEqDiff, Nat.reduceAdd, Nat.reduceLeDiff, reduceCtorEq, Int.reduceEq, Int.reduceLT, Int.reduceLE, Int.reduceNeg, Int.reduceAdd, Int.reduceSub, Int.reduceToNat, hil']) | (with_reducible first | refine W1 ?_ | refine W2 ?_ | refine W3 ?_ | refine W4 ?_ | refine W5 ?_ | refine W6 ?_ | refine W7 ?_ | refine W8 ?_ | refine W9 ?_))
  have hcs : l.map (superS g) ++ consS 0 cons ++ opsS 11 = compS l cons := by rw [← hgl]; rfl
  rw [hcs] at hG
  refine FP.mk (.tuple [.list ((compS l cons).map codeC), .int .i64 0]) hG.sl (.tuple (.cons .here (.cons (.refl _) .nil))) (.inr ⟨hF, hne, rfl⟩) (.tuple' ?_) (k1.trans hG.kp) (fun j hj => Nat.le_trans k1.next (hG.fresh j hj))
  intro c hc
  simp only [List.mem_cons, List.not_mem_nil, or_false] at hc
  rcases hc with rfl | rfl
  · exact codes_cln _
  · exact .int _ _
end Go.Proofs.Ytjjbjibbjbbeaaa
/- Two expressions of which Same says true are the same. -/
set_option linter.unusedVariables false
set_option linter.unusedSimpArgs false
namespace Go.AL
end Go.AL
namespace Go.Proofs.Ytjjbjibbjbbeaaa
open Go.AL
end Go.Proofs.Ytjjbjibbjbbeaaa
/- A code is the same as itself. -/
set_option linter.unusedVariables false
set_option linter.unusedSimpArgs false
namespace Go.AL
theorem insC_len (i : Ins) : (insC i).length = 4 := rfl
theorem insC_t4 (i : Ins) : List.take 4 (insC i) = insC i := rfl
theorem RelV.len {g : Ghost} {es : List (List AV)} {v : Value} (h : RelV g (.list es) v) : es.length ≤ maxLen := by
  cases h with
  | listNil => simp
  | list h1 h2 h3 h4 h5 h6 h7 => exact Nat.le_trans h6 h7
theorem RelV.cell {g : Ghost} {cs : List AV} {v : Value} {k : Nat} {c : AV} (h : RelV g (.agg cs) v) (hk : cs[k]? = some c) : ∃ w, RelV g c w := by
  cases h with
  | agg hs hc h1 => exact ⟨_, hc k c hk⟩
theorem RelV.elem {g : Ghost} {es : List (List AV)} {v : Value} {i j : Nat} {e : List AV} {c : AV} (h : RelV g (.list es) v) (hi : es[i]? = some e) (hj : e[j]? = some c) : ∃ w, RelV g c w := by
  cases h with
  | listNil => simp at hi
  | list h1 h2 h3 h4 h5 h6 h7 => exact ⟨_, h4 i j e c hi hj⟩
theorem ACalls_know {P : Program} {f : FuncId} {args : List AV} {σ : Store} {K : AV → Store → Prop} (j : Nat) {c : AV} (hj : args[j]? = some c) {p : Prop} (hp : ∀ (g : Ghost) (v : Value), RelV g c v → p) (h : p → ACalls P f args σ K) : ACalls P f args σ K := by
  intro B w0 g w vs hS hl hrel
  exact h (hp g _ (hrel j _ hj)) B w0 g w vs hS hl hrel
end Go.AL
namespace Go.Proofs.Ytjjbjibbjbbeaaa
open Go.AL
end Go.Proofs.Ytjjbjibbjbbeaaa
/- The resolved code of some functions. -/
set_option linter.unusedVariables false
namespace Go.Proofs.Ytjjbjibbjbbeaaa.Own
open Go.AL
/-- changeling/changelinglaw17.truths -/
def c31 : ACode :=
(.seq
 (.reg [⟨(some 0), .move (.c .nils), none⟩])
 (.seq
 (.reg [⟨(some 1), .build [(.str ⟨#[]⟩), (.str ⟨#[]⟩), (.int .i64 0), (.int .i64 0), .nils] [(0, 1, (.c (.str ⟨#[70, 97, 108, 115, 101]⟩))), (1, 1, (.c (.str ⟨#[66, 111, 111, 108]⟩)))], none⟩,
 ⟨(some 2), .build [(.str ⟨#[]⟩), (.str ⟨#[]⟩), (.int .i64 0), (.int .i64 0), .nils] [(0, 1, (.c (.str ⟨#[84, 114, 117, 101]⟩))), (1, 1, (.c (.str ⟨#[66, 111, 111, 108]⟩))), (2, 1, (.c (.int .i64 1)))], none⟩,
 ⟨(some 3), .lit true 87 5 [(.t 1), (.t 2)], none⟩,
 ⟨(some 0), .move (.t 3), none⟩])
 .ret))
theorem in31 {args : List AV} {σ : Store} {K : AV → Store → Prop} (hargs : args.length ≤ 4 := by simp) (h : AWP Try.prog Try.f31.ntmps c31 (fun e t s => match e with | .exit _ => False | _ => Res [.slot 0] K t s) (env (argList 0 args)) σ) : ACalls Try.prog 31 args σ K :=
  enter (own := [3]) Try.func31 (by kernel_rfl) (by kernel_rfl) (by kernel_rfl) hargs h
end Go.Proofs.Ytjjbjibbjbbeaaa.Own
/- The resolved code of some functions, as it is run on values. -/
set_option linter.unusedVariables false
namespace Go.Proofs.Ytjjbjibbjbbeaaa
open Go.AL
/-- changeling/changelinglaw17.known -/
def v26 : ACode :=
(.seq
 (.reg [⟨(some 0), .move (.c (.bool false)), none⟩])
 (.seq
 (.reg [⟨(some 5), .lit true 9 1 [(.c (.str ⟨#[35, 48]⟩)), (.c (.str ⟨#[35, 49]⟩))], none⟩,
 ⟨(some 6), .build [(.int .i64 0), (.str ⟨#[]⟩), (.int .i64 0), (.int .i64 0), .nils, .nils, .nils, .nils, .nils] [(0, 1, (.c (.int .i64 1))), (1, 1, (.c (.str ⟨#[35, 48]⟩)))], none⟩,
 ⟨(some 7), .build [(.str ⟨#[]⟩), .nils, (.int .i64 0), (.str ⟨#[]⟩), (.int .i64 0), (.int .i64 0), .nils, .nils, .nils, .nils, .nils] [(0, 1, (.c (.str ⟨#[107]⟩))), (1, 1, (.t 5)), (2, 9, (.t 6))], none⟩,
 ⟨(some 8), .lit true 71 11 [(.t 7)], none⟩,
 ⟨(some 9), .call 31 [], none⟩,
 ⟨(some 10), .call 27 [(.t 8), (.t 9)], none⟩,
 ⟨(some 4), .move (.t 10), none⟩,
 ⟨(some 11), .extract (.t 4) 0, none⟩,
 ⟨(some 12), .extract (.t 4) 1, none⟩,
 ⟨(some 1), .move (.t 11), none⟩,
 ⟨(some 2), .move (.t 12), none⟩])
 (.seq
 (.seq
 (.reg [⟨(some 13), .move (.t 2), none⟩,
 ⟨(some 14), .bin .int .neq (.t 13) (.c (.int .i64 0)), none⟩,
 ⟨(some 15), .move (.t 14), none⟩,
 ⟨(some 16), .move (.t 1), some (15, false)⟩,
 ⟨(some 17), .len .slice (.t 16), some (15, false)⟩,
 ⟨(some 18), .bin .int .neq (.t 17) (.c (.int .i64 14)), some (15, false)⟩,
 ⟨(some 19), .pick (.t 15) (.c (.bool true)) (.t 18), none⟩])
 (.cond (.t 19)
 (.seq
 (.reg [⟨(some 0), .move (.c (.bool false)), none⟩])
 .ret)
 .skip))
 (.seq
 (.reg [⟨(some 20), .build [(.int .i64 0), (.int .i64 0), (.int .i64 0), .nils] [(0, 1, (.c (.int .i64 1)))], none⟩,
 ⟨(some 21), .build [(.int .i64 0), (.int .i64 0), (.int .i64 0), .nils] [(0, 1, (.c (.int .i64 5))), (1, 1, (.c (.int .i64 2)))], none⟩,
 ⟨(some 22), .build [(.int .i64 0), (.int .i64 0), (.int .i64 0), .nils] [(0, 1, (.c (.int .i64 6))), (1, 1, (.c (.int .i64 2)))], none⟩,
 ⟨(some 23), .build [(.int .i64 0), (.int .i64 0), (.int .i64 0), .nils] [(0, 1, (.c (.int .i64 10)))], none⟩,
 ⟨(some 24), .lit true 139 4 [(.t 20), (.t 21), (.t 22), (.t 23)], none⟩,
 ⟨(some 25), .build [(.str ⟨#[]⟩), (.int .i64 0), (.bool false), .nils] [(0, 1, (.c (.str ⟨#[107]⟩))), (1, 1, (.c (.int .i64 2))), (3, 1, (.t 24))], none⟩,
 ⟨(some 3), .new 81 (.c (.agg [(.str ⟨#[]⟩), (.int .i64 0), (.bool false), .nils])), none⟩,
 ⟨none, .store 4 (.t 3) (.t 25), none⟩])
 (.seq
 (.reg [⟨(some 26), .move (.t 1), none⟩,
 ⟨(some 27), .iaddr 4 (.t 26) (.c (.int .i64 0)), none⟩,
 ⟨(some 28), .load (some 4) (.t 27), none⟩,
 ⟨(some 29), .load (some 4) (.t 3), none⟩,
 ⟨(some 30), .call 32 [(.t 28), (.t 29)], none⟩,
 ⟨(some 31), .move (.t 30), none⟩,
 ⟨(some 32), .move (.t 1), some (31, true)⟩,
 ⟨(some 33), .iaddr 4 (.t 32) (.c (.int .i64 1)), some (31, true)⟩,
 ⟨(some 34), .faddr 0 (.t 33), some (31, true)⟩,
 ⟨(some 35), .load none (.t 34), some (31, true)⟩,
 ⟨(some 36), .bin .str .eql (.t 35) (.c (.str ⟨#[70, 97, 108, 115, 101]⟩)), some (31, true)⟩,
 ⟨(some 37), .pick (.t 31) (.t 36) (.c (.bool false)), none⟩,
 ⟨(some 38), .move (.t 37), none⟩,
 ⟨(some 39), .move (.t 1), some (38, true)⟩,
 ⟨(some 40), .iaddr 4 (.t 39) (.c (.int .i64 1)), some (38, true)⟩,
 ⟨(some 41), .faddr 2 (.t 40), some (38, true)⟩,
 ⟨(some 42), .load none (.t 41), some (38, true)⟩,
 ⟨(some 43), .pick (.t 38) (.t 42) (.c (.bool false)), none⟩,
 ⟨(some 44), .move (.t 43), none⟩,
 ⟨(some 45), .move (.t 1), some (44, true)⟩,
 ⟨(some 46), .iaddr 4 (.t 45) (.c (.int .i64 13)), some (44, true)⟩,
 ⟨(some 47), .faddr 0 (.t 46), some (44, true)⟩,
 ⟨(some 48), .load none (.t 47), some (44, true)⟩,
 ⟨(some 49), .bin .str .eql (.t 48) (.c (.str ⟨#[62, 61]⟩)), some (44, true)⟩,
 ⟨(some 50), .pick (.t 44) (.t 49) (.c (.bool false)), none⟩,
 ⟨(some 0), .move (.t 50), none⟩])
 .ret)))))
theorem ent26 : EntOK Try.prog 26 ⟨51, v26, [.slot 0]⟩ := fun args σ K ha h =>
  enter (own := List.range 51) Try.func26 (by kernel_rfl) (by kernel_rfl) (by kernel_rfl) ha h
theorem ent27 : EntOK Try.prog 27 ⟨62, c27, [.slot 4, .slot 5]⟩ := fun args σ K ha h =>
  in27 ha h
theorem ent31 : EntOK Try.prog 31 ⟨4, c31, [.slot 0]⟩ := fun args σ K ha h =>
  in31 ha h
theorem ent32 : EntOK Try.prog 32 ⟨100, c32, [.slot 4]⟩ := fun args σ K ha h =>
  in32 ha h
theorem ent56 : EntOK Try.prog 56 ⟨34, c56, [.slot 4, .slot 5]⟩ := fun args σ K ha h =>
  in56 ha h
theorem ent57 : EntOK Try.prog 57 ⟨31, c57, [.cell 4 (some 4)]⟩ := fun args σ K ha h =>
  in57 ha h
theorem ent58 : EntOK Try.prog 58 ⟨44, c58, [.cell 6 (some 4)]⟩ := fun args σ K ha h =>
  in58 ha h
theorem ent59 : EntOK Try.prog 59 ⟨29, c59, [.cell 4 (some 4)]⟩ := fun args σ K ha h =>
  in59 ha h
theorem ent62 : EntOK Try.prog 62 ⟨72, c62, [.slot 2]⟩ := fun args σ K ha h =>
  in62 ha h
theorem ent64 : EntOK Try.prog 64 ⟨91, c64, [.slot 4]⟩ := fun args σ K ha h =>
  in64 ha h
theorem ent66 : EntOK Try.prog 66 ⟨133, c66, []⟩ := fun args σ K ha h =>
  in66 ha h
theorem ent67 : EntOK Try.prog 67 ⟨25, c67, [.slot 6]⟩ := fun args σ K ha h =>
  in67 ha h
theorem ent83 : EntOK Try.prog 83 ⟨15, c83, [.slot 2]⟩ := fun args σ K ha h =>
  in83 ha h
theorem ent85 : EntOK Try.prog 85 ⟨9, c85, [.slot 4]⟩ := fun args σ K ha h =>
  in85 ha h
theorem ent86 : EntOK Try.prog 86 ⟨266, c86, [.slot 6]⟩ := fun args σ K ha h =>
  in86 ha h
theorem ent105 : EntOK Try.prog 105 ⟨82, c105, [.slot 4, .slot 5]⟩ := fun args σ K ha h =>
  in105 ha h
theorem ent106 : EntOK Try.prog 106 ⟨102, c106, []⟩ := fun args σ K ha h =>
  in106 ha h
theorem ent107 : EntOK Try.prog 107 ⟨34, c107, [.slot 8]⟩ := fun args σ K ha h =>
  in107 ha h
theorem ent108 : EntOK Try.prog 108 ⟨12, c108, []⟩ := fun args σ K ha h =>
  in108 ha h
theorem ent109 : EntOK Try.prog 109 ⟨18, c109, []⟩ := fun args σ K ha h =>
  in109 ha h
theorem ent110 : EntOK Try.prog 110 ⟨26, c110, [.slot 2]⟩ := fun args σ K ha h =>
  in110 ha h
theorem ent111 : EntOK Try.prog 111 ⟨23, c111, [.slot 2]⟩ := fun args σ K ha h =>
  in111 ha h
theorem ent112 : EntOK Try.prog 112 ⟨92, c112, [.slot 4]⟩ := fun args σ K ha h =>
  in112 ha h
theorem ent113 : EntOK Try.prog 113 ⟨30, c113, [.slot 6]⟩ := fun args σ K ha h =>
  in113 ha h
theorem ent114 : EntOK Try.prog 114 ⟨25, c114, [.slot 4]⟩ := fun args σ K ha h =>
  in114 ha h
theorem ent115 : EntOK Try.prog 115 ⟨25, c115, [.slot 4]⟩ := fun args σ K ha h =>
  in115 ha h
theorem ent116 : EntOK Try.prog 116 ⟨25, c116, [.slot 4]⟩ := fun args σ K ha h =>
  in116 ha h
theorem ent117 : EntOK Try.prog 117 ⟨59, c117, [.slot 8]⟩ := fun args σ K ha h =>
  in117 ha h
theorem ent136 : EntOK Try.prog 136 ⟨19, c136, [.slot 2]⟩ := fun args σ K ha h =>
  in136 ha h
theorem ent141 : EntOK Try.prog 141 ⟨79, c141, [.slot 2, .slot 3]⟩ := fun args σ K ha h =>
  in141 ha h
theorem ent142 : EntOK Try.prog 142 ⟨19, c142, [.slot 4]⟩ := fun args σ K ha h =>
  in142 ha h
theorem ent143 : EntOK Try.prog 143 ⟨12, c143, [.slot 4]⟩ := fun args σ K ha h =>
  in143 ha h
theorem ent144 : EntOK Try.prog 144 ⟨128, c144, [.slot 6]⟩ := fun args σ K ha h =>
  in144 ha h
theorem ent145 : EntOK Try.prog 145 ⟨34, c145, [.slot 6]⟩ := fun args σ K ha h =>
  in145 ha h
theorem ent152 : EntOK Try.prog 152 ⟨147, c152, []⟩ := fun args σ K ha h =>
  in152 ha h
theorem ent153 : EntOK Try.prog 153 ⟨88, c153, []⟩ := fun args σ K ha h =>
  in153 ha h
theorem ent154 : EntOK Try.prog 154 ⟨20, c154, [.slot 2]⟩ := fun args σ K ha h =>
  in154 ha h
theorem ent160 : EntOK Try.prog 160 ⟨9, c160, [.slot 4]⟩ := fun args σ K ha h =>
  in160 ha h
theorem ent167 : EntOK Try.prog 167 ⟨14, c167, [.slot 6]⟩ := fun args σ K ha h =>
  in167 ha h
theorem ent168 : EntOK Try.prog 168 ⟨25, c168, []⟩ := fun args σ K ha h =>
  in168 ha h
theorem ent169 : EntOK Try.prog 169 ⟨8, c169, [.slot 4]⟩ := fun args σ K ha h =>
  in169 ha h
theorem ent172 : EntOK Try.prog 172 ⟨19, c172, [.slot 4]⟩ := fun args σ K ha h =>
  in172 ha h
theorem ent173 : EntOK Try.prog 173 ⟨18, c173, [.slot 4]⟩ := fun args σ K ha h =>
  in173 ha h
noncomputable def tabL : List (Nat × FEnt) := [(26, ⟨51, v26, [.slot 0]⟩),
  (27, ⟨62, c27, [.slot 4, .slot 5]⟩),
  (31, ⟨4, c31, [.slot 0]⟩),
  (32, ⟨100, c32, [.slot 4]⟩),
  (56, ⟨34, c56, [.slot 4, .slot 5]⟩),
  (57, ⟨31, c57, [.cell 4 (some 4)]⟩),
  (58, ⟨44, c58, [.cell 6 (some 4)]⟩),
  (59, ⟨29, c59, [.cell 4 (some 4)]⟩),
  (62, ⟨72, c62, [.slot 2]⟩),
  (64, ⟨91, c64, [.slot 4]⟩),
  (66, ⟨133, c66, []⟩),
  (67, ⟨25, c67, [.slot 6]⟩),
  (83, ⟨15, c83, [.slot 2]⟩),
  (85, ⟨9, c85, [.slot 4]⟩),
  (86, ⟨266, c86, [.slot 6]⟩),
  (105, ⟨82, c105, [.slot 4, .slot 5]⟩),
  (106, ⟨102, c106, []⟩),
  (107, ⟨34, c107, [.slot 8]⟩),
  (108, ⟨12, c108, []⟩),
  (109, ⟨18, c109, []⟩),
  (110, ⟨26, c110, [.slot 2]⟩),
  (111, ⟨23, c111, [.slot 2]⟩),
  (112, ⟨92, c112, [.slot 4]⟩),
  (113, ⟨30, c113, [.slot 6]⟩),
  (114, ⟨25, c114, [.slot 4]⟩),
  (115, ⟨25, c115, [.slot 4]⟩),
  (116, ⟨25, c116, [.slot 4]⟩),
  (117, ⟨59, c117, [.slot 8]⟩),
  (136, ⟨19, c136, [.slot 2]⟩),
  (141, ⟨79, c141, [.slot 2, .slot 3]⟩),
  (142, ⟨19, c142, [.slot 4]⟩),
  (143, ⟨12, c143, [.slot 4]⟩),
  (144, ⟨128, c144, [.slot 6]⟩),
  (145, ⟨34, c145, [.slot 6]⟩),
  (152, ⟨147, c152, []⟩),
  (153, ⟨88, c153, []⟩),
  (154, ⟨20, c154, [.slot 2]⟩),
  (160, ⟨9, c160, [.slot 4]⟩),
  (167, ⟨14, c167, [.slot 6]⟩),
  (168, ⟨25, c168, []⟩),
  (169, ⟨8, c169, [.slot 4]⟩),
  (172, ⟨19, c172, [.slot 4]⟩),
  (173, ⟨18, c173, [.slot 4]⟩)]
theorem tab_ok : (tabOf tabL).OK Try.prog := tabOf_ok (by
  unfold tabL
  refine .cons ent26 ?_
  refine .cons ent27 ?_
  refine .cons ent31 ?_
  refine .cons ent32 ?_
  refine .cons ent56 ?_
  refine .cons ent57 ?_
  refine .cons ent58 ?_
  refine .cons ent59 ?_
  refine .cons ent62 ?_
  refine .cons ent64 ?_
  refine .cons ent66 ?_
  refine .cons ent67 ?_
  refine .cons ent83 ?_
  refine .cons ent85 ?_
  refine .cons ent86 ?_
  refine .cons ent105 ?_
  refine .cons ent106 ?_
  refine .cons ent107 ?_
  refine .cons ent108 ?_
  refine .cons ent109 ?_
  refine .cons ent110 ?_
  refine .cons ent111 ?_
  refine .cons ent112 ?_
  refine .cons ent113 ?_
  refine .cons ent114 ?_
  refine .cons ent115 ?_
  refine .cons ent116 ?_
  refine .cons ent117 ?_
  refine .cons ent136 ?_
  refine .cons ent141 ?_
  refine .cons ent142 ?_
  refine .cons ent143 ?_
  refine .cons ent144 ?_
  refine .cons ent145 ?_
  refine .cons ent152 ?_
  refine .cons ent153 ?_
  refine .cons ent154 ?_
  refine .cons ent160 ?_
  refine .cons ent167 ?_
  refine .cons ent168 ?_
  refine .cons ent169 ?_
  refine .cons ent172 ?_
  refine .cons ent173 ?_
  exact .nil)
end Go.Proofs.Ytjjbjibbjbbeaaa
/- The law CodeAlone. -/
set_option linter.unusedVariables false
set_option linter.unusedSimpArgs false
namespace Go.Proofs.Ytjjbjibbjbbeaaa
open Go.AL
set_option maxRecDepth 1000000 in
theorem code_run : saysF true (callF (tabOf tabL) (runF (tabOf tabL) 300) 26 [] 0 .nil) = true := by kernel_rfl
theorem code_known (σ : Store) : ACalls Try.prog 26 [] σ fun r σ' => r = .bool true ∧ σ' = σ := ACalls_shut (ACalls_says tab_ok code_run) σ
theorem size7 (x : Cr) (h : x.Sm) (σ : Store) : ACalls Try.prog 17 [.agg x.cells] σ fun r σ' => (∃ n : Int, r = .int .i64 n ∧ True) ∧ σ' = σ := (size_ok x h σ).mono fun r s ⟨⟨n, hn⟩, hs⟩ => ⟨⟨n, hn, trivial⟩, hs⟩
theorem small_ok (l : List Sup) (hb : bulkS l ≤ 1048576) (σ : Store) : ACalls Try.prog 25 [.list (l.map supC)] σ fun r σ' => (∃ b : Bool, r = .bool b ∧ True) ∧ σ' = σ := by
  refine in25 (by simp) ?_
  unfold c25
  have hdl := lenS l
  refine raw ?_
  repeat (first | (with_reducible refine unr ?_; try simp only [ZZ, ↓reduceIte, Nat.reduceEqDiff, Nat.reduceAdd, Nat.reduceLeDiff, reduceCtorEq, Int.reduceEq, Int.reduceLT, Int.reduceLE, Int.reduceNeg, Int.reduceAdd, Int.reduceSub, Int.reduceToNat]) | (with_reducible first | refine W1 ?_ | refine W2 ?_ | refine W3 ?_ | refine W4 ?_ | refine W5 ?_ | refine W6 ?_ | refine W7 ?_ | refine W8 ?_ | refine W9 ?_))
  refine AWP_while [0, 3, 4] (fun y : Int × Nat => l.length - y.2) (fun y => [.list (l.map supC), .int .i64 y.1, .int .i64 y.2])
    (fun y t => σ = t ∧ y.2 ≤ l.length) (0, 0) ⟨rfl, by simp⟩ ?_ ?_
  · refine raw ?_
    repeat (first | (with_reducible refine unr ?_; try simp only [ZZ, ↓reduceIte, Nat.reduceEqDiff, Nat.reduceAdd, Nat.reduceLeDiff, reduceCtorEq, Int.reduceEq, Int.reduceLT, Int.reduceLE, Int.reduceNeg, Int.reduceAdd, Int.reduceSub, Int.reduceToNat]) | (with_reducible first | refine W1 ?_ | refine W2 ?_ | refine W3 ?_ | refine W4 ?_ | refine W5 ?_ | refine W6 ?_ | refine W7 ?_ | refine W8 ?_ | refine W9 ?_))
    rfl
  rintro ⟨a, i⟩ _ ⟨rfl, hi⟩
  simp only at hi
  have hw := wrap_succ (i := i) (by omega)
  by_cases hil : i < l.length
  · have hil' : (i : Int) < (l.length : Int) := by omega
    obtain ⟨x, hx⟩ : ∃ x, l[i]? = some x := ⟨_, List.getElem?_eq_getElem hil⟩
    have hg : (l.map supC)[i]? = some (supC x) := by simp [hx]
    have hxb := bulkS_le (List.mem_of_getElem? hx)
    have hsm := x.bd.sm_of_bulk (by omega)
    refine raw ?_
    repeat' (first | (with_reducible refine unr ?_; try simp only [ZZ, ↓reduceIte, Nat.reduceEqDiff, Nat.reduceAdd, Nat.reduceLeDiff, reduceCtorEq, Int.reduceEq, Int.reduceLT, Int.reduceLE, Int.reduceNeg, Int.reduceAdd, Int.reduceSub, Int.reduceToNat, hil', hg, supC, Cr.len, Cr.take9, Cr.drop9, str_nil, *]) | (with_reducible first | refine W1 ?_ | refine W2 ?_ | refine W3 ?_ | refine W4 ?_ | refine W5 ?_ | refine W6 ?_ | refine W7 ?_ | refine W8 ?_ | refine W9 ?_ | refine ok_idx (by first | assumption | omega) (fun b hb => raw ?_) | refine ok_iad (by first | assumption | omega) (fun x hx hxm => raw ?_) | refine And.intro (by omega) (raw ?_) | (refine guardW_b (fun h => raw ?_) (fun h => raw ?_) <;> try simp only [Ty] at h) | (refine ePick_b (fun h => raw ?_) (fun h => raw ?_) <;> try simp only [Ty] at h) | (refine condW_b (fun h => raw ?_) (fun h => raw ?_) <;> try simp only [Ty] at h) | (refine (size7 x.bd hsm _).mono ?_; rintro _ _ ⟨⟨b, rfl, hb⟩, rfl⟩; refine raw ?_)))
    all_goals first
      | exact ⟨_, rfl⟩
      | exact ⟨(_, i + 1), rfl, by simp only; omega, by simp only; omega⟩
  · have hil' : ¬ (i : Int) < (l.length : Int) := by omega
    refine raw ?_
    repeat (first | (with_reducible refine unr ?_; try simp only [ZZ, ↓reduceIte, Nat.reduceEqDiff, Nat.reduceAdd, Nat.reduceLeDiff, reduceCtorEq, Int.reduceEq, Int.reduceLT, Int.reduceLE, Int.reduceNeg, Int.reduceAdd, Int.reduceSub, Int.reduceToNat, hil']) | (with_reducible first | refine W1 ?_ | refine W2 ?_ | refine W3 ?_ | refine W4 ?_ | refine W5 ?_ | refine W6 ?_ | refine W7 ?_ | refine W8 ?_ | refine W9 ?_))
    exact ⟨_, rfl⟩
end Go.Proofs.Ytjjbjibbjbbeaaa
/- Depths on each way through a code: certificates, put together from parts. -/
set_option linter.unusedVariables false
set_option linter.unusedSimpArgs false
namespace Go.AL
/-- The depth behind an instruction. -/
inductive Aft : Ins → Int → Int → Prop
  | push {k n d : Int} {js : List (Int × Int)} (h0 : 0 ≤ k) (h1 : k < d) : Aft ⟨1, k, n, js⟩ d (d + 1)
  | glob {k n d : Int} {js : List (Int × Int)} (h0 : 0 ≤ k) : Aft ⟨2, k, n, js⟩ d (d + 1)
  | int {k n d : Int} {js : List (Int × Int)} (h0 : 0 ≤ k) : Aft ⟨3, k, n, js⟩ d (d + 1)
  | apply {k n d : Int} {js : List (Int × Int)} (h0 : 2 ≤ d) : Aft ⟨4, k, n, js⟩ d (d - 1)
  | prim {k n d : Int} {js : List (Int × Int)} (h0 : 2 ≤ d) : Aft ⟨16, k, n, js⟩ d (d - 1)
  | update {k n d : Int} {js : List (Int × Int)} (h0 : 0 ≤ k) (h1 : 1 ≤ d) (h2 : k ≤ d - 1) : Aft ⟨5, k, n, js⟩ d (d - 1)
  | pop {k n d : Int} {js : List (Int × Int)} (h0 : 0 ≤ k) (h1 : k ≤ d) : Aft ⟨6, k, n, js⟩ d (d - k)
  | slide {k n d : Int} {js : List (Int × Int)} (h0 : 0 ≤ k) (h1 : k < d) : Aft ⟨7, k, n, js⟩ d (d - k)
  | alloc {k n d : Int} {js : List (Int × Int)} (h0 : 1 ≤ k) : Aft ⟨8, k, n, js⟩ d (d + k)
  | pack {k n d : Int} {js : List (Int × Int)} (h0 : 0 ≤ k) (h1 : k ≤ d) : Aft ⟨11, k, n, js⟩ d (d - k + 1)
  | split {k n d : Int} {js : List (Int × Int)} (h0 : 0 ≤ k) (h1 : 1 ≤ d) : Aft ⟨12, k, n, js⟩ d (d - 1 + k)
  | eval {k n d : Int} {js : List (Int × Int)} (h0 : 1 ≤ d) : Aft ⟨9, k, n, js⟩ d d
  | case {k n d : Int} {js : List (Int × Int)} (h0 : 1 ≤ d) : Aft ⟨13, k, n, js⟩ d d
  | pick {k n d : Int} {js : List (Int × Int)} : Aft ⟨14, k, n, js⟩ d d
  | jump {k n d : Int} {js : List (Int × Int)} : Aft ⟨15, k, n, js⟩ d d
  | unwind {k n d : Int} {js : List (Int × Int)} : Aft ⟨10, k, n, js⟩ d d
  | fail {k n d : Int} {js : List (Int × Int)} : Aft ⟨17, k, n, js⟩ d d
abbrev Tgt := Nat → Int → Prop
/-- A place behind, with its depth. -/
def Leads (T : Tgt) (i : Nat) (k d : Int) : Prop := ∃ j : Nat, k = j ∧ i < j ∧ T j d
theorem Leads.mono {T T' : Tgt} {i : Nat} {k d : Int} (h : Leads T i k d) (ht : ∀ j d, T j d → T' j d) : Leads T' i k d := by
  obtain ⟨j, h1, h2, h3⟩ := h
  exact ⟨j, h1, h2, ht j d h3⟩
/-- What is asked of an instruction that is met. -/
structure StepOK (o : Ins) (i : Nat) (d d' : Int) (T : Tgt) : Prop where
  aft : Aft o d d'
  js : ∀ p, p ∈ o.js → Leads T i p.2 d'
  unwind : o.op = 10 → d' = 0
  case : o.op = 13 → 0 ≤ o.k → Leads T i o.k d'
  jump : o.op = 14 ∨ o.op = 15 → Leads T i o.k d'
  next : o.op ≠ 10 → o.op ≠ 17 → o.op ≠ 13 → o.op ≠ 14 → o.op ≠ 15 → T (i + 1) d'
theorem StepOK.mono {o : Ins} {i : Nat} {d d' : Int} {T T' : Tgt} (h : StepOK o i d d' T) (ht : ∀ j d, T j d → T' j d) : StepOK o i d d' T' :=
  ⟨h.aft, fun p hp => (h.js p hp).mono ht, h.unwind, fun e k => (h.case e k).mono ht, fun e => (h.jump e).mono ht, fun a b c e f => ht _ _ (h.next a b c e f)⟩
def maxD : Int := 1000000000
def InT (A : Nat → Option Int) (e : Nat) (T : Tgt) : Tgt := fun j d => A j = some d ∨ (T j d ∧ e ≤ j)
/-- A part of a code: where it is entered, and where it leads. -/
def Seg (base : Nat) (E : Tgt) (ops : List Ins) (T : Tgt) : Prop :=
  ∃ A : Nat → Option Int, (∀ j d, E j d → InT A (base + ops.length) T j d) ∧
    ∀ i d, A i = some d → base ≤ i ∧ i < base + ops.length ∧ 0 ≤ d ∧ d ≤ maxD ∧ ∃ o d', ops[i - base]? = some o ∧ d' ≤ maxD ∧ StepOK o i d d' (InT A (base + ops.length) T)
theorem Seg.app {base : Nat} {E E1 E2 T T1 T2 : Tgt} {o1 o2 : List Ins} (h1 : Seg base E1 o1 T1) (h2 : Seg (base + o1.length) E2 o2 T2)
    (hE : ∀ j d, E j d → E1 j d ∨ E2 j d) (hT1 : ∀ j d, T1 j d → base + o1.length ≤ j → E2 j d ∨ (T j d ∧ base + o1.length + o2.length ≤ j)) (hT2 : ∀ j d, T2 j d → base + o1.length + o2.length ≤ j → T j d) : Seg base E (o1 ++ o2) T := by
  obtain ⟨A1, e1, s1⟩ := h1
  obtain ⟨A2, e2, s2⟩ := h2
  have k2 : ∀ j d, InT A2 (base + o1.length + o2.length) T2 j d → InT (fun i => if i < base + o1.length then A1 i else A2 i) (base + (o1 ++ o2).length) T j d := by
    intro j d h
    rcases h with h | ⟨h, hj⟩
    · have := s2 j d h
      left
      simp only [if_neg (show ¬ j < base + o1.length by omega)]
      exact h
    · exact .inr ⟨hT2 j d h hj, by rw [List.length_append]; omega⟩
  have k1 : ∀ j d, InT A1 (base + o1.length) T1 j d → InT (fun i => if i < base + o1.length then A1 i else A2 i) (base + (o1 ++ o2).length) T j d := by
    intro j d h
    rcases h with h | ⟨h, hj⟩
    · have := s1 j d h
      left
      simp only [if_pos this.2.1]
      exact h
    · rcases hT1 j d h hj with h | ⟨h, hj⟩
      · exact k2 j d (e2 j d h)
      · exact .inr ⟨h, by rw [List.length_append]; omega⟩
  refine ⟨fun i => if i < base + o1.length then A1 i else A2 i, fun j d h => ?_, fun i d h => ?_⟩
  · rcases hE j d h with h | h
    · exact k1 j d (e1 j d h)
    · exact k2 j d (e2 j d h)
  · by_cases hi : i < base + o1.length
    · simp only [if_pos hi] at h
      obtain ⟨a, b, c, c2, o, d', ho, hd, hs⟩ := s1 i d h
      exact ⟨a, by rw [List.length_append]; omega, c, c2, o, d', by rw [List.getElem?_append_left (by omega)]; exact ho, hd, hs.mono k1⟩
    · simp only [if_neg hi] at h
      obtain ⟨a, b, c, c2, o, d', ho, hd, hs⟩ := s2 i d h
      exact ⟨by omega, by rw [List.length_append]; omega, c, c2, o, d', by rw [List.getElem?_append_right (by omega), show i - base - o1.length = i - (base + o1.length) by omega]; exact ho, hd, hs.mono k2⟩
/-- One place with its depth. -/
def At (j : Nat) (d : Int) : Tgt := fun j' d' => j' = j ∧ d' = d
theorem Seg.nil {base : Nat} {E T : Tgt} (h : ∀ j d, E j d → T j d ∧ base ≤ j) : Seg base E [] T :=
  ⟨fun _ => none, fun j d he => .inr (by simpa using h j d he), by simp⟩
theorem Seg.one {base : Nat} {d d' : Int} {o : Ins} {T : Tgt} (h0 : 0 ≤ d) (h1 : d ≤ maxD) (h2 : d' ≤ maxD) (h : StepOK o base d d' (fun j d => T j d ∧ base + 1 ≤ j)) : Seg base (At base d) [o] T := by
  refine ⟨fun i => if i = base then some d else none, fun j d2 he => ?_, fun i d2 hi => ?_⟩
  · obtain ⟨rfl, rfl⟩ := he
    exact .inl (by simp)
  · by_cases e : i = base
    · simp only [if_pos e, Option.some.injEq] at hi
      subst e hi
      exact ⟨Nat.le_refl _, by simp, h0, h1, o, d', by simp, h2, h.mono fun j d h => .inr h⟩
    · simp [if_neg e] at hi
theorem Seg.mono {base : Nat} {E E' T T' : Tgt} {ops : List Ins} (h : Seg base E ops T) (hE : ∀ j d, E' j d → E j d) (hT : ∀ j d, T j d → base + ops.length ≤ j → T' j d) : Seg base E' ops T' := by
  obtain ⟨A, e, s⟩ := h
  have k : ∀ j d, InT A (base + ops.length) T j d → InT A (base + ops.length) T' j d := fun j d h => h.imp id fun h => ⟨hT j d h.1 h.2, h.2⟩
  exact ⟨A, fun j d h => k j d (e j d (hE j d h)), fun i d h => by
    obtain ⟨a, b, c, c2, o, d', ho, hd, hs⟩ := s i d h
    exact ⟨a, b, c, c2, o, d', ho, hd, hs.mono k⟩⟩
/-- What runs through: from a depth to a depth. -/
def Thru (base : Nat) (d : Int) (ops : List Ins) (d' : Int) : Prop := Seg base (At base d) ops (At (base + ops.length) d')
theorem Thru.app {base : Nat} {d d1 d2 : Int} {o1 o2 : List Ins} (h1 : Thru base d o1 d1) (h2 : Thru (base + o1.length) d1 o2 d2) : Thru base d (o1 ++ o2) d2 :=
  Seg.app h1 h2 (fun j d h => .inl h) (fun j d h _ => .inl h) fun j d h _ => by rw [At, List.length_append, ← Nat.add_assoc]; exact h
/-- An instruction that goes on to the next. -/
def Plain (o : Ins) : Prop := o.js = [] ∧ o.op ≠ 10 ∧ o.op ≠ 17 ∧ o.op ≠ 13 ∧ o.op ≠ 14 ∧ o.op ≠ 15
theorem Thru.one {base : Nat} {d d' : Int} {o : Ins} (h0 : 0 ≤ d) (h1 : d ≤ maxD) (h2 : d' ≤ maxD) (hp : Plain o) (h : Aft o d d') : Thru base d [o] d' := by
  obtain ⟨h3, a, b, c, e, f⟩ := hp
  exact Seg.one h0 h1 h2 ⟨h, by rw [h3]; simp, fun x => absurd x a, fun x => absurd x c, fun x => x.elim (fun y => absurd y e) (fun y => absurd y f), fun _ _ _ _ _ => ⟨⟨by simp, rfl⟩, Nat.le_refl _⟩⟩
theorem Thru.then {base : Nat} {d d1 : Int} {o1 o2 : List Ins} {T : Tgt} (h1 : Thru base d o1 d1) (h2 : Seg (base + o1.length) (At (base + o1.length) d1) o2 T) : Seg base (At base d) (o1 ++ o2) T :=
  Seg.app h1 h2 (fun j d h => .inl h) (fun j d h _ => .inl h) fun j d h _ => h
/-- The end of a code. -/
theorem end_seg {base : Nat} {d : Int} (h0 : 0 ≤ d) (h1 : d + 1 ≤ maxD) (T : Tgt) : Seg base (At base (d + 1)) (endS d) T := by
  have a : Thru base (d + 1) [ik 5 d] d := by
    have := Aft.update (k := d) (n := 0) (d := d + 1) (js := []) h0 (by omega) (by omega)
    rw [show d + 1 - 1 = d by omega] at this
    exact .one (by omega) h1 (by omega) ⟨rfl, by simp [ik], by simp [ik], by simp [ik], by simp [ik], by simp [ik]⟩ this
  have b : Thru (base + 1) d [ik 6 d] 0 := by
    have := Aft.pop (k := d) (n := 0) (d := d) (js := []) h0 (Int.le_refl _)
    rw [show d - d = 0 by omega] at this
    exact .one h0 (by omega) (by simp [maxD]) ⟨rfl, by simp [ik], by simp [ik], by simp [ik], by simp [ik], by simp [ik]⟩ this
  have c : Seg (base + 2) (At (base + 2) 0) [ik 10 0] T := Seg.one (d' := 0) (Int.le_refl _) (by simp [maxD]) (by simp [maxD]) ⟨.unwind, by simp [ik], fun _ => rfl, by simp [ik], by simp [ik], by simp [ik]⟩
  exact Thru.then a (Thru.then b c)
/-- A code whose depths are as they must be. -/
def Cert (ar : Int) (ops : List Ins) : Prop :=
  ∃ A : Nat → Option Int, A 0 = some ar ∧ ∀ i d, A i = some d → i < ops.length ∧ 0 ≤ d ∧ d ≤ maxD ∧ ∃ o d', ops[i]? = some o ∧ d' ≤ maxD ∧ StepOK o i d d' fun j d => A j = some d
theorem Seg.cert {ar : Int} {ops : List Ins} (h : Seg 0 (At 0 ar) ops fun _ _ => False) : Cert ar ops := by
  obtain ⟨A, e, s⟩ := h
  have k : ∀ j d, InT A (0 + ops.length) (fun _ _ => False) j d → A j = some d := fun j d h => h.elim id fun h => h.1.elim
  refine ⟨A, k 0 ar (e 0 ar ⟨rfl, rfl⟩), fun i d h => ?_⟩
  obtain ⟨a, b, c, c2, o, d', ho, hd, hs⟩ := s i d h
  exact ⟨by omega, c, c2, o, d', by simpa using ho, hd, hs.mono k⟩
end Go.AL
/- The depths of what makes nodes and values. -/
set_option linter.unusedVariables false
set_option linter.unusedSimpArgs false
namespace Go.AL
/-! ### Levels -/
def LvD (lv : Lv) (d : Int) : Prop := ∀ p, p ∈ lv → 0 ≤ p.2 ∧ p.2 < d
theorem LvD.up {lv : Lv} {d d' : Int} (h : LvD lv d) (hd : d ≤ d') : LvD lv d' := fun p hp => ⟨(h p hp).1, by have := (h p hp).2; omega⟩
theorem numsD_mem {p : ByteArray × Int} {fr st : Int} : ∀ {l : List ByteArray} {i : Nat}, p ∈ nums i fr st l → ∃ j : Nat, i ≤ j ∧ j < i + l.length ∧ p.2 = fr + j * st
  | [], i, h => by simp [nums] at h
  | s :: r, i, h => by
    rw [nums] at h
    rcases List.mem_cons.1 h with rfl | h
    · exact ⟨i, Nat.le_refl _, by simp, rfl⟩
    · obtain ⟨j, h1, h2, h3⟩ := numsD_mem h
      exact ⟨j, by omega, by rw [List.length_cons]; omega, h3⟩
theorem LvD.with1 {lv : Lv} {d : Int} (h : LvD lv d) (h0 : 0 ≤ d) (l : List ByteArray) : LvD (withS lv l d 1) (d + l.length) := by
  intro p hp
  rw [withS] at hp
  rcases List.mem_append.1 hp with hp | hp
  · have := h p hp; omega
  · obtain ⟨j, h1, h2, h3⟩ := numsD_mem hp
    rw [h3]; omega
theorem LvD.with2 {lv : Lv} {d : Int} (h : LvD lv d) (h0 : 0 ≤ d) (l : List ByteArray) : LvD (withS lv l (d + l.length - 1) (-1)) (d + l.length) := by
  intro p hp
  rw [withS] at hp
  rcases List.mem_append.1 hp with hp | hp
  · have := h p hp; omega
  · obtain ⟨j, h1, h2, h3⟩ := numsD_mem hp
    rw [h3]; omega
theorem findS_le {d : Int} (h1 : 1 ≤ d) (s : ByteArray) : ∀ {lv : Lv}, LvD lv d → 0 ≤ findS lv s ∧ findS lv s < d
  | [], h => by rw [findS]; omega
  | p :: r, h => by
    rw [findS]
    split
    · exact findS_le h1 s fun q hq => h q (List.mem_cons_of_mem _ hq)
    · split
      · exact h p (by simp)
      · omega
/-! ### Single instructions -/
section
variable {base : Nat} {d : Int}
theorem plain_ik {op : Int} (k : Int) (a : op ≠ 10) (b : op ≠ 17) (c : op ≠ 13) (e : op ≠ 14) (f : op ≠ 15) : Plain (ik op k) := ⟨rfl, a, b, c, e, f⟩
theorem t_push {k : Int} (h0 : 0 ≤ d) (h1 : d + 1 ≤ maxD) (a : 0 ≤ k) (b : k < d) : Thru base d [ik 1 k] (d + 1) := .one h0 (by omega) h1 (plain_ik k (by decide) (by decide) (by decide) (by decide) (by decide)) (.push a b)
theorem t_glob {k : Int} (h0 : 0 ≤ d) (h1 : d + 1 ≤ maxD) (a : 0 ≤ k) : Thru base d [ik 2 k] (d + 1) := .one h0 (by omega) h1 (plain_ik k (by decide) (by decide) (by decide) (by decide) (by decide)) (.glob a)
theorem t_int {n : Int} (h0 : 0 ≤ d) (h1 : d + 1 ≤ maxD) : Thru base d [⟨3, 0, n, []⟩] (d + 1) := .one h0 (by omega) h1 ⟨rfl, by simp, by simp, by simp, by simp, by simp⟩ (.int (Int.le_refl _))
theorem t_apply (h0 : 1 ≤ d) (h1 : d + 1 ≤ maxD) : Thru base (d + 1) [ik 4 0] d := by
  have := Aft.apply (k := 0) (n := 0) (d := d + 1) (js := []) (by omega)
  rw [show d + 1 - 1 = d by omega] at this
  exact .one (by omega) h1 (by omega) (plain_ik 0 (by decide) (by decide) (by decide) (by decide) (by decide)) this
theorem t_prim {n : Int} (h0 : 1 ≤ d) (h1 : d + 1 ≤ maxD) : Thru base (d + 1) [⟨16, 0, n, []⟩] d := by
  have := Aft.prim (k := 0) (n := n) (d := d + 1) (js := []) (by omega)
  rw [show d + 1 - 1 = d by omega] at this
  exact .one (by omega) h1 (by omega) ⟨rfl, by simp, by simp, by simp, by simp, by simp⟩ this
theorem t_update {k : Int} (h0 : 0 ≤ d) (h1 : d + 1 ≤ maxD) (a : 0 ≤ k) (b : k ≤ d) : Thru base (d + 1) [ik 5 k] d := by
  have := Aft.update (k := k) (n := 0) (d := d + 1) (js := []) a (by omega) (by omega)
  rw [show d + 1 - 1 = d by omega] at this
  exact .one (by omega) h1 (by omega) (plain_ik k (by decide) (by decide) (by decide) (by decide) (by decide)) this
theorem t_slide {k : Int} (h0 : 1 ≤ d) (h1 : d + k ≤ maxD) (a : 0 ≤ k) : Thru base (d + k) [ik 7 k] d := by
  have := Aft.slide (k := k) (n := 0) (d := d + k) (js := []) a (by omega)
  rw [show d + k - k = d by omega] at this
  exact .one (by omega) h1 (by omega) (plain_ik k (by decide) (by decide) (by decide) (by decide) (by decide)) this
theorem t_alloc {k : Int} (h0 : 0 ≤ d) (h1 : d + k ≤ maxD) (a : 1 ≤ k) : Thru base d [ik 8 k] (d + k) := .one h0 (by omega) h1 (plain_ik k (by decide) (by decide) (by decide) (by decide) (by decide)) (.alloc a)
theorem t_eval (h0 : 1 ≤ d) (h1 : d ≤ maxD) : Thru base d [ik 9 0] d := .one (by omega) h1 h1 (plain_ik 0 (by decide) (by decide) (by decide) (by decide) (by decide)) (.eval h0)
theorem t_split {k : Int} (h0 : 0 ≤ d) (h1 : d + 1 ≤ maxD) (h2 : d + k ≤ maxD) (a : 0 ≤ k) : Thru base (d + 1) [ik 12 k] (d + k) := by
  have := Aft.split (k := k) (n := 0) (d := d + 1) (js := []) a (by omega)
  rw [show d + 1 - 1 + k = d + k by omega] at this
  exact .one (by omega) h1 h2 (plain_ik k (by decide) (by decide) (by decide) (by decide) (by decide)) this
theorem t_pop1 (h0 : 0 ≤ d) (h1 : d + 1 ≤ maxD) : Thru base (d + 1) [ik 6 1] d := by
  have := Aft.pop (k := 1) (n := 0) (d := d + 1) (js := []) (by omega) (by omega)
  rw [show d + 1 - 1 = d by omega] at this
  exact .one (by omega) h1 (by omega) (plain_ik 1 (by decide) (by decide) (by decide) (by decide) (by decide)) this
end
/-! ### Nodes -/
section
variable (g : Gl) (O : ByteArray → Int)
/-- What makes a node leaves it on the stack. -/
def LatT (x : Cr) : Prop := ∀ (sc : Bool), x.Rt sc → x.Fl false → ∀ (lv : Lv) (d : Int) (base : Nat), LvD lv d → 0 ≤ d → (sc = true → 1 ≤ d) → d + x.bulk ≤ maxD → Thru base d (latS g O lv d x) (d + 1)
theorem latB_thru (lv : Lv) (d : Int) (sc : Bool) : ∀ (bs : List (ByteArray × Cr)), (∀ x, x ∈ bs → LatT g O x.2) → (∀ x, x ∈ bs → x.2.Rt sc) → (∀ x, x ∈ bs → x.2.Fl false) → ∀ (base : Nat), LvD lv d → 1 ≤ d → (bs.length : Int) ≤ d → (∀ x, x ∈ bs → d + x.2.bulk ≤ maxD) → d ≤ maxD → Thru base d (latB g O lv d (bs.length : Int) bs) d
  | [], _, _, _, base, _, _, _, _, _ => by rw [latB]; exact Seg.nil fun j d h => ⟨by simpa [At] using h, by rw [h.1]; exact Nat.le_refl _⟩
  | (s, x) :: r, ih, hr, hf, base, hlv, h1, hn, hb, hm => by
    rw [latB, List.append_assoc]
    have hx := ih _ (List.mem_cons_self ..) sc (hr _ (List.mem_cons_self ..)) (hf _ (List.mem_cons_self ..)) lv d base hlv (by omega) (fun _ => h1) (hb _ (List.mem_cons_self ..))
    have hbx := hb _ (List.mem_cons_self ..)
    have hp := x.bulk_pos
    simp only [List.length_cons] at hn ⊢
    simp only at hbx hx
    refine hx.app (Thru.app (d1 := d) (t_update (by omega) (by omega) (by omega) (by omega)) ?_)
    have := latB_thru lv d sc r (fun x hx => ih x (List.mem_cons_of_mem _ hx)) (fun x hx => hr x (List.mem_cons_of_mem _ hx)) (fun x hx => hf x (List.mem_cons_of_mem _ hx)) (base + (latS g O lv d x).length + 1) hlv h1 (by omega) (fun x hx => hb x (List.mem_cons_of_mem _ hx)) hm
    rw [show ((r.length + 1 : Nat) : Int) - 1 = (r.length : Int) by omega]
    exact this
theorem bind_thru {lv : Lv} {d : Int} {sc : Bool} {bs : List (ByteArray × Cr)} (ih : ∀ x, x ∈ bs → LatT g O x.2) (hr : ∀ x, x ∈ bs → x.2.Rt sc) (hf : ∀ x, x ∈ bs → x.2.Fl false) (base : Nat) (hlv : LvD lv d) (h0 : 0 ≤ d) (hne : bs ≠ []) (hb : d + Cr.bulkB bs ≤ maxD) :
    Thru base d (bindS g O lv d bs) (d + bs.length) := by
  have hl : 1 ≤ bs.length := List.length_pos_iff.2 hne
  have hlb := Cr.lenB bs
  rw [bindS, show ∀ (a : Ins) (l : List Ins), a :: l = [a] ++ l from fun _ _ => rfl]
  refine Thru.app (t_alloc h0 (by omega) (by omega)) ?_
  have hw := hlv.with1 h0 (bs.map (·.1))
  rw [List.length_map] at hw
  exact latB_thru g O _ _ sc bs ih hr hf _ hw (by omega) (by omega) (fun x hx => by have := Cr.bulkB_le2 hx; omega) (by omega)
variable (hg : g.con ≠ []) (hO : ∀ s, 0 ≤ O s)
include hg hO
theorem globS_nn (s : ByteArray) : 0 ≤ globS g O s := by
  have h1 : 1 ≤ g.con.length := List.length_pos_iff.2 hg
  have h2 := hO s
  unfold globS operS
  split <;> omega
omit hO in
theorem operS_nn (n : Int) (h : 0 ≤ n) : 0 ≤ operS g n := by
  have h1 : 1 ≤ g.con.length := List.length_pos_iff.2 hg
  unfold operS
  omega
omit hg hO in
theorem conIdx_nn (s : ByteArray) : 0 ≤ conIdx g s := by
  unfold conIdx
  split <;> omega
/-- Kinds that make the same node, asked at once or later. -/
theorem lat_four {k : Int} {nm : ByteArray} {n ar : Int} {ps : List ByteArray} {gs : List Cr} {al : List (AltH × Cr)} {bs : List (ByteArray × Cr)} {pk : List (Int × Cr)} (ih : ∀ x, x ∈ gs → LatT g O x) {sc now : Bool} (hr : (Cr.mk k nm n ar ps gs al bs pk).Rt sc) (hf : (Cr.mk k nm n ar ps gs al bs pk).Fl now) (hk : k = 1 ∨ k = 2 ∨ k = 3 ∨ k = 4 ∨ k = 5)
    {lv : Lv} {d : Int} (base : Nat) (hlv : LvD lv d) (h0 : 0 ≤ d) (hsc : sc = true → 1 ≤ d) (hb : d + (Cr.mk k nm n ar ps gs al bs pk).bulk ≤ maxD) : Thru base d (latS g O lv d (.mk k nm n ar ps gs al bs pk)) (d + 1) := by
  rw [Cr.bulk] at hb
  cases hr with
  | mk hk1 hh0 hh2 hh1 hv hbn hn g1 g2 g5 g3 g4 =>
  cases hf with
  | mk h6 hl f1 f2 f3 f4 =>
  rename_i inner
  rcases hk with rfl | rfl | rfl | rfl | rfl
  · have h1 := hsc (hv rfl)
    have := findS_le h1 nm hlv
    rw [latS, if_pos rfl]
    exact t_push h0 (by omega) (by omega) (by omega)
  · rw [latS, if_neg (by decide), if_pos rfl]
    exact t_glob h0 (by omega) (globS_nn g O hg hO nm)
  · rw [latS, if_neg (by decide), if_neg (by decide), if_neg (by decide), if_pos rfl]
    exact t_int h0 (by omega)
  · rw [latS, if_neg (by decide), if_neg (by decide), if_pos rfl]
    exact t_glob h0 (by omega) (by have := conIdx_nn g nm; omega)
  · rw [latS, if_neg (by decide), if_neg (by decide), if_neg (by decide), if_neg (by decide), if_pos rfl]
    have hn := hn (by decide) (by decide)
    subst hn
    obtain ⟨a, b, rfl⟩ : ∃ a b, gs = [a, b] := by
      have := hh2 (.inl rfl)
      match gs, this with
      | [a, b], _ => exact ⟨a, b, rfl⟩
    have ba := Cr.bulkL_le (x := a) (l := [a, b]) (by simp)
    have bb := Cr.bulkL_le (x := b) (l := [a, b]) (by simp)
    have pa := a.bulk_pos
    have pb := b.bulk_pos
    have fa := f1 a (by simp)
    have fb := f1 b (by simp)
    rw [show (now && !decide ((5 : Int) = 5)) = false by simp] at fa fb
    simp only [latL, List.getD_cons_succ, List.getD_cons_zero, show d + 1 - 1 = d by omega]
    have bl : a.bulk + b.bulk ≤ Cr.bulkL [a, b] := by simp [Cr.bulkL]
    have tb := ih b (by simp) _ (g1 b (by simp)) fb lv d base hlv h0 hsc (by omega)
    have ta := ih a (by simp) _ (g1 a (by simp)) fa lv (d + 1) (base + (latS g O lv d b).length) (hlv.up (by omega)) (by omega) (fun _ => by omega) (by omega)
    exact (tb.app ta).app (t_apply (by omega) (by omega))
theorem lat_thru : ∀ x : Cr, LatT g O x := by
  intro x
  induction x using Cr.ind with
  | _ k nm n ar ps gs al bs pk ih1 ih2 ih3 ih4 =>
    intro sc hr hf lv d base hlv h0 hsc hb
    have hr' := hr
    have hf' := hf
    have hb' := hb
    rw [Cr.bulk] at hb'
    cases hr' with
    | mk hk1 hh0 hh2 hh1 hv hbn hn g1 g2 g5 g3 g4 =>
    cases hf' with
    | mk h6 hl f1 f2 f3 f4 =>
    rename_i inner
    have hl := hl rfl
    by_cases k9 : k = 9
    · subst k9
      have hn := hn (by decide) (by decide)
      subst hn
      rw [latS, if_neg (by decide), if_neg (by decide), if_neg (by decide), if_neg (by decide), if_neg (by decide), if_pos rfl]
      obtain ⟨a, b, rfl⟩ : ∃ a b, gs = [a, b] := by
        have := hh2 (.inr rfl)
        match gs, this with
        | [a, b], _ => exact ⟨a, b, rfl⟩
      have bl : a.bulk + b.bulk ≤ Cr.bulkL [a, b] := by simp [Cr.bulkL]
      have pa := a.bulk_pos
      have pb := b.bulk_pos
      have fa := f1 a (by simp)
      have fb := f1 b (by simp)
      rw [Bool.false_and] at fa fb
      simp only [latL, List.getD_cons_succ, List.getD_cons_zero, show d + 1 - 1 = d by omega]
      have tb := ih1 b (by simp) _ (g1 b (by simp)) fb lv d base hlv h0 hsc (by omega)
      have ta := ih1 a (by simp) _ (g1 a (by simp)) fa lv (d + 1) (base + (latS g O lv d b).length) (hlv.up (by omega)) (by omega) (fun _ => by omega) (by omega)
      refine (tb.app ta).app ?_
      rw [show [ik 2 (operS g n), ik 4 0, ik 4 0] = [ik 2 (operS g n)] ++ ([ik 4 0] ++ [ik 4 0]) from rfl]
      exact Thru.app (t_glob (by omega) (by omega) (operS_nn g hg n (by have := hh0 rfl; omega))) (Thru.app (t_apply (by omega) (by omega)) (t_apply (by omega) (by omega)))
    by_cases k7 : k = 7
    · subst k7
      rw [latS, if_neg (by decide), if_neg (by decide), if_neg (by decide), if_neg (by decide), if_neg (by decide), if_neg (by decide), if_pos rfl]
      obtain ⟨a, rfl⟩ : ∃ a, gs = [a] := by
        have := hh1 (.inr (.inl rfl))
        match gs, this with
        | [a], _ => exact ⟨a, rfl⟩
      have hne := hbn rfl
      have hlen : 1 ≤ bs.length := List.length_pos_iff.2 hne
      have hlb := Cr.lenB bs
      have bl : a.bulk ≤ Cr.bulkL [a] := by simp [Cr.bulkL]
      have pa := a.bulk_pos
      have fa := f1 a (by simp)
      rw [Bool.false_and] at fa
      have tb := bind_thru g O (lv := lv) ih3 g3 f3 base hlv h0 hne (by omega)
      have hw := hlv.with1 h0 (bs.map (·.1))
      rw [List.length_map] at hw
      have ta := ih1 a (by simp) _ (g1 a (by simp)) fa (withS lv (bs.map (·.1)) d 1) (d + bs.length) (base + (bindS g O lv d bs).length) hw (by omega) (fun _ => by omega) (by omega)
      simp only [latL, List.getD_cons_zero]
      have tc := tb.app ta
      rw [show d + (bs.length : Int) + 1 = (d + 1) + bs.length by omega] at tc
      exact tc.app (t_slide (by omega) (by omega) (by omega))
    exact lat_four g O hg hO ih1 hr hf (by omega) base hlv h0 hsc hb
end
end Go.AL
/- The depths of values, and of whole codes. -/
set_option linter.unusedVariables false
set_option linter.unusedSimpArgs false
namespace Go.AL
/-- Where a value leads: on, one deeper; at the end of a code nowhere. -/
def Out (last : Bool) (e : Nat) (d : Int) : Tgt := fun j d' => last = false ∧ j = e ∧ d' = d
theorem Out.no {e : Nat} {d : Int} {j : Nat} {d' : Int} {p : Prop} (h : Out true e d j d') : p := by cases h.1
theorem Out.thru {base : Nat} {d d' : Int} {ops : List Ins} (h : Seg base (At base d) ops (Out false (base + ops.length) d')) : Thru base d ops d' := h.mono (fun _ _ h => h) fun j d h _ => h.2
theorem Thru.out {base : Nat} {d d' : Int} {ops : List Ins} (h : Thru base d ops d') : Seg base (At base d) ops (Out false (base + ops.length) d') := h.mono (fun _ _ h => h) fun j d h _ => ⟨rfl, h⟩
/-- What runs through, and then ends or goes on. -/
theorem fin_seg {base : Nat} {d d1 : Int} {ops r : List Ins} {last : Bool} (h : Thru base d ops (d1 + 1)) (h0 : 0 ≤ d1) (h1 : d1 + 1 ≤ maxD) (hr : last = false → Thru (base + ops.length) (d1 + 1) r (d1 + 1)) : Seg base (At base d) (ops ++ if last then endS d1 else r) (Out last (base + (ops ++ if last then endS d1 else r).length) (d1 + 1)) := by
  cases last with
  | true => exact Thru.then h (end_seg h0 h1 _)
  | false => exact (h.app (hr rfl)).out
theorem thru_nil (base : Nat) (d : Int) : Thru base d [] d := Seg.nil fun j d' h => ⟨by simpa [At] using h, by rw [h.1]; exact Nat.le_refl _⟩
section
variable (g : Gl) (O : ByteArray → Int)
/-- What makes a value leads on with it. -/
def ValT (x : Cr) : Prop := ∀ (sc : Bool), x.Rt sc → x.Fl true → ∀ (lv : Lv) (d : Int) (last : Bool) (base : Nat), LvD lv d → 0 ≤ d → (sc = true → 1 ≤ d) → d + x.bulk ≤ maxD → Seg base (At base d) (valS g O lv d last base x) (Out last (base + (valS g O lv d last base x).length) (d + 1))
/-- The heads of alternatives. -/
noncomputable def headA (lv : Lv) (d : Int) (last : Bool) (base : Nat) : List (AltH × Cr) → List Nat
  | [] => []
  | a :: r => base :: headA lv d last (base + (partA g O lv d last base 0 a).length) r
noncomputable def headP (lv : Lv) (d : Int) (last : Bool) (base : Nat) : List (Int × Cr) → List Nat
  | [] => []
  | a :: r => base :: headP lv d last (base + (partP g O lv d last base 0 a.2).length) r
theorem headA_le (lv : Lv) (d : Int) (last : Bool) : ∀ (l : List (AltH × Cr)) (base : Nat), ∀ j, j ∈ headA g O lv d last base l → base ≤ j
  | [], base, j, h => by simp [headA] at h
  | a :: r, base, j, h => by
    rw [headA] at h
    rcases List.mem_cons.1 h with rfl | h
    · exact Nat.le_refl _
    · have := headA_le lv d last r _ j h; omega
theorem headP_le (lv : Lv) (d : Int) (last : Bool) : ∀ (l : List (Int × Cr)) (base : Nat), ∀ j, j ∈ headP g O lv d last base l → base ≤ j
  | [], base, j, h => by simp [headP] at h
  | a :: r, base, j, h => by
    rw [headP] at h
    rcases List.mem_cons.1 h with rfl | h
    · exact Nat.le_refl _
    · have := headP_le lv d last r _ j h; omega
theorem altJ_head (lv : Lv) (d : Int) (last : Bool) : ∀ (l : List (AltH × Cr)) (base : Nat), ∀ p, p ∈ altJ g O lv d last base l → ∃ j, j ∈ headA g O lv d last base l ∧ p.2 = (j : Int)
  | [], base, p, h => by simp [altJ] at h
  | a :: r, base, p, h => by
    rw [altJ_cons] at h
    rw [headA]
    rcases List.mem_append.1 h with h | h
    · refine ⟨base, by simp, ?_⟩
      split at h
      · simp only [List.mem_singleton] at h; rw [h]
      · split at h
        · simp only [List.mem_singleton] at h; rw [h]
        · simp at h
    · obtain ⟨j, h1, h2⟩ := altJ_head lv d last r _ p h
      exact ⟨j, List.mem_cons_of_mem _ h1, h2⟩
theorem altK_head (lv : Lv) (d : Int) (last : Bool) : ∀ (l : List (AltH × Cr)) (base : Nat) (K : Int), altK g O lv d last base K l = K ∨ ∃ j, j ∈ headA g O lv d last base l ∧ altK g O lv d last base K l = (j : Int)
  | [], base, K => by rw [altK]; exact .inl rfl
  | a :: r, base, K => by
    rw [altK_cons, headA]
    rcases altK_head lv d last r (base + (partA g O lv d last base 0 a).length) (if a.1.k = 1 ∨ a.1.k = 2 then K else (base : Int)) with h | ⟨j, h1, h2⟩
    · rw [h]
      split
      · exact .inl rfl
      · exact .inr ⟨base, by simp, rfl⟩
    · exact .inr ⟨j, List.mem_cons_of_mem _ h1, h2⟩
theorem pickJ_head (lv : Lv) (d : Int) (last : Bool) : ∀ (l : List (Int × Cr)) (base : Nat), ∀ p, p ∈ pickJ g O lv d last base l → ∃ j, j ∈ headP g O lv d last base l ∧ p.2 = (j : Int)
  | [], base, p, h => by simp [pickJ] at h
  | a :: r, base, p, h => by
    rw [pickJ_cons] at h
    rw [headP]
    rcases List.mem_cons.1 h with rfl | h
    · exact ⟨base, by simp, rfl⟩
    · obtain ⟨j, h1, h2⟩ := pickJ_head lv d last r _ p h
      exact ⟨j, List.mem_cons_of_mem _ h1, h2⟩
theorem altS_le (lv : Lv) (d : Int) (last : Bool) (e : Nat) : ∀ (l : List (AltH × Cr)) (b : Nat), (altS g O lv d last b e l).length = (altS g O lv d last b 0 l).length
  | [], b => by rw [altS, altS]
  | a :: r, b => by rw [altS_cons, altS_cons, List.length_append, List.length_append, altS_le lv d last e r, partA_len]; rfl
theorem pickS_le (lv : Lv) (d : Int) (last : Bool) (e : Nat) : ∀ (l : List (Int × Cr)) (b : Nat), (pickS g O lv d last b e l).length = (pickS g O lv d last b 0 l).length
  | [], b => by rw [pickS, pickS]
  | a :: r, b => by rw [pickS_cons, pickS_cons, List.length_append, List.length_append, pickS_le lv d last e r, show (partP g O lv d last b (e : Int) a.2).length = (partP g O lv d last b ((0 : Nat) : Int) a.2).length by rw [partP_len, partP_len]]
/-- The jump to the end. -/
theorem jump_seg {base e : Nat} {d : Int} (h0 : 0 ≤ d) (h1 : d ≤ maxD) (he : base + 1 ≤ e) : Seg base (At base d) [ik 15 (e : Int)] (Out false e d) :=
  Seg.one h0 h1 h1 ⟨.jump, by simp [ik], by simp [ik], by simp [ik], fun _ => ⟨e, rfl, by omega, ⟨rfl, rfl, rfl⟩, he⟩, by simp [ik]⟩
/-- One alternative. -/
theorem partA_seg {a : AltH × Cr} (ih : ValT g O a.2) {sc : Bool} (hr : a.2.Rt (sc || !a.1.ps.isEmpty)) (hq : a.1.k = 1 ∨ a.1.ps = []) (hf : a.2.Fl true) {lv : Lv} {d : Int} (last : Bool) (base e : Nat) (hlv : LvD lv d) (h0 : 0 ≤ d) (hsc : sc = true → 1 ≤ d) (hb : d + a.1.ps.length + a.2.bulk ≤ maxD)
    (he : last = false → base + (partA g O lv d last base e a).length ≤ e) : Seg base (At base (d + 1)) (partA g O lv d last base e a) (Out last e (d + 1)) := by
  have hp := a.2.bulk_pos
  have hw := hlv.with2 h0 a.1.ps
  have hsc' : (sc || !a.1.ps.isEmpty) = true → 1 ≤ d + (a.1.ps.length : Int) := by
    intro h
    rw [Bool.or_eq_true] at h
    rcases h with h | h
    · have := hsc h; omega
    · have : a.1.ps ≠ [] := by simpa using h
      have := List.length_pos_iff.2 this
      omega
  have hv := ih _ hr hf (withS lv a.1.ps (d + a.1.ps.length - 1) (-1)) (d + a.1.ps.length) last (base + 1) hw (by omega) hsc' hb
  have hhead : Thru base (d + 1) [if a.1.k = 1 then ik 12 a.1.ps.length else ik 6 1] (d + a.1.ps.length) := by
    by_cases hk : a.1.k = 1
    · rw [if_pos hk]
      exact t_split h0 (by omega) (by omega) (by omega)
    · rw [if_neg hk]
      have : a.1.ps = [] := by rcases hq with h | h; exact absurd h hk; exact h
      rw [this]
      simp only [List.length_nil, Int.natCast_zero, Int.add_zero]
      exact t_pop1 h0 (by omega)
  unfold partA at he ⊢
  generalize hV : valS g O (withS lv a.1.ps (d + a.1.ps.length - 1) (-1)) (d + a.1.ps.length) last (base + 1) a.2 = V at hv he ⊢
  rw [show ∀ (q : Ins) (l : List Ins), q :: l = [q] ++ l from fun _ _ => rfl] at he ⊢
  cases last with
  | true =>
    simp only [reduceCtorEq, and_false, if_false, if_true, List.append_nil]
    exact Thru.then hhead (hv.mono (fun _ _ h => h) fun j d h _ => Out.no h)
  | false =>
    have he := he rfl
    simp only [and_true, Bool.false_eq_true, if_false] at he ⊢
    have tv : Thru (base + 1) (d + a.1.ps.length) V (d + a.1.ps.length + 1) := Out.thru hv
    by_cases hk : a.1.k = 1
    · simp only [if_pos hk] at he hhead ⊢
      have t1 := hhead.app tv
      rw [show d + (a.1.ps.length : Int) + 1 = (d + 1) + a.1.ps.length by omega] at t1
      have t2 := t1.app (t_slide (k := (a.1.ps.length : Int)) (d := d + 1) (by omega) (by omega) (by omega))
      refine Thru.then t2 (jump_seg (by omega) (by omega) ?_)
      simp only [List.length_append, List.length_cons, List.length_nil] at he ⊢
      omega
    · simp only [if_neg hk, List.append_nil] at he hhead ⊢
      have hps : a.1.ps = [] := by rcases hq with h | h; exact absurd h hk; exact h
      have t1 := hhead.app tv
      rw [hps] at t1
      simp only [List.length_nil, Int.natCast_zero, Int.add_zero] at t1
      refine Thru.then t1 (jump_seg (by omega) (by omega) ?_)
      simp only [List.length_append, List.length_cons, List.length_nil] at he ⊢
      omega
theorem altS_seg {sc : Bool} {lv : Lv} {d : Int} (last : Bool) (hlv : LvD lv d) (h0 : 0 ≤ d) (hsc : sc = true → 1 ≤ d) (e : Nat) : ∀ (al : List (AltH × Cr)), (∀ x, x ∈ al → ValT g O x.2) → (∀ x, x ∈ al → x.2.Rt (sc || !x.1.ps.isEmpty)) → (∀ x, x ∈ al → x.1.k = 1 ∨ x.1.ps = []) → (∀ x, x ∈ al → x.2.Fl true) →
    (d + Cr.bulkA al ≤ maxD) → ∀ base, base + (altS g O lv d last base e al).length ≤ e → Seg base (fun j d' => j ∈ headA g O lv d last base al ∧ d' = d + 1) (altS g O lv d last base e al) (Out last e (d + 1))
  | [], _, _, _, _, _, base, _ => by rw [altS]; exact Seg.nil fun j d h => by simp [headA] at h
  | a :: r, ih, hr, hq, hf, hb, base, he => by
    rw [altS_cons, List.length_append] at he
    rw [altS_cons]
    have hl := partA_len g O lv d last base e a
    have hba : a.1.ps.length + a.2.bulk + Cr.bulkA r ≤ Cr.bulkA (a :: r) := by obtain ⟨x, y⟩ := a; rw [Cr.bulkA]; dsimp only; omega
    have s1 := partA_seg g O (ih a (by simp)) (hr a (by simp)) (hq a (by simp)) (hf a (by simp)) last base e hlv h0 hsc (by omega) (fun _ => by omega)
    have s2 := altS_seg last hlv h0 hsc e r (fun x hx => ih x (List.mem_cons_of_mem _ hx)) (fun x hx => hr x (List.mem_cons_of_mem _ hx)) (fun x hx => hq x (List.mem_cons_of_mem _ hx)) (fun x hx => hf x (List.mem_cons_of_mem _ hx)) (by omega) (base + (partA g O lv d last base 0 a).length) (by omega)
    rw [← hl] at s2 he ⊢
    refine Seg.app s1 s2 (fun j d' h => ?_) (fun j d' h hj => .inr ⟨h, ?_⟩) fun j d' h _ => h
    · obtain ⟨h, hd⟩ := h
      rw [headA, ← hl] at h
      rcases List.mem_cons.1 h with rfl | h
      · exact .inl ⟨rfl, hd⟩
      · exact .inr ⟨h, hd⟩
    · have := h.2.1; omega
/-- One choice. -/
theorem partP_seg {x : Cr} (ih : ValT g O x) {sc : Bool} (hr : x.Rt sc) (hf : x.Fl true) {lv : Lv} {d : Int} (last : Bool) (base e : Nat) (hlv : LvD lv d) (h0 : 0 ≤ d) (hsc : sc = true → 1 ≤ d) (hb : d + x.bulk ≤ maxD)
    (he : last = false → base + (partP g O lv d last base e x).length ≤ e) : Seg base (At base d) (partP g O lv d last base e x) (Out last e (d + 1)) := by
  have hp := x.bulk_pos
  have hv := ih _ hr hf lv d last base hlv h0 hsc hb
  unfold partP at he ⊢
  cases last with
  | true =>
    simp only [if_true, List.append_nil]
    exact hv.mono (fun _ _ h => h) fun j d h _ => Out.no h
  | false =>
    have he := he rfl
    simp only [Bool.false_eq_true, if_false] at he ⊢
    refine Thru.then (Out.thru hv) (jump_seg (by omega) (by omega) ?_)
    simp only [List.length_append, List.length_cons, List.length_nil] at he
    omega
theorem pickS_seg {sc : Bool} {lv : Lv} {d : Int} (last : Bool) (hlv : LvD lv d) (h0 : 0 ≤ d) (hsc : sc = true → 1 ≤ d) (e : Nat) : ∀ (pk : List (Int × Cr)), (∀ x, x ∈ pk → ValT g O x.2) → (∀ x, x ∈ pk → x.2.Rt sc) → (∀ x, x ∈ pk → x.2.Fl true) →
    (d + Cr.bulkP pk ≤ maxD) → ∀ base, base + (pickS g O lv d last base e pk).length ≤ e → Seg base (fun j d' => j ∈ headP g O lv d last base pk ∧ d' = d) (pickS g O lv d last base e pk) (Out last e (d + 1))
  | [], _, _, _, _, base, _ => by rw [pickS]; exact Seg.nil fun j d h => by simp [headP] at h
  | a :: r, ih, hr, hf, hb, base, he => by
    rw [pickS_cons, List.length_append] at he
    rw [pickS_cons]
    have hl : (partP g O lv d last base e a.2).length = (partP g O lv d last base 0 a.2).length := by rw [partP_len, partP_len]
    have hba : a.2.bulk + Cr.bulkP r ≤ Cr.bulkP (a :: r) := by obtain ⟨x, y⟩ := a; rw [Cr.bulkP]; dsimp only; omega
    have s1 := partP_seg g O (ih a (by simp)) (hr a (by simp)) (hf a (by simp)) last base e hlv h0 hsc (by omega) (fun _ => by omega)
    have s2 := pickS_seg last hlv h0 hsc e r (fun x hx => ih x (List.mem_cons_of_mem _ hx)) (fun x hx => hr x (List.mem_cons_of_mem _ hx)) (fun x hx => hf x (List.mem_cons_of_mem _ hx)) (by omega) (base + (partP g O lv d last base 0 a.2).length) (by omega)
    rw [← hl] at s2 he ⊢
    refine Seg.app s1 s2 (fun j d' h => ?_) (fun j d' h hj => .inr ⟨h, ?_⟩) fun j d' h _ => h
    · obtain ⟨h, hd⟩ := h
      rw [headP, ← hl] at h
      rcases List.mem_cons.1 h with rfl | h
      · exact .inl ⟨rfl, hd⟩
      · exact .inr ⟨h, hd⟩
    · have := h.2.1; omega
variable (hg : g.con ≠ []) (hO : ∀ s, 0 ≤ O s)
include hg hO
theorem val_seg : ∀ x : Cr, ValT g O x := by
  intro x
  induction x using Cr.ind with
  | _ k nm n ar ps gs al bs pk ih1 ih2 ih3 ih4 =>
    intro sc hr hf lv d last base hlv h0 hsc hb
    have hr' := hr
    have hf' := hf
    have hb' := hb
    rw [Cr.bulk] at hb'
    cases hr' with
    | mk hk1 hh0 hh2 hh1 hv hbn hn g1 g2 g5 g3 g4 =>
    cases hf' with
    | mk h6 hl f1 f2 f3 f4 =>
    rename_i inner
    by_cases k9 : k = 9
    · subst k9
      have hn := hn (by decide) (by decide)
      subst hn
      rw [valS, if_pos rfl]
      obtain ⟨a, b, rfl⟩ : ∃ a b, gs = [a, b] := by
        have := hh2 (.inr rfl)
        match gs, this with
        | [a, b], _ => exact ⟨a, b, rfl⟩
      have bl : a.bulk + b.bulk ≤ Cr.bulkL [a, b] := by simp [Cr.bulkL]
      have pa := a.bulk_pos
      have pb := b.bulk_pos
      have fa := f1 a (by simp)
      have fb := f1 b (by simp)
      rw [show (true && !decide ((9 : Int) = 5)) = true by simp] at fa fb
      simp only [valL, List.flatten_cons, List.flatten_nil, List.append_nil]
      have ta := Out.thru (ih1 a (by simp) _ (g1 a (by simp)) fa lv d false base hlv h0 hsc (by omega))
      have tb := Out.thru (ih1 b (by simp) _ (g1 b (by simp)) fb lv (d + 1) false (base + (valS g O lv d false base a).length) (hlv.up (by omega)) (by omega) (fun _ => by omega) (by omega))
      exact fin_seg ((ta.app tb).app (t_prim (by omega) (by omega))) h0 (by omega) (fun _ => thru_nil _ _)
    by_cases k7 : k = 7
    · subst k7
      rw [valS, if_neg (by decide), if_pos rfl]
      obtain ⟨a, rfl⟩ : ∃ a, gs = [a] := by
        have := hh1 (.inr (.inl rfl))
        match gs, this with
        | [a], _ => exact ⟨a, rfl⟩
      have hne := hbn rfl
      have hlen : 1 ≤ bs.length := List.length_pos_iff.2 hne
      have hlb := Cr.lenB bs
      have bl : a.bulk ≤ Cr.bulkL [a] := by simp [Cr.bulkL]
      have pa := a.bulk_pos
      have fa := f1 a (by simp)
      rw [show (true && !decide ((7 : Int) = 5)) = true by simp] at fa
      have tb := bind_thru g O (lv := lv) (fun x hx => lat_thru g O hg hO x.2) g3 f3 base hlv h0 hne (by omega)
      have hw := hlv.with1 h0 (bs.map (·.1))
      rw [List.length_map] at hw
      have ta := ih1 a (by simp) _ (g1 a (by simp)) fa (withS lv (bs.map (·.1)) d 1) (d + bs.length) last (base + (bindS g O lv d bs).length) hw (by omega) (fun _ => by omega) (by omega)
      simp only [valL, List.flatten_cons, List.flatten_nil, List.append_nil]
      generalize hV : valS g O (withS lv (bs.map (·.1)) d 1) (d + bs.length) last (base + (bindS g O lv d bs).length) a = V at ta ⊢
      cases last with
      | true =>
        simp only [if_true, List.append_nil]
        exact Thru.then tb (ta.mono (fun _ _ h => h) fun j d h _ => Out.no h)
      | false =>
        simp only [Bool.false_eq_true, if_false]
        have tc := tb.app (Out.thru ta)
        rw [show d + (bs.length : Int) + 1 = (d + 1) + bs.length by omega] at tc
        exact (tc.app (t_slide (by omega) (by omega) (by omega))).out
    by_cases k8 : k = 8
    · subst k8
      have hn := hn (by decide) (by decide)
      subst hn
      rw [valS, if_neg (by decide), if_neg (by decide), if_pos rfl]
      obtain ⟨a, rfl⟩ : ∃ a, gs = [a] := by
        have := hh1 (.inr (.inr (.inl rfl)))
        match gs, this with
        | [a], _ => exact ⟨a, rfl⟩
      have bl : a.bulk ≤ Cr.bulkL [a] := by simp [Cr.bulkL]
      have pa := a.bulk_pos
      have fa := f1 a (by simp)
      rw [show (true && !decide ((8 : Int) = 5)) = true by simp] at fa
      simp only [valL, List.flatten_cons, List.flatten_nil, List.append_nil]
      have ta := Out.thru (ih1 a (by simp) _ (g1 a (by simp)) fa lv d false base hlv h0 hsc (by omega))
      generalize hV : valS g O lv d false base a = V at ta ⊢
      have hAl := fun e b => altS_le g O lv d last e al b
      have s2 := altS_seg g O (sc := inner) last hlv h0 hsc (base + V.length + 1 + (altS g O lv d last (base + V.length + 1) 0 al).length) al ih2 g2 g5 f2 (by omega) (base + V.length + 1) (by rw [hAl]; omega)
      generalize he : base + V.length + 1 + (altS g O lv d last (base + V.length + 1) 0 al).length = e at s2 ⊢
      have s1 : Seg (base + V.length) (At (base + V.length) (d + 1)) [⟨13, altK g O lv d last (base + V.length + 1) (-1) al, 0, altJ g O lv d last (base + V.length + 1) al⟩] (fun j d' => j ∈ headA g O lv d last (base + V.length + 1) al ∧ d' = d + 1) := by
        refine Seg.one (by omega) (by omega) (show d + 1 ≤ maxD by omega) ⟨.case (by omega), fun p hp => ?_, by simp, fun _ hk => ?_, by simp, by simp⟩
        · obtain ⟨j, hj, e⟩ := altJ_head g O lv d last al _ p hp
          have := headA_le g O lv d last al _ j hj
          refine ⟨j, e, by omega, ?_⟩
          exact ⟨⟨hj, rfl⟩, by omega⟩
        · rcases altK_head g O lv d last al (base + V.length + 1) (-1) with e | ⟨j, hj, e⟩
          · simp only [e] at hk; omega
          · have := headA_le g O lv d last al _ j hj
            refine ⟨j, e, by omega, ?_⟩
            exact ⟨⟨hj, rfl⟩, by omega⟩
      rw [List.append_assoc]
      have s3 := Seg.app s1 s2 (E := At (base + V.length) (d + 1)) (T := Out last e (d + 1)) (fun j d h => .inl h) (fun j d h _ => .inl h) fun j d h _ => h
      have s4 := Thru.then ta s3
      have hlen : base + (V ++ ([(⟨13, altK g O lv d last (base + V.length + 1) (-1) al, 0, altJ g O lv d last (base + V.length + 1) al⟩ : Ins)] ++ altS g O lv d last (base + V.length + 1) e al)).length = e := by
        rw [List.length_append, List.length_append, hAl]; simp; omega
      rw [hlen]
      exact s4
    by_cases k11 : k = 11
    · subst k11
      have hn := hn (by decide) (by decide)
      subst hn
      rw [valS, if_neg (by decide), if_neg (by decide), if_neg (by decide), if_pos rfl]
      obtain ⟨a, rfl⟩ : ∃ a, gs = [a] := by
        have := hh1 (.inr (.inr (.inr rfl)))
        match gs, this with
        | [a], _ => exact ⟨a, rfl⟩
      have bl : a.bulk ≤ Cr.bulkL [a] := by simp [Cr.bulkL]
      have pa := a.bulk_pos
      have fa := f1 a (by simp)
      rw [show (true && !decide ((11 : Int) = 5)) = true by simp] at fa
      simp only [valL, List.flatten_cons, List.flatten_nil, List.append_nil]
      have hPl := fun e b => pickS_le g O lv d last e pk b
      have hpl := partP_len g O lv d last (base + 1) 0 a
      have hb2 : base + 1 + (valS g O lv d last (base + 1) a).length + (if last then 0 else 1) = base + 1 + (partP g O lv d last (base + 1) 0 a).length := by rw [hpl]; omega
      rw [hb2]
      have s2 := pickS_seg g O (sc := inner) last hlv h0 hsc (base + 1 + (partP g O lv d last (base + 1) 0 a).length + (pickS g O lv d last (base + 1 + (partP g O lv d last (base + 1) 0 a).length) 0 pk).length) pk ih4 g4 f4 (by omega) (base + 1 + (partP g O lv d last (base + 1) 0 a).length) (by rw [hPl]; exact Nat.le_refl _)
      generalize hE : base + 1 + (partP g O lv d last (base + 1) 0 a).length + (pickS g O lv d last (base + 1 + (partP g O lv d last (base + 1) 0 a).length) 0 pk).length = e at s2 ⊢
      have hpe : ∀ e' : Int, (partP g O lv d last (base + 1) e' a).length = (partP g O lv d last (base + 1) 0 a).length := fun e' => by rw [partP_len, partP_len]
      have s1 := partP_seg g O (ih1 a (by simp)) (g1 a (by simp)) fa last (base + 1) e hlv h0 hsc (by omega) (fun _ => by rw [hpe]; omega)
      rw [show valS g O lv d last (base + 1) a ++ (if last then [] else [ik 15 ((e : Nat) : Int)]) = partP g O lv d last (base + 1) e a from rfl]
      have h1 : Seg base (At base d) [⟨14, ((base + 1 : Nat) : Int), 0, pickJ g O lv d last (base + 1 + (partP g O lv d last (base + 1) 0 a).length) pk⟩] (fun j d' => d' = d ∧ (j = base + 1 ∨ j ∈ headP g O lv d last (base + 1 + (partP g O lv d last (base + 1) 0 a).length) pk)) := by
        refine Seg.one h0 (by omega) (show d ≤ maxD by omega) ⟨.pick, fun p hp => ?_, by simp, by simp, fun _ => ⟨base + 1, rfl, by omega, ⟨rfl, .inl rfl⟩, Nat.le_refl _⟩, by simp⟩
        obtain ⟨j, hj, e⟩ := pickJ_head g O lv d last pk _ p hp
        have := headP_le g O lv d last pk _ j hj
        refine ⟨j, e, by omega, ?_⟩
        exact ⟨⟨rfl, .inr hj⟩, by omega⟩
      rw [← hpe e] at s2 h1 hE ⊢
      have s3 := Seg.app s1 s2 (E := fun j d' => d' = d ∧ (j = base + 1 ∨ j ∈ headP g O lv d last (base + 1 + (partP g O lv d last (base + 1) e a).length) pk)) (T := Out last e (d + 1)) (fun j d' h => by
        obtain ⟨h1, h | h⟩ := h
        · exact .inl ⟨h, h1⟩
        · exact .inr ⟨h, h1⟩) (fun j d' h _ => .inr ⟨h, by have := h.2.1; rw [hPl]; omega⟩) fun j d' h _ => h
      have s4 := Seg.app h1 s3 (E := At base d) (T := Out last e (d + 1)) (fun j d' h => .inl h) (fun j d' h _ => .inl h) fun j d' h _ => h
      rw [List.append_assoc]
      have hlen : base + ([(⟨14, ((base + 1 : Nat) : Int), 0, pickJ g O lv d last (base + 1 + (partP g O lv d last (base + 1) e a).length) pk⟩ : Ins)] ++ (partP g O lv d last (base + 1) e a ++ pickS g O lv d last (base + 1 + (partP g O lv d last (base + 1) e a).length) e pk)).length = e := by
        rw [List.length_append, List.length_append, hPl]; simp; omega
      rw [hlen]
      exact s4
    by_cases k10 : k = 10
    · subst k10
      rw [valS, if_neg (by decide), if_neg (by decide), if_neg (by decide), if_neg (by decide), if_pos rfl]
      exact Seg.one (d' := d) h0 (by omega) (by omega) ⟨.fail, by simp [ik], by simp [ik], by simp [ik], by simp [ik], by simp [ik]⟩
    by_cases k3 : k = 3
    · subst k3
      rw [valS, if_neg (by decide), if_neg (by decide), if_neg (by decide), if_neg (by decide), if_neg (by decide), if_pos rfl]
      exact fin_seg (t_int h0 (by omega)) h0 (by omega) (fun _ => thru_nil _ _)
    · rw [valS, if_neg k9, if_neg k7, if_neg k8, if_neg k11, if_neg k10, if_neg k3]
      exact fin_seg (lat_four g O hg hO (fun x _ => lat_thru g O hg hO x) hr hf (by omega) base hlv h0 hsc hb) h0 (by omega) (fun _ => t_eval (by omega) (by omega))
end
/-! ### Whole codes -/
theorem super_cert (g : Gl) (hg : g.con ≠ []) (p : Sup) (hr : p.bd.Rt (inS p.ps)) (hf : p.bd.Fl true) (hb : p.ps.length + p.bd.bulk ≤ 1000000000) : Cert (superS g p).ar (superS g p).ops := by
  have hw : LvD (withS [] p.ps ((p.ps.length : Int) - 1) (-1)) p.ps.length := by
    have := LvD.with2 (lv := []) (d := 0) (by intro p hp; simp at hp) (Int.le_refl _) p.ps
    simpa using this
  have := val_seg g opS hg (fun s => (opS_bd s).1) p.bd (inS p.ps) hr hf (withS [] p.ps ((p.ps.length : Int) - 1) (-1)) p.ps.length true 0 hw (by omega) (fun h => by
    have : p.ps ≠ [] := by intro e; rw [e] at h; simp [inS] at h
    have := List.length_pos_iff.2 this
    omega) (by simp only [maxD]; omega)
  exact Seg.cert (this.mono (fun _ _ h => h) fun j d h _ => Out.no h)
theorem con_cert (k : Nat) (c : ByteArray × Nat) (h : c.2 ≤ 100000000) : Cert (conS k c).ar (conS k c).ops := by
  have t : Thru 0 (c.2 : Int) [⟨11, c.2, k, []⟩] (0 + 1) := by
    have := Aft.pack (k := (c.2 : Int)) (n := (k : Int)) (d := c.2) (js := []) (by omega) (Int.le_refl _)
    rw [show (c.2 : Int) - c.2 + 1 = 0 + 1 by omega] at this
    exact .one (by omega) (by simp only [maxD]; omega) (by simp [maxD]) ⟨rfl, by simp, by simp, by simp, by simp, by simp⟩ this
  exact Seg.cert (Thru.then t (end_seg (Int.le_refl _) (by simp [maxD]) _))
theorem op_cert (op : Int) : Cert (opS' op).ar (opS' op).ops := by
  have m : ∀ d : Int, d ≤ 10 → d ≤ maxD := fun d h => by simp only [maxD]; omega
  have t1 : Thru 0 2 [ik 1 0] 3 := t_push (by omega) (m _ (by omega)) (by omega) (by omega)
  have t2 : Thru 1 3 [ik 9 0] 3 := t_eval (by omega) (m _ (by omega))
  have t3 : Thru 2 3 [ik 1 2] 4 := t_push (by omega) (m _ (by omega)) (by omega) (by omega)
  have t4 : Thru 3 4 [ik 9 0] 4 := t_eval (by omega) (m _ (by omega))
  have t5 : Thru 4 (3 + 1) [⟨16, 0, op, []⟩] 3 := t_prim (by omega) (m _ (by omega))
  have t := (((t1.app t2).app t3).app t4).app t5
  exact Seg.cert (Thru.then (show Thru 0 2 [ik 1 0, ik 9 0, ik 1 2, ik 9 0, ⟨16, 0, op, []⟩] (2 + 1) from t) (end_seg (by omega) (m _ (by omega)) _))
end Go.AL
/- What the law asks of a code: the depth behind an instruction; a place is reached. -/
set_option linter.unusedVariables false
set_option linter.unusedSimpArgs false
namespace Go.Proofs.Ytjjbjibbjbbeaaa
open Go.AL
theorem cln_ib {n : Nat} (d : Int) (b : Bool) : Cln n (.tuple [.int .i64 d, .bool b]) := by
  refine .tuple' fun c hc => ?_
  simp only [List.mem_cons, List.not_mem_nil, or_false] at hc
  rcases hc with rfl | rfl
  · exact .int _ _
  · exact .bool _
set_option maxHeartbeats 1000000 in
theorem after_ok {o : Ins} {d d' : Int} (h : Aft o d d') (h0 : 0 ≤ d) (h1 : d ≤ maxD) (h2 : d' ≤ maxD) (σ : Store) : ACalls Try.prog 61 [.agg (insC o), .int .i64 d] σ fun r s => r = .tuple [.int .i64 d', .bool true] ∧ s = σ := by
  refine ACalls_fp (p := fun r => r = .tuple [.int .i64 d', .bool true]) ?_
  refine in61 (by simp) ?_
  unfold c61
  simp only [maxD] at h1 h2
  have w1 : IntKind.i64.wrap (d + 1) = d + 1 := wrap_of (by omega) (by omega)
  have w2 : IntKind.i64.wrap (d - 1) = d - 1 := wrap_of (by omega) (by omega)
  cases h with
  | push a b =>
    rename_i k n js
    refine raw ?_
    repeat (first | (with_reducible refine unr ?_; try simp only [ZZ, ↓reduceIte, Nat.reduceEqDiff, Nat.reduceAdd, Nat.reduceLeDiff, reduceCtorEq, Int.reduceEq, Int.reduceLT, Int.reduceLE, Int.reduceNeg, Int.reduceAdd, Int.reduceSub, Int.reduceToNat, insC, w1, a, b]) | (with_reducible first | refine W1 ?_ | refine W2 ?_ | refine W3 ?_ | refine W4 ?_ | refine W5 ?_ | refine W6 ?_ | refine W7 ?_ | refine W8 ?_ | refine W9 ?_))
    exact FP.same (.pushed _ _) rfl (cln_ib _ _)
  | glob a =>
    refine raw ?_
    repeat (first | (with_reducible refine unr ?_; try simp only [ZZ, ↓reduceIte, Nat.reduceEqDiff, Nat.reduceAdd, Nat.reduceLeDiff, reduceCtorEq, Int.reduceEq, Int.reduceLT, Int.reduceLE, Int.reduceNeg, Int.reduceAdd, Int.reduceSub, Int.reduceToNat, insC, w1, a]) | (with_reducible first | refine W1 ?_ | refine W2 ?_ | refine W3 ?_ | refine W4 ?_ | refine W5 ?_ | refine W6 ?_ | refine W7 ?_ | refine W8 ?_ | refine W9 ?_))
    exact FP.same (.pushed _ _) rfl (cln_ib _ _)
  | int a =>
    refine raw ?_
    repeat (first | (with_reducible refine unr ?_; try simp only [ZZ, ↓reduceIte, Nat.reduceEqDiff, Nat.reduceAdd, Nat.reduceLeDiff, reduceCtorEq, Int.reduceEq, Int.reduceLT, Int.reduceLE, Int.reduceNeg, Int.reduceAdd, Int.reduceSub, Int.reduceToNat, insC, w1, a]) | (with_reducible first | refine W1 ?_ | refine W2 ?_ | refine W3 ?_ | refine W4 ?_ | refine W5 ?_ | refine W6 ?_ | refine W7 ?_ | refine W8 ?_ | refine W9 ?_))
    exact FP.same (.pushed _ _) rfl (cln_ib _ _)
  | apply a =>
    refine raw ?_
    repeat (first | (with_reducible refine unr ?_; try simp only [ZZ, ↓reduceIte, Nat.reduceEqDiff, Nat.reduceAdd, Nat.reduceLeDiff, reduceCtorEq, Int.reduceEq, Int.reduceLT, Int.reduceLE, Int.reduceNeg, Int.reduceAdd, Int.reduceSub, Int.reduceToNat, insC, w2, a]) | (with_reducible first | refine W1 ?_ | refine W2 ?_ | refine W3 ?_ | refine W4 ?_ | refine W5 ?_ | refine W6 ?_ | refine W7 ?_ | refine W8 ?_ | refine W9 ?_))
    exact FP.same (.pushed _ _) rfl (cln_ib _ _)
  | prim a =>
    refine raw ?_
    repeat (first | (with_reducible refine unr ?_; try simp only [ZZ, ↓reduceIte, Nat.reduceEqDiff, Nat.reduceAdd, Nat.reduceLeDiff, reduceCtorEq, Int.reduceEq, Int.reduceLT, Int.reduceLE, Int.reduceNeg, Int.reduceAdd, Int.reduceSub, Int.reduceToNat, insC, w2, a]) | (with_reducible first | refine W1 ?_ | refine W2 ?_ | refine W3 ?_ | refine W4 ?_ | refine W5 ?_ | refine W6 ?_ | refine W7 ?_ | refine W8 ?_ | refine W9 ?_))
    exact FP.same (.pushed _ _) rfl (cln_ib _ _)
  | update a b e =>
    refine raw ?_
    repeat (first | (with_reducible refine unr ?_; try simp only [ZZ, ↓reduceIte, Nat.reduceEqDiff, Nat.reduceAdd, Nat.reduceLeDiff, reduceCtorEq, Int.reduceEq, Int.reduceLT, Int.reduceLE, Int.reduceNeg, Int.reduceAdd, Int.reduceSub, Int.reduceToNat, insC, w2, a, b, e]) | (with_reducible first | refine W1 ?_ | refine W2 ?_ | refine W3 ?_ | refine W4 ?_ | refine W5 ?_ | refine W6 ?_ | refine W7 ?_ | refine W8 ?_ | refine W9 ?_))
    exact FP.same (.pushed _ _) rfl (cln_ib _ _)
  | pop a b =>
    rename_i k n js
    have w3 : IntKind.i64.wrap (d - k) = d - k := wrap_of (by omega) (by omega)
    refine raw ?_
    repeat (first | (with_reducible refine unr ?_; try simp only [ZZ, ↓reduceIte, Nat.reduceEqDiff, Nat.reduceAdd, Nat.reduceLeDiff, reduceCtorEq, Int.reduceEq, Int.reduceLT, Int.reduceLE, Int.reduceNeg, Int.reduceAdd, Int.reduceSub, Int.reduceToNat, insC, w3, a, b]) | (with_reducible first | refine W1 ?_ | refine W2 ?_ | refine W3 ?_ | refine W4 ?_ | refine W5 ?_ | refine W6 ?_ | refine W7 ?_ | refine W8 ?_ | refine W9 ?_))
    exact FP.same (.pushed _ _) rfl (cln_ib _ _)
  | slide a b =>
    rename_i k n js
    have w3 : IntKind.i64.wrap (d - k) = d - k := wrap_of (by omega) (by omega)
    refine raw ?_
    repeat (first | (with_reducible refine unr ?_; try simp only [ZZ, ↓reduceIte, Nat.reduceEqDiff, Nat.reduceAdd, Nat.reduceLeDiff, reduceCtorEq, Int.reduceEq, Int.reduceLT, Int.reduceLE, Int.reduceNeg, Int.reduceAdd, Int.reduceSub, Int.reduceToNat, insC, w3, a, b]) | (with_reducible first | refine W1 ?_ | refine W2 ?_ | refine W3 ?_ | refine W4 ?_ | refine W5 ?_ | refine W6 ?_ | refine W7 ?_ | refine W8 ?_ | refine W9 ?_))
    exact FP.same (.pushed _ _) rfl (cln_ib _ _)
  | alloc a =>
    rename_i k n js
    have w3 : IntKind.i64.wrap (d + k) = d + k := wrap_of (by omega) (by omega)
    refine raw ?_
    repeat (first | (with_reducible refine unr ?_; try simp only [ZZ, ↓reduceIte, Nat.reduceEqDiff, Nat.reduceAdd, Nat.reduceLeDiff, reduceCtorEq, Int.reduceEq, Int.reduceLT, Int.reduceLE, Int.reduceNeg, Int.reduceAdd, Int.reduceSub, Int.reduceToNat, insC, w3, a]) | (with_reducible first | refine W1 ?_ | refine W2 ?_ | refine W3 ?_ | refine W4 ?_ | refine W5 ?_ | refine W6 ?_ | refine W7 ?_ | refine W8 ?_ | refine W9 ?_))
    exact FP.same (.pushed _ _) rfl (cln_ib _ _)
  | pack a b =>
    rename_i k n js
    have w3 : IntKind.i64.wrap (d - k) = d - k := wrap_of (by omega) (by omega)
    have w4 : IntKind.i64.wrap (d - k + 1) = d - k + 1 := wrap_of (by omega) (by omega)
    refine raw ?_
    repeat (first | (with_reducible refine unr ?_; try simp only [ZZ, ↓reduceIte, Nat.reduceEqDiff, Nat.reduceAdd, Nat.reduceLeDiff, reduceCtorEq, Int.reduceEq, Int.reduceLT, Int.reduceLE, Int.reduceNeg, Int.reduceAdd, Int.reduceSub, Int.reduceToNat, insC, w3, w4, a, b]) | (with_reducible first | refine W1 ?_ | refine W2 ?_ | refine W3 ?_ | refine W4 ?_ | refine W5 ?_ | refine W6 ?_ | refine W7 ?_ | refine W8 ?_ | refine W9 ?_))
    exact FP.same (.pushed _ _) rfl (cln_ib _ _)
  | split a b =>
    rename_i k n js
    have w4 : IntKind.i64.wrap (d - 1 + k) = d - 1 + k := wrap_of (by omega) (by omega)
    refine raw ?_
    repeat (first | (with_reducible refine unr ?_; try simp only [ZZ, ↓reduceIte, Nat.reduceEqDiff, Nat.reduceAdd, Nat.reduceLeDiff, reduceCtorEq, Int.reduceEq, Int.reduceLT, Int.reduceLE, Int.reduceNeg, Int.reduceAdd, Int.reduceSub, Int.reduceToNat, insC, w2, w4, a, b]) | (with_reducible first | refine W1 ?_ | refine W2 ?_ | refine W3 ?_ | refine W4 ?_ | refine W5 ?_ | refine W6 ?_ | refine W7 ?_ | refine W8 ?_ | refine W9 ?_))
    exact FP.same (.pushed _ _) rfl (cln_ib _ _)
  | eval a =>
    refine raw ?_
    repeat (first | (with_reducible refine unr ?_; try simp only [ZZ, ↓reduceIte, Nat.reduceEqDiff, Nat.reduceAdd, Nat.reduceLeDiff, reduceCtorEq, Int.reduceEq, Int.reduceLT, Int.reduceLE, Int.reduceNeg, Int.reduceAdd, Int.reduceSub, Int.reduceToNat, insC, a]) | (with_reducible first | refine W1 ?_ | refine W2 ?_ | refine W3 ?_ | refine W4 ?_ | refine W5 ?_ | refine W6 ?_ | refine W7 ?_ | refine W8 ?_ | refine W9 ?_))
    exact FP.same (.pushed _ _) rfl (cln_ib _ _)
  | case a =>
    refine raw ?_
    repeat (first | (with_reducible refine unr ?_; try simp only [ZZ, ↓reduceIte, Nat.reduceEqDiff, Nat.reduceAdd, Nat.reduceLeDiff, reduceCtorEq, Int.reduceEq, Int.reduceLT, Int.reduceLE, Int.reduceNeg, Int.reduceAdd, Int.reduceSub, Int.reduceToNat, insC, a]) | (with_reducible first | refine W1 ?_ | refine W2 ?_ | refine W3 ?_ | refine W4 ?_ | refine W5 ?_ | refine W6 ?_ | refine W7 ?_ | refine W8 ?_ | refine W9 ?_))
    exact FP.same (.pushed _ _) rfl (cln_ib _ _)
  | pick =>
    refine raw ?_
    repeat (first | (with_reducible refine unr ?_; try simp only [ZZ, ↓reduceIte, Nat.reduceEqDiff, Nat.reduceAdd, Nat.reduceLeDiff, reduceCtorEq, Int.reduceEq, Int.reduceLT, Int.reduceLE, Int.reduceNeg, Int.reduceAdd, Int.reduceSub, Int.reduceToNat, insC]) | (with_reducible first | refine W1 ?_ | refine W2 ?_ | refine W3 ?_ | refine W4 ?_ | refine W5 ?_ | refine W6 ?_ | refine W7 ?_ | refine W8 ?_ | refine W9 ?_))
    exact FP.same (.pushed _ _) rfl (cln_ib _ _)
  | jump =>
    refine raw ?_
    repeat (first | (with_reducible refine unr ?_; try simp only [ZZ, ↓reduceIte, Nat.reduceEqDiff, Nat.reduceAdd, Nat.reduceLeDiff, reduceCtorEq, Int.reduceEq, Int.reduceLT, Int.reduceLE, Int.reduceNeg, Int.reduceAdd, Int.reduceSub, Int.reduceToNat, insC]) | (with_reducible first | refine W1 ?_ | refine W2 ?_ | refine W3 ?_ | refine W4 ?_ | refine W5 ?_ | refine W6 ?_ | refine W7 ?_ | refine W8 ?_ | refine W9 ?_))
    exact FP.same (.pushed _ _) rfl (cln_ib _ _)
  | unwind =>
    refine raw ?_
    repeat (first | (with_reducible refine unr ?_; try simp only [ZZ, ↓reduceIte, Nat.reduceEqDiff, Nat.reduceAdd, Nat.reduceLeDiff, reduceCtorEq, Int.reduceEq, Int.reduceLT, Int.reduceLE, Int.reduceNeg, Int.reduceAdd, Int.reduceSub, Int.reduceToNat, insC]) | (with_reducible first | refine W1 ?_ | refine W2 ?_ | refine W3 ?_ | refine W4 ?_ | refine W5 ?_ | refine W6 ?_ | refine W7 ?_ | refine W8 ?_ | refine W9 ?_))
    exact FP.same (.pushed _ _) rfl (cln_ib _ _)
  | fail =>
    refine raw ?_
    repeat (first | (with_reducible refine unr ?_; try simp only [ZZ, ↓reduceIte, Nat.reduceEqDiff, Nat.reduceAdd, Nat.reduceLeDiff, reduceCtorEq, Int.reduceEq, Int.reduceLT, Int.reduceLE, Int.reduceNeg, Int.reduceAdd, Int.reduceSub, Int.reduceToNat, insC]) | (with_reducible first | refine W1 ?_ | refine W2 ?_ | refine W3 ?_ | refine W4 ?_ | refine W5 ?_ | refine W6 ?_ | refine W7 ?_ | refine W8 ?_ | refine W9 ?_))
    exact FP.same (.pushed _ _) rfl (cln_ib _ _)
end Go.Proofs.Ytjjbjibbjbbeaaa
/- What the law asks of a code: how a place is reached. -/
set_option linter.unusedVariables false
set_option linter.unusedSimpArgs false
namespace Go.AL
def dC (d : Int) : List AV := [.int .i64 d]
def mC (b : Bool) : List AV := [.bool b]
/-- The objects of the law: from a number on. -/
structure Snd (cs : List AV) (p n : Nat) (D : List Int) (M : List Bool) (s : Store) : Prop where
  code : s.get p = some (.cells 81 0 4 [cs])
  num : s.get (p + 1) = some (.cells 3 0 1 [[.int .i64 n]])
  dep : s.get (p + 2) = some (.cells 3 0 1 (D.map dC))
  depv : s.get (p + 3) = some (.cells 96 0 1 [[.own (p + 2) 0 1 0 n]])
  met : s.get (p + 4) = some (.cells 4 0 1 (M.map mC))
  metv : s.get (p + 5) = some (.cells 146 0 1 [[.own (p + 4) 0 1 0 n]])
  ok : s.get (p + 6) = some (.cells 4 0 1 [[.bool true]])
  dl : D.length = n
  ml : M.length = n
/-- What is left by a place that is reached. -/
structure Met (p : Nat) (s t : Store) : Prop where
  next : t.next = s.next
  get : ∀ id, id ≠ p + 4 → id ≠ p + 2 → t.get id = s.get id
@[congr] theorem Snd_congr {w : Prop} (hw : Visit = w) {cs : List AV} {p n : Nat} {D : List Int} {M : List Bool} {s t : Store} (h : s = t) : Snd cs p n D M s = Snd cs p n D M t := by rw [h]
theorem Snd.upd {cs : List AV} {p n : Nat} {D : List Int} {M : List Bool} {s : Store} (h : Snd cs p n D M s) (j : Nat) (d : Int) :
    Snd cs p n (D.set j d) (M.set j true) ((s.upd (p + 4) (.cells 4 0 1 ((M.map mC).set j (mC true)))).upd (p + 2) (.cells 3 0 1 ((D.map dC).set j (dC d)))) := by
  have h2 := s.lt h.dep
  have h4 := s.lt h.met
  constructor
  · rw [Store.get_upd_ne _ _ (by omega), Store.get_upd_ne _ _ (by omega)]; exact h.code
  · rw [Store.get_upd_ne _ _ (by omega), Store.get_upd_ne _ _ (by omega)]; exact h.num
  · rw [Store.get_upd_self _ _ (by rw [Store.next_upd]; exact h2), List.map_set]
  · rw [Store.get_upd_ne _ _ (by omega), Store.get_upd_ne _ _ (by omega)]; exact h.depv
  · rw [Store.get_upd_ne _ _ (by omega), Store.get_upd_self _ _ h4, List.map_set]
  · rw [Store.get_upd_ne _ _ (by omega), Store.get_upd_ne _ _ (by omega)]; exact h.metv
  · rw [Store.get_upd_ne _ _ (by omega), Store.get_upd_ne _ _ (by omega)]; exact h.ok
  · rw [List.length_set]; exact h.dl
  · rw [List.length_set]; exact h.ml
theorem Snd.keep {cs : List AV} {p n : Nat} {D : List Int} {M : List Bool} {s t : Store} (h : Snd cs p n D M s) (k : Kp s t) : Snd cs p n D M t :=
  ⟨k.get h.code, k.get h.num, k.get h.dep, k.get h.depv, k.get h.met, k.get h.metv, k.get h.ok, h.dl, h.ml⟩
end Go.AL
namespace Go.Proofs.Ytjjbjibbjbbeaaa
open Go.AL
set_option maxHeartbeats 1000000 in
theorem reach_ok {cs : List AV} {p n : Nat} {D : List Int} {M : List Bool} {s : Store} (h : Snd cs p n D M s) (i j : Nat) (d : Int) (hij : i < j) (hj : j < n) (hm : M[j]? = some true → D[j]? = some d) :
    ACalls Try.prog 60 [.int .i64 i, .int .i64 j, .int .i64 d, .ptr (p + 1) 0 0 0, .ptr (p + 5) 0 0 0, .ptr (p + 3) 0 0 0, .ptr (p + 6) 0 0 0] s fun _ t => Snd cs p n (D.set j d) (M.set j true) t ∧ Met p s t := by
  obtain ⟨b, hb⟩ : ∃ b, M[j]? = some b := ⟨_, List.getElem?_eq_getElem (by rw [h.ml]; exact hj)⟩
  obtain ⟨e, he⟩ : ∃ e, D[j]? = some e := ⟨_, List.getElem?_eq_getElem (by rw [h.dl]; exact hj)⟩
  have hup := h.upd j d
  have e1 : (M.map mC)[j]? = some (mC b) := by simp [hb]
  have e2 : (D.map dC)[j]? = some (dC e) := by simp [he]
  have h1 : ¬ (j : Int) ≤ (i : Int) := by omega
  have h2 : ¬ (j : Int) ≥ (n : Int) := by omega
  have h2' : ¬ (n : Int) ≤ (j : Int) := by omega
  have h3 : (j : Int) < (n : Int) := by omega
  have g1 := h.num
  have g2 := h.dep
  have g3 := h.depv
  have g4 := h.met
  have g5 := h.metv
  have g6 := h.ok
  have x1 : p + 2 ≠ p + 4 := by omega
  have x2 : p + 3 ≠ p + 4 := by omega
  have hq4 := s.lt g4
  have hq2 := s.lt g2
  have u3 : ∀ o, (s.upd (p + 4) o).get (p + 3) = some (.cells 96 0 1 [[.own (p + 2) 0 1 0 n]]) := fun o => by rw [Store.get_upd_ne _ _ (by omega)]; exact g3
  have u2 : ∀ o, (s.upd (p + 4) o).get (p + 2) = some (.cells 3 0 1 (D.map dC)) := fun o => by rw [Store.get_upd_ne _ _ (by omega)]; exact g2
  have hMet : Met p s ((s.upd (p + 4) (.cells 4 0 1 ((M.map mC).set j (mC true)))).upd (p + 2) (.cells 3 0 1 ((D.map dC).set j (dC d)))) := ⟨rfl, fun id a b => by rw [Store.get_upd_ne _ _ b, Store.get_upd_ne _ _ a]⟩
  refine in60 (by simp) ?_
  unfold c60
  cases b with
  | false =>
    refine raw ?_
    repeat (first | (with_reducible refine unr ?_; try simp only [ZZ, ↓reduceIte, Nat.reduceEqDiff, Nat.reduceAdd, Nat.reduceLeDiff, reduceCtorEq, Int.reduceEq, Int.reduceLT, Int.reduceLE, Int.reduceNeg, Int.reduceAdd, Int.reduceSub, Int.reduceToNat, h1, h2, h2', h3, g1, g2, g3, g4, g5, g6, e1, e2, mC, dC, u3, u2]) | (with_reducible first | refine W1 ?_ | refine W2 ?_ | refine W3 ?_ | refine W4 ?_ | refine W5 ?_ | refine W6 ?_ | refine W7 ?_ | refine W8 ?_ | refine W9 ?_))
    exact ⟨hup, hMet⟩
  | true =>
    have : e = d := by have := hm hb; rw [he] at this; simpa using this
    subst this
    refine raw ?_
    repeat (first | (with_reducible refine unr ?_; try simp only [ZZ, ↓reduceIte, Nat.reduceEqDiff, Nat.reduceAdd, Nat.reduceLeDiff, reduceCtorEq, Int.reduceEq, Int.reduceLT, Int.reduceLE, Int.reduceNeg, Int.reduceAdd, Int.reduceSub, Int.reduceToNat, h1, h2, h2', h3, g1, g2, g3, g4, g5, g6, e1, e2, mC, dC, u3, u2]) | (with_reducible first | refine W1 ?_ | refine W2 ?_ | refine W3 ?_ | refine W4 ?_ | refine W5 ?_ | refine W6 ?_ | refine W7 ?_ | refine W8 ?_ | refine W9 ?_))
    exact ⟨hup, hMet⟩
end Go.Proofs.Ytjjbjibbjbbeaaa
/- What the law asks of a code. -/
set_option linter.unusedVariables false
set_option linter.unusedSimpArgs false
namespace Go.AL
theorem nx7 (p : Nat) : ((p = p + 1) = False) ∧ ((p = p + 1 + 1) = False) ∧ ((p = p + 1 + 1 + 1) = False) ∧ ((p = p + 1 + 1 + 1 + 1) = False) ∧ ((p = p + 1 + 1 + 1 + 1 + 1) = False) ∧ ((p = p + 1 + 1 + 1 + 1 + 1 + 1) = False) ∧ ((p + 1 = p) = False) ∧ ((p + 1 = p + 1 + 1) = False) ∧ ((p + 1 = p + 1 + 1 + 1) = False) ∧ ((p + 1 = p + 1 + 1 + 1 + 1) = False) ∧ ((p + 1 = p + 1 + 1 + 1 + 1 + 1) = False) ∧ ((p + 1 = p + 1 + 1 + 1 + 1 + 1 + 1) = False) ∧ ((p + 1 + 1 = p) = False) ∧ ((p + 1 + 1 = p + 1) = False) ∧ ((p + 1 + 1 = p + 1 + 1 + 1) = False) ∧ ((p + 1 + 1 = p + 1 + 1 + 1 + 1) = False) ∧ ((p + 1 + 1 = p + 1 + 1 + 1 + 1 + 1) = False) ∧ ((p + 1 + 1 = p + 1 + 1 + 1 + 1 + 1 + 1) = False) ∧ ((p + 1 + 1 + 1 = p) = False) ∧ ((p + 1 + 1 + 1 = p + 1) = False) ∧ ((p + 1 + 1 + 1 = p + 1 + 1) = False) ∧ ((p + 1 + 1 + 1 = p + 1 + 1 + 1 + 1) = False) ∧ ((p + 1 + 1 + 1 = p + 1 + 1 + 1 + 1 + 1) = False) ∧ ((p + 1 + 1 + 1 = p + 1 + 1 + 1 + 1 + 1 + 1) = False) ∧ ((p + 1 + 1 + 1 + 1 = p) = False) ∧ ((p + 1 + 1 + 1 + 1 = p + 1) = False) ∧ ((p + 1 + 1 + 1 + 1 = p + 1 + 1) = False) ∧ ((p + 1 + 1 + 1 + 1 = p + 1 + 1 + 1) = False) ∧ ((p + 1 + 1 + 1 + 1 = p + 1 + 1 + 1 + 1 + 1) = False) ∧ ((p + 1 + 1 + 1 + 1 = p + 1 + 1 + 1 + 1 + 1 + 1) = False) ∧ ((p + 1 + 1 + 1 + 1 + 1 = p) = False) ∧ ((p + 1 + 1 + 1 + 1 + 1 = p + 1) = False) ∧ ((p + 1 + 1 + 1 + 1 + 1 = p + 1 + 1) = False) ∧ ((p + 1 + 1 + 1 + 1 + 1 = p + 1 + 1 + 1) = False) ∧ ((p + 1 + 1 + 1 + 1 + 1 = p + 1 + 1 + 1 + 1) = False) ∧ ((p + 1 + 1 + 1 + 1 + 1 = p + 1 + 1 + 1 + 1 + 1 + 1) = False) ∧ ((p + 1 + 1 + 1 + 1 + 1 + 1 = p) = False) ∧ ((p + 1 + 1 + 1 + 1 + 1 + 1 = p + 1) = False) ∧ ((p + 1 + 1 + 1 + 1 + 1 + 1 = p + 1 + 1) = False) ∧ ((p + 1 + 1 + 1 + 1 + 1 + 1 = p + 1 + 1 + 1) = False) ∧ ((p + 1 + 1 + 1 + 1 + 1 + 1 = p + 1 + 1 + 1 + 1) = False) ∧ ((p + 1 + 1 + 1 + 1 + 1 + 1 = p + 1 + 1 + 1 + 1 + 1) = False) := by
  refine ⟨?_, ?_, ?_, ?_, ?_, ?_, ?_, ?_, ?_, ?_, ?_, ?_, ?_, ?_, ?_, ?_, ?_, ?_, ?_, ?_, ?_, ?_, ?_, ?_, ?_, ?_, ?_, ?_, ?_, ?_, ?_, ?_, ?_, ?_, ?_, ?_, ?_, ?_, ?_, ?_, ?_, ?_⟩ <;> simp <;> omega
/-- What is met has the depth that it must have. -/
def Dep (A : Nat → Option Int) (D : List Int) (M : List Bool) : Prop := ∀ j, M[j]? = some true → ∃ d, A j = some d ∧ D[j]? = some d
theorem Dep.set {A : Nat → Option Int} {D : List Int} {M : List Bool} (h : Dep A D M) {j : Nat} {d : Int} (hA : A j = some d) (hj : j < D.length) : Dep A (D.set j d) (M.set j true) := by
  intro k hk
  by_cases e : j = k
  · subst e
    exact ⟨d, hA, by simp [hj]⟩
  · rw [List.getElem?_set_ne e] at hk ⊢
    exact h k hk
/-- The objects of the law, with depths that are right. -/
def Lp (σ : Store) (cs : List AV) (n : Nat) (A : Nat → Option Int) (t : Store) : Prop := ∃ D M, Snd cs σ.next n D M t ∧ Dep A D M ∧ Kp σ t
@[congr] theorem Lp_congr {w : Prop} (hw : Visit = w) {σ : Store} {cs : List AV} {n : Nat} {A : Nat → Option Int} {s t : Store} (h : s = t) : Lp σ cs n A s = Lp σ cs n A t := by rw [h]
theorem Lp.keep {σ s t : Store} {cs : List AV} {n : Nat} {A : Nat → Option Int} (h : Lp σ cs n A s) (k : Kp s t) : Lp σ cs n A t := by
  obtain ⟨D, M, h1, h2, h3⟩ := h
  exact ⟨D, M, h1.keep k, h2, h3.trans k⟩
theorem Met.kp {σ s t : Store} (h : Met σ.next s t) (k : Kp σ s) : Kp σ t :=
  ⟨by rw [h.next]; exact k.next, fun j hj => by rw [h.get j (by omega) (by omega)]; exact k.keep j hj⟩
end Go.AL
namespace Go.Proofs.Ytjjbjibbjbbeaaa
open Go.AL
theorem reach2 {σ s : Store} {cs : List AV} {n : Nat} {A : Nat → Option Int} (h : Lp σ cs n A s) {i j : Nat} {d : Int} (hij : i < j) (hj : j < n) (hA : A j = some d) :
    ACalls Try.prog 60 [.int .i64 i, .int .i64 j, .int .i64 d, .ptr (σ.next + 1) 0 0 0, .ptr (σ.next + 5) 0 0 0, .ptr (σ.next + 3) 0 0 0, .ptr (σ.next + 6) 0 0 0] s fun _ t => Lp σ cs n A t ∧ Met σ.next s t := by
  obtain ⟨D, M, h1, h2, h3⟩ := h
  refine (reach_ok h1 i j d hij hj fun hm => ?_).mono fun r t ⟨a, b⟩ => ⟨⟨_, _, a, h2.set hA (by rw [h1.dl]; exact hj), b.kp h3⟩, b⟩
  obtain ⟨d2, e1, e2⟩ := h2 j hm
  rw [hA] at e1
  cases e1
  exact e2
set_option maxHeartbeats 1000000 in
theorem sound_ok (c : Cd) (hc : Cert c.ar c.ops) (hl : c.ops.length ≤ 50000000) (σ : Store) : ACalls Try.prog 28 [.agg (codeC c)] σ fun r s => r = .bool true ∧ s = σ := by
  obtain ⟨nm, ar, con, ops⟩ := c
  simp only at hc hl
  obtain ⟨A, hA0, hA⟩ := hc
  have hn0 : 0 < ops.length := (hA 0 ar hA0).1
  unfold codeC
  refine ACalls_know 0 rfl (p := ∀ (i : Nat) x, ops[i]? = some x → x.js.length ≤ 2 ^ 63 - 1) (fun g v hr i x hx => ?_) fun hm2 => ?_
  · obtain ⟨w, hw⟩ := hr.cell (k := 3) rfl
    obtain ⟨w, hw⟩ := hw.elem (i := i) (j := 3) (e := insC x) (by simp [hx]) rfl
    simpa [maxLen] using hw.len
  refine ACalls_fp (p := fun r => r = .bool true) ?_
  have b1 : (0 : Int) ≤ (ops.length : Int) := by omega
  have b2 : 8 * (ops.length : Int) ≤ 281474976710656 := by omega
  have b3 : (ops.length : Int) ≤ 9223372036854775807 := by omega
  have b4 : 1 * (ops.length : Int) ≤ 281474976710656 := by omega
  have b5 : (ops.length : Int) ≤ 281474976710656 := by omega
  have b6 : ¬ ops.length = 0 := by omega
  have b7 : ¬ (ops.length : Int) = 0 := by omega
  have b8 : (0 : Int) < ops.length := by omega
  have b9 : ((8 : Nat) : Int) * (ops.length : Int) ≤ 281474976710656 := by omega
  have b0 : ((1 : Nat) : Int) * (ops.length : Int) ≤ 281474976710656 := by omega
  have br : ∀ x : List AV, (List.replicate ops.length x)[0]? = some x := fun x => by simp [List.getElem?_replicate, hn0]
  refine in28 (by simp) ?_
  unfold c28
  refine raw ?_
  repeat (first | (with_reducible refine unr ?_; try simp only [ZZ, ↓reduceIte, Nat.reduceEqDiff, Nat.reduceAdd, Nat.reduceLeDiff, reduceCtorEq, Int.reduceEq, Int.reduceLT, Int.reduceLE, Int.reduceNeg, Int.reduceAdd, Int.reduceSub, Int.reduceToNat, b1, b2, b3, b4, b5, b6, b7, b8, b9, b0, hn0, br, nx7 σ.next,  List.length_map, List.length_replicate]) | (with_reducible first | refine W1 ?_ | refine W2 ?_ | refine W3 ?_ | refine W4 ?_ | refine W5 ?_ | refine W6 ?_ | refine W7 ?_ | refine W8 ?_ | refine W9 ?_))
  generalize hs : Store.push _ _ = s0
  have hLp : Lp σ [.str nm, .int .i64 ar, .bool con, .list (ops.map insC)] ops.length A s0 := by
    refine ⟨(List.replicate ops.length 0).set 0 ar, (List.replicate ops.length false).set 0 true, ?_, ?_, ?_⟩
    · subst hs
      constructor
      · simp only [Store.push_get, Store.push_next, nx7 σ.next, if_true, if_false]
      · simp [Store.push_get, Store.push_next]
      · simp [Store.push_get, Store.push_next, dC, List.map_set]
      · simp [Store.push_get, Store.push_next]
      · simp [Store.push_get, Store.push_next, mC, List.map_set]
      · simp [Store.push_get, Store.push_next]
      · simp [Store.push_get, Store.push_next]
      · simp
      · simp
    · intro j hj
      by_cases e : 0 = j
      · subst e
        exact ⟨ar, hA0, by simp [hn0]⟩
      · rw [List.getElem?_set_ne e] at hj
        simp [List.getElem?_replicate] at hj
    · rw [← hs]
      exact (((((((Kp.refl σ).push _).push _).push _).push _).push _).push _).push _
  clear hs b1 b2 b4 b5 b6 b7 b9 b0 br
  refine AWP_while [1, 3, 4, 5, 6, 7, 8] (fun i : Nat => ops.length - i) (fun i => [.ptr σ.next 0 0 0, .ptr (σ.next + 1) 0 0 0, .ptr (σ.next + 3) 0 0 0, .ptr (σ.next + 5) 0 0 0, .ptr (σ.next + 6) 0 0 0, .fn (.func 60) [] [.ptr (σ.next + 1) 0 0 0, .ptr (σ.next + 5) 0 0 0, .ptr (σ.next + 3) 0 0 0, .ptr (σ.next + 6) 0 0 0], .int .i64 i])
    (fun i t => Lp σ [.str nm, .int .i64 ar, .bool con, .list (ops.map insC)] ops.length A t ∧ i ≤ ops.length) 0 ⟨hLp, by simp⟩ ?_ ?_
  · refine raw ?_
    repeat (first | (with_reducible refine unr ?_; try simp only [ZZ, ↓reduceIte, Nat.reduceEqDiff, Nat.reduceAdd, Nat.reduceLeDiff, reduceCtorEq, Int.reduceEq, Int.reduceLT, Int.reduceLE, Int.reduceNeg, Int.reduceAdd, Int.reduceSub, Int.reduceToNat]) | (with_reducible first | refine W1 ?_ | refine W2 ?_ | refine W3 ?_ | refine W4 ?_ | refine W5 ?_ | refine W6 ?_ | refine W7 ?_ | refine W8 ?_ | refine W9 ?_))
    rfl
  clear hLp
  rintro i t ⟨hLp, hi⟩
  have hw := wrap_succ (i := i) (by omega)
  obtain ⟨D, M, hS, hD, hK⟩ := id hLp
  have g0 := hS.code
  have g1 := hS.num
  have g2 := hS.dep
  have g3 := hS.depv
  have g4 := hS.met
  have g5 := hS.metv
  have g6 := hS.ok
  by_cases hil : i < ops.length
  · have hil' : (i : Int) < (ops.length : Int) := by omega
    obtain ⟨x, hx⟩ : ∃ x, ops[i]? = some x := ⟨_, List.getElem?_eq_getElem hil⟩
    have hg : (ops.map insC)[i]? = some (insC x) := by simp [hx]
    obtain ⟨b, hb⟩ : ∃ b, M[i]? = some b := ⟨_, List.getElem?_eq_getElem (by rw [hS.ml]; exact hil)⟩
    have hb' : (M.map mC)[i]? = some (mC b) := by simp [hb]
    cases b with
    | false =>
      refine raw ?_
      repeat (first | (with_reducible refine unr ?_; try simp only [ZZ, ↓reduceIte, Nat.reduceEqDiff, Nat.reduceAdd, Nat.reduceLeDiff, reduceCtorEq, Int.reduceEq, Int.reduceLT, Int.reduceLE, Int.reduceNeg, Int.reduceAdd, Int.reduceSub, Int.reduceToNat, g0, g1, g2, g3, g4, g5, g6, hil', hb', mC, hw]) | (with_reducible first | refine W1 ?_ | refine W2 ?_ | refine W3 ?_ | refine W4 ?_ | refine W5 ?_ | refine W6 ?_ | refine W7 ?_ | refine W8 ?_ | refine W9 ?_))
      exact ⟨i + 1, rfl, ⟨hLp, by omega⟩, by omega⟩
    | true =>
      obtain ⟨d, hAi, hDi⟩ := hD i hb
      have hd' : (D.map dC)[i]? = some (dC d) := by simp [hDi]
      obtain ⟨_, h0, h1, o, d', ho, h2, hst⟩ := hA i d hAi
      rw [hx] at ho
      cases ho
      refine raw ?_
      repeat (first | (with_reducible refine unr ?_; try simp only [ZZ, ↓reduceIte, Nat.reduceEqDiff, Nat.reduceAdd, Nat.reduceLeDiff, reduceCtorEq, Int.reduceEq, Int.reduceLT, Int.reduceLE, Int.reduceNeg, Int.reduceAdd, Int.reduceSub, Int.reduceToNat, g0, g1, g2, g3, g4, g5, g6, hil', hb', hd', mC, dC, hw, hg, insC_len, insC_t4, lt_ne (t.lt g1), lt_ne (t.lt g2), lt_ne (t.lt g3), lt_ne (t.lt g4), lt_ne (t.lt g5), lt_ne (t.lt g6)]) | (with_reducible first | refine W1 ?_ | refine W2 ?_ | refine W3 ?_ | refine W4 ?_ | refine W5 ?_ | refine W6 ?_ | refine W7 ?_ | refine W8 ?_ | refine W9 ?_))
      refine (after_ok hst.aft h0 h1 h2 _).mono ?_
      rintro _ _ ⟨rfl, rfl⟩
      generalize hs : Store.push _ _ = u0
      have ku : Kp t u0 := by rw [← hs]; exact Kp.pushed _ _
      have gx : u0.get t.next = some (.cells 139 0 4 [insC x]) := by rw [← hs]; simp [Store.push_get]
      have hLu := hLp.keep ku
      clear hs
      have y6 := ku.get g6
      have hup := Store.upd_self u0 y6
      refine raw ?_
      repeat (first | (with_reducible refine unr ?_; try simp only [ZZ, ↓reduceIte, Nat.reduceEqDiff, Nat.reduceAdd, Nat.reduceLeDiff, reduceCtorEq, Int.reduceEq, Int.reduceLT, Int.reduceLE, Int.reduceNeg, Int.reduceAdd, Int.reduceSub, Int.reduceToNat, y6, hup]) | (with_reducible first | refine W1 ?_ | refine W2 ?_ | refine W3 ?_ | refine W4 ?_ | refine W5 ?_ | refine W6 ?_ | refine W7 ?_ | refine W8 ?_ | refine W9 ?_))
      have hp6 := t.lt g6
      have hjl := hm2 i x hx
      have hjs := hst.js
      clear hup y6 hm2 hS hD hLp hK ku hb hb' g0 g1 g2 g3 g4 g5 g6 hDi hd' hg hAi
      refine AWP_while [1, 3, 4, 5, 6, 7, 8, 9, 10, 12] (fun m : Nat => x.js.length - m) (fun m => [.ptr σ.next 0 0 0, .ptr (σ.next + 1) 0 0 0, .ptr (σ.next + 3) 0 0 0, .ptr (σ.next + 5) 0 0 0, .ptr (σ.next + 6) 0 0 0, .fn (.func 60) [] [.ptr (σ.next + 1) 0 0 0, .ptr (σ.next + 5) 0 0 0, .ptr (σ.next + 3) 0 0 0, .ptr (σ.next + 6) 0 0 0], .int .i64 i, .ptr t.next 0 0 0, .int .i64 d', .int .i64 m])
        (fun m u => Lp σ [.str nm, .int .i64 ar, .bool con, .list (ops.map insC)] ops.length A u ∧ u.get t.next = some (.cells 139 0 4 [insC x]) ∧ m ≤ x.js.length) 0 ⟨hLu, gx, by simp⟩ ?_ ?_
      · refine raw ?_
        repeat (first | (with_reducible refine unr ?_; try simp only [ZZ, ↓reduceIte, Nat.reduceEqDiff, Nat.reduceAdd, Nat.reduceLeDiff, reduceCtorEq, Int.reduceEq, Int.reduceLT, Int.reduceLE, Int.reduceNeg, Int.reduceAdd, Int.reduceSub, Int.reduceToNat]) | (with_reducible first | refine W1 ?_ | refine W2 ?_ | refine W3 ?_ | refine W4 ?_ | refine W5 ?_ | refine W6 ?_ | refine W7 ?_ | refine W8 ?_ | refine W9 ?_))
        rfl
      clear hLu gx
      rintro m u ⟨hLp, gx, hmi⟩
      by_cases hml : m < x.js.length
      · have hml' : (m : Int) < (x.js.length : Int) := by omega
        have hw2 := wrap_succ (i := m) (by omega)
        obtain ⟨y, hy⟩ : ∃ y, x.js[m]? = some y := ⟨_, List.getElem?_eq_getElem hml⟩
        have hg2 : (x.js.map jC)[m]? = some (jC y) := by simp [hy]
        obtain ⟨j, hj, hij, hAj⟩ := hjs y (List.mem_of_getElem? hy)
        refine raw ?_
        repeat (first | (with_reducible refine unr ?_; try simp only [ZZ, ↓reduceIte, Nat.reduceEqDiff, Nat.reduceAdd, Nat.reduceLeDiff, reduceCtorEq, Int.reduceEq, Int.reduceLT, Int.reduceLE, Int.reduceNeg, Int.reduceAdd, Int.reduceSub, Int.reduceToNat, gx, hml', hg2, jC, hj, insC, callvW_fn, wp_callv, hw2]) | (with_reducible first | refine W1 ?_ | refine W2 ?_ | refine W3 ?_ | refine W4 ?_ | refine W5 ?_ | refine W6 ?_ | refine W7 ?_ | refine W8 ?_ | refine W9 ?_))
        refine (reach2 hLp hij (hA j d' hAj).1 hAj).mono ?_
        rintro r v ⟨hLp, hMt⟩
        refine raw ?_
        repeat (first | (with_reducible refine unr ?_; try simp only [ZZ, ↓reduceIte, Nat.reduceEqDiff, Nat.reduceAdd, Nat.reduceLeDiff, reduceCtorEq, Int.reduceEq, Int.reduceLT, Int.reduceLE, Int.reduceNeg, Int.reduceAdd, Int.reduceSub, Int.reduceToNat, hw2]) | (with_reducible first | refine W1 ?_ | refine W2 ?_ | refine W3 ?_ | refine W4 ?_ | refine W5 ?_ | refine W6 ?_ | refine W7 ?_ | refine W8 ?_ | refine W9 ?_))
        exact ⟨m + 1, rfl, ⟨hLp, by rw [hMt.get _ (by omega) (by omega)]; exact gx, by omega⟩, by omega⟩
      · have hml' : ¬ (m : Int) < (x.js.length : Int) := by omega
        obtain ⟨D, M, hS, hD, hK⟩ := id hLp
        have y6 := hS.ok
        have hup := Store.upd_self u y6
        by_cases h10 : x.op = 10
        · have hd0 := hst.unwind h10
          refine raw ?_
          repeat (first | (with_reducible refine unr ?_; try simp only [ZZ, ↓reduceIte, Nat.reduceEqDiff, Nat.reduceAdd, Nat.reduceLeDiff, reduceCtorEq, Int.reduceEq, Int.reduceLT, Int.reduceLE, Int.reduceNeg, Int.reduceAdd, Int.reduceSub, Int.reduceToNat, gx, hml', insC, h10, y6, hup, hd0, hw]) | (with_reducible first | refine W1 ?_ | refine W2 ?_ | refine W3 ?_ | refine W4 ?_ | refine W5 ?_ | refine W6 ?_ | refine W7 ?_ | refine W8 ?_ | refine W9 ?_))
          exact ⟨i + 1, rfl, ⟨hLp, by omega⟩, by omega⟩
        by_cases h17 : x.op = 17
        · refine raw ?_
          repeat (first | (with_reducible refine unr ?_; try simp only [ZZ, ↓reduceIte, Nat.reduceEqDiff, Nat.reduceAdd, Nat.reduceLeDiff, reduceCtorEq, Int.reduceEq, Int.reduceLT, Int.reduceLE, Int.reduceNeg, Int.reduceAdd, Int.reduceSub, Int.reduceToNat, gx, hml', insC, h17, hw]) | (with_reducible first | refine W1 ?_ | refine W2 ?_ | refine W3 ?_ | refine W4 ?_ | refine W5 ?_ | refine W6 ?_ | refine W7 ?_ | refine W8 ?_ | refine W9 ?_))
          exact ⟨i + 1, rfl, ⟨hLp, by omega⟩, by omega⟩
        by_cases h13 : x.op = 13
        · by_cases hk : 0 ≤ x.k
          · obtain ⟨j, hj, hij, hAj⟩ := hst.case h13 hk
            have hj0 : (0 : Int) ≤ (j : Int) := by omega
            refine raw ?_
            repeat (first | (with_reducible refine unr ?_; try simp only [ZZ, ↓reduceIte, Nat.reduceEqDiff, Nat.reduceAdd, Nat.reduceLeDiff, reduceCtorEq, Int.reduceEq, Int.reduceLT, Int.reduceLE, Int.reduceNeg, Int.reduceAdd, Int.reduceSub, Int.reduceToNat, gx, hml', insC, h13, hj, hj0, callvW_fn, wp_callv]) | (with_reducible first | refine W1 ?_ | refine W2 ?_ | refine W3 ?_ | refine W4 ?_ | refine W5 ?_ | refine W6 ?_ | refine W7 ?_ | refine W8 ?_ | refine W9 ?_))
            refine (reach2 hLp hij (hA j d' hAj).1 hAj).mono ?_
            rintro r v ⟨hLp, hMt⟩
            refine raw ?_
            repeat (first | (with_reducible refine unr ?_; try simp only [ZZ, ↓reduceIte, Nat.reduceEqDiff, Nat.reduceAdd, Nat.reduceLeDiff, reduceCtorEq, Int.reduceEq, Int.reduceLT, Int.reduceLE, Int.reduceNeg, Int.reduceAdd, Int.reduceSub, Int.reduceToNat, hw]) | (with_reducible first | refine W1 ?_ | refine W2 ?_ | refine W3 ?_ | refine W4 ?_ | refine W5 ?_ | refine W6 ?_ | refine W7 ?_ | refine W8 ?_ | refine W9 ?_))
            exact ⟨i + 1, rfl, ⟨hLp, by omega⟩, by omega⟩
          · refine raw ?_
            repeat (first | (with_reducible refine unr ?_; try simp only [ZZ, ↓reduceIte, Nat.reduceEqDiff, Nat.reduceAdd, Nat.reduceLeDiff, reduceCtorEq, Int.reduceEq, Int.reduceLT, Int.reduceLE, Int.reduceNeg, Int.reduceAdd, Int.reduceSub, Int.reduceToNat, gx, hml', insC, h13, hk, hw]) | (with_reducible first | refine W1 ?_ | refine W2 ?_ | refine W3 ?_ | refine W4 ?_ | refine W5 ?_ | refine W6 ?_ | refine W7 ?_ | refine W8 ?_ | refine W9 ?_))
            exact ⟨i + 1, rfl, ⟨hLp, by omega⟩, by omega⟩
        by_cases h14 : x.op = 14
        · obtain ⟨j, hj, hij, hAj⟩ := hst.jump (.inl h14)
          refine raw ?_
          repeat (first | (with_reducible refine unr ?_; try simp only [ZZ, ↓reduceIte, Nat.reduceEqDiff, Nat.reduceAdd, Nat.reduceLeDiff, reduceCtorEq, Int.reduceEq, Int.reduceLT, Int.reduceLE, Int.reduceNeg, Int.reduceAdd, Int.reduceSub, Int.reduceToNat, gx, hml', insC, h14, hj, callvW_fn, wp_callv]) | (with_reducible first | refine W1 ?_ | refine W2 ?_ | refine W3 ?_ | refine W4 ?_ | refine W5 ?_ | refine W6 ?_ | refine W7 ?_ | refine W8 ?_ | refine W9 ?_))
          refine (reach2 hLp hij (hA j d' hAj).1 hAj).mono ?_
          rintro r v ⟨hLp, hMt⟩
          refine raw ?_
          repeat (first | (with_reducible refine unr ?_; try simp only [ZZ, ↓reduceIte, Nat.reduceEqDiff, Nat.reduceAdd, Nat.reduceLeDiff, reduceCtorEq, Int.reduceEq, Int.reduceLT, Int.reduceLE, Int.reduceNeg, Int.reduceAdd, Int.reduceSub, Int.reduceToNat, hw]) | (with_reducible first | refine W1 ?_ | refine W2 ?_ | refine W3 ?_ | refine W4 ?_ | refine W5 ?_ | refine W6 ?_ | refine W7 ?_ | refine W8 ?_ | refine W9 ?_))
          exact ⟨i + 1, rfl, ⟨hLp, by omega⟩, by omega⟩
        by_cases h15 : x.op = 15
        · obtain ⟨j, hj, hij, hAj⟩ := hst.jump (.inr h15)
          refine raw ?_
          repeat (first | (with_reducible refine unr ?_; try simp only [ZZ, ↓reduceIte, Nat.reduceEqDiff, Nat.reduceAdd, Nat.reduceLeDiff, reduceCtorEq, Int.reduceEq, Int.reduceLT, Int.reduceLE, Int.reduceNeg, Int.reduceAdd, Int.reduceSub, Int.reduceToNat, gx, hml', insC, h15, hj, callvW_fn, wp_callv]) | (with_reducible first | refine W1 ?_ | refine W2 ?_ | refine W3 ?_ | refine W4 ?_ | refine W5 ?_ | refine W6 ?_ | refine W7 ?_ | refine W8 ?_ | refine W9 ?_))
          refine (reach2 hLp hij (hA j d' hAj).1 hAj).mono ?_
          rintro r v ⟨hLp, hMt⟩
          refine raw ?_
          repeat (first | (with_reducible refine unr ?_; try simp only [ZZ, ↓reduceIte, Nat.reduceEqDiff, Nat.reduceAdd, Nat.reduceLeDiff, reduceCtorEq, Int.reduceEq, Int.reduceLT, Int.reduceLE, Int.reduceNeg, Int.reduceAdd, Int.reduceSub, Int.reduceToNat, hw]) | (with_reducible first | refine W1 ?_ | refine W2 ?_ | refine W3 ?_ | refine W4 ?_ | refine W5 ?_ | refine W6 ?_ | refine W7 ?_ | refine W8 ?_ | refine W9 ?_))
          exact ⟨i + 1, rfl, ⟨hLp, by omega⟩, by omega⟩
        have hAj := hst.next h10 h17 h13 h14 h15
        refine raw ?_
        repeat (first | (with_reducible refine unr ?_; try simp only [ZZ, ↓reduceIte, Nat.reduceEqDiff, Nat.reduceAdd, Nat.reduceLeDiff, reduceCtorEq, Int.reduceEq, Int.reduceLT, Int.reduceLE, Int.reduceNeg, Int.reduceAdd, Int.reduceSub, Int.reduceToNat, gx, hml', insC, h10, h13, h14, h15, h17, callvW_fn, wp_callv, hw]) | (with_reducible first | refine W1 ?_ | refine W2 ?_ | refine W3 ?_ | refine W4 ?_ | refine W5 ?_ | refine W6 ?_ | refine W7 ?_ | refine W8 ?_ | refine W9 ?_))
        refine (reach2 hLp (by omega) (hA _ d' hAj).1 hAj).mono ?_
        rintro r v ⟨hLp, hMt⟩
        refine raw ?_
        repeat (first | (with_reducible refine unr ?_; try simp only [ZZ, ↓reduceIte, Nat.reduceEqDiff, Nat.reduceAdd, Nat.reduceLeDiff, reduceCtorEq, Int.reduceEq, Int.reduceLT, Int.reduceLE, Int.reduceNeg, Int.reduceAdd, Int.reduceSub, Int.reduceToNat, hw]) | (with_reducible first | refine W1 ?_ | refine W2 ?_ | refine W3 ?_ | refine W4 ?_ | refine W5 ?_ | refine W6 ?_ | refine W7 ?_ | refine W8 ?_ | refine W9 ?_))
        exact ⟨i + 1, rfl, ⟨hLp, by omega⟩, by omega⟩
  · have hil' : ¬ (i : Int) < (ops.length : Int) := by omega
    refine raw ?_
    repeat (first | (with_reducible refine unr ?_; try simp only [ZZ, ↓reduceIte, Nat.reduceEqDiff, Nat.reduceAdd, Nat.reduceLeDiff, reduceCtorEq, Int.reduceEq, Int.reduceLT, Int.reduceLE, Int.reduceNeg, Int.reduceAdd, Int.reduceSub, Int.reduceToNat, g0, g1, g2, g3, g4, g5, g6, hil']) | (with_reducible first | refine W1 ?_ | refine W2 ?_ | refine W3 ?_ | refine W4 ?_ | refine W5 ?_ | refine W6 ?_ | refine W7 ?_ | refine W8 ?_ | refine W9 ?_))
    exact FP.same hK rfl (.bool _)
end Go.Proofs.Ytjjbjibbjbbeaaa
