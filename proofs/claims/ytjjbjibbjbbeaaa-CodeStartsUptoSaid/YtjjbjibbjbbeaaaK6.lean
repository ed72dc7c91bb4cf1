/- A part of the proof of the claim: the abstract layer, the contracts of the functions, the law (no condition of its own). -/
import Derived.Test.YtjjbjibbjbbeaaaK5
/- The document's numbers read, local names: exactly. -/
set_option linter.unusedVariables false
set_option linter.unusedSimpArgs false
namespace Go.AL
theorem dg_len : ∀ (k n : Nat), n < 10 ^ (k + 1) → (dg n).length ≤ k + 1
  | 0, n, h => by rw [dg_lt (by simpa using h)]; simp
  | k + 1, n, h => by
    by_cases h10 : n < 10
    · rw [dg_lt h10]; simp
    · rw [dg_ge h10, List.length_append]
      have := dg_len k (n / 10) (by rw [Nat.pow_succ] at h; omega)
      simp; omega
theorem dg_len20 {n : Nat} (h : n < 18446744073709551616) : (dg n).length ≤ 20 := dg_len 19 n (by omega)
theorem cut10 {n : Nat} (h : n < 10) : bl ((⟨#[48, 49, 50, 51, 52, 53, 54, 55, 56, 57]⟩ : ByteArray).extract n (n + 1)) = [UInt8.ofNat (48 + n)] := by
  rw [bl_ext]
  have : ∀ n : Nat, n < 10 → (([48, 49, 50, 51, 52, 53, 54, 55, 56, 57] : List UInt8).take (n + 1)).drop n = [UInt8.ofNat (48 + n)] := by decide
  exact this n h
end Go.AL
namespace Go.Proofs.Ytjjbjibbjbbeaaa
open Go.AL
theorem digitsE : ∀ n : Nat, n < 18446744073709551616 → ∀ σ : Store, ACalls Try.prog 161 [.int .u64 n] σ fun r σ' => (∃ s, r = .str s ∧ bl s = dg n) ∧ σ' = σ := by
  intro n
  induction n using Nat.strongRecOn with
  | _ n ih =>
    intro hn σ
    refine in161 (by simp) ?_
    unfold c161
    have h10 : (⟨#[48, 49, 50, 51, 52, 53, 54, 55, 56, 57]⟩ : ByteArray).size = 10 := rfl
    by_cases h : n < 10
    · have h' : (n : Int) < 10 := by omega
      have w : IntKind.u64.wrap ((n : Int) + 1) = ((n + 1 : Nat) : Int) := by rw [u64_of (by omega) (by omega)]; omega
      have c1 : (n : Int) ≤ ((n + 1 : Nat) : Int) := by omega
      have c2 : ((n + 1 : Nat) : Int) ≤ ((10 : Nat) : Int) := by omega
      refine raw ?_
      repeat (first | (with_reducible refine unr ?_; try simp only [YY, ↓reduceIte, Nat.reduceEqDiff, Nat.reduceAdd, Nat.reduceLeDiff, reduceCtorEq, Int.reduceEq, Int.reduceLT, Int.reduceLE, Int.reduceNeg, Int.reduceAdd, Int.reduceSub, Int.reduceToNat, h', w, c1, c2, h10]) | (with_reducible refine WW (by decide) ?_))
      exact ⟨_, rfl, by rw [cut10 h, dg_lt h]⟩
    · have h' : ¬ (n : Int) < 10 := by omega
      have q : (n : Int).tdiv 10 = ((n / 10 : Nat) : Int) := by rw [Int.tdiv_eq_ediv_of_nonneg (by omega)]; omega
      have m : (n : Int).tmod 10 = ((n % 10 : Nat) : Int) := by rw [Int.tmod_eq_emod_of_nonneg (by omega)]; omega
      have wq : IntKind.u64.wrap ((n / 10 : Nat) : Int) = ((n / 10 : Nat) : Int) := u64_of (by omega) (by omega)
      have w : IntKind.u64.wrap (((n % 10 : Nat) : Int) + 1) = ((n % 10 + 1 : Nat) : Int) := by rw [u64_of (by omega) (by omega)]; omega
      have c1 : ((n % 10 : Nat) : Int) ≤ ((n % 10 + 1 : Nat) : Int) := by omega
      have c2 : ((n % 10 + 1 : Nat) : Int) ≤ ((10 : Nat) : Int) := by omega
      refine raw ?_
      repeat (first | (with_reducible refine unr ?_; try simp only [YY, ↓reduceIte, Nat.reduceEqDiff, Nat.reduceAdd, Nat.reduceLeDiff, reduceCtorEq, Int.reduceEq, Int.reduceLT, Int.reduceLE, Int.reduceNeg, Int.reduceAdd, Int.reduceSub, Int.reduceToNat, h', q, m, wq, w, c1, c2, h10, bin_quo, bin_rem]) | (with_reducible refine WW (by decide) ?_))
      refine (ih (n / 10) (by omega) (by omega) σ).mono ?_
      rintro _ t ⟨⟨s, rfl, hs⟩, rfl⟩
      have ce := cut10 (n := n % 10) (by omega)
      have z1 : ((⟨#[48, 49, 50, 51, 52, 53, 54, 55, 56, 57]⟩ : ByteArray).extract (n % 10) (n % 10 + 1)).size = 1 := by rw [← bl_len, ce]; rfl
      have z2 : s.size ≤ 20 := by rw [← bl_len, hs]; exact dg_len20 (by omega)
      have z3 : s.size + 1 ≤ maxLen := by simp only [maxLen]; omega
      refine raw ?_
      repeat (first | (with_reducible refine unr ?_; try simp only [YY, ↓reduceIte, Nat.reduceEqDiff, Nat.reduceAdd, Nat.reduceLeDiff, reduceCtorEq, Int.reduceEq, Int.reduceLT, Int.reduceLE, Int.reduceNeg, Int.reduceAdd, Int.reduceSub, Int.reduceToNat, h', q, m, wq, w, c1, c2, h10, bin_quo, bin_rem, z1, z3]) | (with_reducible refine WW (by decide) ?_))
      exact ⟨_, rfl, by rw [bl_app, hs, ce, dg_ge h]⟩
/-- A number without its sign, with it. -/
theorem sizeE (n : Int) (h0 : -9223372036854775808 ≤ n) (h1 : n ≤ 9223372036854775807) (σ : Store) : ACalls Try.prog 162 [.int .i64 n] σ fun r σ' => r = .int .u64 (n.natAbs : Int) ∧ σ' = σ := by
  refine in162 (by simp) ?_
  unfold c162
  by_cases h : n < 0
  · have w : IntKind.u64.wrap n = n + 18446744073709551616 := by rw [wrap_u64']; omega
    have w2 : IntKind.u64.wrap (0 - (n + 18446744073709551616)) = (n.natAbs : Int) := by rw [wrap_u64']; omega
    refine raw ?_
    repeat (first | (with_reducible refine unr ?_; try simp only [YY, ↓reduceIte, Nat.reduceEqDiff, Nat.reduceAdd, Nat.reduceLeDiff, reduceCtorEq, Int.reduceEq, Int.reduceLT, Int.reduceLE, Int.reduceNeg, Int.reduceAdd, Int.reduceSub, Int.reduceToNat, h, w, w2]) | (with_reducible refine WW (by decide) ?_))
  · have w : IntKind.u64.wrap n = (n.natAbs : Int) := by rw [wrap_u64']; omega
    refine raw ?_
    repeat (first | (with_reducible refine unr ?_; try simp only [YY, ↓reduceIte, Nat.reduceEqDiff, Nat.reduceAdd, Nat.reduceLeDiff, reduceCtorEq, Int.reduceEq, Int.reduceLT, Int.reduceLE, Int.reduceNeg, Int.reduceAdd, Int.reduceSub, Int.reduceToNat, h, w]) | (with_reducible refine WW (by decide) ?_))
theorem textE (n : Int) (h0 : -9223372036854775808 ≤ n) (h1 : n ≤ 9223372036854775807) (σ : Store) : ACalls Try.prog 147 [.int .i64 n] σ fun r σ' => (∃ s, r = .str s ∧ bl s = if n < 0 then 45 :: dg n.natAbs else dg n.natAbs) ∧ σ' = σ := by
  refine in147 (by simp) ?_
  unfold c147
  by_cases h : n < 0
  · refine raw ?_
    repeat (first | (with_reducible refine unr ?_; try simp only [YY, ↓reduceIte, Nat.reduceEqDiff, Nat.reduceAdd, Nat.reduceLeDiff, reduceCtorEq, Int.reduceEq, Int.reduceLT, Int.reduceLE, Int.reduceNeg, Int.reduceAdd, Int.reduceSub, Int.reduceToNat, h]) | (with_reducible refine WW (by decide) ?_))
    refine (sizeE n h0 h1 σ).mono ?_
    rintro _ t ⟨rfl, rfl⟩
    refine raw ?_
    repeat (first | (with_reducible refine unr ?_; try simp only [YY, ↓reduceIte, Nat.reduceEqDiff, Nat.reduceAdd, Nat.reduceLeDiff, reduceCtorEq, Int.reduceEq, Int.reduceLT, Int.reduceLE, Int.reduceNeg, Int.reduceAdd, Int.reduceSub, Int.reduceToNat]) | (with_reducible refine WW (by decide) ?_))
    refine (digitsE n.natAbs (by omega) _).mono ?_
    rintro _ t ⟨⟨s, rfl, hs⟩, rfl⟩
    have z2 : s.size ≤ 20 := by rw [← bl_len, hs]; exact dg_len20 (by omega)
    have z1 : (⟨#[45]⟩ : ByteArray).size = 1 := rfl
    have z3 : 1 + s.size ≤ maxLen := by simp only [maxLen]; omega
    refine raw ?_
    repeat (first | (with_reducible refine unr ?_; try simp only [YY, ↓reduceIte, Nat.reduceEqDiff, Nat.reduceAdd, Nat.reduceLeDiff, reduceCtorEq, Int.reduceEq, Int.reduceLT, Int.reduceLE, Int.reduceNeg, Int.reduceAdd, Int.reduceSub, Int.reduceToNat, z1, z3]) | (with_reducible refine WW (by decide) ?_))
    exact ⟨_, rfl, by rw [bl_app, hs]; rfl⟩
  · refine raw ?_
    repeat (first | (with_reducible refine unr ?_; try simp only [YY, ↓reduceIte, Nat.reduceEqDiff, Nat.reduceAdd, Nat.reduceLeDiff, reduceCtorEq, Int.reduceEq, Int.reduceLT, Int.reduceLE, Int.reduceNeg, Int.reduceAdd, Int.reduceSub, Int.reduceToNat, h]) | (with_reducible refine WW (by decide) ?_))
    refine (sizeE n h0 h1 σ).mono ?_
    rintro _ t ⟨rfl, rfl⟩
    refine raw ?_
    repeat (first | (with_reducible refine unr ?_; try simp only [YY, ↓reduceIte, Nat.reduceEqDiff, Nat.reduceAdd, Nat.reduceLeDiff, reduceCtorEq, Int.reduceEq, Int.reduceLT, Int.reduceLE, Int.reduceNeg, Int.reduceAdd, Int.reduceSub, Int.reduceToNat]) | (with_reducible refine WW (by decide) ?_))
    refine (digitsE n.natAbs (by omega) _).mono ?_
    rintro _ t ⟨⟨s, rfl, hs⟩, rfl⟩
    refine raw ?_
    repeat (first | (with_reducible refine unr ?_; try simp only [YY, ↓reduceIte, Nat.reduceEqDiff, Nat.reduceAdd, Nat.reduceLeDiff, reduceCtorEq, Int.reduceEq, Int.reduceLT, Int.reduceLE, Int.reduceNeg, Int.reduceAdd, Int.reduceSub, Int.reduceToNat]) | (with_reducible refine WW (by decide) ?_))
    exact ⟨_, rfl, by rw [hs]⟩
theorem signedE (n : Nat) (below : Bool) (h : n ≤ 9223372036854775808) (σ : Store) :
    ACalls Try.prog 148 [.int .u64 n, .bool below] σ fun r σ' => r = .int .i64 (if below = true then -(n : Int) else if n = 9223372036854775808 then -9223372036854775808 else n) ∧ σ' = σ := by
  refine in148 (by simp) ?_
  unfold c148
  cases below with
  | true =>
    have w : IntKind.i64.wrap (IntKind.u64.wrap (0 - (n : Int))) = -(n : Int) := by rw [wrap_u64', IntKind.wrap_i64]; omega
    refine raw ?_
    repeat (first | (with_reducible refine unr ?_; try simp only [YY, ↓reduceIte, Nat.reduceEqDiff, Nat.reduceAdd, Nat.reduceLeDiff, reduceCtorEq, Int.reduceEq, Int.reduceLT, Int.reduceLE, Int.reduceNeg, Int.reduceAdd, Int.reduceSub, Int.reduceToNat, w]) | (with_reducible refine WW (by decide) ?_))
  | false =>
    have w : IntKind.i64.wrap (n : Int) = if n = 9223372036854775808 then -9223372036854775808 else (n : Int) := by rw [IntKind.wrap_i64]; split <;> omega
    refine raw ?_
    repeat (first | (with_reducible refine unr ?_; try simp only [YY, ↓reduceIte, Nat.reduceEqDiff, Nat.reduceAdd, Nat.reduceLeDiff, reduceCtorEq, Int.reduceEq, Int.reduceLT, Int.reduceLE, Int.reduceNeg, Int.reduceAdd, Int.reduceSub, Int.reduceToNat, w]) | (with_reducible refine WW (by decide) ?_))
/-- Digits read. -/
def Dig (l : List UInt8) : Prop := l ≠ [] ∧ l.length ≤ 19 ∧ ∀ b, b ∈ l → digitB b
theorem plainE (x : ByteArray) (σ : Store) : ACalls Try.prog 146 [.str x] σ fun r σ' => ((Dig (bl x) ∧ r = .tuple [.int .u64 (valN (bl x)), .bool true]) ∨ (¬ Dig (bl x) ∧ r = .tuple [.int .u64 0, .bool false])) ∧ σ' = σ := by
  refine in146 (by simp) ?_
  unfold c146
  by_cases h0 : x.size = 0
  · have h0' : (x.size : Int) = 0 := by omega
    refine raw ?_
    repeat (first | (with_reducible refine unr ?_; try simp only [YY, ↓reduceIte, Nat.reduceEqDiff, Nat.reduceAdd, Nat.reduceLeDiff, reduceCtorEq, Int.reduceEq, Int.reduceLT, Int.reduceLE, Int.reduceNeg, Int.reduceAdd, Int.reduceSub, Int.reduceToNat, h0']) | (with_reducible refine WW (by decide) ?_))
    refine .inr (fun h => h.1 (List.eq_nil_of_length_eq_zero (by rw [bl_len]; exact h0)))
  have h0' : ¬ (x.size : Int) = 0 := by omega
  by_cases h19 : (19 : Int) < (x.size : Int)
  · refine raw ?_
    repeat (first | (with_reducible refine unr ?_; try simp only [YY, ↓reduceIte, Nat.reduceEqDiff, Nat.reduceAdd, Nat.reduceLeDiff, reduceCtorEq, Int.reduceEq, Int.reduceLT, Int.reduceLE, Int.reduceNeg, Int.reduceAdd, Int.reduceSub, Int.reduceToNat, h0, h0', h19]) | (with_reducible refine WW (by decide) ?_))
    refine .inr (fun h => by have := h.2.1; rw [bl_len] at this; omega)
  refine raw ?_
  repeat (first | (with_reducible refine unr ?_; try simp only [YY, ↓reduceIte, Nat.reduceEqDiff, Nat.reduceAdd, Nat.reduceLeDiff, reduceCtorEq, Int.reduceEq, Int.reduceLT, Int.reduceLE, Int.reduceNeg, Int.reduceAdd, Int.reduceSub, Int.reduceToNat, h0, h0', h19]) | (with_reducible refine WW (by decide) ?_))
  refine AWP_while [0, 4, 5] (fun i : Nat => x.size - i) (fun i => [.str x, .int .u64 (valN ((bl x).take i)), .int .i64 i]) (fun i s' => s' = σ ∧ i ≤ x.size ∧ Hid (∀ c, c ∈ (bl x).take i → digitB c)) 0 ⟨rfl, by simp, ⟨by simp⟩⟩ ?_ ?_
  · refine raw ?_
    repeat (first | (with_reducible refine unr ?_; try simp only [YY, ↓reduceIte, Nat.reduceEqDiff, Nat.reduceAdd, Nat.reduceLeDiff, reduceCtorEq, Int.reduceEq, Int.reduceLT, Int.reduceLE, Int.reduceNeg, Int.reduceAdd, Int.reduceSub, Int.reduceToNat]) | (with_reducible refine WW (by decide) ?_))
    rfl
  rintro i t ⟨rfl, hi, hd⟩
  have hw := wrap_succ (i := i) (by omega)
  by_cases hil : i < x.size
  · have hil' : (i : Int) < (x.size : Int) := by omega
    have hb : x.data.toList[i]? = some (x.data.toList[i]'(by simpa using hil)) := List.getElem?_eq_getElem _
    generalize x.data.toList[i]'(by simpa using hil) = b at hb
    have hm := List.mem_of_getElem? (l := bl x) hb
    by_cases b1 : (b.toNat : Int) < 48
    · refine raw ?_
      repeat (first | (with_reducible refine unr ?_; try simp only [YY, ↓reduceIte, Nat.reduceEqDiff, Nat.reduceAdd, Nat.reduceLeDiff, reduceCtorEq, Int.reduceEq, Int.reduceLT, Int.reduceLE, Int.reduceNeg, Int.reduceAdd, Int.reduceSub, Int.reduceToNat, hil', hb, b1]) | (with_reducible refine WW (by decide) ?_))
      exact .inr (fun h => by have := h.2.2 b hm; unfold digitB at this; omega)
    by_cases b2 : (57 : Int) < (b.toNat : Int)
    · refine raw ?_
      repeat (first | (with_reducible refine unr ?_; try simp only [YY, ↓reduceIte, Nat.reduceEqDiff, Nat.reduceAdd, Nat.reduceLeDiff, reduceCtorEq, Int.reduceEq, Int.reduceLT, Int.reduceLE, Int.reduceNeg, Int.reduceAdd, Int.reduceSub, Int.reduceToNat, hil', hb, b1, b2]) | (with_reducible refine WW (by decide) ?_))
      exact .inr (fun h => by have := h.2.2 b hm; unfold digitB at this; omega)
    have hb3 : digitB b := by unfold digitB; omega
    have hst := valN_step (l := bl x) hb (by rw [bl_len]; omega) hd.out hb3
    refine raw ?_
    repeat (first | (with_reducible refine unr ?_; try simp only [YY, ↓reduceIte, Nat.reduceEqDiff, Nat.reduceAdd, Nat.reduceLeDiff, reduceCtorEq, Int.reduceEq, Int.reduceLT, Int.reduceLE, Int.reduceNeg, Int.reduceAdd, Int.reduceSub, Int.reduceToNat, hil', hb, b1, b2, hst, hw]) | (with_reducible refine WW (by decide) ?_))
    exact ⟨i + 1, rfl, ⟨by omega, ⟨dig_take (l := bl x) hb hd.out hb3⟩⟩, by omega⟩
  · have hil' : ¬ (i : Int) < (x.size : Int) := by omega
    have hd := hd.out
    rw [List.take_of_length_le (by rw [bl_len]; omega)] at hd
    rw [List.take_of_length_le (by rw [bl_len]; omega)]
    refine raw ?_
    repeat (first | (with_reducible refine unr ?_; try simp only [YY, ↓reduceIte, Nat.reduceEqDiff, Nat.reduceAdd, Nat.reduceLeDiff, reduceCtorEq, Int.reduceEq, Int.reduceLT, Int.reduceLE, Int.reduceNeg, Int.reduceAdd, Int.reduceSub, Int.reduceToNat, hil']) | (with_reducible refine WW (by decide) ?_))
    exact .inl ⟨fun e => by have := bl_len x; rw [e] at this; simp at this; omega, by rw [bl_len]; omega, hd⟩
theorem parseE2 (s : ByteArray) (σ : Store) : ACalls Try.prog 91 [.str s] σ fun r σ' => (∃ p : Int × Int, r = .tuple [.int .i64 p.1, .int .i64 p.2] ∧ (p.2 = 0 ↔ NumT (bl s))) ∧ σ' = σ := by
  refine in91 (by simp) ?_
  unfold c91
  by_cases hs0 : s.size = 0
  · have h1 : ¬ (0 : Int) < (s.size : Int) := by omega
    have hn : bl s = [] := List.eq_nil_of_length_eq_zero (by rw [bl_len]; exact hs0)
    refine raw ?_
    repeat (first | (with_reducible refine unr ?_; try simp only [YY, ↓reduceIte, Nat.reduceEqDiff, Nat.reduceAdd, Nat.reduceLeDiff, reduceCtorEq, Int.reduceEq, Int.reduceLT, Int.reduceLE, Int.reduceNeg, Int.reduceAdd, Int.reduceSub, Int.reduceToNat, h1]) | (with_reducible refine WW (by decide) ?_))
    refine (plainE s σ).mono ?_
    rintro _ t ⟨⟨hD, rfl⟩ | ⟨hD, rfl⟩, rfl⟩
    · exact absurd hn hD.1
    · refine raw ?_
      repeat (first | (with_reducible refine unr ?_; try simp only [YY, ↓reduceIte, Nat.reduceEqDiff, Nat.reduceAdd, Nat.reduceLeDiff, reduceCtorEq, Int.reduceEq, Int.reduceLT, Int.reduceLE, Int.reduceNeg, Int.reduceAdd, Int.reduceSub, Int.reduceToNat]) | (with_reducible refine WW (by decide) ?_))
      refine ⟨(_, _), rfl, fun e => absurd e (by decide), fun h => ?_⟩
      rw [hn] at h
      simp [NumT, NumD] at h
  have h1 : (0 : Int) < (s.size : Int) := by omega
  have h1' : (1 : Int) ≤ (s.size : Int) := by omega
  have hb : s.data.toList[0]? = some (s.data.toList[0]'(by have : s.data.toList.length = s.size := bl_len s; omega)) := List.getElem?_eq_getElem _
  generalize s.data.toList[0]'(by have : s.data.toList.length = s.size := bl_len s; omega) = b at hb
  have hbb : (bl s)[0]? = some b := hb
  by_cases h45 : (b.toNat : Int) = 45
  · have e45 := (u8_45 b).1 h45
    refine raw ?_
    repeat (first | (with_reducible refine unr ?_; try simp only [YY, ↓reduceIte, Nat.reduceEqDiff, Nat.reduceAdd, Nat.reduceLeDiff, reduceCtorEq, Int.reduceEq, Int.reduceLT, Int.reduceLE, Int.reduceNeg, Int.reduceAdd, Int.reduceSub, Int.reduceToNat, h1, hb, h45, h1']) | (with_reducible refine WW (by decide) ?_))
    have hx : bl (s.extract 1 s.size) = (bl s).drop 1 := by rw [bl_ext, List.take_of_length_le (by rw [bl_len]; simp)]
    have hN : NumT (bl s) ↔ NumD true (bl (s.extract 1 s.size)) := by rw [NumT, if_pos (by rw [hbb, e45]), hx]
    have hs : bl s = 45 :: bl (s.extract 1 s.size) := by
      rw [hx]
      cases hl : bl s with
      | nil => rw [hl] at hbb; simp at hbb
      | cons y r => rw [hl] at hbb; simp at hbb; simp [hbb, e45]
    generalize s.extract 1 s.size = x at hx hN hs
    refine (plainE x σ).mono ?_
    rintro _ t ⟨⟨hD, rfl⟩ | ⟨hD, rfl⟩, rfl⟩
    · by_cases hv : valN (bl x) ≤ 9223372036854775808
      · have hv' : ¬ (9223372036854775808 : Int) < (valN (bl x) : Int) := by omega
        refine raw ?_
        repeat (first | (with_reducible refine unr ?_; try simp only [YY, ↓reduceIte, Nat.reduceEqDiff, Nat.reduceAdd, Nat.reduceLeDiff, reduceCtorEq, Int.reduceEq, Int.reduceLT, Int.reduceLE, Int.reduceNeg, Int.reduceAdd, Int.reduceSub, Int.reduceToNat, hv']) | (with_reducible refine WW (by decide) ?_))
        refine (signedE (valN (bl x)) true hv _).mono ?_
        rintro _ t ⟨rfl, rfl⟩
        refine raw ?_
        repeat (first | (with_reducible refine unr ?_; try simp only [YY, ↓reduceIte, Nat.reduceEqDiff, Nat.reduceAdd, Nat.reduceLeDiff, reduceCtorEq, Int.reduceEq, Int.reduceLT, Int.reduceLE, Int.reduceNeg, Int.reduceAdd, Int.reduceSub, Int.reduceToNat]) | (with_reducible refine WW (by decide) ?_))
        refine (textE _ (by omega) (by omega) _).mono ?_
        rintro _ t ⟨⟨u, rfl, hu⟩, rfl⟩
        rw [Int.natAbs_neg, Int.natAbs_natCast] at hu
        by_cases hus : u = s
        · subst hus
          refine raw ?_
          repeat (first | (with_reducible refine unr ?_; try simp only [YY, ↓reduceIte, Nat.reduceEqDiff, Nat.reduceAdd, Nat.reduceLeDiff, reduceCtorEq, Int.reduceEq, Int.reduceLT, Int.reduceLE, Int.reduceNeg, Int.reduceAdd, Int.reduceSub, Int.reduceToNat]) | (with_reducible refine WW (by decide) ?_))
          refine (signedE (valN (bl x)) true hv _).mono ?_
          rintro _ t ⟨rfl, rfl⟩
          refine raw ?_
          repeat (first | (with_reducible refine unr ?_; try simp only [YY, ↓reduceIte, Nat.reduceEqDiff, Nat.reduceAdd, Nat.reduceLeDiff, reduceCtorEq, Int.reduceEq, Int.reduceLT, Int.reduceLE, Int.reduceNeg, Int.reduceAdd, Int.reduceSub, Int.reduceToNat]) | (with_reducible refine WW (by decide) ?_))
          refine ⟨(_, _), rfl, fun _ => hN.2 ⟨hD.1, hD.2.1, hD.2.2, fun e => ?_, hv, fun _ => rfl⟩, fun _ => rfl⟩
          by_cases hz : valN (bl x) = 0
          · rw [if_neg (by omega), hs, hz] at hu
            have := congrArg (fun l => l[0]?) hu
            simp [dg_lt] at this
          · rw [if_pos (by omega), hs] at hu
            have hu := (List.cons.inj hu).2
            rw [hu] at e
            exact absurd rfl (dg_head _ (by omega) _ e)
        · refine raw ?_
          repeat (first | (with_reducible refine unr ?_; try simp only [YY, ↓reduceIte, Nat.reduceEqDiff, Nat.reduceAdd, Nat.reduceLeDiff, reduceCtorEq, Int.reduceEq, Int.reduceLT, Int.reduceLE, Int.reduceNeg, Int.reduceAdd, Int.reduceSub, Int.reduceToNat, hus]) | (with_reducible refine WW (by decide) ?_))
          refine ⟨(_, _), rfl, fun e => absurd e (by decide), fun h => absurd ?_ hus⟩
          have h := hN.1 h
          have h48 : (bl x)[0]? ≠ some 48 := fun e => by have := (h.2.2.2.1 e).2; cases this
          have hdg := (dg_iff hD.1 hD.2.2).2 fun e => absurd e h48
          obtain ⟨c, hc⟩ : ∃ c, (bl x)[0]? = some c := ⟨_, List.getElem?_eq_getElem (List.length_pos_iff.2 hD.1)⟩
          have := valN_pos hD.2.2 hc (fun e => h48 (by rw [hc, e]))
          rw [if_pos (by omega), hdg, ← hs] at hu
          exact bl_inj hu
      · have hv' : (9223372036854775808 : Int) < (valN (bl x) : Int) := by omega
        refine raw ?_
        repeat (first | (with_reducible refine unr ?_; try simp only [YY, ↓reduceIte, Nat.reduceEqDiff, Nat.reduceAdd, Nat.reduceLeDiff, reduceCtorEq, Int.reduceEq, Int.reduceLT, Int.reduceLE, Int.reduceNeg, Int.reduceAdd, Int.reduceSub, Int.reduceToNat, hv']) | (with_reducible refine WW (by decide) ?_))
        exact ⟨(_, _), rfl, fun e => absurd e (by decide), fun h => absurd (hN.1 h).2.2.2.2.1 hv⟩
    · refine raw ?_
      repeat (first | (with_reducible refine unr ?_; try simp only [YY, ↓reduceIte, Nat.reduceEqDiff, Nat.reduceAdd, Nat.reduceLeDiff, reduceCtorEq, Int.reduceEq, Int.reduceLT, Int.reduceLE, Int.reduceNeg, Int.reduceAdd, Int.reduceSub, Int.reduceToNat]) | (with_reducible refine WW (by decide) ?_))
      exact ⟨(_, _), rfl, fun e => absurd e (by decide), fun h => absurd ((fun h : NumD true (bl x) => (⟨h.1, h.2.1, h.2.2.1⟩ : Dig (bl x))) (hN.1 h)) hD⟩
  · have e45 : b ≠ 45 := fun e => h45 ((u8_45 b).2 e)
    refine raw ?_
    repeat (first | (with_reducible refine unr ?_; try simp only [YY, ↓reduceIte, Nat.reduceEqDiff, Nat.reduceAdd, Nat.reduceLeDiff, reduceCtorEq, Int.reduceEq, Int.reduceLT, Int.reduceLE, Int.reduceNeg, Int.reduceAdd, Int.reduceSub, Int.reduceToNat, h1, hb, h45, h1']) | (with_reducible refine WW (by decide) ?_))
    have hN : NumT (bl s) ↔ NumD false (bl s) := by rw [NumT, if_neg (by rw [hbb]; simpa using e45)]
    refine (plainE s σ).mono ?_
    rintro _ t ⟨⟨hD, rfl⟩ | ⟨hD, rfl⟩, rfl⟩
    · by_cases hv : valN (bl s) ≤ 9223372036854775808
      · have hv' : ¬ (9223372036854775808 : Int) < (valN (bl s) : Int) := by omega
        have hm : -9223372036854775808 ≤ (if valN (bl s) = 9223372036854775808 then -9223372036854775808 else (valN (bl s) : Int)) ∧ (if valN (bl s) = 9223372036854775808 then -9223372036854775808 else (valN (bl s) : Int)) ≤ 9223372036854775807 := by split <;> omega
        refine raw ?_
        repeat (first | (with_reducible refine unr ?_; try simp only [YY, ↓reduceIte, Nat.reduceEqDiff, Nat.reduceAdd, Nat.reduceLeDiff, reduceCtorEq, Int.reduceEq, Int.reduceLT, Int.reduceLE, Int.reduceNeg, Int.reduceAdd, Int.reduceSub, Int.reduceToNat, hv']) | (with_reducible refine WW (by decide) ?_))
        refine (signedE (valN (bl s)) false hv _).mono ?_
        rintro _ t ⟨rfl, rfl⟩
        refine raw ?_
        repeat (first | (with_reducible refine unr ?_; try simp only [YY, ↓reduceIte, Nat.reduceEqDiff, Nat.reduceAdd, Nat.reduceLeDiff, reduceCtorEq, Int.reduceEq, Int.reduceLT, Int.reduceLE, Int.reduceNeg, Int.reduceAdd, Int.reduceSub, Int.reduceToNat]) | (with_reducible refine WW (by decide) ?_))
        refine (textE _ hm.1 hm.2 _).mono ?_
        rintro _ t ⟨⟨u, rfl, hu⟩, rfl⟩
        by_cases h63 : valN (bl s) = 9223372036854775808
        · have hus : ¬ u = s := by
            rintro rfl
            rw [if_pos h63, if_pos (by omega)] at hu
            rw [hu] at hbb
            simp at hbb
            exact e45 hbb.symm
          refine raw ?_
          repeat (first | (with_reducible refine unr ?_; try simp only [YY, ↓reduceIte, Nat.reduceEqDiff, Nat.reduceAdd, Nat.reduceLeDiff, reduceCtorEq, Int.reduceEq, Int.reduceLT, Int.reduceLE, Int.reduceNeg, Int.reduceAdd, Int.reduceSub, Int.reduceToNat, hus]) | (with_reducible refine WW (by decide) ?_))
          exact ⟨(_, _), rfl, fun e => absurd e (by decide), fun h => by have := (hN.1 h).2.2.2.2.2 h63; cases this⟩
        rw [if_neg h63, if_neg (by omega), Int.natAbs_natCast] at hu
        by_cases hus : u = s
        · subst hus
          refine raw ?_
          repeat (first | (with_reducible refine unr ?_; try simp only [YY, ↓reduceIte, Nat.reduceEqDiff, Nat.reduceAdd, Nat.reduceLeDiff, reduceCtorEq, Int.reduceEq, Int.reduceLT, Int.reduceLE, Int.reduceNeg, Int.reduceAdd, Int.reduceSub, Int.reduceToNat]) | (with_reducible refine WW (by decide) ?_))
          refine (signedE (valN (bl u)) false hv _).mono ?_
          rintro _ t ⟨rfl, rfl⟩
          refine raw ?_
          repeat (first | (with_reducible refine unr ?_; try simp only [YY, ↓reduceIte, Nat.reduceEqDiff, Nat.reduceAdd, Nat.reduceLeDiff, reduceCtorEq, Int.reduceEq, Int.reduceLT, Int.reduceLE, Int.reduceNeg, Int.reduceAdd, Int.reduceSub, Int.reduceToNat]) | (with_reducible refine WW (by decide) ?_))
          exact ⟨(_, _), rfl, fun _ => hN.2 ⟨hD.1, hD.2.1, hD.2.2, fun e => ⟨(dg_iff hD.1 hD.2.2).1 hu.symm e, rfl⟩, hv, fun e => absurd e h63⟩, fun _ => rfl⟩
        · refine raw ?_
          repeat (first | (with_reducible refine unr ?_; try simp only [YY, ↓reduceIte, Nat.reduceEqDiff, Nat.reduceAdd, Nat.reduceLeDiff, reduceCtorEq, Int.reduceEq, Int.reduceLT, Int.reduceLE, Int.reduceNeg, Int.reduceAdd, Int.reduceSub, Int.reduceToNat, hus]) | (with_reducible refine WW (by decide) ?_))
          refine ⟨(_, _), rfl, fun e => absurd e (by decide), fun h => absurd ?_ hus⟩
          have h := hN.1 h
          rw [(dg_iff hD.1 hD.2.2).2 fun e => (h.2.2.2.1 e).1] at hu
          exact bl_inj hu
      · have hv' : (9223372036854775808 : Int) < (valN (bl s) : Int) := by omega
        refine raw ?_
        repeat (first | (with_reducible refine unr ?_; try simp only [YY, ↓reduceIte, Nat.reduceEqDiff, Nat.reduceAdd, Nat.reduceLeDiff, reduceCtorEq, Int.reduceEq, Int.reduceLT, Int.reduceLE, Int.reduceNeg, Int.reduceAdd, Int.reduceSub, Int.reduceToNat, hv']) | (with_reducible refine WW (by decide) ?_))
        exact ⟨(_, _), rfl, fun e => absurd e (by decide), fun h => absurd (hN.1 h).2.2.2.2.1 hv⟩
    · refine raw ?_
      repeat (first | (with_reducible refine unr ?_; try simp only [YY, ↓reduceIte, Nat.reduceEqDiff, Nat.reduceAdd, Nat.reduceLeDiff, reduceCtorEq, Int.reduceEq, Int.reduceLT, Int.reduceLE, Int.reduceNeg, Int.reduceAdd, Int.reduceSub, Int.reduceToNat]) | (with_reducible refine WW (by decide) ?_))
      exact ⟨(_, _), rfl, fun e => absurd e (by decide), fun h => absurd ((fun h : NumD false (bl s) => (⟨h.1, h.2.1, h.2.2.1⟩ : Dig (bl s))) (hN.1 h)) hD⟩
theorem localE2 (s : ByteArray) (σ : Store) : ACalls Try.prog 149 [.str s] σ fun r σ' => (∃ b : Bool, r = .bool b ∧ (b = true ↔ LocN s)) ∧ σ' = σ := by
  refine in149 (by simp) ?_
  unfold c149
  by_cases h2 : (s.size : Int) < 2
  · refine raw ?_
    repeat (first | (with_reducible refine unr ?_; try simp only [YY, ↓reduceIte, Nat.reduceEqDiff, Nat.reduceAdd, Nat.reduceLeDiff, reduceCtorEq, Int.reduceEq, Int.reduceLT, Int.reduceLE, Int.reduceNeg, Int.reduceAdd, Int.reduceSub, Int.reduceToNat, h2]) | (with_reducible refine WW (by decide) ?_))
    refine ⟨_, rfl, by simp, fun h => ?_⟩
    have h3 := h.2.2
    have : (bl s).drop 1 = [] := by
      cases hl : bl s with
      | nil => rfl
      | cons a r =>
        have := bl_len s
        rw [hl] at this
        have : r = [] := List.eq_nil_of_length_eq_zero (by simp at this; omega)
        simp [this]
    rw [this] at h3
    simp [NumT, NumD] at h3
  obtain ⟨a, b, r, hl⟩ : ∃ a b r, bl s = a :: b :: r := by
    have := bl_len s
    match hl : bl s with
    | [] => rw [hl] at this; simp at this; omega
    | [a] => rw [hl] at this; simp at this; omega
    | a :: b :: r => exact ⟨a, b, r, rfl⟩
  have g0 : s.data.toList[0]? = some a := by show (bl s)[0]? = _; rw [hl]; rfl
  have g1 : s.data.toList[1]? = some b := by show (bl s)[1]? = _; rw [hl]; rfl
  have h1' : (1 : Int) ≤ (s.size : Int) := by omega
  by_cases h35 : (a.toNat : Int) = 35
  · by_cases h45 : (b.toNat : Int) = 45
    · refine raw ?_
      repeat (first | (with_reducible refine unr ?_; try simp only [YY, ↓reduceIte, Nat.reduceEqDiff, Nat.reduceAdd, Nat.reduceLeDiff, reduceCtorEq, Int.reduceEq, Int.reduceLT, Int.reduceLE, Int.reduceNeg, Int.reduceAdd, Int.reduceSub, Int.reduceToNat, h2, g0, g1, h35, h45]) | (with_reducible refine WW (by decide) ?_))
      refine ⟨_, rfl, by simp, fun h => absurd ?_ h.2.1⟩
      rw [hl]; simp [(u8_45 b).1 h45]
    · refine raw ?_
      repeat (first | (with_reducible refine unr ?_; try simp only [YY, ↓reduceIte, Nat.reduceEqDiff, Nat.reduceAdd, Nat.reduceLeDiff, reduceCtorEq, Int.reduceEq, Int.reduceLT, Int.reduceLE, Int.reduceNeg, Int.reduceAdd, Int.reduceSub, Int.reduceToNat, h2, g0, g1, h35, h45, h1']) | (with_reducible refine WW (by decide) ?_))
      refine (parseE2 _ _).mono ?_
      rintro r t ⟨⟨⟨n, e⟩, rfl, hp⟩, rfl⟩
      refine raw ?_
      repeat (first | (with_reducible refine unr ?_; try simp only [YY, ↓reduceIte, Nat.reduceEqDiff, Nat.reduceAdd, Nat.reduceLeDiff, reduceCtorEq, Int.reduceEq, Int.reduceLT, Int.reduceLE, Int.reduceNeg, Int.reduceAdd, Int.reduceSub, Int.reduceToNat]) | (with_reducible refine WW (by decide) ?_))
      refine ⟨_, rfl, ?_⟩
      rw [decide_eq_true_iff, hp, bl_ext, List.take_of_length_le (by rw [bl_len]; simp)]
      refine ⟨fun h => ⟨by rw [hl]; simp [(u8_35 a).1 h35], fun e => h45 ?_, h⟩, fun h => h.2.2⟩
      rw [hl] at e
      simp at e
      exact (u8_45 b).2 e
  · refine raw ?_
    repeat (first | (with_reducible refine unr ?_; try simp only [YY, ↓reduceIte, Nat.reduceEqDiff, Nat.reduceAdd, Nat.reduceLeDiff, reduceCtorEq, Int.reduceEq, Int.reduceLT, Int.reduceLE, Int.reduceNeg, Int.reduceAdd, Int.reduceSub, Int.reduceToNat, h2, g0, g1, h35]) | (with_reducible refine WW (by decide) ?_))
    refine ⟨_, rfl, by simp, fun h => absurd ?_ h35⟩
    have := h.1
    rw [hl] at this
    simp at this
    exact (u8_35 a).2 this
theorem localsE2 (l : List ByteArray) (hl : l.length ≤ 100000000) (σ : Store) : ACalls Try.prog 92 [strs l] σ fun r σ' => (∃ b : Bool, r = .bool b ∧ (b = true ↔ Locs l)) ∧ σ' = σ := by
  refine in92 (by simp) ?_
  unfold c92
  refine raw ?_
  repeat (first | (with_reducible refine unr ?_; try simp only [YY, ↓reduceIte, Nat.reduceEqDiff, Nat.reduceAdd, Nat.reduceLeDiff, reduceCtorEq, Int.reduceEq, Int.reduceLT, Int.reduceLE, Int.reduceNeg, Int.reduceAdd, Int.reduceSub, Int.reduceToNat]) | (with_reducible refine WW (by decide) ?_))
  refine AWP_while [0, 3] (fun i : Nat => l.length - i) (fun i => [strs l, .int .i64 i]) (fun i t => t = σ ∧ i ≤ l.length ∧ Hid (Locs (l.take i))) 0 ⟨rfl, by simp, ⟨by simp [Locs.nil]⟩⟩ ?_ ?_
  · refine raw ?_
    repeat (first | (with_reducible refine unr ?_; try simp only [YY, ↓reduceIte, Nat.reduceEqDiff, Nat.reduceAdd, Nat.reduceLeDiff, reduceCtorEq, Int.reduceEq, Int.reduceLT, Int.reduceLE, Int.reduceNeg, Int.reduceAdd, Int.reduceSub, Int.reduceToNat]) | (with_reducible refine WW (by decide) ?_))
    rfl
  rintro i t ⟨rfl, hi, hn⟩
  have hw := wrap_succ (i := i) (by omega)
  by_cases hil : i < l.length
  · have hil' : (i : Int) < (l.length : Int) := by omega
    obtain ⟨x, hx⟩ : ∃ x, l[i]? = some x := ⟨_, List.getElem?_eq_getElem hil⟩
    have hg := strs_get hx
    have hsn : Locs (l.take (i + 1)) ↔ LocN x ∧ x ∉ l.take i := by
      rw [List.take_add_one, hx]
      exact Locs.snoc.trans ⟨fun h => h.2, fun h => ⟨hn.out, h⟩⟩
    have hbad : ¬ Locs (l.take (i + 1)) → ¬ Locs l := fun h hh => h ⟨fun s hs => hh.1 s (List.mem_of_mem_take hs), hh.2.sublist (List.take_sublist _ _)⟩
    refine raw ?_
    repeat (first | (with_reducible refine unr ?_; try simp only [YY, ↓reduceIte, Nat.reduceEqDiff, Nat.reduceAdd, Nat.reduceLeDiff, reduceCtorEq, Int.reduceEq, Int.reduceLT, Int.reduceLE, Int.reduceNeg, Int.reduceAdd, Int.reduceSub, Int.reduceToNat, hil', hg, all_strs, map_take', map_drop']) | (with_reducible refine WW (by decide) ?_))
    refine (localE2 x _).mono ?_
    rintro _ t ⟨⟨b, rfl, hb⟩, rfl⟩
    cases b with
    | false =>
      refine raw ?_
      repeat (first | (with_reducible refine unr ?_; try simp only [YY, ↓reduceIte, Nat.reduceEqDiff, Nat.reduceAdd, Nat.reduceLeDiff, reduceCtorEq, Int.reduceEq, Int.reduceLT, Int.reduceLE, Int.reduceNeg, Int.reduceAdd, Int.reduceSub, Int.reduceToNat]) | (with_reducible refine WW (by decide) ?_))
      exact ⟨_, rfl, by simp, fun h => absurd h (hbad fun e => absurd (hb.2 (hsn.1 e).1) (by simp))⟩
    | true =>
      have hc1 : (i : Int) ≤ (l.length : Int) := by omega
      have hc0 : (0 : Int) ≤ (i : Int) := by omega
      have hlen : i ≤ l.length := hi
      refine raw ?_
      repeat (first | (with_reducible refine unr ?_; try simp only [YY, ↓reduceIte, Nat.reduceEqDiff, Nat.reduceAdd, Nat.reduceLeDiff, reduceCtorEq, Int.reduceEq, Int.reduceLT, Int.reduceLE, Int.reduceNeg, Int.reduceAdd, Int.reduceSub, Int.reduceToNat, hil', hg, all_strs, map_take', map_drop', hc1, hc0, Int.toNat_natCast]) | (with_reducible refine WW (by decide) ?_))
      refine (has14 (l.take i) (by simp; omega) x _).mono ?_
      rintro _ t ⟨rfl, rfl⟩
      by_cases hm : x ∈ l.take i
      · rw [decP_t hm]
        refine raw ?_
        repeat (first | (with_reducible refine unr ?_; try simp only [YY, ↓reduceIte, Nat.reduceEqDiff, Nat.reduceAdd, Nat.reduceLeDiff, reduceCtorEq, Int.reduceEq, Int.reduceLT, Int.reduceLE, Int.reduceNeg, Int.reduceAdd, Int.reduceSub, Int.reduceToNat]) | (with_reducible refine WW (by decide) ?_))
        exact ⟨_, rfl, by simp, fun h => absurd h (hbad fun e => (hsn.1 e).2 hm)⟩
      · rw [decP_f hm]
        refine raw ?_
        repeat (first | (with_reducible refine unr ?_; try simp only [YY, ↓reduceIte, Nat.reduceEqDiff, Nat.reduceAdd, Nat.reduceLeDiff, reduceCtorEq, Int.reduceEq, Int.reduceLT, Int.reduceLE, Int.reduceNeg, Int.reduceAdd, Int.reduceSub, Int.reduceToNat, hw]) | (with_reducible refine WW (by decide) ?_))
        exact ⟨i + 1, rfl, ⟨by omega, ⟨hsn.2 ⟨hb.1 rfl, hm⟩⟩⟩, by omega⟩
  · have hil' : ¬ (i : Int) < (l.length : Int) := by omega
    have hnn := hn.out
    rw [List.take_of_length_le (by omega)] at hnn
    refine raw ?_
    repeat (first | (with_reducible refine unr ?_; try simp only [YY, ↓reduceIte, Nat.reduceEqDiff, Nat.reduceAdd, Nat.reduceLeDiff, reduceCtorEq, Int.reduceEq, Int.reduceLT, Int.reduceLE, Int.reduceNeg, Int.reduceAdd, Int.reduceSub, Int.reduceToNat, hil']) | (with_reducible refine WW (by decide) ?_))
    exact ⟨_, rfl, by simp [hnn]⟩
theorem localsE (l : List ByteArray) (hl : l.length ≤ 100000000) (σ : Store) : ACalls Try.prog 111 [strs l] σ fun r σ' => (∃ b : Bool, r = .bool b ∧ (b = true ↔ Locs l)) ∧ σ' = σ := by
  refine in111 (by simp) ?_
  unfold c111
  refine raw ?_
  repeat (first | (with_reducible refine unr ?_; try simp only [YY, ↓reduceIte, Nat.reduceEqDiff, Nat.reduceAdd, Nat.reduceLeDiff, reduceCtorEq, Int.reduceEq, Int.reduceLT, Int.reduceLE, Int.reduceNeg, Int.reduceAdd, Int.reduceSub, Int.reduceToNat]) | (with_reducible refine WW (by decide) ?_))
  refine AWP_while [0, 5, 6, 7] (fun i : Nat => l.length - i) (fun i => [strs l, strs l, .int .i64 l.length, .int .i64 i]) (fun i t => t = σ ∧ i ≤ l.length ∧ Hid (Locs (l.take i))) 0 ⟨rfl, by simp, ⟨by simp [Locs.nil]⟩⟩ ?_ ?_
  · refine raw ?_
    repeat (first | (with_reducible refine unr ?_; try simp only [YY, ↓reduceIte, Nat.reduceEqDiff, Nat.reduceAdd, Nat.reduceLeDiff, reduceCtorEq, Int.reduceEq, Int.reduceLT, Int.reduceLE, Int.reduceNeg, Int.reduceAdd, Int.reduceSub, Int.reduceToNat]) | (with_reducible refine WW (by decide) ?_))
    rfl
  rintro i t ⟨rfl, hi, hn⟩
  have hw := wrap_succ (i := i) (by omega)
  by_cases hil : i < l.length
  · have hil' : (i : Int) < (l.length : Int) := by omega
    obtain ⟨x, hx⟩ : ∃ x, l[i]? = some x := ⟨_, List.getElem?_eq_getElem hil⟩
    have hg := strs_get hx
    have hsn : Locs (l.take (i + 1)) ↔ LocN x ∧ x ∉ l.take i := by
      rw [List.take_add_one, hx]
      exact Locs.snoc.trans ⟨fun h => h.2, fun h => ⟨hn.out, h⟩⟩
    have hbad : ¬ Locs (l.take (i + 1)) → ¬ Locs l := fun h hh => h ⟨fun s hs => hh.1 s (List.mem_of_mem_take hs), hh.2.sublist (List.take_sublist _ _)⟩
    refine raw ?_
    repeat (first | (with_reducible refine unr ?_; try simp only [YY, ↓reduceIte, Nat.reduceEqDiff, Nat.reduceAdd, Nat.reduceLeDiff, reduceCtorEq, Int.reduceEq, Int.reduceLT, Int.reduceLE, Int.reduceNeg, Int.reduceAdd, Int.reduceSub, Int.reduceToNat, hil', hg, all_strs, map_take', map_drop']) | (with_reducible refine WW (by decide) ?_))
    refine (localE x _).mono ?_
    rintro _ t ⟨⟨b, rfl, hb⟩, rfl⟩
    cases b with
    | false =>
      refine raw ?_
      repeat (first | (with_reducible refine unr ?_; try simp only [YY, ↓reduceIte, Nat.reduceEqDiff, Nat.reduceAdd, Nat.reduceLeDiff, reduceCtorEq, Int.reduceEq, Int.reduceLT, Int.reduceLE, Int.reduceNeg, Int.reduceAdd, Int.reduceSub, Int.reduceToNat]) | (with_reducible refine WW (by decide) ?_))
      exact ⟨_, rfl, by simp, fun h => absurd h (hbad fun e => absurd (hb.2 (hsn.1 e).1) (by simp))⟩
    | true =>
      have hc1 : (i : Int) ≤ (l.length : Int) := by omega
      have hc0 : (0 : Int) ≤ (i : Int) := by omega
      have hlen : i ≤ l.length := hi
      refine raw ?_
      repeat (first | (with_reducible refine unr ?_; try simp only [YY, ↓reduceIte, Nat.reduceEqDiff, Nat.reduceAdd, Nat.reduceLeDiff, reduceCtorEq, Int.reduceEq, Int.reduceLT, Int.reduceLE, Int.reduceNeg, Int.reduceAdd, Int.reduceSub, Int.reduceToNat, hil', hg, all_strs, map_take', map_drop', hc1, hc0, Int.toNat_natCast]) | (with_reducible refine WW (by decide) ?_))
      refine (contains_strs (l.take i) (by simp; omega) x _).mono ?_
      rintro _ t ⟨rfl, rfl⟩
      by_cases hm : x ∈ l.take i
      · rw [decP_t hm]
        refine raw ?_
        repeat (first | (with_reducible refine unr ?_; try simp only [YY, ↓reduceIte, Nat.reduceEqDiff, Nat.reduceAdd, Nat.reduceLeDiff, reduceCtorEq, Int.reduceEq, Int.reduceLT, Int.reduceLE, Int.reduceNeg, Int.reduceAdd, Int.reduceSub, Int.reduceToNat]) | (with_reducible refine WW (by decide) ?_))
        exact ⟨_, rfl, by simp, fun h => absurd h (hbad fun e => (hsn.1 e).2 hm)⟩
      · rw [decP_f hm]
        refine raw ?_
        repeat (first | (with_reducible refine unr ?_; try simp only [YY, ↓reduceIte, Nat.reduceEqDiff, Nat.reduceAdd, Nat.reduceLeDiff, reduceCtorEq, Int.reduceEq, Int.reduceLT, Int.reduceLE, Int.reduceNeg, Int.reduceAdd, Int.reduceSub, Int.reduceToNat, hw]) | (with_reducible refine WW (by decide) ?_))
        exact ⟨i + 1, rfl, ⟨by omega, ⟨hsn.2 ⟨hb.1 rfl, hm⟩⟩⟩, by omega⟩
  · have hil' : ¬ (i : Int) < (l.length : Int) := by omega
    have hnn := hn.out
    rw [List.take_of_length_le (by omega)] at hnn
    refine raw ?_
    repeat (first | (with_reducible refine unr ?_; try simp only [YY, ↓reduceIte, Nat.reduceEqDiff, Nat.reduceAdd, Nat.reduceLeDiff, reduceCtorEq, Int.reduceEq, Int.reduceLT, Int.reduceLE, Int.reduceNeg, Int.reduceAdd, Int.reduceSub, Int.reduceToNat, hil']) | (with_reducible refine WW (by decide) ?_))
    exact ⟨_, rfl, by simp [hnn]⟩
end Go.Proofs.Ytjjbjibbjbbeaaa
/- Which expressions may be, exactly: as plain law. -/
set_option linter.unusedVariables false
set_option linter.unusedSimpArgs false
namespace Go.AL
/-- The parts' numbers. -/
def Shp (p g a b q p' g' a' b' q' : Nat) : Prop := p = p' ∧ g = g' ∧ a = a' ∧ b = b' ∧ q = q'
/-- What an expression is, its parts aside. -/
def HeadOK (gl ins : List ByteArray) (k : Int) (nm : ByteArray) (n ar : Int) (ps : List ByteArray) (g a : Nat) (bn : List ByteArray) (q : Nat) : Prop :=
  if k = 1 then nm ∈ ins ∧ n = 0 ∧ ar = 0 ∧ Shp ps.length g a bn.length q 0 0 0 0 0
  else if k = 2 then (nm ∈ gl ∨ 0 < opS nm) ∧ n = 0 ∧ ar = 0 ∧ Shp ps.length g a bn.length q 0 0 0 0 0
  else if k = 3 then nm.size = 0 ∧ ar = 0 ∧ Shp ps.length g a bn.length q 0 0 0 0 0
  else if k = 4 then nm.size ≠ 0 ∧ 0 ≤ n ∧ 0 ≤ ar ∧ Shp ps.length g a bn.length q 0 0 0 0 0
  else if k = 5 then nm.size = 0 ∧ n = 0 ∧ ar = 0 ∧ Shp ps.length g a bn.length q 0 2 0 0 0
  else if k = 6 then nm.size = 0 ∧ n = 0 ∧ ar = 0 ∧ Shp ps.length g a bn.length q ps.length 1 0 0 0 ∧ ps.length ≠ 0 ∧ Locs ps
  else if k = 7 then nm.size = 0 ∧ n = 0 ∧ ar = 0 ∧ Shp ps.length g a bn.length q 0 1 0 bn.length 0 ∧ bn.length ≠ 0 ∧ Locs bn
  else if k = 8 then nm.size = 0 ∧ n = 0 ∧ ar = 0 ∧ Shp ps.length g a bn.length q 0 1 a 0 0 ∧ a ≠ 0
  else if k = 9 then nm.size = 0 ∧ 1 ≤ n ∧ n ≤ 11 ∧ ar = 0 ∧ Shp ps.length g a bn.length q 0 2 0 0 0
  else if k = 10 then nm.size = 0 ∧ n = 0 ∧ ar = 0 ∧ Shp ps.length g a bn.length q 0 0 0 0 0
  else if k = 11 then nm.size = 0 ∧ n = 0 ∧ ar = 0 ∧ Shp ps.length g a bn.length q 0 1 0 0 q
  else False
/-- The names in scope inside. -/
def innerE (k : Int) (ins ps bn : List ByteArray) : List ByteArray := if k = 6 then ins ++ ps else if k = 7 then ins ++ bn else ins
/-- An alternative by itself; the last one. -/
def AltHead (a : AltH) (last : Prop) : Prop :=
  (a.k = 1 ∧ a.nm.size ≠ 0 ∧ 0 ≤ a.n ∧ Locs a.ps) ∨ (a.k = 2 ∧ a.nm.size = 0 ∧ a.ps.length = 0) ∨ (a.k = 3 ∧ a.nm.size = 0 ∧ a.n = 0 ∧ a.ps.length = 0 ∧ last)
/-- An alternative, and one ahead of it, that may not both be. -/
def Clash (b a : AltH) : Prop := (b.k ≠ a.k ∧ a.k ≠ 3) ∨ (b.k = a.k ∧ b.nm = a.nm ∧ (a.k = 1 ∨ b.n = a.n))
def AltsOK (l : List AltH) : Prop := ∀ i a, l[i]? = some a → AltHead a (i + 1 = l.length) ∧ ∀ b, b ∈ l.take i → ¬ Clash b a
/-- The same, as the document has it. -/
def RHead (a : AltH) : Prop := (a.k = 1 ∧ a.nm.size ≠ 0 ∧ 0 ≤ a.n ∧ Locs a.ps) ∨ (a.k ≠ 1 ∧ a.nm.size = 0 ∧ a.ps.length = 0 ∧ (a.k = 2 ∨ (a.k = 3 ∧ a.n = 0)))
def RClash (b a : AltH) : Prop := (b.k ≠ a.k ∧ a.k ≠ 3) ∨ (a.k = 1 ∧ b.nm = a.nm) ∨ (a.k = 2 ∧ b.n = a.n) ∨ b.k = 3
def RAlt (l : List AltH) (i : Nat) (a : AltH) : Prop := (∀ b, b ∈ l.take i → ¬ RClash b a) ∧ RHead a
theorem size0 {s t : ByteArray} (h : s.size = 0) (h' : t.size = 0) : s = t := by
  rw [← str_nil] at h h'; rw [h, h']
theorem alts_iff (l : List AltH) : AltsOK l ↔ ∀ i a, l[i]? = some a → RAlt l i a := by
  constructor
  · intro h i a hi
    obtain ⟨h1, h2⟩ := h i a hi
    refine ⟨fun b hb hc => h2 b hb ?_, ?_⟩
    · obtain ⟨j, hj⟩ := List.mem_iff_getElem?.1 hb
      have hjl : j < i := by
        have := (List.getElem?_eq_some_iff.1 hj).1
        rw [List.length_take] at this; omega
      have hjb : l[j]? = some b := by rw [List.getElem?_take_of_lt hjl] at hj; exact hj
      obtain ⟨h3, h4⟩ := h j b hjb
      have hil := (List.getElem?_eq_some_iff.1 hi).1
      have hb3 : b.k ≠ 3 := by
        rcases h3 with h3 | h3 | h3
        · omega
        · omega
        · have := h3.2.2.2.2; omega
      rcases hc with hc | hc | hc | hc
      · exact .inl hc
      · by_cases e : b.k = a.k
        · exact .inr ⟨e, hc.2, .inl hc.1⟩
        · exact .inl ⟨e, by omega⟩
      · by_cases e : b.k = a.k
        · refine .inr ⟨e, ?_, .inr hc.2⟩
          have hb0 : b.nm.size = 0 := by rcases h3 with h3 | h3 | h3 <;> first | (exfalso; omega) | exact h3.2.1
          have ha0 : a.nm.size = 0 := by rcases h1 with h3 | h3 | h3 <;> first | (exfalso; omega) | exact h3.2.1
          exact size0 hb0 ha0
        · exact .inl ⟨e, by omega⟩
      · exact absurd hc hb3
    · rcases h1 with h1 | h1 | h1
      · exact .inl h1
      · exact .inr ⟨by omega, h1.2.1, h1.2.2, .inl h1.1⟩
      · exact .inr ⟨by omega, h1.2.1, h1.2.2.2.1, .inr ⟨h1.1, h1.2.2.1⟩⟩
  · intro h i a hi
    obtain ⟨h1, h2⟩ := h i a hi
    have hil := (List.getElem?_eq_some_iff.1 hi).1
    refine ⟨?_, fun b hb hc => h1 b hb ?_⟩
    · rcases h2 with h2 | h2
      · exact .inl h2
      · rcases h2.2.2.2 with h3 | h3
        · exact .inr (.inl ⟨h3, h2.2.1, h2.2.2.1⟩)
        · refine .inr (.inr ⟨h3.1, h2.2.1, h3.2, h2.2.2.1, ?_⟩)
          rcases Nat.lt_or_ge (i + 1) l.length with hlt | hge
          · obtain ⟨c, hc⟩ : ∃ c, l[i + 1]? = some c := ⟨_, List.getElem?_eq_getElem hlt⟩
            refine absurd (.inr (.inr (.inr h3.1))) ((h (i + 1) c hc).1 a ?_)
            exact List.mem_of_getElem? (i := i) (by rw [List.getElem?_take_of_lt (by omega)]; exact hi)
          · omega
    · rcases hc with hc | ⟨e, hn, h3⟩
      · exact .inl hc
      · by_cases a1 : a.k = 1
        · exact .inr (.inl ⟨a1, hn⟩)
        · have h3 := h3.resolve_left a1
          by_cases a2 : a.k = 2
          · exact .inr (.inr (.inl ⟨a2, h3⟩))
          · rcases h2 with h2 | h2
            · exact absurd h2.1 a1
            · rcases h2.2.2.2 with h4 | h4
              · exact absurd h4 a2
              · exact .inr (.inr (.inr (by omega)))
/-- What may be. -/
inductive Cr.RtE (gl : List ByteArray) : List ByteArray → Cr → Prop
  | mk {ins : List ByteArray} {k : Int} {nm : ByteArray} {n ar : Int} {ps : List ByteArray} {gs : List Cr} {al : List (AltH × Cr)} {bs : List (ByteArray × Cr)} {pk : List (Int × Cr)} (hh : HeadOK gl ins k nm n ar ps gs.length al.length (bs.map (·.1)) pk.length)
    (g1 : ∀ x, x ∈ gs → Cr.RtE gl (innerE k ins ps (bs.map (·.1))) x) (ha : AltsOK (al.map (·.1))) (g2 : ∀ x, x ∈ al → Cr.RtE gl (ins ++ x.1.ps) x.2) (g3 : ∀ x, x ∈ bs → Cr.RtE gl (innerE k ins ps (bs.map (·.1))) x.2)
    (hp : (pk.map (·.1)).Nodup) (g4 : ∀ x, x ∈ pk → Cr.RtE gl ins x.2) : Cr.RtE gl ins (.mk k nm n ar ps gs al bs pk)
structure RtParts (gl ins : List ByteArray) (k : Int) (nm : ByteArray) (n ar : Int) (ps : List ByteArray) (gs : List Cr) (al : List (AltH × Cr)) (bs : List (ByteArray × Cr)) (pk : List (Int × Cr)) : Prop where
  hh : HeadOK gl ins k nm n ar ps gs.length al.length (bs.map (·.1)) pk.length
  g1 : ∀ x, x ∈ gs → Cr.RtE gl (innerE k ins ps (bs.map (·.1))) x
  ha : AltsOK (al.map (·.1))
  g2 : ∀ x, x ∈ al → Cr.RtE gl (ins ++ x.1.ps) x.2
  g3 : ∀ x, x ∈ bs → Cr.RtE gl (innerE k ins ps (bs.map (·.1))) x.2
  hp : (pk.map (·.1)).Nodup
  g4 : ∀ x, x ∈ pk → Cr.RtE gl ins x.2
theorem rtE_iff {gl ins : List ByteArray} {k : Int} {nm : ByteArray} {n ar : Int} {ps : List ByteArray} {gs : List Cr} {al : List (AltH × Cr)} {bs : List (ByteArray × Cr)} {pk : List (Int × Cr)} :
    (Cr.mk k nm n ar ps gs al bs pk).RtE gl ins ↔ RtParts gl ins k nm n ar ps gs al bs pk :=
  ⟨fun h => by cases h with | mk a b c d e f g => exact ⟨a, b, c, d, e, f, g⟩, fun ⟨a, b, c, d, e, f, g⟩ => .mk a b c d e f g⟩
theorem nil_of {α : Type} {l : List α} (h : l.length = 0) : l = [] := List.eq_nil_of_length_eq_zero h
/-- A leaf. -/
theorem rtE_leaf {gl ins : List ByteArray} {k : Int} {nm : ByteArray} {n ar : Int} {ps : List ByteArray} {gs : List Cr} {al : List (AltH × Cr)} {bs : List (ByteArray × Cr)} {pk : List (Int × Cr)} (hs : HeadOK gl ins k nm n ar ps gs.length al.length (bs.map (·.1)) pk.length → Shp ps.length gs.length al.length bs.length pk.length 0 0 0 0 0) :
    (Cr.mk k nm n ar ps gs al bs pk).RtE gl ins ↔ HeadOK gl ins k nm n ar ps gs.length al.length (bs.map (·.1)) pk.length := by
  rw [rtE_iff]
  refine ⟨fun h => h.hh, fun h => ?_⟩
  obtain ⟨_, h1, h2, h3, h4⟩ := hs h
  have h1 := nil_of h1; have h2 := nil_of h2; have h3 := nil_of h3; have h4 := nil_of h4
  subst h1 h2 h3 h4
  exact ⟨h, by simp, by intro i a h; simp at h, by simp, by simp, by simp, by simp⟩
theorem Cr.RtE.rt {gl ins : List ByteArray} {x : Cr} (h : x.RtE gl ins) : x.Rt (inS ins) := by
  induction h with
  | mk hh g1 ha g2 g3 hp g4 i1 i2 i3 i4 =>
    rename_i ins k nm n ar ps gs al bs pk
    have hal : ∀ x, x ∈ al → x.1.k = 1 ∨ x.1.ps = [] := fun x hx => by
      obtain ⟨i, hi⟩ := List.mem_iff_getElem?.1 hx
      rcases (ha i x.1 (by simp [hi])).1 with h | h | h
      · exact .inl h.1
      · exact .inr (nil_of h.2.2)
      · exact .inr (nil_of h.2.2.2.1)
    have hin : k ≠ 6 → k ≠ 7 → innerE k ins ps (bs.map (·.1)) = ins := fun a b => by rw [innerE, if_neg a, if_neg b]
    unfold HeadOK Shp at hh
    refine .mk (inner := inS (innerE k ins ps (bs.map (·.1)))) ?_ ?_ ?_ ?_ ?_ ?_ ?_ i1 (fun x hx => by rw [← inS_app]; exact i2 x hx) hal i3 i4
    · by_cases h : 1 ≤ k ∧ k ≤ 11
      · exact h
      · rw [if_neg (by omega), if_neg (by omega), if_neg (by omega), if_neg (by omega), if_neg (by omega), if_neg (by omega), if_neg (by omega), if_neg (by omega), if_neg (by omega), if_neg (by omega), if_neg (by omega)] at hh
        exact hh.elim
    · rintro rfl
      simp only [Int.reduceEq, reduceIte] at hh; omega
    · rintro (rfl | rfl) <;> simp only [Int.reduceEq, reduceIte] at hh <;> omega
    · rintro (rfl | rfl | rfl | rfl) <;> simp only [Int.reduceEq, reduceIte] at hh <;> omega
    · rintro rfl
      simp only [Int.reduceEq, reduceIte] at hh
      exact inS_mem hh.1
    · rintro rfl
      rintro rfl
      simp only [Int.reduceEq, reduceIte] at hh
      exact hh.2.2.2.2.1 rfl
    · intro a b
      rw [hin a b]
end Go.AL
/- Which expressions may be, exactly: the program's answer. -/
set_option linter.unusedVariables false
set_option linter.unusedSimpArgs false
namespace Go.AL
theorem mem_take_succI {l : List Int} {i : Nat} {x s : Int} (hx : l[i]? = some x) (h : s ∉ l.take i) (hn : ¬ x = s) : s ∉ l.take (i + 1) := by
  intro hm
  rw [List.take_add_one, hx] at hm
  rcases List.mem_append.1 hm with h1 | h1
  · exact h h1
  · simp at h1; exact hn h1.symm
theorem nodup_succ {α : Type} {l : List α} {i : Nat} {x : α} (hx : l[i]? = some x) (h : (l.take i).Nodup) : (l.take (i + 1)).Nodup ↔ x ∉ l.take i := by
  rw [List.take_add_one, hx, Option.toList_some, List.nodup_append]
  constructor
  · rintro ⟨_, _, h3⟩ hm
    exact h3 x hm x (by simp) rfl
  · intro hn
    exact ⟨h, by simp, fun a ha b hb e => by simp at hb; subst hb; subst e; exact hn ha⟩
theorem not_take {α : Type} {l : List α} {n : Nat} (h : ¬ (l.take n).Nodup) : ¬ l.Nodup := fun hh => h (hh.sublist (List.take_sublist _ _))
end Go.AL
namespace Go.Proofs.Ytjjbjibbjbbeaaa
open Go.AL
theorem indexIE {σ : Store} {v : AV} {l : List Int} (h : Rds σ v 1 (l.map fun s => [.int .i64 s])) (hl : l.length ≤ 9223372036854775806) (k : Int) :
    ACalls Try.prog 172 [v, .int .i64 k] σ fun r σ' => (∃ m : Int, r = .int .i64 m ∧ (0 ≤ m ↔ k ∈ l)) ∧ σ' = σ := by
  refine in172 (by simp) ?_
  unfold c172
  have hlen := h.len
  simp only [List.length_map] at hlen
  refine raw ?_
  repeat (first | (with_reducible refine unr ?_; try simp only [YY, ↓reduceIte, Nat.reduceEqDiff, Nat.reduceAdd, Nat.reduceLeDiff, reduceCtorEq, Int.reduceEq, Int.reduceLT, Int.reduceLE, Int.reduceNeg, Int.reduceAdd, Int.reduceSub, Int.reduceToNat, hlen]) | (with_reducible refine WW (by decide) ?_))
  refine AWP_while [0, 1, 7, 8] (fun i : Nat => l.length - i) (fun i => [v, .int .i64 k, .int .i64 l.length, .int .i64 i])
    (fun i s => s = σ ∧ i ≤ l.length ∧ Hid (k ∉ l.take i)) 0 ⟨rfl, by omega, ⟨by simp⟩⟩ ?_ ?_
  · refine raw ?_
    repeat (first | (with_reducible refine unr ?_; try simp only [YY, ↓reduceIte, Nat.reduceEqDiff, Nat.reduceAdd, Nat.reduceLeDiff, reduceCtorEq, Int.reduceEq, Int.reduceLT, Int.reduceLE, Int.reduceNeg, Int.reduceAdd, Int.reduceSub, Int.reduceToNat]) | (with_reducible refine WW (by decide) ?_))
    rfl
  · rintro i s ⟨rfl, hi, hn⟩
    have hw := wrap_succ (i := i) (by omega)
    by_cases hil : i < l.length
    · have hil' : (i : Int) < (l.length : Int) := by omega
      obtain ⟨x, hx⟩ : ∃ x, l[i]? = some x := ⟨_, List.getElem?_eq_getElem hil⟩
      obtain ⟨p, hp, hep⟩ := h.iad i [.int .i64 x] (by simp [hx])
      have hld := hep.load none
      by_cases hk : x = k
      · have hk2 : k = x := hk.symm
        have hm := List.mem_of_getElem? hx
        refine raw ?_
        repeat (first | (with_reducible refine unr ?_; try simp only [YY, ↓reduceIte, Nat.reduceEqDiff, Nat.reduceAdd, Nat.reduceLeDiff, reduceCtorEq, Int.reduceEq, Int.reduceLT, Int.reduceLE, Int.reduceNeg, Int.reduceAdd, Int.reduceSub, Int.reduceToNat, hil', hp, hld, hk2]) | (with_reducible refine WW (by decide) ?_))
        exact ⟨_, rfl, ⟨fun _ => hm, fun _ => by omega⟩⟩
      · have hk2 : ¬ k = x := fun e => hk e.symm
        refine raw ?_
        repeat (first | (with_reducible refine unr ?_; try simp only [YY, ↓reduceIte, Nat.reduceEqDiff, Nat.reduceAdd, Nat.reduceLeDiff, reduceCtorEq, Int.reduceEq, Int.reduceLT, Int.reduceLE, Int.reduceNeg, Int.reduceAdd, Int.reduceSub, Int.reduceToNat, hil', hp, hld, hk2, hw]) | (with_reducible refine WW (by decide) ?_))
        exact ⟨i + 1, rfl, ⟨by omega, ⟨mem_take_succI hx hn.out hk⟩⟩, by omega⟩
    · have hil' : ¬ (i : Int) < (l.length : Int) := by omega
      have hnn := hn.out
      rw [List.take_of_length_le (by omega)] at hnn
      refine raw ?_
      repeat (first | (with_reducible refine unr ?_; try simp only [YY, ↓reduceIte, Nat.reduceEqDiff, Nat.reduceAdd, Nat.reduceLeDiff, reduceCtorEq, Int.reduceEq, Int.reduceLT, Int.reduceLE, Int.reduceNeg, Int.reduceAdd, Int.reduceSub, Int.reduceToNat, hil']) | (with_reducible refine WW (by decide) ?_))
      exact ⟨_, rfl, by omega, fun e => absurd e hnn⟩
theorem containsIE {σ : Store} {v : AV} {l : List Int} (h : Rds σ v 1 (l.map fun s => [.int .i64 s])) (hl : l.length ≤ 9223372036854775806) (k : Int) :
    ACalls Try.prog 160 [v, .int .i64 k] σ fun r σ' => (∃ b : Bool, r = .bool b ∧ (b = true ↔ k ∈ l)) ∧ σ' = σ := by
  refine in160 (by simp) ?_
  unfold c160
  refine raw ?_
  repeat (first | (with_reducible refine unr ?_; try simp only [YY, ↓reduceIte, Nat.reduceEqDiff, Nat.reduceAdd, Nat.reduceLeDiff, reduceCtorEq, Int.reduceEq, Int.reduceLT, Int.reduceLE, Int.reduceNeg, Int.reduceAdd, Int.reduceSub, Int.reduceToNat]) | (with_reducible refine WW (by decide) ?_))
  refine (indexIE h hl k).mono ?_
  rintro _ t ⟨⟨m, rfl, hm⟩, rfl⟩
  refine raw ?_
  repeat (first | (with_reducible refine unr ?_; try simp only [YY, ↓reduceIte, Nat.reduceEqDiff, Nat.reduceAdd, Nat.reduceLeDiff, reduceCtorEq, Int.reduceEq, Int.reduceLT, Int.reduceLE, Int.reduceNeg, Int.reduceAdd, Int.reduceSub, Int.reduceToNat]) | (with_reducible refine WW (by decide) ?_))
  exact ⟨_, rfl, by rw [decide_eq_true_iff]; exact hm⟩
abbrev RightAtE (x : Cr) : Prop := ∀ (σ : Store) (cid : Nat) (v : AV) (l ins : List ByteArray), Chk σ cid v l → ins.length + x.bulk ≤ 50000000 → ACalls Try.prog 86 [.ptr cid 0 0 0, .agg x.cells, strs ins] σ fun r σ' => (∃ b : Bool, r = .bool b ∧ (b = true ↔ x.RtE l ins)) ∧ σ' = σ
theorem picksE (pk : List (Int × Cr)) (ih : ∀ x, x ∈ pk → RightAtE x.2) (σ : Store) (cid : Nat) (v : AV) (l ins : List ByteArray) (hc : Chk σ cid v l) (hb : ins.length + Cr.bulkP pk ≤ 50000000) :
    ACalls Try.prog 145 [.ptr cid 0 0 0, .list (pk.map pickC), strs ins] σ fun r σ' => RE ((pk.map (·.1)).Nodup ∧ ∀ x, x ∈ pk → x.2.RtE l ins) r ∧ σ' = σ := by
  refine ACalls_fp (p := RE _) ?_
  refine in145 (by simp) ?_
  unfold c145
  have hpl := Cr.lenP pk
  refine raw ?_
  repeat (first | (with_reducible refine unr ?_; try simp only [YY, ↓reduceIte, Nat.reduceEqDiff, Nat.reduceAdd, Nat.reduceLeDiff, reduceCtorEq, Int.reduceEq, Int.reduceLT, Int.reduceLE, Int.reduceNeg, Int.reduceAdd, Int.reduceSub, Int.reduceToNat]) | (with_reducible refine WW (by decide) ?_))
  refine AWP_while [0, 1, 2, 7, 10, 11, 12] (fun y : AV × Nat => pk.length - y.2) (fun y => [.ptr cid 0 0 0, .list (pk.map pickC), strs ins, y.1, .list (pk.map pickC), .int .i64 pk.length, .int .i64 y.2])
    (fun y t => y.2 ≤ pk.length ∧ Grow σ t y.1 3 1 (((pk.map (·.1)).take y.2).map fun s => [.int .i64 s]) ∧ Hid (((pk.map (·.1)).take y.2).Nodup ∧ ∀ x, x ∈ pk.take y.2 → x.2.RtE l ins)) (.nils, 0) ⟨by simp, .start _ _ _, ⟨by simp⟩⟩ ?_ ?_
  · refine raw ?_
    repeat (first | (with_reducible refine unr ?_; try simp only [YY, ↓reduceIte, Nat.reduceEqDiff, Nat.reduceAdd, Nat.reduceLeDiff, reduceCtorEq, Int.reduceEq, Int.reduceLT, Int.reduceLE, Int.reduceNeg, Int.reduceAdd, Int.reduceSub, Int.reduceToNat]) | (with_reducible refine WW (by decide) ?_))
    rfl
  rintro ⟨u, i⟩ t ⟨hi, hG, hall⟩
  simp only at hi hG hall
  have hw := wrap_succ (i := i) (by omega)
  by_cases hil : i < pk.length
  · have hil' : (i : Int) < (pk.length : Int) := by omega
    obtain ⟨x, hx⟩ : ∃ x, pk[i]? = some x := ⟨_, List.getElem?_eq_getElem hil⟩
    have hxm := List.mem_of_getElem? hx
    have hg : (pk.map pickC)[i]? = some (pickC x) := by simp [hx]
    have hx1 : (pk.map (·.1))[i]? = some x.1 := by simp [hx]
    have hxb := Cr.bulkP_le hxm
    refine raw ?_
    repeat (first | (with_reducible refine unr ?_; try simp only [YY, ↓reduceIte, Nat.reduceEqDiff, Nat.reduceAdd, Nat.reduceLeDiff, reduceCtorEq, Int.reduceEq, Int.reduceLT, Int.reduceLE, Int.reduceNeg, Int.reduceAdd, Int.reduceSub, Int.reduceToNat, hil', hg, pickC, Cr.len, Cr.take9]) | (with_reducible refine WW (by decide) ?_))
    refine (containsIE (hG.push _).sl.rds (by simp; omega) _).mono ?_
    rintro _ t2 ⟨⟨b, rfl, hbb⟩, rfl⟩
    cases b with
    | true =>
      refine raw ?_
      repeat (first | (with_reducible refine unr ?_; try simp only [YY, ↓reduceIte, Nat.reduceEqDiff, Nat.reduceAdd, Nat.reduceLeDiff, reduceCtorEq, Int.reduceEq, Int.reduceLT, Int.reduceLE, Int.reduceNeg, Int.reduceAdd, Int.reduceSub, Int.reduceToNat]) | (with_reducible refine WW (by decide) ?_))
      exact FP.same (hG.kp.trans (.pushed _ _)) (RE.f fun h => not_take (fun hh => (nodup_succ hx1 hall.out.1).1 hh (hbb.1 rfl)) h.1) (.bool _)
    | false =>
      refine raw ?_
      repeat (first | (with_reducible refine unr ?_; try simp only [YY, ↓reduceIte, Nat.reduceEqDiff, Nat.reduceAdd, Nat.reduceLeDiff, reduceCtorEq, Int.reduceEq, Int.reduceLT, Int.reduceLE, Int.reduceNeg, Int.reduceAdd, Int.reduceSub, Int.reduceToNat, Cr.len, Cr.take9, Cr.drop9, pickC]) | (with_reducible refine WW (by decide) ?_))
      refine (ih x hxm _ cid v l ins ((hc.keep hG.kp).keep (.pushed _ _)) (by omega)).mono ?_
      rintro _ t2 ⟨⟨b, rfl, hrb⟩, rfl⟩
      cases b with
      | false =>
        refine raw ?_
        repeat (first | (with_reducible refine unr ?_; try simp only [YY, ↓reduceIte, Nat.reduceEqDiff, Nat.reduceAdd, Nat.reduceLeDiff, reduceCtorEq, Int.reduceEq, Int.reduceLT, Int.reduceLE, Int.reduceNeg, Int.reduceAdd, Int.reduceSub, Int.reduceToNat]) | (with_reducible refine WW (by decide) ?_))
        exact FP.same (hG.kp.trans (.pushed _ _)) (RE.f fun h => iff_f hrb rfl (h.2 x hxm)) (.bool _)
      | true =>
        refine raw ?_
        repeat (first | (with_reducible refine unr ?_; try simp only [YY, ↓reduceIte, Nat.reduceEqDiff, Nat.reduceAdd, Nat.reduceLeDiff, reduceCtorEq, Int.reduceEq, Int.reduceLT, Int.reduceLE, Int.reduceNeg, Int.reduceAdd, Int.reduceSub, Int.reduceToNat]) | (with_reducible refine WW (by decide) ?_))
        refine ok_grow (hG.push _) (es2 := [[.int .i64 x.1]]) (by simp) (by simp; omega) (by simp [maxLen]; omega) ?_
        intro v' t3 hG3 _ _
        refine raw ?_
        repeat (first | (with_reducible refine unr ?_; try simp only [YY, ↓reduceIte, Nat.reduceEqDiff, Nat.reduceAdd, Nat.reduceLeDiff, reduceCtorEq, Int.reduceEq, Int.reduceLT, Int.reduceLE, Int.reduceNeg, Int.reduceAdd, Int.reduceSub, Int.reduceToNat, hw]) | (with_reducible refine WW (by decide) ?_))
        refine ⟨(v', i + 1), rfl, ⟨by simp only; omega, ?_, ⟨(nodup_succ hx1 hall.out.1).2 (iff_f hbb rfl), all_succ hall.out.2 hx (hrb.1 rfl)⟩⟩, by simp only; omega⟩
        have : ((pk.map (·.1)).take (i + 1)).map (fun x => [AV.int .i64 x]) = ((pk.map (·.1)).take i).map (fun x => [AV.int .i64 x]) ++ [[AV.int .i64 x.1]] := by rw [List.take_add_one, hx1]; simp
        simp only [this]; exact hG3
  · have hil' : ¬ (i : Int) < (pk.length : Int) := by omega
    have hq := hall.out
    rw [List.take_of_length_le (by simp; omega), List.take_of_length_le (by omega)] at hq
    refine raw ?_
    repeat (first | (with_reducible refine unr ?_; try simp only [YY, ↓reduceIte, Nat.reduceEqDiff, Nat.reduceAdd, Nat.reduceLeDiff, reduceCtorEq, Int.reduceEq, Int.reduceLT, Int.reduceLE, Int.reduceNeg, Int.reduceAdd, Int.reduceSub, Int.reduceToNat, hil']) | (with_reducible refine WW (by decide) ?_))
    exact FP.same hG.kp (RE.t hq) (.bool _)
theorem altsE (al : List (AltH × Cr)) (ih : ∀ x, x ∈ al → RightAtE x.2) (σ : Store) (cid : Nat) (v : AV) (l ins : List ByteArray) (hc : Chk σ cid v l) (hb : ins.length + Cr.bulkA al ≤ 50000000) :
    ACalls Try.prog 144 [.ptr cid 0 0 0, .list (al.map altC), strs ins] σ fun r σ' => RE ((AltsOK (al.map (·.1)) ∧ ∀ x, x ∈ al → x.2.RtE l (ins ++ x.1.ps)) ∧ al.length ≠ 0) r ∧ σ' = σ := by
  refine ACalls_fp (p := RE _) ?_
  refine in144 (by simp) ?_
  unfold c144
  have hpl := Cr.lenA al
  refine raw ?_
  repeat (first | (with_reducible refine unr ?_; try simp only [YY, ↓reduceIte, Nat.reduceEqDiff, Nat.reduceAdd, Nat.reduceLeDiff, reduceCtorEq, Int.reduceEq, Int.reduceLT, Int.reduceLE, Int.reduceNeg, Int.reduceAdd, Int.reduceSub, Int.reduceToNat]) | (with_reducible refine WW (by decide) ?_))
  refine AWP_while [0, 1, 2, 11, 12, 13] (fun i : Nat => al.length - i) (fun i => [.ptr cid 0 0 0, .list (al.map altC), strs ins, .list (al.map altC), .int .i64 al.length, .int .i64 i])
    (fun i t => i ≤ al.length ∧ Kp σ t ∧ Hid ((∀ j a, j < i → (al.map (·.1))[j]? = some a → AltHead a (j + 1 = (al.map (·.1)).length) ∧ ∀ b, b ∈ (al.map (·.1)).take j → ¬ Clash b a) ∧ ∀ x, x ∈ al.take i → x.2.RtE l (ins ++ x.1.ps))) 0 ⟨by simp, .refl _, ⟨by simp⟩⟩ ?_ ?_
  · refine raw ?_
    repeat (first | (with_reducible refine unr ?_; try simp only [YY, ↓reduceIte, Nat.reduceEqDiff, Nat.reduceAdd, Nat.reduceLeDiff, reduceCtorEq, Int.reduceEq, Int.reduceLT, Int.reduceLE, Int.reduceNeg, Int.reduceAdd, Int.reduceSub, Int.reduceToNat]) | (with_reducible refine WW (by decide) ?_))
    rfl
  rintro i t ⟨hi, hk, hall⟩
  have hw := wrap_succ (i := i) (by omega)
  by_cases hil : i < al.length
  · have hil' : (i : Int) < (al.length : Int) := by omega
    obtain ⟨x, hx⟩ : ∃ x, al[i]? = some x := ⟨_, List.getElem?_eq_getElem hil⟩
    have hxm := List.mem_of_getElem? hx
    have hg : (al.map altC)[i]? = some (altC x) := by simp [hx]
    have hxi : (al.map (·.1))[i]? = some x.1 := by simp [hx]
    have hml : (al.map (·.1)).length = al.length := by simp
    have hxb := Cr.bulkA_le hxm
    try simp only [YY, ↓reduceIte, Nat.reduceEqDiff, Nat.reduceAdd, Nat.reduceLeDiff, reduceCtorEq, Int.reduceEq, Int.reduceLT, Int.reduceLE, Int.reduceNeg, Int.reduceAdd, Int.reduceSub, Int.reduceToNat, hil', hg, altC, AltH.cells, Cr.len, Cr.take9]
    iterate 9 ((with_reducible refine WW (by decide) ?_); refine unr ?_; try simp only [YY, ↓reduceIte, Nat.reduceEqDiff, Nat.reduceAdd, Nat.reduceLeDiff, reduceCtorEq, Int.reduceEq, Int.reduceLT, Int.reduceLE, Int.reduceNeg, Int.reduceAdd, Int.reduceSub, Int.reduceToNat, hil', hg, altC, AltH.cells, Cr.len, Cr.take9])
    generalize hs : Store.push _ _ = s
    have k1 : Kp σ s := by rw [← hs]; exact hk.push _
    have he : s.get t.next = some (.cells 113 0 13 [[.int .i64 x.1.k, .str x.1.nm, .int .i64 x.1.n, strs x.1.ps] ++ x.2.cells]) := by rw [← hs]; simp [Store.push_get]
    clear hs
    replace hxi : Hid ((al.map (·.1))[i]? = some x.1) := ⟨hxi⟩
    replace hml : Hid ((al.map (·.1)).length = al.length) := ⟨hml⟩
    replace hx : Hid (al[i]? = some x) := ⟨hx⟩
    refine AWP_cut [0, 1, 2, 7, 8, 11, 12, 13] (fun _ : Unit => [.ptr cid 0 0 0, .list (al.map altC), strs ins, .int .i64 i, .ptr t.next 0 0 0, .list (al.map altC), .int .i64 al.length, .int .i64 i]) (fun _ s' => s = s' ∧ AltHead x.1 (i + 1 = al.length)) ?_ ?_
    · have hlm : IntKind.i64.wrap ((al.length : Int) - 1) = (al.length : Int) - 1 := wrap_of (by omega) (by omega)
      refine raw ?_
      repeat' (first | (with_reducible refine unr ?_; try simp only [YY, ↓reduceIte, Nat.reduceEqDiff, Nat.reduceAdd, Nat.reduceLeDiff, reduceCtorEq, Int.reduceEq, Int.reduceLT, Int.reduceLE, Int.reduceNeg, Int.reduceAdd, Int.reduceSub, Int.reduceToNat, he, str_nil, *]) | (with_reducible first | refine WW (by decide) ?_ | refine ok_idx (by first | assumption | omega) (fun b hb => raw ?_) | refine ok_iad (by first | assumption | omega) (fun x hx hxm => raw ?_) | refine And.intro (by omega) (raw ?_) | (refine guardW_b (fun h => raw ?_) (fun h => raw ?_) <;> try simp only [Ty] at h) | (refine ePick_b (fun h => raw ?_) (fun h => raw ?_) <;> try simp only [Ty] at h) | (refine condW_b (fun h => raw ?_) (fun h => raw ?_) <;> try simp only [Ty] at h) | (refine (localsE _ (by omega) _).mono ?_; rintro _ _ ⟨⟨b, rfl, hb⟩, rfl⟩; refine raw ?_)))
      all_goals first
        | exact ⟨(), .inl ⟨by omega, by omega, by omega, hb.1 h⟩⟩
        | exact ⟨(), .inr (.inl ⟨by omega, by omega, by omega⟩)⟩
        | exact ⟨(), .inr (.inr ⟨by omega, by omega, by omega, by omega, by omega⟩)⟩
        | exact FP.same k1 (RE.f fun hh => by
            have hml := hml.out
            rcases (hh.1.1 i x.1 hxi.out).1 with q | q | q <;> first | omega | exact absurd q.2.2.2 (iff_f hb h)) (.bool _)
    rintro _ _ ⟨rfl, haq⟩
    have hal : (∀ q, q ∈ al.map altC → q.length = 13) = True := by
      refine eq_true fun q hq => ?_
      obtain ⟨y, _, rfl⟩ := List.mem_map.1 hq
      exact altC_len y
    have hi' : (i : Int) ≤ (al.length : Int) := by omega
    have hlt : (((al.take i).length : Nat) : Int) = (i : Int) := by simp; omega
    replace haq : Hid (AltHead x.1 (i + 1 = al.length)) := ⟨haq⟩
    refine AWP_cut [0, 1, 2, 7, 8, 11, 12, 13] (fun _ : Unit => [.ptr cid 0 0 0, .list (al.map altC), strs ins, .int .i64 i, .ptr t.next 0 0 0, .list (al.map altC), .int .i64 al.length, .int .i64 i]) (fun _ s' => Kp s s' ∧ Hid (∀ b, b ∈ (al.map (·.1)).take i → ¬ Clash b x.1)) ?_ ?_
    · refine raw ?_
      repeat (first | (with_reducible refine unr ?_; try simp only [YY, ↓reduceIte, Nat.reduceEqDiff, Nat.reduceAdd, Nat.reduceLeDiff, reduceCtorEq, Int.reduceEq, Int.reduceLT, Int.reduceLE, Int.reduceNeg, Int.reduceAdd, Int.reduceSub, Int.reduceToNat, hal, hi', map_take', hlt]) | (with_reducible refine WW (by decide) ?_))
      refine AWP_while [0, 1, 2, 7, 8, 11, 12, 13, 72, 73, 74] (fun j : Nat => i - j) (fun j => [.ptr cid 0 0 0, .list (al.map altC), strs ins, .int .i64 i, .ptr t.next 0 0 0, .list (al.map altC), .int .i64 al.length, .int .i64 i, .list ((al.take i).map altC), .int .i64 i, .int .i64 j]) (fun j s' => Kp s s' ∧ j ≤ i ∧ Hid (∀ b, b ∈ (al.take i).take j → ¬ Clash b.1 x.1)) 0 ⟨.refl _, by omega, ⟨by simp⟩⟩ ?_ ?_
      · refine raw ?_
        repeat (first | (with_reducible refine unr ?_; try simp only [YY, ↓reduceIte, Nat.reduceEqDiff, Nat.reduceAdd, Nat.reduceLeDiff, reduceCtorEq, Int.reduceEq, Int.reduceLT, Int.reduceLE, Int.reduceNeg, Int.reduceAdd, Int.reduceSub, Int.reduceToNat]) | (with_reducible refine WW (by decide) ?_))
        rfl
      rintro j t2 ⟨k2, hj, hcl⟩
      have hwj := wrap_succ (i := j) (by omega)
      have he2 := k2.get he
      have hq := lt_ne (t2.lt he2)
      by_cases hjl : j < i
      · have hjl' : (j : Int) < (i : Int) := by omega
        obtain ⟨z, hz⟩ : ∃ z, (al.take i)[j]? = some z := ⟨_, List.getElem?_eq_getElem (by simp; omega)⟩
        have hgz : ((al.take i).map altC)[j]? = some (altC z) := by rw [List.getElem?_map, hz]; rfl
        have hzm : z.1 ∈ (al.map (·.1)).take i := by rw [← List.map_take]; exact List.mem_map.2 ⟨z, List.mem_of_getElem? hz, rfl⟩
        replace hz : Hid ((al.take i)[j]? = some z) := ⟨hz⟩
        refine raw ?_
        repeat' (first | (with_reducible refine unr ?_; try simp only [YY, ↓reduceIte, Nat.reduceEqDiff, Nat.reduceAdd, Nat.reduceLeDiff, reduceCtorEq, Int.reduceEq, Int.reduceLT, Int.reduceLE, Int.reduceNeg, Int.reduceAdd, Int.reduceSub, Int.reduceToNat, hjl', he2, hq, hgz, altC, AltH.cells, Cr.len, Cr.take9, str_nil, *]) | (with_reducible first | refine WW (by decide) ?_ | refine ok_idx (by first | assumption | omega) (fun b hb => raw ?_) | refine ok_iad (by first | assumption | omega) (fun x hx hxm => raw ?_) | refine And.intro (by omega) (raw ?_) | (refine guardW_b (fun h => raw ?_) (fun h => raw ?_) <;> try simp only [Ty] at h) | (refine ePick_b (fun h => raw ?_) (fun h => raw ?_) <;> try simp only [Ty] at h) | (refine condW_b (fun h => raw ?_) (fun h => raw ?_) <;> try simp only [Ty] at h)))
        all_goals first
          | exact FP.same (k1.trans (k2.push _)) (RE.f fun hh => (hh.1.1 i x.1 hxi.out).2 z.1 hzm (by first | exact .inl ⟨by omega, by omega⟩ | exact .inr ⟨by omega, by assumption, by omega⟩)) (.bool _)
          | exact ⟨j + 1, rfl, ⟨k2.push _, by omega, ⟨all_succ (p := fun b => ¬ Clash b.1 x.1) hcl.out hz.out (by
              rintro (hh | ⟨h1, h2, h3⟩)
              · omega
              · first | omega | exact absurd h2 (by assumption))⟩⟩, by omega⟩
      · have hjl' : ¬ (j : Int) < (i : Int) := by omega
        have hcl := hcl.out
        rw [List.take_of_length_le (by simp; omega)] at hcl
        refine raw ?_
        repeat (first | (with_reducible refine unr ?_; try simp only [YY, ↓reduceIte, Nat.reduceEqDiff, Nat.reduceAdd, Nat.reduceLeDiff, reduceCtorEq, Int.reduceEq, Int.reduceLT, Int.reduceLE, Int.reduceNeg, Int.reduceAdd, Int.reduceSub, Int.reduceToNat, hjl']) | (with_reducible refine WW (by decide) ?_))
        refine ⟨(), k2, ⟨fun b hb => ?_⟩⟩
        obtain ⟨y, hy, rfl⟩ := List.mem_map.1 hb
        exact hcl y hy
    rintro _ s2 ⟨k2, hcl⟩
    have he2 := k2.get he
    have hp1 : ((al.take i).length : Int) = i := hlt
    refine raw ?_
    repeat (first | (with_reducible refine unr ?_; try simp only [YY, ↓reduceIte, Nat.reduceEqDiff, Nat.reduceAdd, Nat.reduceLeDiff, reduceCtorEq, Int.reduceEq, Int.reduceLT, Int.reduceLE, Int.reduceNeg, Int.reduceAdd, Int.reduceSub, Int.reduceToNat, he2, Cr.len, Cr.take9, Cr.drop9]) | (with_reducible refine WW (by decide) ?_))
    refine (joined_ok ins x.1.ps (by omega) _).mono ?_
    rintro _ t3 ⟨rfl, rfl⟩
    refine raw ?_
    repeat (first | (with_reducible refine unr ?_; try simp only [YY, ↓reduceIte, Nat.reduceEqDiff, Nat.reduceAdd, Nat.reduceLeDiff, reduceCtorEq, Int.reduceEq, Int.reduceLT, Int.reduceLE, Int.reduceNeg, Int.reduceAdd, Int.reduceSub, Int.reduceToNat, he2, Cr.len, Cr.take9, Cr.drop9]) | (with_reducible refine WW (by decide) ?_))
    refine (ih x hxm _ cid v l (ins ++ x.1.ps) (hc.keep (k1.trans k2)) (by simp; omega)).mono ?_
    rintro _ t3 ⟨⟨b, rfl, hrb⟩, rfl⟩
    cases b with
    | false =>
      refine raw ?_
      repeat (first | (with_reducible refine unr ?_; try simp only [YY, ↓reduceIte, Nat.reduceEqDiff, Nat.reduceAdd, Nat.reduceLeDiff, reduceCtorEq, Int.reduceEq, Int.reduceLT, Int.reduceLE, Int.reduceNeg, Int.reduceAdd, Int.reduceSub, Int.reduceToNat]) | (with_reducible refine WW (by decide) ?_))
      exact FP.same (k1.trans k2) (RE.f fun hh => iff_f hrb rfl (hh.1.2 x hxm)) (.bool _)
    | true =>
      refine raw ?_
      repeat (first | (with_reducible refine unr ?_; try simp only [YY, ↓reduceIte, Nat.reduceEqDiff, Nat.reduceAdd, Nat.reduceLeDiff, reduceCtorEq, Int.reduceEq, Int.reduceLT, Int.reduceLE, Int.reduceNeg, Int.reduceAdd, Int.reduceSub, Int.reduceToNat, hw]) | (with_reducible refine WW (by decide) ?_))
      refine ⟨i + 1, rfl, ⟨by omega, k1.trans k2, ⟨fun j a hj ha => ?_, all_succ (p := fun x => x.2.RtE l (ins ++ x.1.ps)) hall.out.2 hx.out (hrb.1 rfl)⟩⟩, by omega⟩
      by_cases e : j = i
      · subst e
        rw [hxi.out] at ha
        cases ha
        exact ⟨haq.out, hcl.out⟩
      · have := hall.out.1 j a (by omega) ha
        rw [hml.out] at this
        exact this
  · have hil' : ¬ (i : Int) < (al.length : Int) := by omega
    have hq := hall.out
    rw [List.take_of_length_le (by omega)] at hq
    have hA : AltsOK (al.map (·.1)) := fun j a ha => hq.1 j a (by have := (List.getElem?_eq_some_iff.1 ha).1; simp at this; omega) ha
    refine raw ?_
    repeat (first | (with_reducible refine unr ?_; try simp only [YY, ↓reduceIte, Nat.reduceEqDiff, Nat.reduceAdd, Nat.reduceLeDiff, reduceCtorEq, Int.reduceEq, Int.reduceLT, Int.reduceLE, Int.reduceNeg, Int.reduceAdd, Int.reduceSub, Int.reduceToNat, hil']) | (with_reducible refine WW (by decide) ?_))
    exact FP.same hk (RE.mk (by rw [decide_eq_true_iff]; exact ⟨fun h => ⟨⟨hA, hq.2⟩, by omega⟩, fun h => by omega⟩)) (.bool _)
end Go.Proofs.Ytjjbjibbjbbeaaa
/- Which expressions may be, exactly: the program's answer, for an expression. -/
set_option linter.unusedVariables false
set_option linter.unusedSimpArgs false
namespace Go.AL
/-- The marks of an expression that has none of them. -/
def Marks (k : Int) (nm : ByteArray) (n ar : Int) : Prop := (k ≠ 1 → k ≠ 2 → k ≠ 4 → nm.size = 0) ∧ (k ≠ 3 → k ≠ 4 → k ≠ 9 → n = 0) ∧ (k ≠ 4 → ar = 0)
theorem head_marks {gl ins : List ByteArray} {k : Int} {nm : ByteArray} {n ar : Int} {ps : List ByteArray} {g a : Nat} {bn : List ByteArray} {q : Nat} (h : HeadOK gl ins k nm n ar ps g a bn q) : Marks k nm n ar := by
  unfold HeadOK at h
  have key : ∀ (p : Prop), (k = 1 ∨ k = 2 ∨ k = 3 ∨ k = 4 ∨ k = 5 ∨ k = 6 ∨ k = 7 ∨ k = 8 ∨ k = 9 ∨ k = 10 ∨ k = 11 → p) → p := by
    intro p hp
    by_cases hk : 1 ≤ k ∧ k ≤ 11
    · exact hp (by omega)
    · rw [if_neg (by omega), if_neg (by omega), if_neg (by omega), if_neg (by omega), if_neg (by omega), if_neg (by omega), if_neg (by omega), if_neg (by omega), if_neg (by omega), if_neg (by omega), if_neg (by omega)] at h
      exact h.elim
  refine key _ fun hk => ?_
  rcases hk with rfl | rfl | rfl | rfl | rfl | rfl | rfl | rfl | rfl | rfl | rfl <;> simp only [Int.reduceEq, reduceIte] at h <;> refine ⟨?_, ?_, ?_⟩ <;> intros <;> omega
theorem head_1 {gl ins : List ByteArray} {nm : ByteArray} {n ar : Int} {ps : List ByteArray} {g a : Nat} {bn : List ByteArray} {q : Nat} : HeadOK gl ins 1 nm n ar ps g a bn q = (nm ∈ ins ∧ n = 0 ∧ ar = 0 ∧ Shp ps.length g a bn.length q 0 0 0 0 0) := by simp only [HeadOK, Int.reduceEq, reduceIte]
theorem head_2 {gl ins : List ByteArray} {nm : ByteArray} {n ar : Int} {ps : List ByteArray} {g a : Nat} {bn : List ByteArray} {q : Nat} : HeadOK gl ins 2 nm n ar ps g a bn q = ((nm ∈ gl ∨ 0 < opS nm) ∧ n = 0 ∧ ar = 0 ∧ Shp ps.length g a bn.length q 0 0 0 0 0) := by simp only [HeadOK, Int.reduceEq, reduceIte]
theorem head_3 {gl ins : List ByteArray} {nm : ByteArray} {n ar : Int} {ps : List ByteArray} {g a : Nat} {bn : List ByteArray} {q : Nat} : HeadOK gl ins 3 nm n ar ps g a bn q = (nm.size = 0 ∧ ar = 0 ∧ Shp ps.length g a bn.length q 0 0 0 0 0) := by simp only [HeadOK, Int.reduceEq, reduceIte]
theorem head_4 {gl ins : List ByteArray} {nm : ByteArray} {n ar : Int} {ps : List ByteArray} {g a : Nat} {bn : List ByteArray} {q : Nat} : HeadOK gl ins 4 nm n ar ps g a bn q = (nm.size ≠ 0 ∧ 0 ≤ n ∧ 0 ≤ ar ∧ Shp ps.length g a bn.length q 0 0 0 0 0) := by simp only [HeadOK, Int.reduceEq, reduceIte]
theorem head_5 {gl ins : List ByteArray} {nm : ByteArray} {n ar : Int} {ps : List ByteArray} {g a : Nat} {bn : List ByteArray} {q : Nat} : HeadOK gl ins 5 nm n ar ps g a bn q = (nm.size = 0 ∧ n = 0 ∧ ar = 0 ∧ Shp ps.length g a bn.length q 0 2 0 0 0) := by simp only [HeadOK, Int.reduceEq, reduceIte]
theorem head_6 {gl ins : List ByteArray} {nm : ByteArray} {n ar : Int} {ps : List ByteArray} {g a : Nat} {bn : List ByteArray} {q : Nat} : HeadOK gl ins 6 nm n ar ps g a bn q = (nm.size = 0 ∧ n = 0 ∧ ar = 0 ∧ Shp ps.length g a bn.length q ps.length 1 0 0 0 ∧ ps.length ≠ 0 ∧ Locs ps) := by simp only [HeadOK, Int.reduceEq, reduceIte]
theorem head_7 {gl ins : List ByteArray} {nm : ByteArray} {n ar : Int} {ps : List ByteArray} {g a : Nat} {bn : List ByteArray} {q : Nat} : HeadOK gl ins 7 nm n ar ps g a bn q = (nm.size = 0 ∧ n = 0 ∧ ar = 0 ∧ Shp ps.length g a bn.length q 0 1 0 bn.length 0 ∧ bn.length ≠ 0 ∧ Locs bn) := by simp only [HeadOK, Int.reduceEq, reduceIte]
theorem head_8 {gl ins : List ByteArray} {nm : ByteArray} {n ar : Int} {ps : List ByteArray} {g a : Nat} {bn : List ByteArray} {q : Nat} : HeadOK gl ins 8 nm n ar ps g a bn q = (nm.size = 0 ∧ n = 0 ∧ ar = 0 ∧ Shp ps.length g a bn.length q 0 1 a 0 0 ∧ a ≠ 0) := by simp only [HeadOK, Int.reduceEq, reduceIte]
theorem head_9 {gl ins : List ByteArray} {nm : ByteArray} {n ar : Int} {ps : List ByteArray} {g a : Nat} {bn : List ByteArray} {q : Nat} : HeadOK gl ins 9 nm n ar ps g a bn q = (nm.size = 0 ∧ 1 ≤ n ∧ n ≤ 11 ∧ ar = 0 ∧ Shp ps.length g a bn.length q 0 2 0 0 0) := by simp only [HeadOK, Int.reduceEq, reduceIte]
theorem head_10 {gl ins : List ByteArray} {nm : ByteArray} {n ar : Int} {ps : List ByteArray} {g a : Nat} {bn : List ByteArray} {q : Nat} : HeadOK gl ins 10 nm n ar ps g a bn q = (nm.size = 0 ∧ n = 0 ∧ ar = 0 ∧ Shp ps.length g a bn.length q 0 0 0 0 0) := by simp only [HeadOK, Int.reduceEq, reduceIte]
theorem head_11 {gl ins : List ByteArray} {nm : ByteArray} {n ar : Int} {ps : List ByteArray} {g a : Nat} {bn : List ByteArray} {q : Nat} : HeadOK gl ins 11 nm n ar ps g a bn q = (nm.size = 0 ∧ n = 0 ∧ ar = 0 ∧ Shp ps.length g a bn.length q 0 1 0 0 q) := by simp only [HeadOK, Int.reduceEq, reduceIte]
theorem head_no {gl ins : List ByteArray} {k : Int} {nm : ByteArray} {n ar : Int} {ps : List ByteArray} {g a : Nat} {bn : List ByteArray} {q : Nat} (h : HeadOK gl ins k nm n ar ps g a bn q) : 1 ≤ k ∧ k ≤ 11 := by
  by_cases hk : 1 ≤ k ∧ k ≤ 11
  · exact hk
  · unfold HeadOK at h
    rw [if_neg (by omega), if_neg (by omega), if_neg (by omega), if_neg (by omega), if_neg (by omega), if_neg (by omega), if_neg (by omega), if_neg (by omega), if_neg (by omega), if_neg (by omega), if_neg (by omega)] at h
    exact h.elim
theorem alts_nil {gl ins : List ByteArray} {al : List (AltH × Cr)} (h : al.length = 0) : AltsOK (al.map (·.1)) ∧ ∀ x, x ∈ al → x.2.RtE gl (ins ++ x.1.ps) := by
  have := nil_of h; subst this
  exact ⟨by intro i a h; simp at h, by simp⟩
theorem picks_nil {gl ins : List ByteArray} {pk : List (Int × Cr)} (h : pk.length = 0) : (pk.map (·.1)).Nodup ∧ ∀ x, x ∈ pk → x.2.RtE gl ins := by
  have := nil_of h; subst this
  exact ⟨by simp, by simp⟩
theorem innerE_ne {k : Int} {ins ps bn : List ByteArray} (a : k ≠ 6) (b : k ≠ 7) : innerE k ins ps bn = ins := by rw [innerE, if_neg a, if_neg b]
theorem innerE_6 {ins ps bn : List ByteArray} : innerE 6 ins ps bn = ins ++ ps := by rw [innerE, if_pos rfl]
theorem innerE_7 {ins ps bn : List ByteArray} : innerE 7 ins ps bn = ins ++ bn := by rw [innerE, if_neg (by decide), if_pos rfl]
end Go.AL
namespace Go.Proofs.Ytjjbjibbjbbeaaa
open Go.AL
theorem containsE2 {σ : Store} {cid : Nat} {v : AV} {l : List ByteArray} (hc : Chk σ cid v l) (k : ByteArray) : ACalls Try.prog 85 [v, .str k] σ fun r σ' => (∃ b : Bool, r = .bool b ∧ (b = true ↔ k ∈ l)) ∧ σ' = σ :=
  (contains_ok (hc.sl.rds) (by have := hc.len; omega) k).mono fun _ _ h => ⟨⟨_, h.1, @decide_eq_true_iff _ (Classical.propDecidable _)⟩, h.2⟩
theorem containsE1 (l : List ByteArray) (hl : l.length ≤ 9223372036854775806) (k : ByteArray) (σ : Store) : ACalls Try.prog 85 [strs l, .str k] σ fun r σ' => (∃ b : Bool, r = .bool b ∧ (b = true ↔ k ∈ l)) ∧ σ' = σ :=
  (contains_strs l hl k σ).mono fun _ _ h => ⟨⟨_, h.1, @decide_eq_true_iff _ (Classical.propDecidable _)⟩, h.2⟩
theorem opE1 (s : ByteArray) (σ : Store) : ACalls Try.prog 83 [.str s] σ fun r σ' => (∃ b : Int, r = .int .i64 b ∧ b = opS s) ∧ σ' = σ := (opX s σ).mono fun _ _ h => ⟨⟨_, h.1, rfl⟩, h.2⟩
theorem picksE' (pk : List (Int × Cr)) (ih : ∀ x, x ∈ pk → RightAtE x.2) (σ : Store) (cid : Nat) (v : AV) (l ins : List ByteArray) (hc : Chk σ cid v l) (hb : ins.length + Cr.bulkP pk ≤ 50000000) :
    ACalls Try.prog 145 [.ptr cid 0 0 0, .list (pk.map pickC), strs ins] σ fun r σ' => (∃ b : Bool, r = .bool b ∧ (b = true ↔ (pk.map (·.1)).Nodup ∧ ∀ x, x ∈ pk → x.2.RtE l ins)) ∧ σ' = σ := picksE pk ih σ cid v l ins hc hb
theorem altsE' (al : List (AltH × Cr)) (ih : ∀ x, x ∈ al → RightAtE x.2) (σ : Store) (cid : Nat) (v : AV) (l ins : List ByteArray) (hc : Chk σ cid v l) (hb : ins.length + Cr.bulkA al ≤ 50000000) :
    ACalls Try.prog 144 [.ptr cid 0 0 0, .list (al.map altC), strs ins] σ fun r σ' => (∃ b : Bool, r = .bool b ∧ (b = true ↔ (AltsOK (al.map (·.1)) ∧ ∀ x, x ∈ al → x.2.RtE l (ins ++ x.1.ps)) ∧ al.length ≠ 0)) ∧ σ' = σ := altsE al ih σ cid v l ins hc hb
set_option maxHeartbeats 2000000 in
theorem rightE : ∀ x : Cr, RightAtE x := by
  intro x
  induction x using Cr.ind with
  | _ k nm n ar ps gs al bs pk ih1 ih2 ih3 ih4 =>
    intro σ cid v l ins hc hbk
    rw [Cr.bulk] at hbk
    refine ACalls_fp (p := RE ((Cr.mk k nm n ar ps gs al bs pk).RtE l ins)) ?_
    refine in86 (by simp) ?_
    unfold c86
    rw [Cr.cells_eq]
    have hgl := Cr.lenL gs
    have hbl := Cr.lenB bs
    try simp only [YY, ↓reduceIte, Nat.reduceEqDiff, Nat.reduceAdd, Nat.reduceLeDiff, reduceCtorEq, Int.reduceEq, Int.reduceLT, Int.reduceLE, Int.reduceNeg, Int.reduceAdd, Int.reduceSub, Int.reduceToNat]
    iterate 2 ((with_reducible refine WW (by decide) ?_); refine unr ?_; try simp only [YY, ↓reduceIte, Nat.reduceEqDiff, Nat.reduceAdd, Nat.reduceLeDiff, reduceCtorEq, Int.reduceEq, Int.reduceLT, Int.reduceLE, Int.reduceNeg, Int.reduceAdd, Int.reduceSub, Int.reduceToNat])
    generalize hs : Store.push _ _ = s
    have k1 : Kp σ s := by rw [← hs]; exact .pushed _ _
    have he : s.get σ.next = some (.cells 54 0 9 [[.int .i64 k, .str nm, .int .i64 n, .int .i64 ar, strs ps, .list (gs.map Cr.cells), .list (al.map altC), .list (bs.map bindC), .list (pk.map pickC)]]) := by rw [← hs]; simp [Store.push_get]
    have hcs := hc.keep k1
    have hgc := hcs.hd
    clear hs
    refine AWP_cut [0, 2, 4, 7] (fun _ : Unit => [.ptr cid 0 0 0, strs ins, .ptr σ.next 0 0 0, .bool (decide (k = 1 ∨ k = 2 ∨ k = 4))]) (fun b s' => s = s') ?_ ?_
    · refine raw ?_
      repeat' (first | (with_reducible refine unr ?_; try simp only [YY, ↓reduceIte, Nat.reduceEqDiff, Nat.reduceAdd, Nat.reduceLeDiff, reduceCtorEq, Int.reduceEq, Int.reduceLT, Int.reduceLE, Int.reduceNeg, Int.reduceAdd, Int.reduceSub, Int.reduceToNat, he, str_nil, *]) | (with_reducible first | refine WW (by decide) ?_ | refine ok_idx (by first | assumption | omega) (fun b hb => raw ?_) | refine ok_iad (by first | assumption | omega) (fun x hx hxm => raw ?_) | refine And.intro (by omega) (raw ?_) | (refine guardW_b (fun h => raw ?_) (fun h => raw ?_) <;> try simp only [Ty] at h) | (refine ePick_b (fun h => raw ?_) (fun h => raw ?_) <;> try simp only [Ty] at h) | (refine condW_b (fun h => raw ?_) (fun h => raw ?_) <;> try simp only [Ty] at h)))
      all_goals exact ⟨(), by simp; try omega⟩
    rintro _ _ rfl
    refine AWP_cut [0, 2, 4, 7, 8] (fun _ : Unit => [.ptr cid 0 0 0, strs ins, .ptr σ.next 0 0 0, .bool (decide (k = 1 ∨ k = 2 ∨ k = 4)), .bool (decide (k = 3 ∨ k = 4 ∨ k = 9))]) (fun b s' => s = s') ?_ ?_
    · refine raw ?_
      repeat' (first | (with_reducible refine unr ?_; try simp only [YY, ↓reduceIte, Nat.reduceEqDiff, Nat.reduceAdd, Nat.reduceLeDiff, reduceCtorEq, Int.reduceEq, Int.reduceLT, Int.reduceLE, Int.reduceNeg, Int.reduceAdd, Int.reduceSub, Int.reduceToNat, he, str_nil, *]) | (with_reducible first | refine WW (by decide) ?_ | refine ok_idx (by first | assumption | omega) (fun b hb => raw ?_) | refine ok_iad (by first | assumption | omega) (fun x hx hxm => raw ?_) | refine And.intro (by omega) (raw ?_) | (refine guardW_b (fun h => raw ?_) (fun h => raw ?_) <;> try simp only [Ty] at h) | (refine ePick_b (fun h => raw ?_) (fun h => raw ?_) <;> try simp only [Ty] at h) | (refine condW_b (fun h => raw ?_) (fun h => raw ?_) <;> try simp only [Ty] at h)))
      all_goals exact ⟨(), by simp; try omega⟩
    rintro _ _ rfl
    refine AWP_cut [0, 2, 4] (fun _ : Unit => [.ptr cid 0 0 0, strs ins, .ptr σ.next 0 0 0]) (fun _ s' => s = s' ∧ Marks k nm n ar) ?_ ?_
    · refine raw ?_
      repeat' (first | (with_reducible refine unr ?_; try simp only [YY, ↓reduceIte, Nat.reduceEqDiff, Nat.reduceAdd, Nat.reduceLeDiff, reduceCtorEq, Int.reduceEq, Int.reduceLT, Int.reduceLE, Int.reduceNeg, Int.reduceAdd, Int.reduceSub, Int.reduceToNat, he, str_nil, *]) | (with_reducible first | refine WW (by decide) ?_ | refine ok_idx (by first | assumption | omega) (fun b hb => raw ?_) | refine ok_iad (by first | assumption | omega) (fun x hx hxm => raw ?_) | refine And.intro (by omega) (raw ?_) | (refine guardW_b (fun h => raw ?_) (fun h => raw ?_) <;> try simp only [Ty] at h) | (refine ePick_b (fun h => raw ?_) (fun h => raw ?_) <;> try simp only [Ty] at h) | (refine condW_b (fun h => raw ?_) (fun h => raw ?_) <;> try simp only [Ty] at h)))
      all_goals first
        | exact FP.same k1 (RE.f fun hh => by
            obtain ⟨m1, m2, m3⟩ := head_marks (rtE_iff.1 hh).hh
            omega) (.bool _)
        | exact ⟨(), by omega, by omega, by omega⟩
    rintro _ _ ⟨rfl, hm⟩
    obtain ⟨m1, m2, m3⟩ := hm
    try simp only [YY, ↓reduceIte, Nat.reduceEqDiff, Nat.reduceAdd, Nat.reduceLeDiff, reduceCtorEq, Int.reduceEq, Int.reduceLT, Int.reduceLE, Int.reduceNeg, Int.reduceAdd, Int.reduceSub, Int.reduceToNat, he]
    iterate 4 ((with_reducible refine WW (by decide) ?_); refine unr ?_; try simp only [YY, ↓reduceIte, Nat.reduceEqDiff, Nat.reduceAdd, Nat.reduceLeDiff, reduceCtorEq, Int.reduceEq, Int.reduceLT, Int.reduceLE, Int.reduceNeg, Int.reduceAdd, Int.reduceSub, Int.reduceToNat, he])
    generalize hs : Store.push s _ = s9
    have k9 : Kp s s9 := by rw [← hs]; exact .pushed _ _
    have he9 := k9.get he
    have hf : s9.get s.next = some (.cells 246 0 5 [[.int .i64 ps.length, .int .i64 gs.length, .int .i64 al.length, .int .i64 bs.length, .int .i64 pk.length]]) := by rw [← hs]; simp [Store.push_get]
    have hc9 := hcs.keep k9
    have kk := k1.trans k9
    clear hs
    have hlen9 := hc9.len
    refine AWP_cut [0, 4, 10] (fun _ : Unit => [.ptr cid 0 0 0, .ptr σ.next 0 0 0, strs (innerE k ins ps (bs.map (·.1)))]) (fun y s' => s9 = s' ∧ Hid (HeadOK l ins k nm n ar ps gs.length al.length (bs.map (·.1)) pk.length ∧ (AltsOK (al.map (·.1)) ∧ ∀ x, x ∈ al → x.2.RtE l (ins ++ x.1.ps)) ∧ (pk.map (·.1)).Nodup ∧ ∀ x, x ∈ pk → x.2.RtE l ins)) ?_ ?_
    · by_cases h1 : k = 1
      · subst h1
        refine raw ?_
        repeat' (first | (with_reducible refine unr ?_; try simp only [YY, ↓reduceIte, Nat.reduceEqDiff, Nat.reduceAdd, Nat.reduceLeDiff, reduceCtorEq, Int.reduceEq, Int.reduceLT, Int.reduceLE, Int.reduceNeg, Int.reduceAdd, Int.reduceSub, Int.reduceToNat, he9, hf, row5_eq, row5_ne, str_nil, *]) | (with_reducible first | refine WW (by decide) ?_ | refine ok_idx (by first | assumption | omega) (fun b hb => raw ?_) | refine ok_iad (by first | assumption | omega) (fun x hx hxm => raw ?_) | refine And.intro (by omega) (raw ?_) | (refine guardW_b (fun h => raw ?_) (fun h => raw ?_) <;> try simp only [Ty] at h) | (refine ePick_b (fun h => raw ?_) (fun h => raw ?_) <;> try simp only [Ty] at h) | (refine condW_b (fun h => raw ?_) (fun h => raw ?_) <;> try simp only [Ty] at h) | (refine (containsE1 ins (by omega) _ _).mono ?_; rintro _ _ ⟨⟨b, rfl, hb⟩, rfl⟩; refine raw ?_)))
        · refine FP.same kk (RE.mk ?_) (.bool _)
          rw [rtE_leaf (by rw [head_1, Shp, List.length_map]; exact fun h => h.2.2.2), head_1, Shp, List.length_map]
          exact ⟨fun e => ⟨hb.1 e, by omega, by omega, by omega⟩, fun h => hb.2 h.1⟩
        · exact FP.same kk (RE.f fun hh => by have h' := (rtE_iff.1 hh).hh; rw [head_1, Shp, List.length_map] at h'; omega) (.bool _)
      by_cases h2 : k = 2
      · subst h2
        refine raw ?_
        repeat' (first | (with_reducible refine unr ?_; try simp only [YY, ↓reduceIte, Nat.reduceEqDiff, Nat.reduceAdd, Nat.reduceLeDiff, reduceCtorEq, Int.reduceEq, Int.reduceLT, Int.reduceLE, Int.reduceNeg, Int.reduceAdd, Int.reduceSub, Int.reduceToNat, he9, hf, hc9.hd, row5_eq, row5_ne, str_nil, *]) | (with_reducible first | refine WW (by decide) ?_ | refine ok_idx (by first | assumption | omega) (fun b hb => raw ?_) | refine ok_iad (by first | assumption | omega) (fun x hx hxm => raw ?_) | refine And.intro (by omega) (raw ?_) | (refine guardW_b (fun h => raw ?_) (fun h => raw ?_) <;> try simp only [Ty] at h) | (refine ePick_b (fun h => raw ?_) (fun h => raw ?_) <;> try simp only [Ty] at h) | (refine condW_b (fun h => raw ?_) (fun h => raw ?_) <;> try simp only [Ty] at h) | (refine (containsE2 hc9 _).mono ?_; rintro _ _ ⟨⟨b, rfl, hb⟩, rfl⟩; refine raw ?_) | (refine (opE1 _ _).mono ?_; rintro _ _ ⟨⟨b, rfl, hb⟩, rfl⟩; refine raw ?_)))
        · refine FP.same kk (RE.t ?_) (.bool _)
          rw [rtE_leaf (by rw [head_2, Shp, List.length_map]; exact fun h => h.2.2.2), head_2, Shp, List.length_map]
          exact ⟨.inl (by first | exact hb.1 h | exact hb.1 ‹_›), by omega, by omega, by omega⟩
        · refine FP.same kk (RE.mk ?_) (.bool _)
          rw [rtE_leaf (by rw [head_2, Shp, List.length_map]; exact fun h => h.2.2.2), head_2, Shp, List.length_map]
          rw [decide_eq_true_iff]
          exact ⟨fun e => ⟨.inr e, by omega, by omega, by omega⟩, fun hh => hh.1.resolve_left (iff_f (p := nm ∈ l) (by assumption) h)⟩
        · exact FP.same kk (RE.f fun hh => by have h' := (rtE_iff.1 hh).hh; rw [head_2, Shp, List.length_map] at h'; omega) (.bool _)
      by_cases h3 : k = 3
      · subst h3
        refine raw ?_
        repeat' (first | (with_reducible refine unr ?_; try simp only [YY, ↓reduceIte, Nat.reduceEqDiff, Nat.reduceAdd, Nat.reduceLeDiff, reduceCtorEq, Int.reduceEq, Int.reduceLT, Int.reduceLE, Int.reduceNeg, Int.reduceAdd, Int.reduceSub, Int.reduceToNat, he9, hf, row5_eq, row5_ne, str_nil, *]) | (with_reducible first | refine WW (by decide) ?_ | refine ok_idx (by first | assumption | omega) (fun b hb => raw ?_) | refine ok_iad (by first | assumption | omega) (fun x hx hxm => raw ?_) | refine And.intro (by omega) (raw ?_) | (refine guardW_b (fun h => raw ?_) (fun h => raw ?_) <;> try simp only [Ty] at h) | (refine ePick_b (fun h => raw ?_) (fun h => raw ?_) <;> try simp only [Ty] at h) | (refine condW_b (fun h => raw ?_) (fun h => raw ?_) <;> try simp only [Ty] at h)))
        refine FP.same kk (RE.mk ?_) (.bool _)
        rw [rtE_leaf (by rw [head_3, Shp, List.length_map]; exact fun h => h.2.2), head_3, Shp, List.length_map]
        rw [decide_eq_true_iff]
        omega
      by_cases h10 : k = 10
      · subst h10
        refine raw ?_
        repeat' (first | (with_reducible refine unr ?_; try simp only [YY, ↓reduceIte, Nat.reduceEqDiff, Nat.reduceAdd, Nat.reduceLeDiff, reduceCtorEq, Int.reduceEq, Int.reduceLT, Int.reduceLE, Int.reduceNeg, Int.reduceAdd, Int.reduceSub, Int.reduceToNat, he9, hf, row5_eq, row5_ne, str_nil, *]) | (with_reducible first | refine WW (by decide) ?_ | refine ok_idx (by first | assumption | omega) (fun b hb => raw ?_) | refine ok_iad (by first | assumption | omega) (fun x hx hxm => raw ?_) | refine And.intro (by omega) (raw ?_) | (refine guardW_b (fun h => raw ?_) (fun h => raw ?_) <;> try simp only [Ty] at h) | (refine ePick_b (fun h => raw ?_) (fun h => raw ?_) <;> try simp only [Ty] at h) | (refine condW_b (fun h => raw ?_) (fun h => raw ?_) <;> try simp only [Ty] at h)))
        refine FP.same kk (RE.mk ?_) (.bool _)
        rw [rtE_leaf (by rw [head_10, Shp, List.length_map]; exact fun h => h.2.2.2), head_10, Shp, List.length_map]
        rw [decide_eq_true_iff]
        omega
      by_cases h4 : k = 4
      · subst h4
        refine raw ?_
        repeat' (first | (with_reducible refine unr ?_; try simp only [YY, ↓reduceIte, Nat.reduceEqDiff, Nat.reduceAdd, Nat.reduceLeDiff, reduceCtorEq, Int.reduceEq, Int.reduceLT, Int.reduceLE, Int.reduceNeg, Int.reduceAdd, Int.reduceSub, Int.reduceToNat, he9, hf, row5_eq, row5_ne, str_nil, *]) | (with_reducible first | refine WW (by decide) ?_ | refine ok_idx (by first | assumption | omega) (fun b hb => raw ?_) | refine ok_iad (by first | assumption | omega) (fun x hx hxm => raw ?_) | refine And.intro (by omega) (raw ?_) | (refine guardW_b (fun h => raw ?_) (fun h => raw ?_) <;> try simp only [Ty] at h) | (refine ePick_b (fun h => raw ?_) (fun h => raw ?_) <;> try simp only [Ty] at h) | (refine condW_b (fun h => raw ?_) (fun h => raw ?_) <;> try simp only [Ty] at h)))
        · refine FP.same kk (RE.mk ?_) (.bool _)
          rw [rtE_leaf (by rw [head_4, Shp, List.length_map]; exact fun h => h.2.2.2), head_4, Shp, List.length_map]
          rw [decide_eq_true_iff]
          omega
        all_goals exact FP.same kk (RE.f fun hh => by have h' := (rtE_iff.1 hh).hh; rw [head_4, Shp, List.length_map] at h'; omega) (.bool _)
      by_cases h5 : k = 5
      · subst h5
        refine raw ?_
        repeat' (first | (with_reducible refine unr ?_; try simp only [YY, ↓reduceIte, Nat.reduceEqDiff, Nat.reduceAdd, Nat.reduceLeDiff, reduceCtorEq, Int.reduceEq, Int.reduceLT, Int.reduceLE, Int.reduceNeg, Int.reduceAdd, Int.reduceSub, Int.reduceToNat, he9, hf, row5_eq, row5_ne, str_nil, *]) | (with_reducible first | refine WW (by decide) ?_ | refine ok_idx (by first | assumption | omega) (fun b hb => raw ?_) | refine ok_iad (by first | assumption | omega) (fun x hx hxm => raw ?_) | refine And.intro (by omega) (raw ?_) | (refine guardW_b (fun h => raw ?_) (fun h => raw ?_) <;> try simp only [Ty] at h) | (refine ePick_b (fun h => raw ?_) (fun h => raw ?_) <;> try simp only [Ty] at h) | (refine condW_b (fun h => raw ?_) (fun h => raw ?_) <;> try simp only [Ty] at h)))
        · exact FP.same kk (RE.f fun hh => by have h' := (rtE_iff.1 hh).hh; rw [head_5, Shp, List.length_map] at h'; omega) (.bool _)
        · exact ⟨(), by rw [innerE_ne (by decide) (by decide)], ⟨by rw [head_5, Shp, List.length_map]; exact ⟨by omega, by omega, by omega, by omega⟩, alts_nil (by omega), picks_nil (by omega)⟩⟩
      by_cases h9 : k = 9
      · subst h9
        refine raw ?_
        repeat' (first | (with_reducible refine unr ?_; try simp only [YY, ↓reduceIte, Nat.reduceEqDiff, Nat.reduceAdd, Nat.reduceLeDiff, reduceCtorEq, Int.reduceEq, Int.reduceLT, Int.reduceLE, Int.reduceNeg, Int.reduceAdd, Int.reduceSub, Int.reduceToNat, he9, hf, row5_eq, row5_ne, str_nil, *]) | (with_reducible first | refine WW (by decide) ?_ | refine ok_idx (by first | assumption | omega) (fun b hb => raw ?_) | refine ok_iad (by first | assumption | omega) (fun x hx hxm => raw ?_) | refine And.intro (by omega) (raw ?_) | (refine guardW_b (fun h => raw ?_) (fun h => raw ?_) <;> try simp only [Ty] at h) | (refine ePick_b (fun h => raw ?_) (fun h => raw ?_) <;> try simp only [Ty] at h) | (refine condW_b (fun h => raw ?_) (fun h => raw ?_) <;> try simp only [Ty] at h)))
        all_goals first
          | exact ⟨(), by rw [innerE_ne (by decide) (by decide)], ⟨by rw [head_9, Shp, List.length_map]; exact ⟨by omega, by omega, by omega, by omega, by omega⟩, alts_nil (by omega), picks_nil (by omega)⟩⟩
          | exact FP.same kk (RE.f fun hh => by have h' := (rtE_iff.1 hh).hh; rw [head_9, Shp, List.length_map] at h'; omega) (.bool _)
      by_cases h6 : k = 6
      · subst h6
        refine raw ?_
        repeat' (first | (with_reducible refine unr ?_; try simp only [YY, ↓reduceIte, Nat.reduceEqDiff, Nat.reduceAdd, Nat.reduceLeDiff, reduceCtorEq, Int.reduceEq, Int.reduceLT, Int.reduceLE, Int.reduceNeg, Int.reduceAdd, Int.reduceSub, Int.reduceToNat, he9, hf, row5_eq, row5_ne, str_nil, *]) | (with_reducible first | refine WW (by decide) ?_ | refine ok_idx (by first | assumption | omega) (fun b hb => raw ?_) | refine ok_iad (by first | assumption | omega) (fun x hx hxm => raw ?_) | refine And.intro (by omega) (raw ?_) | (refine guardW_b (fun h => raw ?_) (fun h => raw ?_) <;> try simp only [Ty] at h) | (refine ePick_b (fun h => raw ?_) (fun h => raw ?_) <;> try simp only [Ty] at h) | (refine condW_b (fun h => raw ?_) (fun h => raw ?_) <;> try simp only [Ty] at h) | (refine (localsE _ (by omega) _).mono ?_; rintro _ _ ⟨⟨b, rfl, hb⟩, rfl⟩; refine raw ?_) | (refine (joined_ok _ _ (by omega) _).mono ?_; rintro _ _ ⟨rfl, rfl⟩; refine raw ?_)))
        all_goals first
          | exact ⟨(), by rw [innerE_6], ⟨by rw [head_6, Shp, List.length_map]; exact ⟨by omega, by omega, by omega, by omega, by omega, hb.1 h⟩, alts_nil (by omega), picks_nil (by omega)⟩⟩
          | exact FP.same kk (RE.f fun hh => by have h' := (rtE_iff.1 hh).hh; rw [head_6, Shp, List.length_map] at h'; omega) (.bool _)
          | exact FP.same kk (RE.f fun hh => by have h' := (rtE_iff.1 hh).hh; rw [head_6] at h'; exact iff_f hb h h'.2.2.2.2.2) (.bool _)
      by_cases h7 : k = 7
      · subst h7
        refine raw ?_
        repeat' (first | (with_reducible refine unr ?_; try simp only [YY, ↓reduceIte, Nat.reduceEqDiff, Nat.reduceAdd, Nat.reduceLeDiff, reduceCtorEq, Int.reduceEq, Int.reduceLT, Int.reduceLE, Int.reduceNeg, Int.reduceAdd, Int.reduceSub, Int.reduceToNat, he9, hf, row5_eq, row5_ne, str_nil, *]) | (with_reducible first | refine WW (by decide) ?_ | refine ok_idx (by first | assumption | omega) (fun b hb => raw ?_) | refine ok_iad (by first | assumption | omega) (fun x hx hxm => raw ?_) | refine And.intro (by omega) (raw ?_) | (refine guardW_b (fun h => raw ?_) (fun h => raw ?_) <;> try simp only [Ty] at h) | (refine ePick_b (fun h => raw ?_) (fun h => raw ?_) <;> try simp only [Ty] at h) | (refine condW_b (fun h => raw ?_) (fun h => raw ?_) <;> try simp only [Ty] at h) | (refine (localsE _ (by (try simp); omega) _).mono ?_; rintro _ _ ⟨⟨b, rfl, hb⟩, rfl⟩; refine raw ?_) | (refine (names_ok _ (by omega) _).mono ?_; rintro _ _ ⟨rfl, rfl⟩; refine raw ?_) | (refine (joined_ok _ _ (by (try simp); omega) _).mono ?_; rintro _ _ ⟨rfl, rfl⟩; refine raw ?_)))
        all_goals first
          | exact ⟨(), by rw [innerE_7], ⟨by rw [head_7, Shp, List.length_map]; exact ⟨by omega, by omega, by omega, by omega, by omega, hb.1 h⟩, alts_nil (by omega), picks_nil (by omega)⟩⟩
          | exact FP.same kk (RE.f fun hh => by have h' := (rtE_iff.1 hh).hh; rw [head_7, Shp, List.length_map] at h'; omega) (.bool _)
          | exact FP.same kk (RE.f fun hh => by have h' := (rtE_iff.1 hh).hh; rw [head_7] at h'; exact iff_f hb h h'.2.2.2.2.2) (.bool _)
      by_cases h8 : k = 8
      · subst h8
        refine raw ?_
        repeat' (first | (with_reducible refine unr ?_; try simp only [YY, ↓reduceIte, Nat.reduceEqDiff, Nat.reduceAdd, Nat.reduceLeDiff, reduceCtorEq, Int.reduceEq, Int.reduceLT, Int.reduceLE, Int.reduceNeg, Int.reduceAdd, Int.reduceSub, Int.reduceToNat, he9, hf, row5_eq, row5_ne, str_nil, *]) | (with_reducible first | refine WW (by decide) ?_ | refine ok_idx (by first | assumption | omega) (fun b hb => raw ?_) | refine ok_iad (by first | assumption | omega) (fun x hx hxm => raw ?_) | refine And.intro (by omega) (raw ?_) | (refine guardW_b (fun h => raw ?_) (fun h => raw ?_) <;> try simp only [Ty] at h) | (refine ePick_b (fun h => raw ?_) (fun h => raw ?_) <;> try simp only [Ty] at h) | (refine condW_b (fun h => raw ?_) (fun h => raw ?_) <;> try simp only [Ty] at h) | (refine (altsE' al ih2 _ cid v l ins hc9 (by omega)).mono ?_; rintro _ _ ⟨⟨b, rfl, hb⟩, rfl⟩; refine raw ?_)))
        all_goals first
          | exact ⟨(), by rw [innerE_ne (by decide) (by decide)], ⟨by rw [head_8, Shp, List.length_map]; exact ⟨by omega, by omega, by omega, by omega, (hb.1 h).2⟩, (hb.1 h).1, picks_nil (by omega)⟩⟩
          | exact FP.same kk (RE.f fun hh => by have h' := (rtE_iff.1 hh).hh; rw [head_8, Shp, List.length_map] at h'; omega) (.bool _)
          | exact FP.same kk (RE.f fun (hh : (Cr.mk 8 nm n ar ps gs al bs pk).RtE l ins) => by have h' := rtE_iff.1 hh; have h2 := h'.hh; rw [head_8] at h2; exact iff_f hb h ⟨⟨h'.ha, h'.g2⟩, h2.2.2.2.2⟩) (.bool _)
      by_cases h11 : k = 11
      · subst h11
        refine raw ?_
        repeat' (first | (with_reducible refine unr ?_; try simp only [YY, ↓reduceIte, Nat.reduceEqDiff, Nat.reduceAdd, Nat.reduceLeDiff, reduceCtorEq, Int.reduceEq, Int.reduceLT, Int.reduceLE, Int.reduceNeg, Int.reduceAdd, Int.reduceSub, Int.reduceToNat, he9, hf, row5_eq, row5_ne, str_nil, *]) | (with_reducible first | refine WW (by decide) ?_ | refine ok_idx (by first | assumption | omega) (fun b hb => raw ?_) | refine ok_iad (by first | assumption | omega) (fun x hx hxm => raw ?_) | refine And.intro (by omega) (raw ?_) | (refine guardW_b (fun h => raw ?_) (fun h => raw ?_) <;> try simp only [Ty] at h) | (refine ePick_b (fun h => raw ?_) (fun h => raw ?_) <;> try simp only [Ty] at h) | (refine condW_b (fun h => raw ?_) (fun h => raw ?_) <;> try simp only [Ty] at h) | (refine (picksE' pk ih4 _ cid v l ins hc9 (by omega)).mono ?_; rintro _ _ ⟨⟨b, rfl, hb⟩, rfl⟩; refine raw ?_)))
        all_goals first
          | exact ⟨(), by rw [innerE_ne (by decide) (by decide)], ⟨by rw [head_11, Shp, List.length_map]; exact ⟨by omega, by omega, by omega, by omega⟩, alts_nil (by omega), hb.1 h⟩⟩
          | exact FP.same kk (RE.f fun hh => by have h' := (rtE_iff.1 hh).hh; rw [head_11, Shp, List.length_map] at h'; omega) (.bool _)
          | exact FP.same kk (RE.f fun (hh : (Cr.mk 11 nm n ar ps gs al bs pk).RtE l ins) => by have h' := rtE_iff.1 hh; exact iff_f hb h ⟨h'.hp, h'.g4⟩) (.bool _)
      refine raw ?_
      repeat (first | (with_reducible refine unr ?_; try simp only [YY, ↓reduceIte, Nat.reduceEqDiff, Nat.reduceAdd, Nat.reduceLeDiff, reduceCtorEq, Int.reduceEq, Int.reduceLT, Int.reduceLE, Int.reduceNeg, Int.reduceAdd, Int.reduceSub, Int.reduceToNat, he9, hf, h1, h2, h3, h4, h5, h6, h7, h8, h9, h10, h11]) | (with_reducible refine WW (by decide) ?_))
      exact FP.same kk (RE.f fun hh => by have h' := head_no (rtE_iff.1 hh).hh; omega) (.bool _)
    rintro _ _ ⟨rfl, hout⟩
    have hinl : (innerE k ins ps (bs.map (·.1))).length ≤ ins.length + ps.length + bs.length := by
      unfold innerE
      split
      · rw [List.length_append]; omega
      · split
        · rw [List.length_append, List.length_map]; omega
        · omega
    have hin : (innerE k ins ps (bs.map (·.1))).length + Cr.bulkL gs ≤ 50000000 := by omega
    have hin2 : ∀ z, z ∈ bs → (innerE k ins ps (bs.map (·.1))).length + z.2.bulk ≤ 50000000 := fun z hz => by
      have := Cr.bulkB_le2 hz
      omega
    generalize hinner : innerE k ins ps (bs.map (·.1)) = inner at hinl hin hin2
    replace hinner : Hid (innerE k ins ps (bs.map (·.1)) = inner) := ⟨hinner⟩
    clear hinl
    refine AWP_cut [0, 4, 10] (fun _ : Unit => [.ptr cid 0 0 0, .ptr σ.next 0 0 0, strs inner]) (fun _ s' => Kp s9 s' ∧ Hid (∀ x, x ∈ gs → x.RtE l inner)) ?_ ?_
    · refine raw ?_
      repeat (first | (with_reducible refine unr ?_; try simp only [YY, ↓reduceIte, Nat.reduceEqDiff, Nat.reduceAdd, Nat.reduceLeDiff, reduceCtorEq, Int.reduceEq, Int.reduceLT, Int.reduceLE, Int.reduceNeg, Int.reduceAdd, Int.reduceSub, Int.reduceToNat, he9]) | (with_reducible refine WW (by decide) ?_))
      refine AWP_while [0, 4, 10, 240, 241, 242] (fun i : Nat => gs.length - i) (fun i => [.ptr cid 0 0 0, .ptr σ.next 0 0 0, strs inner, .list (gs.map Cr.cells), .int .i64 gs.length, .int .i64 i])
        (fun i t => i ≤ gs.length ∧ Kp s9 t ∧ Hid (∀ x, x ∈ gs.take i → x.RtE l inner)) 0 ⟨by simp, .refl _, ⟨by simp⟩⟩ ?_ ?_
      · refine raw ?_
        repeat (first | (with_reducible refine unr ?_; try simp only [YY, ↓reduceIte, Nat.reduceEqDiff, Nat.reduceAdd, Nat.reduceLeDiff, reduceCtorEq, Int.reduceEq, Int.reduceLT, Int.reduceLE, Int.reduceNeg, Int.reduceAdd, Int.reduceSub, Int.reduceToNat]) | (with_reducible refine WW (by decide) ?_))
        rfl
      rintro i t ⟨hi, k2, hall⟩
      have hw := wrap_succ (i := i) (by omega)
      by_cases hil : i < gs.length
      · have hil' : (i : Int) < (gs.length : Int) := by omega
        obtain ⟨x, hx⟩ : ∃ x, gs[i]? = some x := ⟨_, List.getElem?_eq_getElem hil⟩
        have hxm := List.mem_of_getElem? hx
        have hg : (gs.map Cr.cells)[i]? = some (Cr.cells x) := by simp [hx]
        have hxb := Cr.bulkL_le hxm
        refine raw ?_
        repeat' (first | (with_reducible refine unr ?_; try simp only [YY, ↓reduceIte, Nat.reduceEqDiff, Nat.reduceAdd, Nat.reduceLeDiff, reduceCtorEq, Int.reduceEq, Int.reduceLT, Int.reduceLE, Int.reduceNeg, Int.reduceAdd, Int.reduceSub, Int.reduceToNat, hil', hg, Cr.len, Cr.take9, str_nil, *]) | (with_reducible first | refine WW (by decide) ?_ | refine ok_idx (by first | assumption | omega) (fun b hb => raw ?_) | refine ok_iad (by first | assumption | omega) (fun x hx hxm => raw ?_) | refine And.intro (by omega) (raw ?_) | (refine guardW_b (fun h => raw ?_) (fun h => raw ?_) <;> try simp only [Ty] at h) | (refine ePick_b (fun h => raw ?_) (fun h => raw ?_) <;> try simp only [Ty] at h) | (refine condW_b (fun h => raw ?_) (fun h => raw ?_) <;> try simp only [Ty] at h) | (refine (ih1 x hxm _ cid v l inner ((hc9.keep k2).keep (.pushed _ _)) (by omega)).mono ?_; rintro _ _ ⟨⟨b, rfl, hb⟩, rfl⟩; refine raw ?_)))
        · exact FP.same (kk.trans (k2.push _)) (RE.f fun hh => iff_f hb h (by have := (rtE_iff.1 hh).g1 x hxm; rw [hinner.out] at this; exact this)) (.bool _)
        · exact ⟨i + 1, rfl, ⟨by omega, k2.push _, ⟨all_succ hall.out hx (hb.1 h)⟩⟩, by omega⟩
      · have hil' : ¬ (i : Int) < (gs.length : Int) := by omega
        have hall := hall.out
        rw [List.take_of_length_le (by omega)] at hall
        refine raw ?_
        repeat (first | (with_reducible refine unr ?_; try simp only [YY, ↓reduceIte, Nat.reduceEqDiff, Nat.reduceAdd, Nat.reduceLeDiff, reduceCtorEq, Int.reduceEq, Int.reduceLT, Int.reduceLE, Int.reduceNeg, Int.reduceAdd, Int.reduceSub, Int.reduceToNat, hil']) | (with_reducible refine WW (by decide) ?_))
        exact ⟨(), k2, ⟨hall⟩⟩
    rintro _ s2 ⟨k2, hgs⟩
    have he2 := k2.get he9
    refine raw ?_
    repeat (first | (with_reducible refine unr ?_; try simp only [YY, ↓reduceIte, Nat.reduceEqDiff, Nat.reduceAdd, Nat.reduceLeDiff, reduceCtorEq, Int.reduceEq, Int.reduceLT, Int.reduceLE, Int.reduceNeg, Int.reduceAdd, Int.reduceSub, Int.reduceToNat, he2]) | (with_reducible refine WW (by decide) ?_))
    refine AWP_while [0, 10, 253, 254, 255] (fun i : Nat => bs.length - i) (fun i => [.ptr cid 0 0 0, strs inner, .list (bs.map bindC), .int .i64 bs.length, .int .i64 i])
      (fun i t => i ≤ bs.length ∧ Kp s2 t ∧ Hid (∀ x, x ∈ bs.take i → x.2.RtE l inner)) 0 ⟨by simp, .refl _, ⟨by simp⟩⟩ ?_ ?_
    · refine raw ?_
      repeat (first | (with_reducible refine unr ?_; try simp only [YY, ↓reduceIte, Nat.reduceEqDiff, Nat.reduceAdd, Nat.reduceLeDiff, reduceCtorEq, Int.reduceEq, Int.reduceLT, Int.reduceLE, Int.reduceNeg, Int.reduceAdd, Int.reduceSub, Int.reduceToNat]) | (with_reducible refine WW (by decide) ?_))
      rfl
    rintro i t ⟨hi, k3, hall⟩
    have hw := wrap_succ (i := i) (by omega)
    by_cases hil : i < bs.length
    · have hil' : (i : Int) < (bs.length : Int) := by omega
      obtain ⟨x, hx⟩ : ∃ x, bs[i]? = some x := ⟨_, List.getElem?_eq_getElem hil⟩
      have hxm := List.mem_of_getElem? hx
      have hg : (bs.map bindC)[i]? = some (bindC x) := by simp [hx]
      refine raw ?_
      repeat' (first | (with_reducible refine unr ?_; try simp only [YY, ↓reduceIte, Nat.reduceEqDiff, Nat.reduceAdd, Nat.reduceLeDiff, reduceCtorEq, Int.reduceEq, Int.reduceLT, Int.reduceLE, Int.reduceNeg, Int.reduceAdd, Int.reduceSub, Int.reduceToNat, hil', hg, bindC, Cr.len, Cr.take9, str_nil, *]) | (with_reducible first | refine WW (by decide) ?_ | refine ok_idx (by first | assumption | omega) (fun b hb => raw ?_) | refine ok_iad (by first | assumption | omega) (fun x hx hxm => raw ?_) | refine And.intro (by omega) (raw ?_) | (refine guardW_b (fun h => raw ?_) (fun h => raw ?_) <;> try simp only [Ty] at h) | (refine ePick_b (fun h => raw ?_) (fun h => raw ?_) <;> try simp only [Ty] at h) | (refine condW_b (fun h => raw ?_) (fun h => raw ?_) <;> try simp only [Ty] at h) | (refine (ih3 x hxm _ cid v l inner ((hc9.keep (k2.trans k3)).keep (.pushed _ _)) (hin2 x hxm)).mono ?_; rintro _ _ ⟨⟨b, rfl, hb⟩, rfl⟩; refine raw ?_)))
      · exact FP.same (kk.trans (k2.trans (k3.push _))) (RE.f fun hh => iff_f hb h (by have := (rtE_iff.1 hh).g3 x hxm; rw [hinner.out] at this; exact this)) (.bool _)
      · exact ⟨i + 1, rfl, ⟨by omega, k3.push _, ⟨all_succ hall.out hx (hb.1 h)⟩⟩, by omega⟩
    · have hil' : ¬ (i : Int) < (bs.length : Int) := by omega
      have hall := hall.out
      rw [List.take_of_length_le (by omega)] at hall
      refine raw ?_
      repeat (first | (with_reducible refine unr ?_; try simp only [YY, ↓reduceIte, Nat.reduceEqDiff, Nat.reduceAdd, Nat.reduceLeDiff, reduceCtorEq, Int.reduceEq, Int.reduceLT, Int.reduceLE, Int.reduceNeg, Int.reduceAdd, Int.reduceSub, Int.reduceToNat, hil']) | (with_reducible refine WW (by decide) ?_))
      exact FP.same (kk.trans (k2.trans k3)) (RE.t (rtE_iff.2 ⟨hout.out.1, by rw [hinner.out]; exact hgs.out, hout.out.2.1.1, hout.out.2.1.2, by rw [hinner.out]; exact hall, hout.out.2.2.1, hout.out.2.2.2⟩)) (.bool _)
end Go.Proofs.Ytjjbjibbjbbeaaa
/- What is flat, exactly: the program's answer. -/
set_option linter.unusedVariables false
set_option linter.unusedSimpArgs false
namespace Go.AL
structure FlParts (now : Bool) (k : Int) (gs : List Cr) (al : List (AltH × Cr)) (bs : List (ByteArray × Cr)) (pk : List (Int × Cr)) : Prop where
  h6 : k ≠ 6
  hl : now = false → k ≠ 8 ∧ k ≠ 10 ∧ k ≠ 11
  g1 : ∀ x, x ∈ gs → Cr.Fl (now && !decide (k = 5)) x
  g2 : ∀ x, x ∈ al → Cr.Fl now x.2
  g3 : ∀ x, x ∈ bs → Cr.Fl false x.2
  g4 : ∀ x, x ∈ pk → Cr.Fl now x.2
theorem fl_iff {now : Bool} {k : Int} {nm : ByteArray} {n ar : Int} {ps : List ByteArray} {gs : List Cr} {al : List (AltH × Cr)} {bs : List (ByteArray × Cr)} {pk : List (Int × Cr)} :
    (Cr.mk k nm n ar ps gs al bs pk).Fl now ↔ FlParts now k gs al bs pk :=
  ⟨fun h => by cases h with | mk a b c d e f => exact ⟨a, b, c, d, e, f⟩, fun ⟨a, b, c, d, e, f⟩ => .mk a b c d e f⟩
theorem fl_late : ∀ x : Cr, x.Fl false → x.Fl true := by
  intro x
  induction x using Cr.ind with
  | _ k nm n ar ps gs al bs pk i1 i2 i3 i4 =>
    intro h
    have h := fl_iff.1 h
    have hl := h.hl rfl
    exact fl_iff.2 ⟨h.h6, fun e => (by cases e), fun x hx => (by
        have := h.g1 x hx
        rw [Bool.false_and] at this
        by_cases h5 : k = 5
        · rw [decide_eq_true h5]; exact this
        · rw [decide_eq_false h5]; exact i1 x hx this), fun x hx => i2 x hx (h.g2 x hx), h.g3, fun x hx => i4 x hx (h.g4 x hx)⟩
end Go.AL
namespace Go.Proofs.Ytjjbjibbjbbeaaa
open Go.AL
abbrev FlatCE (x : Cr) : Prop := ∀ (now : Bool) (σ : Store), ACalls Try.prog 112 [.agg x.cells, .bool now] σ fun r s => (∃ b : Bool, r = .bool b ∧ (b = true ↔ x.Fl now)) ∧ s = σ
set_option maxHeartbeats 1000000 in
theorem flatE : ∀ x : Cr, x.bulk ≤ 10000000 → FlatCE x := by
  intro x
  induction x using Cr.ind with
  | _ k nm n ar ps gs al bs pk ih1 ih2 ih3 ih4 =>
    intro hb now σ
    rw [Cr.bulk] at hb
    have l1 := Cr.lenL gs; have l2 := Cr.lenA al; have l3 := Cr.lenB bs; have l4 := Cr.lenP pk
    have i1 := fun (x : Cr) (hx : x ∈ gs) => ih1 x hx (by have := Cr.bulkL_le hx; omega)
    have i2 := fun (x : AltH × Cr) (hx : x ∈ al) => ih2 x hx (by have := Cr.bulkA_le hx; omega)
    have i3 := fun (x : ByteArray × Cr) (hx : x ∈ bs) => ih3 x hx (by have := Cr.bulkB_le hx; omega)
    have i4 := fun (x : Int × Cr) (hx : x ∈ pk) => ih4 x hx (by have := Cr.bulkP_le hx; omega)
    refine ACalls_fp (p := RE ((Cr.mk k nm n ar ps gs al bs pk).Fl now)) ?_
    refine in112 (by simp) ?_
    unfold c112
    rw [Cr.cells_eq]
    try simp only [YY, ↓reduceIte, Nat.reduceEqDiff, Nat.reduceAdd, Nat.reduceLeDiff, reduceCtorEq, Int.reduceEq, Int.reduceLT, Int.reduceLE, Int.reduceNeg, Int.reduceAdd, Int.reduceSub, Int.reduceToNat]
    iterate 2 ((with_reducible refine WW (by decide) ?_); refine unr ?_; try simp only [YY, ↓reduceIte, Nat.reduceEqDiff, Nat.reduceAdd, Nat.reduceLeDiff, reduceCtorEq, Int.reduceEq, Int.reduceLT, Int.reduceLE, Int.reduceNeg, Int.reduceAdd, Int.reduceSub, Int.reduceToNat])
    generalize hs : Store.push _ _ = s1
    have k1 : Kp σ s1 := by rw [← hs]; exact .pushed _ _
    have g1 : s1.get σ.next = some (.cells 54 0 9 [[.int .i64 k, .str nm, .int .i64 n, .int .i64 ar, strs ps, .list (gs.map Cr.cells), .list (al.map altC), .list (bs.map bindC), .list (pk.map pickC)]]) := by rw [← hs]; simp [Store.push_get, Store.push_next]
    clear hs
    have he1 := g1
    refine AWP_cut [1, 2, 5] (fun _ : Unit => [.bool now, .ptr σ.next 0 0 0, .bool (decide (k = 8 ∨ k = 10 ∨ k = 11))]) (fun _ s => s1 = s) ?_ ?_
    · refine raw ?_
      repeat' (first | (with_reducible refine unr ?_; try simp only [YY, ↓reduceIte, Nat.reduceEqDiff, Nat.reduceAdd, Nat.reduceLeDiff, reduceCtorEq, Int.reduceEq, Int.reduceLT, Int.reduceLE, Int.reduceNeg, Int.reduceAdd, Int.reduceSub, Int.reduceToNat, g1, str_nil, *]) | (with_reducible first | refine WW (by decide) ?_ | refine ok_idx (by first | assumption | omega) (fun b hb => raw ?_) | refine ok_iad (by first | assumption | omega) (fun x hx hxm => raw ?_) | refine And.intro (by omega) (raw ?_) | (refine guardW_b (fun h => raw ?_) (fun h => raw ?_) <;> try simp only [Ty] at h) | (refine ePick_b (fun h => raw ?_) (fun h => raw ?_) <;> try simp only [Ty] at h) | (refine condW_b (fun h => raw ?_) (fun h => raw ?_) <;> try simp only [Ty] at h)))
      all_goals first
        | exact ⟨(), by simp; try omega⟩
    rintro _ _ rfl
    refine AWP_cut [1, 2] (fun _ : Unit => [.bool now, .ptr σ.next 0 0 0]) (fun _ s => s1 = s ∧ FlK k now) ?_ ?_
    · refine raw ?_
      repeat' (first | (with_reducible refine unr ?_; try simp only [YY, ↓reduceIte, Nat.reduceEqDiff, Nat.reduceAdd, Nat.reduceLeDiff, reduceCtorEq, Int.reduceEq, Int.reduceLT, Int.reduceLE, Int.reduceNeg, Int.reduceAdd, Int.reduceSub, Int.reduceToNat, g1, str_nil, *]) | (with_reducible first | refine WW (by decide) ?_ | refine ok_idx (by first | assumption | omega) (fun b hb => raw ?_) | refine ok_iad (by first | assumption | omega) (fun x hx hxm => raw ?_) | refine And.intro (by omega) (raw ?_) | (refine guardW_b (fun h => raw ?_) (fun h => raw ?_) <;> try simp only [Ty] at h) | (refine ePick_b (fun h => raw ?_) (fun h => raw ?_) <;> try simp only [Ty] at h) | (refine condW_b (fun h => raw ?_) (fun h => raw ?_) <;> try simp only [Ty] at h)))
      all_goals first
        | exact ⟨(), by omega, fun e => by first | omega | (simp_all; done)⟩
        | exact FP.same k1 (RE.f fun hh => by have h6 := (fl_iff.1 hh).h6; omega) (.bool _)
        | exact FP.same k1 (RE.f fun hh => by have hl := (fl_iff.1 hh).hl rfl; omega) (.bool _)
        | exact FP.same k1 (RE.f fun hh => by have hl := (fl_iff.1 hh).hl (by assumption); omega) (.bool _)
    rintro _ _ ⟨rfl, hkk⟩
    refine AWP_cut [1, 2] (fun _ : Unit => [.bool now, .ptr σ.next 0 0 0]) (fun _ s => Kp s1 s ∧ ∀ x, x ∈ gs → x.Fl (now && !decide (k = 5))) ?_ ?_
    · refine raw ?_
      repeat (first | (with_reducible refine unr ?_; try simp only [YY, ↓reduceIte, Nat.reduceEqDiff, Nat.reduceAdd, Nat.reduceLeDiff, reduceCtorEq, Int.reduceEq, Int.reduceLT, Int.reduceLE, Int.reduceNeg, Int.reduceAdd, Int.reduceSub, Int.reduceToNat, he1]) | (with_reducible refine WW (by decide) ?_))
      refine AWP_while [1, 2, 38, 39, 40] (fun i : Nat => gs.length - i) (fun i => [.bool now, .ptr σ.next 0 0 0, .list (gs.map Cr.cells), .int .i64 gs.length, .int .i64 i]) (fun i t => Kp s1 t ∧ i ≤ gs.length ∧ ∀ x, x ∈ gs.take i → x.Fl (now && !decide (k = 5))) 0 ⟨.refl _, by simp, by simp⟩ ?_ ?_
      · refine raw ?_
        repeat (first | (with_reducible refine unr ?_; try simp only [YY, ↓reduceIte, Nat.reduceEqDiff, Nat.reduceAdd, Nat.reduceLeDiff, reduceCtorEq, Int.reduceEq, Int.reduceLT, Int.reduceLE, Int.reduceNeg, Int.reduceAdd, Int.reduceSub, Int.reduceToNat]) | (with_reducible refine WW (by decide) ?_))
        rfl
      rintro i t ⟨k2, hi, hall⟩
      have he1 := k2.get g1
      have hq1 := lt_ne (t.lt he1)
      have kk := k1.trans k2
      have hw := wrap_succ (i := i) (by omega)
      by_cases hil : i < gs.length
      · have hil' : (i : Int) < (gs.length : Int) := by omega
        obtain ⟨x, hx⟩ : ∃ x, gs[i]? = some x := ⟨_, List.getElem?_eq_getElem hil⟩
        have hg : (gs.map Cr.cells)[i]? = some (Cr.cells x) := by simp [hx]
        have hxm := List.mem_of_getElem? hx
        refine raw ?_
        repeat' (first | (with_reducible refine unr ?_; try simp only [YY, ↓reduceIte, Nat.reduceEqDiff, Nat.reduceAdd, Nat.reduceLeDiff, reduceCtorEq, Int.reduceEq, Int.reduceLT, Int.reduceLE, Int.reduceNeg, Int.reduceAdd, Int.reduceSub, Int.reduceToNat, he1, hil', hg, Cr.len, Cr.take9, hq1, str_nil, *]) | (with_reducible first | refine WW (by decide) ?_ | refine ok_idx (by first | assumption | omega) (fun b hb => raw ?_) | refine ok_iad (by first | assumption | omega) (fun x hx hxm => raw ?_) | refine And.intro (by omega) (raw ?_) | (refine guardW_b (fun h => raw ?_) (fun h => raw ?_) <;> try simp only [Ty] at h) | (refine ePick_b (fun h => raw ?_) (fun h => raw ?_) <;> try simp only [Ty] at h) | (refine condW_b (fun h => raw ?_) (fun h => raw ?_) <;> try simp only [Ty] at h) | (refine (i1 x hxm _ _).mono ?_; rintro _ _ ⟨⟨b, rfl, hb⟩, rfl⟩; refine raw ?_)))
        all_goals first
          | exact FP.same (k1.trans (k2.push _)) (RE.f fun hh => iff_f hb h (by (have hq := (fl_iff.1 hh).g1 x hxm); (have e : now = true := by assumption); subst e; rw [Bool.true_and] at hq; exact hq)) (.bool _)
          | exact FP.same (k1.trans (k2.push _)) (RE.f fun hh => iff_f hb h (by (have hq := (fl_iff.1 hh).g1 x hxm); (have e : now = false := by assumption); subst e; rw [Bool.false_and] at hq; exact hq)) (.bool _)
          | exact ⟨i + 1, rfl, ⟨k2.push _, by omega, by (have hq := hb.1 h); (have e : now = true := by assumption); subst e; exact all_succ (p := fun x => x.Fl (true && !decide (k = 5))) hall hx (by rw [Bool.true_and]; exact hq)⟩, by omega⟩
          | exact ⟨i + 1, rfl, ⟨k2.push _, by omega, by (have hq := hb.1 h); (have e : now = false := by assumption); subst e; exact all_succ (p := fun x => x.Fl (false && !decide (k = 5))) hall hx (by rw [Bool.false_and]; exact hq)⟩, by omega⟩
      · have hil' : ¬ (i : Int) < (gs.length : Int) := by omega
        rw [List.take_of_length_le (by omega)] at hall
        refine raw ?_
        repeat (first | (with_reducible refine unr ?_; try simp only [YY, ↓reduceIte, Nat.reduceEqDiff, Nat.reduceAdd, Nat.reduceLeDiff, reduceCtorEq, Int.reduceEq, Int.reduceLT, Int.reduceLE, Int.reduceNeg, Int.reduceAdd, Int.reduceSub, Int.reduceToNat, he1, hil']) | (with_reducible refine WW (by decide) ?_))
        exact ⟨(), k2, hall⟩
    rintro _ s2 ⟨k2, q1⟩
    have he1 := k2.get g1
    refine AWP_cut [1, 2] (fun _ : Unit => [.bool now, .ptr σ.next 0 0 0]) (fun _ s => Kp s1 s ∧ ∀ x, x ∈ al → x.2.Fl now) ?_ ?_
    · refine raw ?_
      repeat (first | (with_reducible refine unr ?_; try simp only [YY, ↓reduceIte, Nat.reduceEqDiff, Nat.reduceAdd, Nat.reduceLeDiff, reduceCtorEq, Int.reduceEq, Int.reduceLT, Int.reduceLE, Int.reduceNeg, Int.reduceAdd, Int.reduceSub, Int.reduceToNat, he1]) | (with_reducible refine WW (by decide) ?_))
      refine AWP_while [1, 2, 55, 56, 57] (fun i : Nat => al.length - i) (fun i => [.bool now, .ptr σ.next 0 0 0, .list (al.map altC), .int .i64 al.length, .int .i64 i]) (fun i t => Kp s1 t ∧ i ≤ al.length ∧ ∀ x, x ∈ al.take i → x.2.Fl now) 0 ⟨k2, by simp, by simp⟩ ?_ ?_
      · refine raw ?_
        repeat (first | (with_reducible refine unr ?_; try simp only [YY, ↓reduceIte, Nat.reduceEqDiff, Nat.reduceAdd, Nat.reduceLeDiff, reduceCtorEq, Int.reduceEq, Int.reduceLT, Int.reduceLE, Int.reduceNeg, Int.reduceAdd, Int.reduceSub, Int.reduceToNat]) | (with_reducible refine WW (by decide) ?_))
        rfl
      rintro i t ⟨k2, hi, hall⟩
      have he1 := k2.get g1
      have hq1 := lt_ne (t.lt he1)
      have kk := k1.trans k2
      have hw := wrap_succ (i := i) (by omega)
      by_cases hil : i < al.length
      · have hil' : (i : Int) < (al.length : Int) := by omega
        obtain ⟨x, hx⟩ : ∃ x, al[i]? = some x := ⟨_, List.getElem?_eq_getElem hil⟩
        have hg : (al.map altC)[i]? = some (altC x) := by simp [hx]
        have hxm := List.mem_of_getElem? hx
        refine raw ?_
        repeat' (first | (with_reducible refine unr ?_; try simp only [YY, ↓reduceIte, Nat.reduceEqDiff, Nat.reduceAdd, Nat.reduceLeDiff, reduceCtorEq, Int.reduceEq, Int.reduceLT, Int.reduceLE, Int.reduceNeg, Int.reduceAdd, Int.reduceSub, Int.reduceToNat, he1, hil', hg, altC, AltH.cells, Cr.len, Cr.take9, hq1, str_nil, *]) | (with_reducible first | refine WW (by decide) ?_ | refine ok_idx (by first | assumption | omega) (fun b hb => raw ?_) | refine ok_iad (by first | assumption | omega) (fun x hx hxm => raw ?_) | refine And.intro (by omega) (raw ?_) | (refine guardW_b (fun h => raw ?_) (fun h => raw ?_) <;> try simp only [Ty] at h) | (refine ePick_b (fun h => raw ?_) (fun h => raw ?_) <;> try simp only [Ty] at h) | (refine condW_b (fun h => raw ?_) (fun h => raw ?_) <;> try simp only [Ty] at h) | (refine (i2 x hxm _ _).mono ?_; rintro _ _ ⟨⟨b, rfl, hb⟩, rfl⟩; refine raw ?_)))
        all_goals first
          | exact FP.same (k1.trans (k2.push _)) (RE.f fun hh => iff_f hb h ((fl_iff.1 hh).g2 x hxm)) (.bool _)
          | exact ⟨i + 1, rfl, ⟨k2.push _, by omega, all_succ (p := fun x => x.2.Fl now) hall hx (hb.1 h)⟩, by omega⟩
      · have hil' : ¬ (i : Int) < (al.length : Int) := by omega
        rw [List.take_of_length_le (by omega)] at hall
        refine raw ?_
        repeat (first | (with_reducible refine unr ?_; try simp only [YY, ↓reduceIte, Nat.reduceEqDiff, Nat.reduceAdd, Nat.reduceLeDiff, reduceCtorEq, Int.reduceEq, Int.reduceLT, Int.reduceLE, Int.reduceNeg, Int.reduceAdd, Int.reduceSub, Int.reduceToNat, he1, hil']) | (with_reducible refine WW (by decide) ?_))
        exact ⟨(), k2, hall⟩
    rintro _ s2 ⟨k2, q2⟩
    have he1 := k2.get g1
    refine AWP_cut [1, 2] (fun _ : Unit => [.bool now, .ptr σ.next 0 0 0]) (fun _ s => Kp s1 s ∧ ∀ x, x ∈ bs → x.2.Fl false) ?_ ?_
    · refine raw ?_
      repeat (first | (with_reducible refine unr ?_; try simp only [YY, ↓reduceIte, Nat.reduceEqDiff, Nat.reduceAdd, Nat.reduceLeDiff, reduceCtorEq, Int.reduceEq, Int.reduceLT, Int.reduceLE, Int.reduceNeg, Int.reduceAdd, Int.reduceSub, Int.reduceToNat, he1]) | (with_reducible refine WW (by decide) ?_))
      refine AWP_while [1, 2, 68, 69, 70] (fun i : Nat => bs.length - i) (fun i => [.bool now, .ptr σ.next 0 0 0, .list (bs.map bindC), .int .i64 bs.length, .int .i64 i]) (fun i t => Kp s1 t ∧ i ≤ bs.length ∧ ∀ x, x ∈ bs.take i → x.2.Fl false) 0 ⟨k2, by simp, by simp⟩ ?_ ?_
      · refine raw ?_
        repeat (first | (with_reducible refine unr ?_; try simp only [YY, ↓reduceIte, Nat.reduceEqDiff, Nat.reduceAdd, Nat.reduceLeDiff, reduceCtorEq, Int.reduceEq, Int.reduceLT, Int.reduceLE, Int.reduceNeg, Int.reduceAdd, Int.reduceSub, Int.reduceToNat]) | (with_reducible refine WW (by decide) ?_))
        rfl
      rintro i t ⟨k2, hi, hall⟩
      have he1 := k2.get g1
      have hq1 := lt_ne (t.lt he1)
      have kk := k1.trans k2
      have hw := wrap_succ (i := i) (by omega)
      by_cases hil : i < bs.length
      · have hil' : (i : Int) < (bs.length : Int) := by omega
        obtain ⟨x, hx⟩ : ∃ x, bs[i]? = some x := ⟨_, List.getElem?_eq_getElem hil⟩
        have hg : (bs.map bindC)[i]? = some (bindC x) := by simp [hx]
        have hxm := List.mem_of_getElem? hx
        refine raw ?_
        repeat' (first | (with_reducible refine unr ?_; try simp only [YY, ↓reduceIte, Nat.reduceEqDiff, Nat.reduceAdd, Nat.reduceLeDiff, reduceCtorEq, Int.reduceEq, Int.reduceLT, Int.reduceLE, Int.reduceNeg, Int.reduceAdd, Int.reduceSub, Int.reduceToNat, he1, hil', hg, bindC, Cr.len, Cr.take9, hq1, str_nil, *]) | (with_reducible first | refine WW (by decide) ?_ | refine ok_idx (by first | assumption | omega) (fun b hb => raw ?_) | refine ok_iad (by first | assumption | omega) (fun x hx hxm => raw ?_) | refine And.intro (by omega) (raw ?_) | (refine guardW_b (fun h => raw ?_) (fun h => raw ?_) <;> try simp only [Ty] at h) | (refine ePick_b (fun h => raw ?_) (fun h => raw ?_) <;> try simp only [Ty] at h) | (refine condW_b (fun h => raw ?_) (fun h => raw ?_) <;> try simp only [Ty] at h) | (refine (i3 x hxm _ _).mono ?_; rintro _ _ ⟨⟨b, rfl, hb⟩, rfl⟩; refine raw ?_)))
        all_goals first
          | exact FP.same (k1.trans (k2.push _)) (RE.f fun hh => iff_f hb h ((fl_iff.1 hh).g3 x hxm)) (.bool _)
          | exact ⟨i + 1, rfl, ⟨k2.push _, by omega, all_succ (p := fun x => x.2.Fl false) hall hx (hb.1 h)⟩, by omega⟩
      · have hil' : ¬ (i : Int) < (bs.length : Int) := by omega
        rw [List.take_of_length_le (by omega)] at hall
        refine raw ?_
        repeat (first | (with_reducible refine unr ?_; try simp only [YY, ↓reduceIte, Nat.reduceEqDiff, Nat.reduceAdd, Nat.reduceLeDiff, reduceCtorEq, Int.reduceEq, Int.reduceLT, Int.reduceLE, Int.reduceNeg, Int.reduceAdd, Int.reduceSub, Int.reduceToNat, he1, hil']) | (with_reducible refine WW (by decide) ?_))
        exact ⟨(), k2, hall⟩
    rintro _ s2 ⟨k2, q3⟩
    have he1 := k2.get g1
    refine raw ?_
    repeat (first | (with_reducible refine unr ?_; try simp only [YY, ↓reduceIte, Nat.reduceEqDiff, Nat.reduceAdd, Nat.reduceLeDiff, reduceCtorEq, Int.reduceEq, Int.reduceLT, Int.reduceLE, Int.reduceNeg, Int.reduceAdd, Int.reduceSub, Int.reduceToNat, he1]) | (with_reducible refine WW (by decide) ?_))
    refine AWP_while [1, 2, 80, 81, 82] (fun i : Nat => pk.length - i) (fun i => [.bool now, .ptr σ.next 0 0 0, .list (pk.map pickC), .int .i64 pk.length, .int .i64 i]) (fun i t => Kp s1 t ∧ i ≤ pk.length ∧ ∀ x, x ∈ pk.take i → x.2.Fl now) 0 ⟨k2, by simp, by simp⟩ ?_ ?_
    · refine raw ?_
      repeat (first | (with_reducible refine unr ?_; try simp only [YY, ↓reduceIte, Nat.reduceEqDiff, Nat.reduceAdd, Nat.reduceLeDiff, reduceCtorEq, Int.reduceEq, Int.reduceLT, Int.reduceLE, Int.reduceNeg, Int.reduceAdd, Int.reduceSub, Int.reduceToNat]) | (with_reducible refine WW (by decide) ?_))
      rfl
    rintro i t ⟨k2, hi, hall⟩
    have he1 := k2.get g1
    have hq1 := lt_ne (t.lt he1)
    have kk := k1.trans k2
    have hw := wrap_succ (i := i) (by omega)
    by_cases hil : i < pk.length
    · have hil' : (i : Int) < (pk.length : Int) := by omega
      obtain ⟨x, hx⟩ : ∃ x, pk[i]? = some x := ⟨_, List.getElem?_eq_getElem hil⟩
      have hg : (pk.map pickC)[i]? = some (pickC x) := by simp [hx]
      have hxm := List.mem_of_getElem? hx
      refine raw ?_
      repeat' (first | (with_reducible refine unr ?_; try simp only [YY, ↓reduceIte, Nat.reduceEqDiff, Nat.reduceAdd, Nat.reduceLeDiff, reduceCtorEq, Int.reduceEq, Int.reduceLT, Int.reduceLE, Int.reduceNeg, Int.reduceAdd, Int.reduceSub, Int.reduceToNat, he1, hil', hg, pickC, Cr.len, Cr.take9, hq1, str_nil, *]) | (with_reducible first | refine WW (by decide) ?_ | refine ok_idx (by first | assumption | omega) (fun b hb => raw ?_) | refine ok_iad (by first | assumption | omega) (fun x hx hxm => raw ?_) | refine And.intro (by omega) (raw ?_) | (refine guardW_b (fun h => raw ?_) (fun h => raw ?_) <;> try simp only [Ty] at h) | (refine ePick_b (fun h => raw ?_) (fun h => raw ?_) <;> try simp only [Ty] at h) | (refine condW_b (fun h => raw ?_) (fun h => raw ?_) <;> try simp only [Ty] at h) | (refine (i4 x hxm _ _).mono ?_; rintro _ _ ⟨⟨b, rfl, hb⟩, rfl⟩; refine raw ?_)))
      all_goals first
        | exact FP.same (k1.trans (k2.push _)) (RE.f fun hh => iff_f hb h ((fl_iff.1 hh).g4 x hxm)) (.bool _)
        | exact ⟨i + 1, rfl, ⟨k2.push _, by omega, all_succ (p := fun x => x.2.Fl now) hall hx (hb.1 h)⟩, by omega⟩
    · have hil' : ¬ (i : Int) < (pk.length : Int) := by omega
      rw [List.take_of_length_le (by omega)] at hall
      refine raw ?_
      repeat (first | (with_reducible refine unr ?_; try simp only [YY, ↓reduceIte, Nat.reduceEqDiff, Nat.reduceAdd, Nat.reduceLeDiff, reduceCtorEq, Int.reduceEq, Int.reduceLT, Int.reduceLE, Int.reduceNeg, Int.reduceAdd, Int.reduceSub, Int.reduceToNat, he1, hil']) | (with_reducible refine WW (by decide) ?_))
      exact FP.same kk (RE.t (fl_iff.2 ⟨hkk.1, hkk.2, q1, q2, q3, hall⟩)) (.bool _)
end Go.Proofs.Ytjjbjibbjbbeaaa
/- The document's: names joined, parts counted, alternatives: exactly. -/
set_option linter.unusedVariables false
set_option linter.unusedSimpArgs false
namespace Go.AL
theorem strs_snoc {l : List ByteArray} {i : Nat} {x : ByteArray} (h : l[i]? = some x) : ((l.take (i + 1)).map fun s => [AV.str s]) = ((l.take i).map fun s => [AV.str s]) ++ [[AV.str x]] := by rw [List.take_add_one, h]; simp
def intsC (l : List Int) : AV := .list (l.map fun n => [.int .i64 n])
theorem ints_get {l : List Int} {i : Nat} {x : Int} (h : l[i]? = some x) : (l.map fun n => [AV.int .i64 n])[i]? = some [AV.int .i64 x] := by simp [h]
theorem take_eq_succ {α : Type} {a b : List α} {i : Nat} {x : α} (h : a.take i = b.take i) (ha : a[i]? = some x) (hb : b[i]? = some x) : a.take (i + 1) = b.take (i + 1) := by rw [List.take_add_one, List.take_add_one, h, ha, hb]
end Go.AL
namespace Go.Proofs.Ytjjbjibbjbbeaaa
open Go.AL
theorem joined15 (a b : List ByteArray) (ha : a.length + b.length ≤ 100000000) (σ : Store) : ACalls Try.prog 93 [strs a, strs b] σ fun r σ' => r = strs (a ++ b) ∧ σ' = σ := by
  refine ACalls_fp (p := fun r => r = strs (a ++ b)) ?_
  refine in93 (by simp) ?_
  unfold c93
  refine raw ?_
  repeat (first | (with_reducible refine unr ?_; try simp only [YY, ↓reduceIte, Nat.reduceEqDiff, Nat.reduceAdd, Nat.reduceLeDiff, reduceCtorEq, Int.reduceEq, Int.reduceLT, Int.reduceLE, Int.reduceNeg, Int.reduceAdd, Int.reduceSub, Int.reduceToNat]) | (with_reducible refine WW (by decide) ?_))
  refine AWP_while [0, 1, 5, 6] (fun y : AV × Nat => a.length - y.2) (fun y => [strs a, strs b, y.1, .int .i64 y.2]) (fun y t => y.2 ≤ a.length ∧ Grow σ t y.1 9 1 (([]:List (List AV)) ++ ((a.take y.2).map fun s => [AV.str s]))) (AV.nils, 0) ⟨by simp, (by simpa using Grow.start σ 9 1)⟩ ?_ ?_
  · refine raw ?_
    repeat (first | (with_reducible refine unr ?_; try simp only [YY, ↓reduceIte, Nat.reduceEqDiff, Nat.reduceAdd, Nat.reduceLeDiff, reduceCtorEq, Int.reduceEq, Int.reduceLT, Int.reduceLE, Int.reduceNeg, Int.reduceAdd, Int.reduceSub, Int.reduceToNat]) | (with_reducible refine WW (by decide) ?_))
    rfl
  rintro ⟨u, i⟩ t ⟨hi, hG⟩
  simp only at hi hG
  have hw := wrap_succ (i := i) (by omega)
  by_cases hil : i < a.length
  · have hil' : (i : Int) < (a.length : Int) := by omega
    obtain ⟨x, hx⟩ : ∃ x, a[i]? = some x := ⟨_, List.getElem?_eq_getElem hil⟩
    have hg := strs_get hx
    have hsn := strs_snoc hx
    refine raw ?_
    repeat (first | (with_reducible refine unr ?_; try simp only [YY, ↓reduceIte, Nat.reduceEqDiff, Nat.reduceAdd, Nat.reduceLeDiff, reduceCtorEq, Int.reduceEq, Int.reduceLT, Int.reduceLE, Int.reduceNeg, Int.reduceAdd, Int.reduceSub, Int.reduceToNat, hil', hg]) | (with_reducible refine WW (by decide) ?_))
    refine ok_grow hG (es2 := [[.str x]]) (by simp) (by simp; omega) (by simp [maxLen]; omega) ?_
    intro v' t3 hG3 _ _
    refine raw ?_
    repeat (first | (with_reducible refine unr ?_; try simp only [YY, ↓reduceIte, Nat.reduceEqDiff, Nat.reduceAdd, Nat.reduceLeDiff, reduceCtorEq, Int.reduceEq, Int.reduceLT, Int.reduceLE, Int.reduceNeg, Int.reduceAdd, Int.reduceSub, Int.reduceToNat, hw]) | (with_reducible refine WW (by decide) ?_))
    exact ⟨(v', i + 1), rfl, ⟨by simp only; omega, by simp only [hsn]; simpa using hG3⟩, by simp only; omega⟩
  have hil' : ¬ (i : Int) < (a.length : Int) := by omega
  rw [List.take_of_length_le (by omega)] at hG
  refine raw ?_
  repeat (first | (with_reducible refine unr ?_; try simp only [YY, ↓reduceIte, Nat.reduceEqDiff, Nat.reduceAdd, Nat.reduceLeDiff, reduceCtorEq, Int.reduceEq, Int.reduceLT, Int.reduceLE, Int.reduceNeg, Int.reduceAdd, Int.reduceSub, Int.reduceToNat, hil']) | (with_reducible refine WW (by decide) ?_))
  clear hw hil hil' hi
  refine AWP_while [1, 5, 7] (fun y : AV × Nat => b.length - y.2) (fun y => [strs b, y.1, .int .i64 y.2]) (fun y t => y.2 ≤ b.length ∧ Grow σ t y.1 9 1 ((a.map fun s => [AV.str s]) ++ ((b.take y.2).map fun s => [AV.str s]))) (u, 0) ⟨by simp, (by simpa using hG)⟩ ?_ ?_
  · refine raw ?_
    repeat (first | (with_reducible refine unr ?_; try simp only [YY, ↓reduceIte, Nat.reduceEqDiff, Nat.reduceAdd, Nat.reduceLeDiff, reduceCtorEq, Int.reduceEq, Int.reduceLT, Int.reduceLE, Int.reduceNeg, Int.reduceAdd, Int.reduceSub, Int.reduceToNat]) | (with_reducible refine WW (by decide) ?_))
    rfl
  rintro ⟨u, i⟩ t ⟨hi, hG⟩
  simp only at hi hG
  have hw := wrap_succ (i := i) (by omega)
  by_cases hil : i < b.length
  · have hil' : (i : Int) < (b.length : Int) := by omega
    obtain ⟨x, hx⟩ : ∃ x, b[i]? = some x := ⟨_, List.getElem?_eq_getElem hil⟩
    have hg := strs_get hx
    have hsn := strs_snoc hx
    refine raw ?_
    repeat (first | (with_reducible refine unr ?_; try simp only [YY, ↓reduceIte, Nat.reduceEqDiff, Nat.reduceAdd, Nat.reduceLeDiff, reduceCtorEq, Int.reduceEq, Int.reduceLT, Int.reduceLE, Int.reduceNeg, Int.reduceAdd, Int.reduceSub, Int.reduceToNat, hil', hg]) | (with_reducible refine WW (by decide) ?_))
    refine ok_grow hG (es2 := [[.str x]]) (by simp) (by simp; omega) (by simp [maxLen]; omega) ?_
    intro v' t3 hG3 _ _
    refine raw ?_
    repeat (first | (with_reducible refine unr ?_; try simp only [YY, ↓reduceIte, Nat.reduceEqDiff, Nat.reduceAdd, Nat.reduceLeDiff, reduceCtorEq, Int.reduceEq, Int.reduceLT, Int.reduceLE, Int.reduceNeg, Int.reduceAdd, Int.reduceSub, Int.reduceToNat, hw]) | (with_reducible refine WW (by decide) ?_))
    exact ⟨(v', i + 1), rfl, ⟨by simp only; omega, by simp only [hsn]; simpa using hG3⟩, by simp only; omega⟩
  have hil' : ¬ (i : Int) < (b.length : Int) := by omega
  rw [List.take_of_length_le (by omega)] at hG
  refine raw ?_
  repeat (first | (with_reducible refine unr ?_; try simp only [YY, ↓reduceIte, Nat.reduceEqDiff, Nat.reduceAdd, Nat.reduceLeDiff, reduceCtorEq, Int.reduceEq, Int.reduceLT, Int.reduceLE, Int.reduceNeg, Int.reduceAdd, Int.reduceSub, Int.reduceToNat, hil']) | (with_reducible refine WW (by decide) ?_))
  exact FP.mk (strs (a ++ b)) (by simpa using hG.sl) .here rfl (cln_strs _) hG.kp hG.fresh
theorem names15 (l : List (ByteArray × Cr)) (hl : l.length ≤ 100000000) (σ : Store) : ACalls Try.prog 94 [.list (l.map bindC)] σ fun r σ' => r = strs (l.map Prod.fst) ∧ σ' = σ := by
  refine ACalls_fp (p := fun r => r = strs (l.map Prod.fst)) ?_
  refine in94 (by simp) ?_
  unfold c94
  refine raw ?_
  repeat (first | (with_reducible refine unr ?_; try simp only [YY, ↓reduceIte, Nat.reduceEqDiff, Nat.reduceAdd, Nat.reduceLeDiff, reduceCtorEq, Int.reduceEq, Int.reduceLT, Int.reduceLE, Int.reduceNeg, Int.reduceAdd, Int.reduceSub, Int.reduceToNat]) | (with_reducible refine WW (by decide) ?_))
  refine AWP_while [0, 3, 4] (fun y : AV × Nat => l.length - y.2) (fun y => [.list (l.map bindC), y.1, .int .i64 y.2])
    (fun y t => y.2 ≤ l.length ∧ Grow σ t y.1 9 1 (((l.map Prod.fst).take y.2).map fun s => [AV.str s])) (.nils, 0) ⟨by simp, .start _ _ _⟩ ?_ ?_
  · refine raw ?_
    repeat (first | (with_reducible refine unr ?_; try simp only [YY, ↓reduceIte, Nat.reduceEqDiff, Nat.reduceAdd, Nat.reduceLeDiff, reduceCtorEq, Int.reduceEq, Int.reduceLT, Int.reduceLE, Int.reduceNeg, Int.reduceAdd, Int.reduceSub, Int.reduceToNat]) | (with_reducible refine WW (by decide) ?_))
    rfl
  rintro ⟨v, i⟩ t ⟨hi, hG⟩
  simp only at hi hG
  have hw := wrap_succ (i := i) (by omega)
  by_cases hil : i < l.length
  · have hil' : (i : Int) < (l.length : Int) := by omega
    obtain ⟨x, hx⟩ : ∃ x, l[i]? = some x := ⟨_, List.getElem?_eq_getElem hil⟩
    have hg : (l.map bindC)[i]? = some (bindC x) := by simp [hx]
    have hx1 : (l.map Prod.fst)[i]? = some (Prod.fst x) := by simp [hx]
    have hsn := strs_snoc hx1
    refine raw ?_
    repeat (first | (with_reducible refine unr ?_; try simp only [YY, ↓reduceIte, Nat.reduceEqDiff, Nat.reduceAdd, Nat.reduceLeDiff, reduceCtorEq, Int.reduceEq, Int.reduceLT, Int.reduceLE, Int.reduceNeg, Int.reduceAdd, Int.reduceSub, Int.reduceToNat, hil', hg, bindC, Cr.len, Cr.take9]) | (with_reducible refine WW (by decide) ?_))
    refine ok_grow hG (es2 := [[.str (Prod.fst x)]]) (by simp) (by simp; omega) (by simp [maxLen]; omega) ?_
    intro v' t3 hG3 _ _
    refine raw ?_
    repeat (first | (with_reducible refine unr ?_; try simp only [YY, ↓reduceIte, Nat.reduceEqDiff, Nat.reduceAdd, Nat.reduceLeDiff, reduceCtorEq, Int.reduceEq, Int.reduceLT, Int.reduceLE, Int.reduceNeg, Int.reduceAdd, Int.reduceSub, Int.reduceToNat, hw]) | (with_reducible refine WW (by decide) ?_))
    exact ⟨(v', i + 1), rfl, ⟨by simp only; omega, by simp only [hsn]; exact hG3⟩, by simp only; omega⟩
  · have hil' : ¬ (i : Int) < (l.length : Int) := by omega
    rw [List.take_of_length_le (by simp; omega)] at hG
    refine raw ?_
    repeat (first | (with_reducible refine unr ?_; try simp only [YY, ↓reduceIte, Nat.reduceEqDiff, Nat.reduceAdd, Nat.reduceLeDiff, reduceCtorEq, Int.reduceEq, Int.reduceLT, Int.reduceLE, Int.reduceNeg, Int.reduceAdd, Int.reduceSub, Int.reduceToNat, hil']) | (with_reducible refine WW (by decide) ?_))
    exact FP.mk (strs (l.map Prod.fst)) (by simpa using hG.sl) .here rfl (cln_strs _) hG.kp hG.fresh
theorem names17 (l : List (ByteArray × Cr)) (hl : l.length ≤ 100000000) (σ : Store) : ACalls Try.prog 129 [.list (l.map bindC)] σ fun r σ' => r = strs (l.map Prod.fst) ∧ σ' = σ := by
  refine ACalls_fp (p := fun r => r = strs (l.map Prod.fst)) ?_
  refine in129 (by simp) ?_
  unfold c129
  refine raw ?_
  repeat (first | (with_reducible refine unr ?_; try simp only [YY, ↓reduceIte, Nat.reduceEqDiff, Nat.reduceAdd, Nat.reduceLeDiff, reduceCtorEq, Int.reduceEq, Int.reduceLT, Int.reduceLE, Int.reduceNeg, Int.reduceAdd, Int.reduceSub, Int.reduceToNat]) | (with_reducible refine WW (by decide) ?_))
  refine AWP_while [0, 3, 4] (fun y : AV × Nat => l.length - y.2) (fun y => [.list (l.map bindC), y.1, .int .i64 y.2])
    (fun y t => y.2 ≤ l.length ∧ Grow σ t y.1 9 1 (((l.map Prod.fst).take y.2).map fun s => [AV.str s])) (.nils, 0) ⟨by simp, .start _ _ _⟩ ?_ ?_
  · refine raw ?_
    repeat (first | (with_reducible refine unr ?_; try simp only [YY, ↓reduceIte, Nat.reduceEqDiff, Nat.reduceAdd, Nat.reduceLeDiff, reduceCtorEq, Int.reduceEq, Int.reduceLT, Int.reduceLE, Int.reduceNeg, Int.reduceAdd, Int.reduceSub, Int.reduceToNat]) | (with_reducible refine WW (by decide) ?_))
    rfl
  rintro ⟨v, i⟩ t ⟨hi, hG⟩
  simp only at hi hG
  have hw := wrap_succ (i := i) (by omega)
  by_cases hil : i < l.length
  · have hil' : (i : Int) < (l.length : Int) := by omega
    obtain ⟨x, hx⟩ : ∃ x, l[i]? = some x := ⟨_, List.getElem?_eq_getElem hil⟩
    have hg : (l.map bindC)[i]? = some (bindC x) := by simp [hx]
    have hx1 : (l.map Prod.fst)[i]? = some (Prod.fst x) := by simp [hx]
    have hsn := strs_snoc hx1
    refine raw ?_
    repeat (first | (with_reducible refine unr ?_; try simp only [YY, ↓reduceIte, Nat.reduceEqDiff, Nat.reduceAdd, Nat.reduceLeDiff, reduceCtorEq, Int.reduceEq, Int.reduceLT, Int.reduceLE, Int.reduceNeg, Int.reduceAdd, Int.reduceSub, Int.reduceToNat, hil', hg, bindC, Cr.len, Cr.take9]) | (with_reducible refine WW (by decide) ?_))
    refine ok_grow hG (es2 := [[.str (Prod.fst x)]]) (by simp) (by simp; omega) (by simp [maxLen]; omega) ?_
    intro v' t3 hG3 _ _
    refine raw ?_
    repeat (first | (with_reducible refine unr ?_; try simp only [YY, ↓reduceIte, Nat.reduceEqDiff, Nat.reduceAdd, Nat.reduceLeDiff, reduceCtorEq, Int.reduceEq, Int.reduceLT, Int.reduceLE, Int.reduceNeg, Int.reduceAdd, Int.reduceSub, Int.reduceToNat, hw]) | (with_reducible refine WW (by decide) ?_))
    exact ⟨(v', i + 1), rfl, ⟨by simp only; omega, by simp only [hsn]; exact hG3⟩, by simp only; omega⟩
  · have hil' : ¬ (i : Int) < (l.length : Int) := by omega
    rw [List.take_of_length_le (by simp; omega)] at hG
    refine raw ?_
    repeat (first | (with_reducible refine unr ?_; try simp only [YY, ↓reduceIte, Nat.reduceEqDiff, Nat.reduceAdd, Nat.reduceLeDiff, reduceCtorEq, Int.reduceEq, Int.reduceLT, Int.reduceLE, Int.reduceNeg, Int.reduceAdd, Int.reduceSub, Int.reduceToNat, hil']) | (with_reducible refine WW (by decide) ?_))
    exact FP.mk (strs (l.map Prod.fst)) (by simpa using hG.sl) .here rfl (cln_strs _) hG.kp hG.fresh
theorem namesS15 (l : List Sup) (hl : l.length ≤ 100000000) (σ : Store) : ACalls Try.prog 122 [.list (l.map supC)] σ fun r σ' => r = strs (l.map Sup.nm) ∧ σ' = σ := by
  refine ACalls_fp (p := fun r => r = strs (l.map Sup.nm)) ?_
  refine in122 (by simp) ?_
  unfold c122
  refine raw ?_
  repeat (first | (with_reducible refine unr ?_; try simp only [YY, ↓reduceIte, Nat.reduceEqDiff, Nat.reduceAdd, Nat.reduceLeDiff, reduceCtorEq, Int.reduceEq, Int.reduceLT, Int.reduceLE, Int.reduceNeg, Int.reduceAdd, Int.reduceSub, Int.reduceToNat]) | (with_reducible refine WW (by decide) ?_))
  refine AWP_while [0, 3, 4] (fun y : AV × Nat => l.length - y.2) (fun y => [.list (l.map supC), y.1, .int .i64 y.2])
    (fun y t => y.2 ≤ l.length ∧ Grow σ t y.1 9 1 (((l.map Sup.nm).take y.2).map fun s => [AV.str s])) (.nils, 0) ⟨by simp, .start _ _ _⟩ ?_ ?_
  · refine raw ?_
    repeat (first | (with_reducible refine unr ?_; try simp only [YY, ↓reduceIte, Nat.reduceEqDiff, Nat.reduceAdd, Nat.reduceLeDiff, reduceCtorEq, Int.reduceEq, Int.reduceLT, Int.reduceLE, Int.reduceNeg, Int.reduceAdd, Int.reduceSub, Int.reduceToNat]) | (with_reducible refine WW (by decide) ?_))
    rfl
  rintro ⟨v, i⟩ t ⟨hi, hG⟩
  simp only at hi hG
  have hw := wrap_succ (i := i) (by omega)
  by_cases hil : i < l.length
  · have hil' : (i : Int) < (l.length : Int) := by omega
    obtain ⟨x, hx⟩ : ∃ x, l[i]? = some x := ⟨_, List.getElem?_eq_getElem hil⟩
    have hg : (l.map supC)[i]? = some (supC x) := by simp [hx]
    have hx1 : (l.map Sup.nm)[i]? = some (Sup.nm x) := by simp [hx]
    have hsn := strs_snoc hx1
    refine raw ?_
    repeat (first | (with_reducible refine unr ?_; try simp only [YY, ↓reduceIte, Nat.reduceEqDiff, Nat.reduceAdd, Nat.reduceLeDiff, reduceCtorEq, Int.reduceEq, Int.reduceLT, Int.reduceLE, Int.reduceNeg, Int.reduceAdd, Int.reduceSub, Int.reduceToNat, hil', hg, supC, Cr.len, Cr.take9]) | (with_reducible refine WW (by decide) ?_))
    refine ok_grow hG (es2 := [[.str (Sup.nm x)]]) (by simp) (by simp; omega) (by simp [maxLen]; omega) ?_
    intro v' t3 hG3 _ _
    refine raw ?_
    repeat (first | (with_reducible refine unr ?_; try simp only [YY, ↓reduceIte, Nat.reduceEqDiff, Nat.reduceAdd, Nat.reduceLeDiff, reduceCtorEq, Int.reduceEq, Int.reduceLT, Int.reduceLE, Int.reduceNeg, Int.reduceAdd, Int.reduceSub, Int.reduceToNat, hw]) | (with_reducible refine WW (by decide) ?_))
    exact ⟨(v', i + 1), rfl, ⟨by simp only; omega, by simp only [hsn]; exact hG3⟩, by simp only; omega⟩
  · have hil' : ¬ (i : Int) < (l.length : Int) := by omega
    rw [List.take_of_length_le (by simp; omega)] at hG
    refine raw ?_
    repeat (first | (with_reducible refine unr ?_; try simp only [YY, ↓reduceIte, Nat.reduceEqDiff, Nat.reduceAdd, Nat.reduceLeDiff, reduceCtorEq, Int.reduceEq, Int.reduceLT, Int.reduceLE, Int.reduceNeg, Int.reduceAdd, Int.reduceSub, Int.reduceToNat, hil']) | (with_reducible refine WW (by decide) ?_))
    exact FP.mk (strs (l.map Sup.nm)) (by simpa using hG.sl) .here rfl (cln_strs _) hG.kp hG.fresh
theorem sameInts (a b : List Int) (ha : a.length ≤ 100000000) (σ : Store) : ACalls Try.prog 95 [intsC a, intsC b] σ fun r σ' => (∃ c : Bool, r = .bool c ∧ (c = true ↔ a = b)) ∧ σ' = σ := by
  refine in95 (by simp) ?_
  unfold c95 intsC
  by_cases hl : (a.length : Int) = (b.length : Int)
  · refine raw ?_
    repeat (first | (with_reducible refine unr ?_; try simp only [YY, ↓reduceIte, Nat.reduceEqDiff, Nat.reduceAdd, Nat.reduceLeDiff, reduceCtorEq, Int.reduceEq, Int.reduceLT, Int.reduceLE, Int.reduceNeg, Int.reduceAdd, Int.reduceSub, Int.reduceToNat, hl]) | (with_reducible refine WW (by decide) ?_))
    refine AWP_while [0, 1, 5] (fun i : Nat => b.length - i) (fun i => [.list (a.map fun n => [.int .i64 n]), .list (b.map fun n => [.int .i64 n]), .int .i64 i]) (fun i t => t = σ ∧ i ≤ b.length ∧ Hid (a.take i = b.take i)) 0 ⟨rfl, by simp, ⟨by simp⟩⟩ ?_ ?_
    · refine raw ?_
      repeat (first | (with_reducible refine unr ?_; try simp only [YY, ↓reduceIte, Nat.reduceEqDiff, Nat.reduceAdd, Nat.reduceLeDiff, reduceCtorEq, Int.reduceEq, Int.reduceLT, Int.reduceLE, Int.reduceNeg, Int.reduceAdd, Int.reduceSub, Int.reduceToNat]) | (with_reducible refine WW (by decide) ?_))
      rfl
    rintro i t ⟨rfl, hi, he⟩
    have hw := wrap_succ (i := i) (by omega)
    by_cases hil : i < b.length
    · have hil' : (i : Int) < (b.length : Int) := by omega
      obtain ⟨x, hx⟩ : ∃ x, a[i]? = some x := ⟨_, List.getElem?_eq_getElem (by omega)⟩
      obtain ⟨y, hy⟩ : ∃ y, b[i]? = some y := ⟨_, List.getElem?_eq_getElem hil⟩
      have g1 := ints_get hx
      have g2 := ints_get hy
      by_cases hxy : x = y
      · refine raw ?_
        repeat (first | (with_reducible refine unr ?_; try simp only [YY, ↓reduceIte, Nat.reduceEqDiff, Nat.reduceAdd, Nat.reduceLeDiff, reduceCtorEq, Int.reduceEq, Int.reduceLT, Int.reduceLE, Int.reduceNeg, Int.reduceAdd, Int.reduceSub, Int.reduceToNat, hl, hil', g1, g2, hxy, hw]) | (with_reducible refine WW (by decide) ?_))
        exact ⟨i + 1, rfl, ⟨by omega, ⟨take_eq_succ he.out hx (by rw [hxy]; exact hy)⟩⟩, by omega⟩
      · refine raw ?_
        repeat (first | (with_reducible refine unr ?_; try simp only [YY, ↓reduceIte, Nat.reduceEqDiff, Nat.reduceAdd, Nat.reduceLeDiff, reduceCtorEq, Int.reduceEq, Int.reduceLT, Int.reduceLE, Int.reduceNeg, Int.reduceAdd, Int.reduceSub, Int.reduceToNat, hl, hil', g1, g2, hxy]) | (with_reducible refine WW (by decide) ?_))
        exact ⟨_, rfl, by simp, fun e => absurd (by rw [e, hy] at hx; exact (Option.some.inj hx).symm) hxy⟩
    · have hil' : ¬ (i : Int) < (b.length : Int) := by omega
      have he := he.out
      rw [List.take_of_length_le (by omega), List.take_of_length_le (by omega)] at he
      refine raw ?_
      repeat (first | (with_reducible refine unr ?_; try simp only [YY, ↓reduceIte, Nat.reduceEqDiff, Nat.reduceAdd, Nat.reduceLeDiff, reduceCtorEq, Int.reduceEq, Int.reduceLT, Int.reduceLE, Int.reduceNeg, Int.reduceAdd, Int.reduceSub, Int.reduceToNat, hl, hil']) | (with_reducible refine WW (by decide) ?_))
      exact ⟨_, rfl, by simp [he]⟩
  · refine raw ?_
    repeat (first | (with_reducible refine unr ?_; try simp only [YY, ↓reduceIte, Nat.reduceEqDiff, Nat.reduceAdd, Nat.reduceLeDiff, reduceCtorEq, Int.reduceEq, Int.reduceLT, Int.reduceLE, Int.reduceNeg, Int.reduceAdd, Int.reduceSub, Int.reduceToNat, hl]) | (with_reducible refine WW (by decide) ?_))
    exact ⟨_, rfl, by simp, fun e => absurd (by rw [e]) hl⟩
theorem counts_ok (k : Int) (nm : ByteArray) (n ar : Int) (ps : List ByteArray) (gs : List Cr) (al : List (AltH × Cr)) (bs : List (ByteArray × Cr)) (pk : List (Int × Cr)) (σ : Store) :
    ACalls Try.prog 96 [.agg (Cr.mk k nm n ar ps gs al bs pk).cells] σ fun r s => r = intsC [ps.length, gs.length, al.length, bs.length, pk.length] ∧ s = σ := by
  refine ACalls_fp (p := fun r => r = intsC [ps.length, gs.length, al.length, bs.length, pk.length]) ?_
  refine in96 (by simp) ?_
  unfold c96
  rw [Cr.cells_eq]
  refine raw ?_
  repeat (first | (with_reducible refine unr ?_; try simp only [YY, ↓reduceIte, Nat.reduceEqDiff, Nat.reduceAdd, Nat.reduceLeDiff, reduceCtorEq, Int.reduceEq, Int.reduceLT, Int.reduceLE, Int.reduceNeg, Int.reduceAdd, Int.reduceSub, Int.reduceToNat]) | (with_reducible refine WW (by decide) ?_))
  refine FP.same (.pushed _ _) rfl ?_
  refine .list' fun e he c hc => ?_
  simp only [List.mem_cons, List.not_mem_nil, or_false] at he
  rcases he with rfl | rfl | rfl | rfl | rfl <;> (simp only [List.mem_cons, List.not_mem_nil, or_false] at hc; subst hc; exact .int _ _)
theorem altE (al : List (AltH × Cr)) (hb : Cr.bulkA al ≤ 50000000) (i : Nat) (x : AltH × Cr) (hx : al[i]? = some x) (σ : Store) :
    ACalls Try.prog 97 [.list (al.map altC), .int .i64 i] σ fun r s => (∃ b : Bool, r = .bool b ∧ (b = true ↔ RAlt (al.map (·.1)) i x.1)) ∧ s = σ := by
  refine ACalls_fp (p := RE _) ?_
  refine in97 (by simp) ?_
  unfold c97
  have hpl := Cr.lenA al
  have hil := (List.getElem?_eq_some_iff.1 hx).1
  have hxm := List.mem_of_getElem? hx
  have hxb := Cr.bulkA_le hxm
  have hg : (al.map altC)[i]? = some (altC x) := by simp [hx]
  replace hx : Hid (al[i]? = some x) := ⟨hx⟩
  try simp only [YY, ↓reduceIte, Nat.reduceEqDiff, Nat.reduceAdd, Nat.reduceLeDiff, reduceCtorEq, Int.reduceEq, Int.reduceLT, Int.reduceLE, Int.reduceNeg, Int.reduceAdd, Int.reduceSub, Int.reduceToNat, hg, altC, AltH.cells, Cr.len, Cr.take9]
  iterate 4 ((with_reducible refine WW (by decide) ?_); refine unr ?_; try simp only [YY, ↓reduceIte, Nat.reduceEqDiff, Nat.reduceAdd, Nat.reduceLeDiff, reduceCtorEq, Int.reduceEq, Int.reduceLT, Int.reduceLE, Int.reduceNeg, Int.reduceAdd, Int.reduceSub, Int.reduceToNat, hg, altC, AltH.cells, Cr.len, Cr.take9])
  generalize hs : Store.push _ _ = s
  have k1 : Kp σ s := by rw [← hs]; exact Kp.pushed _ _
  have he : s.get σ.next = some (.cells 113 0 13 [[.int .i64 x.1.k, .str x.1.nm, .int .i64 x.1.n, strs x.1.ps] ++ x.2.cells]) := by rw [← hs]; simp [Store.push_get]
  clear hs
  refine AWP_cut [5] (fun _ : Unit => [.ptr σ.next 0 0 0]) (fun _ s' => Kp s s' ∧ Hid (∀ b, b ∈ (al.map (·.1)).take i → ¬ RClash b x.1)) ?_ ?_
  · refine raw ?_
    repeat (first | (with_reducible refine unr ?_; try simp only [YY, ↓reduceIte, Nat.reduceEqDiff, Nat.reduceAdd, Nat.reduceLeDiff, reduceCtorEq, Int.reduceEq, Int.reduceLT, Int.reduceLE, Int.reduceNeg, Int.reduceAdd, Int.reduceSub, Int.reduceToNat]) | (with_reducible refine WW (by decide) ?_))
    refine AWP_while [0, 1, 5, 6] (fun j : Nat => i - j) (fun j => [.list (al.map altC), .int .i64 i, .ptr σ.next 0 0 0, .int .i64 j]) (fun j s' => Kp s s' ∧ j ≤ i ∧ Hid (∀ b, b ∈ al.take j → ¬ RClash b.1 x.1)) 0 ⟨.refl _, by omega, ⟨by simp⟩⟩ ?_ ?_
    · refine raw ?_
      repeat (first | (with_reducible refine unr ?_; try simp only [YY, ↓reduceIte, Nat.reduceEqDiff, Nat.reduceAdd, Nat.reduceLeDiff, reduceCtorEq, Int.reduceEq, Int.reduceLT, Int.reduceLE, Int.reduceNeg, Int.reduceAdd, Int.reduceSub, Int.reduceToNat]) | (with_reducible refine WW (by decide) ?_))
      rfl
    rintro j t2 ⟨k2, hj, hcl⟩
    have hwj := wrap_succ (i := j) (by omega)
    have he2 := k2.get he
    have hq := lt_ne (t2.lt he2)
    by_cases hjl : j < i
    · have hjl' : (j : Int) < (i : Int) := by omega
      obtain ⟨z, hz⟩ : ∃ z, al[j]? = some z := ⟨_, List.getElem?_eq_getElem (by omega)⟩
      have hgz : (al.map altC)[j]? = some (altC z) := by rw [List.getElem?_map, hz]; rfl
      have hzm : z.1 ∈ (al.map (·.1)).take i := List.mem_of_getElem? (i := j) (by rw [List.getElem?_take_of_lt hjl, List.getElem?_map, hz]; rfl)
      replace hz : Hid (al[j]? = some z) := ⟨hz⟩
      refine raw ?_
      repeat' (first | (with_reducible refine unr ?_; try simp only [YY, ↓reduceIte, Nat.reduceEqDiff, Nat.reduceAdd, Nat.reduceLeDiff, reduceCtorEq, Int.reduceEq, Int.reduceLT, Int.reduceLE, Int.reduceNeg, Int.reduceAdd, Int.reduceSub, Int.reduceToNat, hjl', he2, hq, hgz, altC, AltH.cells, Cr.len, Cr.take9, str_nil, *]) | (with_reducible first | refine WW (by decide) ?_ | refine ok_idx (by first | assumption | omega) (fun b hb => raw ?_) | refine ok_iad (by first | assumption | omega) (fun x hx hxm => raw ?_) | refine And.intro (by omega) (raw ?_) | (refine guardW_b (fun h => raw ?_) (fun h => raw ?_) <;> try simp only [Ty] at h) | (refine ePick_b (fun h => raw ?_) (fun h => raw ?_) <;> try simp only [Ty] at h) | (refine condW_b (fun h => raw ?_) (fun h => raw ?_) <;> try simp only [Ty] at h)))
      all_goals first
        | exact FP.same (k1.trans (k2.push _)) (RE.f fun hh => hh.1 z.1 hzm (by first | exact .inl ⟨by omega, by omega⟩ | exact .inr (.inl ⟨by omega, by assumption⟩) | exact .inr (.inr (.inl ⟨by omega, by omega⟩)) | exact .inr (.inr (.inr (by omega))))) (.bool _)
        | exact ⟨j + 1, rfl, ⟨k2.push _, by omega, ⟨all_succ (p := fun b => ¬ RClash b.1 x.1) hcl.out hz.out (by
            rintro (hh | hh | hh | hh)
            · omega
            · first | omega | exact absurd hh.2 (by assumption)
            · omega
            · omega)⟩⟩, by omega⟩
    · have hjl' : ¬ (j : Int) < (i : Int) := by omega
      have hcl := hcl.out
      have hji : j = i := by omega
      refine raw ?_
      repeat (first | (with_reducible refine unr ?_; try simp only [YY, ↓reduceIte, Nat.reduceEqDiff, Nat.reduceAdd, Nat.reduceLeDiff, reduceCtorEq, Int.reduceEq, Int.reduceLT, Int.reduceLE, Int.reduceNeg, Int.reduceAdd, Int.reduceSub, Int.reduceToNat, hjl']) | (with_reducible refine WW (by decide) ?_))
      refine ⟨(), k2, ⟨fun b hb => ?_⟩⟩
      rw [← List.map_take] at hb
      obtain ⟨y, hy, rfl⟩ := List.mem_map.1 hb
      exact hcl y (by rw [hji]; exact hy)
  rintro _ s2 ⟨k2, hcl⟩
  have he2 := k2.get he
  have hxi : (al.map (·.1))[i]? = some x.1 := by simp [hx.out]
  refine raw ?_
  repeat' (first | (with_reducible refine unr ?_; try simp only [YY, ↓reduceIte, Nat.reduceEqDiff, Nat.reduceAdd, Nat.reduceLeDiff, reduceCtorEq, Int.reduceEq, Int.reduceLT, Int.reduceLE, Int.reduceNeg, Int.reduceAdd, Int.reduceSub, Int.reduceToNat, he2, Cr.len, Cr.take9, str_nil, *]) | (with_reducible first | refine WW (by decide) ?_ | refine ok_idx (by first | assumption | omega) (fun b hb => raw ?_) | refine ok_iad (by first | assumption | omega) (fun x hx hxm => raw ?_) | refine And.intro (by omega) (raw ?_) | (refine guardW_b (fun h => raw ?_) (fun h => raw ?_) <;> try simp only [Ty] at h) | (refine ePick_b (fun h => raw ?_) (fun h => raw ?_) <;> try simp only [Ty] at h) | (refine condW_b (fun h => raw ?_) (fun h => raw ?_) <;> try simp only [Ty] at h) | (refine (localsE2 _ (by omega) _).mono ?_; rintro _ _ ⟨⟨b, rfl, hb⟩, rfl⟩; refine raw ?_)))
  · exact FP.same (k1.trans k2) (RE.mk ⟨fun e => ⟨hcl.out, .inl ⟨by omega, by omega, by omega, hb.1 e⟩⟩, fun hh => by
      rcases hh.2 with q | q
      · exact hb.2 q.2.2.2
      · omega⟩) (.bool _)
  · exact FP.same (k1.trans k2) (RE.f fun hh => by rcases hh.2 with q | q <;> omega) (.bool _)
  · exact FP.same (k1.trans k2) (RE.f fun hh => by rcases hh.2 with q | q <;> omega) (.bool _)
  · exact FP.same (k1.trans k2) (RE.t ⟨hcl.out, .inr (by omega)⟩) (.bool _)
  · refine FP.same (k1.trans k2) (RE.mk ?_) (.bool _)
    rw [decide_eq_true_iff]
    exact ⟨fun e => ⟨hcl.out, .inr (by omega)⟩, fun hh => by rcases hh.2 with q | q <;> omega⟩
  all_goals exact FP.same (k1.trans k2) (RE.f fun hh => by rcases hh.2 with q | q <;> omega) (.bool _)
end Go.Proofs.Ytjjbjibbjbbeaaa
