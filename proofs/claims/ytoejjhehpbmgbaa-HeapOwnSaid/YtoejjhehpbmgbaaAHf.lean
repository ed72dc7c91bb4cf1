/- The heap's fixed calls, and HeapFills: as many nodes as there are cells. -/
import Derived.Test.YtoejjhehpbmgbaaAHs
set_option linter.unusedVariables false
set_option linter.unusedSimpArgs false
namespace Go.AL
theorem leNode (t n : Int) : Le (.agg [.int .i64 t, .int .i64 n, .nils]) (.agg (Nd.cells ⟨t, n, []⟩)) := Le.aggL (.cons (.refl _) (.cons (.refl _) (.cons Le.nil .nil)))
theorem leArgs (p : AV) (t n : Int) : LeL [p, .agg [.int .i64 t, .int .i64 n, .nils]] [p, .agg (Nd.cells ⟨t, n, []⟩)] := .cons (.refl _) (.cons (leNode t n) .nil)
def K0 : Hp := Hp.mk0 2
def K1 : Hp := ⟨2, [(some ⟨1, 0, []⟩, false)], [], 1, 1⟩
def K2 : Hp := ⟨2, [(some ⟨1, 0, []⟩, false), (some ⟨2, 0, []⟩, false)], [], 2, 2⟩
def KC : List Cl := [(some ⟨1, 0, []⟩, false), (some ⟨2, 0, []⟩, true)]
def K3 : Hp := ⟨2, [(none, false), (some ⟨2, 0, []⟩, false)], [0], 1, 2⟩
def K4 : Hp := ⟨2, [(some ⟨3, 0, []⟩, false), (some ⟨2, 0, []⟩, false)], [], 2, 3⟩
theorem K01 : K0.alloc ⟨1, 0, []⟩ = (K1, 0, 0) := rfl
theorem K12 : K1.alloc ⟨2, 0, []⟩ = (K2, 1, 0) := rfl
theorem K22 : K2.alloc ⟨0, 0, []⟩ = (K2, 0, 160) := rfl
theorem K23 : K2.sweep KC = K3 := rfl
theorem K34 : K3.alloc ⟨3, 0, []⟩ = (K4, 0, 0) := rfl
theorem K0g : K0.Good := Hp.mk0_good (by decide)
theorem K1g : K1.Good := by have := K0g.alloc ⟨1, 0, []⟩; rw [K01] at this; exact this
theorem K2g : K2.Good := by have := K1g.alloc ⟨2, 0, []⟩; rw [K12] at this; exact this
theorem K_mark {C : List Cl} (hM : MI K2.cells [1] C []) : C = KC := by
  have hr : ∀ a, Reach K2.cells [1] a → a = 1 := by
    intro a h
    induction h with
    | root h => simpa using h
    | step h hx hb ih =>
      subst ih
      simp [nodeAt, K2] at hx
      subst hx; simp at hb
  have h0 : mrk C 0 = false := by
    cases h : mrk C 0 with
    | false => rfl
    | true => have := hr 0 ((hM.done (by decide)).mp h); simp at this
  have h1 : mrk C 1 = true := (hM.done (by decide)).mpr (.root (by simp))
  have hs := hM.same
  match C, hs, h0, h1 with
  | [(n0, m0), (n1, m1)], hs, h0, h1 =>
    simp [K2] at hs
    simp [mrk] at h0 h1
    obtain ⟨rfl, rfl⟩ := hs
    subst h0; subst h1
    rfl
  | [], hs, _, _ => simp [K2] at hs
  | [_], hs, _, _ => simp [K2] at hs
  | _ :: _ :: _ :: _, hs, _, _ => simp [K2] at hs
end Go.AL
namespace Go.Proofs.Ytoejjhehpbmgbaa
open Go.AL
theorem alloc_nil_ok {id : Nat} {σ : Store} {cs fs : AV} {H : Hp} (hH : HeapAt σ id cs fs H) (hG : H.Good) (t n : Int) :
    ACalls Try.prog 14 [.ptr id 0 0 0, .agg [.int .i64 t, .int .i64 n, .nils]] σ fun r σ' => r = .tuple [.int .i64 (H.alloc ⟨t, n, []⟩).2.1, .int .i64 (H.alloc ⟨t, n, []⟩).2.2] ∧ HeapTo σ id (foot id cs fs) (H.alloc ⟨t, n, []⟩).1 σ' :=
  ACalls_args (leArgs _ _ _) (alloc_ok hH hG ⟨t, n, []⟩ (by simp))
theorem known_ok (σ : Store) : ACalls Try.prog 12 [] σ fun r σ' => r = .bool true ∧ σ' = σ := by
  refine ACalls_pure (K := fun r => r = .bool true) ?_
  refine in12 (by simp) ?_
  unfold c12
  try simp only [S, argList, aPut, aFill, ↓reduceIte, Nat.reduceEqDiff, Nat.reduceAdd, Nat.reduceLeDiff, reduceCtorEq]
  repeat ((with_reducible first | refine AWP_seq ?_ | refine AWP_block ?_ | refine AWP_scope ?_ | refine AWP_reg ?_ | refine AWP_draw ?_ | refine AWP_skip ?_ | refine AWP_ret ?_ | refine AWP_exit ?_ | (refine AWP_cond_true ?_ ?_; · simp only [S, argList, aPut, aFill, ↓reduceIte, Nat.reduceEqDiff, Nat.reduceAdd, Nat.reduceLeDiff, reduceCtorEq]) | (refine AWP_cond_false ?_ ?_; · simp only [S, argList, aPut, aFill, ↓reduceIte, Nat.reduceEqDiff, Nat.reduceAdd, Nat.reduceLeDiff, reduceCtorEq])); try simp only [S, argList, aPut, aFill, ↓reduceIte, Nat.reduceEqDiff, Nat.reduceAdd, Nat.reduceLeDiff, reduceCtorEq])
  refine (new_ok σ 2 (by decide)).mono ?_
  rintro r s0 ⟨rfl, cs0, fs0, hH0, hF0⟩
  try simp only [S, argList, aPut, aFill, ↓reduceIte, Nat.reduceEqDiff, Nat.reduceAdd, Nat.reduceLeDiff, reduceCtorEq]
  repeat ((with_reducible first | refine AWP_seq ?_ | refine AWP_block ?_ | refine AWP_scope ?_ | refine AWP_reg ?_ | refine AWP_draw ?_ | refine AWP_skip ?_ | refine AWP_ret ?_ | refine AWP_exit ?_ | (refine AWP_cond_true ?_ ?_; · simp only [S, argList, aPut, aFill, ↓reduceIte, Nat.reduceEqDiff, Nat.reduceAdd, Nat.reduceLeDiff, reduceCtorEq]) | (refine AWP_cond_false ?_ ?_; · simp only [S, argList, aPut, aFill, ↓reduceIte, Nat.reduceEqDiff, Nat.reduceAdd, Nat.reduceLeDiff, reduceCtorEq])); try simp only [S, argList, aPut, aFill, ↓reduceIte, Nat.reduceEqDiff, Nat.reduceAdd, Nat.reduceLeDiff, reduceCtorEq])
  refine (alloc_nil_ok hH0 K0g _ _).mono ?_
  rintro r s1 ⟨rfl, cs1, fs1, hH1, hF1⟩
  simp only [show Hp.mk 2 [] [] 0 0 = K0 from rfl, K01] at hH1 hF1 ⊢
  try simp only [S, argList, aPut, aFill, ↓reduceIte, Nat.reduceEqDiff, Nat.reduceAdd, Nat.reduceLeDiff, reduceCtorEq]
  repeat ((with_reducible first | refine AWP_seq ?_ | refine AWP_block ?_ | refine AWP_scope ?_ | refine AWP_reg ?_ | refine AWP_draw ?_ | refine AWP_skip ?_ | refine AWP_ret ?_ | refine AWP_exit ?_ | (refine AWP_cond_true ?_ ?_; · simp only [S, argList, aPut, aFill, ↓reduceIte, Nat.reduceEqDiff, Nat.reduceAdd, Nat.reduceLeDiff, reduceCtorEq]) | (refine AWP_cond_false ?_ ?_; · simp only [S, argList, aPut, aFill, ↓reduceIte, Nat.reduceEqDiff, Nat.reduceAdd, Nat.reduceLeDiff, reduceCtorEq])); try simp only [S, argList, aPut, aFill, ↓reduceIte, Nat.reduceEqDiff, Nat.reduceAdd, Nat.reduceLeDiff, reduceCtorEq])
  refine (alloc_nil_ok hH1 K1g _ _).mono ?_
  rintro r s2 ⟨rfl, cs2, fs2, hH2, hF2⟩
  simp only [K12] at hH2 hF2 ⊢
  try simp only [S, argList, aPut, aFill, ↓reduceIte, Nat.reduceEqDiff, Nat.reduceAdd, Nat.reduceLeDiff, reduceCtorEq]
  repeat ((with_reducible first | refine AWP_seq ?_ | refine AWP_block ?_ | refine AWP_scope ?_ | refine AWP_reg ?_ | refine AWP_draw ?_ | refine AWP_skip ?_ | refine AWP_ret ?_ | refine AWP_exit ?_ | (refine AWP_cond_true ?_ ?_; · simp only [S, argList, aPut, aFill, ↓reduceIte, Nat.reduceEqDiff, Nat.reduceAdd, Nat.reduceLeDiff, reduceCtorEq]) | (refine AWP_cond_false ?_ ?_; · simp only [S, argList, aPut, aFill, ↓reduceIte, Nat.reduceEqDiff, Nat.reduceAdd, Nat.reduceLeDiff, reduceCtorEq])); try simp only [S, argList, aPut, aFill, ↓reduceIte, Nat.reduceEqDiff, Nat.reduceAdd, Nat.reduceLeDiff, reduceCtorEq])
  refine (alloc_nil_ok hH2 K2g _ _).mono ?_
  rintro r s3 ⟨rfl, cs3, fs3, hH3, hF3⟩
  simp only [K22] at hH3 hF3 ⊢
  try simp only [S, argList, aPut, aFill, ↓reduceIte, Nat.reduceEqDiff, Nat.reduceAdd, Nat.reduceLeDiff, reduceCtorEq]
  repeat ((with_reducible first | refine AWP_seq ?_ | refine AWP_block ?_ | refine AWP_scope ?_ | refine AWP_reg ?_ | refine AWP_draw ?_ | refine AWP_skip ?_ | refine AWP_ret ?_ | refine AWP_exit ?_ | (refine AWP_cond_true ?_ ?_; · simp only [S, argList, aPut, aFill, ↓reduceIte, Nat.reduceEqDiff, Nat.reduceAdd, Nat.reduceLeDiff, reduceCtorEq]) | (refine AWP_cond_false ?_ ?_; · simp only [S, argList, aPut, aFill, ↓reduceIte, Nat.reduceEqDiff, Nat.reduceAdd, Nat.reduceLeDiff, reduceCtorEq])); try simp only [S, argList, aPut, aFill, ↓reduceIte, Nat.reduceEqDiff, Nat.reduceAdd, Nat.reduceLeDiff, reduceCtorEq])
  refine (collect_ok hH3 K2g [1] (by decide)).mono ?_
  intro r s4 h
  simp only [show K2.all [1] = true from rfl, if_true] at h
  obtain ⟨C, hM, rfl, cs4, fs4, hH4, hF4⟩ := h
  have hC := K_mark hM
  subst hC
  simp only [K23] at hH4 hF4 ⊢
  have K3g : K3.Good := by have := K2g.sweep hM; rw [K23] at this; exact this
  try simp only [S, argList, aPut, aFill, ↓reduceIte, Nat.reduceEqDiff, Nat.reduceAdd, Nat.reduceLeDiff, reduceCtorEq]
  repeat ((with_reducible first | refine AWP_seq ?_ | refine AWP_block ?_ | refine AWP_scope ?_ | refine AWP_reg ?_ | refine AWP_draw ?_ | refine AWP_skip ?_ | refine AWP_ret ?_ | refine AWP_exit ?_ | (refine AWP_cond_true ?_ ?_; · simp only [S, argList, aPut, aFill, ↓reduceIte, Nat.reduceEqDiff, Nat.reduceAdd, Nat.reduceLeDiff, reduceCtorEq]) | (refine AWP_cond_false ?_ ?_; · simp only [S, argList, aPut, aFill, ↓reduceIte, Nat.reduceEqDiff, Nat.reduceAdd, Nat.reduceLeDiff, reduceCtorEq])); try simp only [S, argList, aPut, aFill, ↓reduceIte, Nat.reduceEqDiff, Nat.reduceAdd, Nat.reduceLeDiff, reduceCtorEq])
  refine (alloc_nil_ok hH4 K3g _ _).mono ?_
  rintro r s5 ⟨rfl, cs5, fs5, hH5, hF5⟩
  simp only [K34] at hH5 hF5 ⊢
  have hkc : ((sweepN KC : Nat) : Int) = 1 := rfl
  try simp only [S, argList, aPut, aFill, ↓reduceIte, Nat.reduceEqDiff, Nat.reduceAdd, Nat.reduceLeDiff, reduceCtorEq, hkc]
  repeat ((with_reducible first | refine AWP_seq ?_ | refine AWP_block ?_ | refine AWP_scope ?_ | refine AWP_reg ?_ | refine AWP_draw ?_ | refine AWP_skip ?_ | refine AWP_ret ?_ | refine AWP_exit ?_ | (refine AWP_cond_true ?_ ?_; · simp only [S, argList, aPut, aFill, ↓reduceIte, Nat.reduceEqDiff, Nat.reduceAdd, Nat.reduceLeDiff, reduceCtorEq, hkc]) | (refine AWP_cond_false ?_ ?_; · simp only [S, argList, aPut, aFill, ↓reduceIte, Nat.reduceEqDiff, Nat.reduceAdd, Nat.reduceLeDiff, reduceCtorEq, hkc])); try simp only [S, argList, aPut, aFill, ↓reduceIte, Nat.reduceEqDiff, Nat.reduceAdd, Nat.reduceLeDiff, reduceCtorEq, hkc])
  refine (live_ok hH5 (by decide)).mono ?_
  rintro r s ⟨rfl, rfl⟩
  simp only [S, argList, aPut, aFill, ↓reduceIte, Nat.reduceEqDiff, Nat.reduceAdd, Nat.reduceLeDiff, reduceCtorEq]
  try simp only [S, argList, aPut, aFill, ↓reduceIte, Nat.reduceEqDiff, Nat.reduceAdd, Nat.reduceLeDiff, reduceCtorEq, show K4.live = 2 from rfl]
  repeat ((with_reducible first | refine AWP_seq ?_ | refine AWP_block ?_ | refine AWP_scope ?_ | refine AWP_reg ?_ | refine AWP_draw ?_ | refine AWP_skip ?_ | refine AWP_ret ?_ | refine AWP_exit ?_ | (refine AWP_cond_true ?_ ?_; · simp only [S, argList, aPut, aFill, ↓reduceIte, Nat.reduceEqDiff, Nat.reduceAdd, Nat.reduceLeDiff, reduceCtorEq, show K4.live = 2 from rfl]) | (refine AWP_cond_false ?_ ?_; · simp only [S, argList, aPut, aFill, ↓reduceIte, Nat.reduceEqDiff, Nat.reduceAdd, Nat.reduceLeDiff, reduceCtorEq, show K4.live = 2 from rfl])); try simp only [S, argList, aPut, aFill, ↓reduceIte, Nat.reduceEqDiff, Nat.reduceAdd, Nat.reduceLeDiff, reduceCtorEq, show K4.live = 2 from rfl])
  refine (cap_ok hH5 (by decide)).mono ?_
  rintro r s ⟨rfl, rfl⟩
  simp only [S, argList, aPut, aFill, ↓reduceIte, Nat.reduceEqDiff, Nat.reduceAdd, Nat.reduceLeDiff, reduceCtorEq]
  try simp only [S, argList, aPut, aFill, ↓reduceIte, Nat.reduceEqDiff, Nat.reduceAdd, Nat.reduceLeDiff, reduceCtorEq, show K4.cap = 2 from rfl]
  repeat ((with_reducible first | refine AWP_seq ?_ | refine AWP_block ?_ | refine AWP_scope ?_ | refine AWP_reg ?_ | refine AWP_draw ?_ | refine AWP_skip ?_ | refine AWP_ret ?_ | refine AWP_exit ?_ | (refine AWP_cond_true ?_ ?_; · simp only [S, argList, aPut, aFill, ↓reduceIte, Nat.reduceEqDiff, Nat.reduceAdd, Nat.reduceLeDiff, reduceCtorEq, show K4.cap = 2 from rfl]) | (refine AWP_cond_false ?_ ?_; · simp only [S, argList, aPut, aFill, ↓reduceIte, Nat.reduceEqDiff, Nat.reduceAdd, Nat.reduceLeDiff, reduceCtorEq, show K4.cap = 2 from rfl])); try simp only [S, argList, aPut, aFill, ↓reduceIte, Nat.reduceEqDiff, Nat.reduceAdd, Nat.reduceLeDiff, reduceCtorEq, show K4.cap = 2 from rfl])
  refine (allocs_ok hH5 (by decide)).mono ?_
  rintro r s ⟨rfl, rfl⟩
  simp only [S, argList, aPut, aFill, ↓reduceIte, Nat.reduceEqDiff, Nat.reduceAdd, Nat.reduceLeDiff, reduceCtorEq]
  try simp only [S, argList, aPut, aFill, ↓reduceIte, Nat.reduceEqDiff, Nat.reduceAdd, Nat.reduceLeDiff, reduceCtorEq, show K4.allocs = 3 from rfl]
  repeat ((with_reducible first | refine AWP_seq ?_ | refine AWP_block ?_ | refine AWP_scope ?_ | refine AWP_reg ?_ | refine AWP_draw ?_ | refine AWP_skip ?_ | refine AWP_ret ?_ | refine AWP_exit ?_ | (refine AWP_cond_true ?_ ?_; · simp only [S, argList, aPut, aFill, ↓reduceIte, Nat.reduceEqDiff, Nat.reduceAdd, Nat.reduceLeDiff, reduceCtorEq, show K4.allocs = 3 from rfl]) | (refine AWP_cond_false ?_ ?_; · simp only [S, argList, aPut, aFill, ↓reduceIte, Nat.reduceEqDiff, Nat.reduceAdd, Nat.reduceLeDiff, reduceCtorEq, show K4.allocs = 3 from rfl])); try simp only [S, argList, aPut, aFill, ↓reduceIte, Nat.reduceEqDiff, Nat.reduceAdd, Nat.reduceLeDiff, reduceCtorEq, show K4.allocs = 3 from rfl])
  have hF := ((((hF0.trans hF1).trans hF2).trans hF3).trans hF4).trans hF5
  exact ⟨.bool _, hF.next, fun i hi => hF.keep i hi (by simp)⟩

/-- The arena of HeapFills while it is filled. -/
structure Fill (H : Hp) (cap : Int) (i : Nat) : Prop where
  good : H.Good
  cap : H.cap = cap
  live : H.live = i
  at' : ∀ b, H.at b = if 0 ≤ b ∧ b < i then some ⟨2, b, []⟩ else none
/-- The arena of HeapFills while it is filled again. -/
structure Refill (H : Hp) (cap keep : Int) (i : Nat) : Prop where
  good : H.Good
  cap : H.cap = cap
  live : H.live = i + 1
  has : ∀ b, H.has b = true ↔ b = keep ∨ (0 ≤ b ∧ (b < i ∨ (keep ≤ i ∧ b ≤ i)))
  kept : H.at keep = some ⟨2, keep, []⟩

theorem Fill.next {H : Hp} {cap : Int} {i : Nat} (h : Fill H cap i) (hi : (i : Int) < cap) : (H.alloc ⟨2, i, []⟩).2 = ((i : Int), 0) ∧ Fill (H.alloc ⟨2, i, []⟩).1 cap (i + 1) := by
  obtain ⟨a, h1, h2, h3, h4, h5, h6, h7, h8⟩ := alloc_spec h.good ⟨2, i, []⟩ rfl (by rw [h.live, h.cap]; exact hi)
  have hh : ∀ b, H.has b = decide (0 ≤ b ∧ b < i) := fun b => by
    unfold Hp.has; rw [h.at' b]
    by_cases hb : 0 ≤ b ∧ b < (i : Int) <;> simp [hb]
  have ha : a = i := least_unique h2 (by omega) h3 (by rw [hh]; simp) h4 (fun c hc hci => by rw [hh]; simp; omega)
  subst ha
  refine ⟨h1, h.good.alloc _, by rw [h7, h.cap], by rw [h6, h.live]; rfl, fun b => ?_⟩
  rw [h5, h.at' b]
  by_cases hb : b = i
  · subst hb; rw [if_pos rfl, if_pos (by omega)]
  · rw [if_neg hb]
    by_cases hb2 : 0 ≤ b ∧ b < (i : Int)
    · rw [if_pos hb2, if_pos (by omega)]
    · rw [if_neg hb2, if_neg (by omega)]
theorem Refill.next {H : Hp} {cap keep : Int} {i : Nat} (h : Refill H cap keep i) (hi : (i : Int) < cap - 1) (hk : 0 ≤ keep ∧ keep < cap) :
    (H.alloc ⟨5, 0, [keep]⟩).2 = ((if keep ≤ (i : Int) then (i : Int) + 1 else (i : Int)), 0) ∧ Refill (H.alloc ⟨5, 0, [keep]⟩).1 cap keep (i + 1) := by
  have hkh : H.has keep = true := (h.has keep).mpr (.inl rfl)
  obtain ⟨a, h1, h2, h3, h4, h5, h6, h7, h8⟩ := alloc_spec h.good ⟨5, 0, [keep]⟩ (by simp [Hp.all, hkh]) (by rw [h.live, h.cap]; omega)
  have hn : ∀ b, H.has b = false ↔ ¬ (b = keep ∨ (0 ≤ b ∧ (b < i ∨ (keep ≤ i ∧ b ≤ i)))) := fun b => by
    rw [← h.has b]; simp
  have ha : a = if keep ≤ (i : Int) then (i : Int) + 1 else (i : Int) := by
    refine least_unique h2 ?_ h3 ?_ h4 ?_
    · split <;> omega
    · rw [hn]; split <;> omega
    · intro c hc hci
      rw [h.has]
      split at hci <;> omega
  have hak : keep ≠ a := by rintro rfl; rw [hkh] at h3; cases h3
  refine ⟨by rw [h1, ha], h.good.alloc _, by rw [h7, h.cap], by rw [h6, h.live]; rfl, fun b => ?_, by rw [h5, if_neg hak]; exact h.kept⟩
  have e : (H.alloc ⟨5, 0, [keep]⟩).1.has b = (decide (b = a) || H.has b) := by
    unfold Hp.has; rw [h5]
    by_cases hb : b = a <;> simp [hb]
  rw [e]
  simp only [Bool.or_eq_true, decide_eq_true_eq, h.has]
  rw [ha]
  split <;> constructor <;> intro hx <;> omega
end Go.Proofs.Ytoejjhehpbmgbaa
