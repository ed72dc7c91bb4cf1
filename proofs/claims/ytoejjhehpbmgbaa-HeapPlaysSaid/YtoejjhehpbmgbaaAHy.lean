/- The document's heap: has and Reached. -/
import Derived.Test.YtoejjhehpbmgbaaAHx
set_option linter.unusedVariables false
set_option linter.unusedSimpArgs false
namespace Go.AL
/-- What a search from some roots keeps. -/
structure RJ (C : List Cl) (roots o : List Int) (i : Nat) : Prop where
  nodup : o.Nodup
  sound : ∀ a, a ∈ o → Reach C roots a
  root : ∀ a, a ∈ roots → a ∈ o
  clos : ∀ a, a ∈ o.take i → ∀ x, nodeAt C a = some x → ∀ b, b ∈ x.l → b ∈ o
theorem RJ.done {C : List Cl} {roots o : List Int} {i : Nat} (h : RJ C roots o i) (hi : o.length ≤ i) (a : Int) : a ∈ o ↔ Reach C roots a := by
  refine ⟨h.sound a, fun hr => ?_⟩
  induction hr with
  | root hr => exact h.root _ hr
  | step hr hx hb ih => exact h.clos _ (by rw [List.take_of_length_le hi]; exact ih) _ hx _ hb
structure RJM (C : List Cl) (roots o : List Int) (i : Nat) (a : Int) (x : Nd) (k : Nat) : Prop where
  base : RJ C roots o i
  here : o[i]? = some a
  got : ∀ b, b ∈ x.l.take k → b ∈ o
theorem RJM.next {C : List Cl} {roots o : List Int} {i : Nat} {a : Int} {x : Nd} {k : Nat} (h : RJM C roots o i a x k) (hx : nodeAt C a = some x) (hk : x.l.length ≤ k) : RJ C roots o (i + 1) := by
  refine ⟨h.base.nodup, h.base.sound, h.base.root, fun c hc y hy b hb => ?_⟩
  rw [List.take_add_one, h.here] at hc
  simp at hc
  rcases hc with hc | rfl
  · exact h.base.clos c hc y hy b hb
  · rw [hx] at hy; cases hy
    exact h.got b (by rw [List.take_of_length_le hk]; exact hb)
theorem RJM.skip {C : List Cl} {roots o : List Int} {i : Nat} {a : Int} {x : Nd} {k : Nat} (h : RJM C roots o i a x k) {b : Int} (hb : x.l[k]? = some b) (hm : b ∈ o) : RJM C roots o i a x (k + 1) := by
  refine ⟨h.base, h.here, fun c hc => ?_⟩
  rw [List.take_add_one, hb] at hc
  simp at hc
  rcases hc with hc | rfl
  · exact h.got c hc
  · exact hm
theorem RJM.add {C : List Cl} {roots o : List Int} {i : Nat} {a : Int} {x : Nd} {k : Nat} (h : RJM C roots o i a x k) (hx : nodeAt C a = some x) {b : Int} (hb : x.l[k]? = some b) (hm : ¬ b ∈ o) : RJM C roots (o ++ [b]) i a x (k + 1) := by
  have hil : i < o.length := (List.getElem?_eq_some_iff.mp h.here).1
  refine ⟨⟨?_, ?_, fun c hc => by simp [h.base.root c hc], ?_⟩, by rw [List.getElem?_append_left hil]; exact h.here, fun c hc => ?_⟩
  · rw [List.nodup_append]
    exact ⟨h.base.nodup, by simp, fun c hc d hd e => by simp at hd; subst hd; subst e; exact hm hc⟩
  · intro c hc
    simp at hc
    rcases hc with hc | rfl
    · exact h.base.sound c hc
    · exact .step (h.base.sound a (List.mem_of_getElem? h.here)) hx (List.mem_of_getElem? hb)
  · intro c hc y hy d hd
    rw [List.take_append_of_le_length (by omega)] at hc
    simp [h.base.clos c hc y hy d hd]
  · rw [List.take_add_one, hb] at hc
    simp at hc ⊢
    rcases hc with hc | rfl
    · exact .inl (h.got c hc)
    · exact .inr rfl
/-- A search: what was found, where it stands. -/
structure RS2 where
  o : List Int
  v : AV
  i : Nat
abbrev i1 (l : List Int) : List (List AV) := l.map fun z => [AV.int .i64 z]
end Go.AL
namespace Go.Proofs.Ytoejjhehpbmgbaa
open Go.AL
theorem rhas_ok (σ : Store) {v : AV} {l : List Int} (hv : Rds σ v 1 (l.map fun x => [.int .i64 x])) (hl : l.length ≤ 1000000000) (n : Int) : ACalls Try.prog 56 [v, .int .i64 n] σ fun r σ' => r = .bool (decide (n ∈ l)) ∧ σ' = σ := by
  refine in56 (by simp) ?_
  unfold c56
  try simp only [SS, argList, aPut, aFill, ↓reduceIte, Nat.reduceEqDiff, Nat.reduceAdd, Nat.reduceLeDiff, reduceCtorEq]
  repeat ((with_reducible first | refine AWP_seq ?_ | refine AWP_block ?_ | refine AWP_scope ?_ | refine AWP_reg ?_ | refine AWP_draw ?_ | refine AWP_skip ?_ | refine AWP_ret ?_ | refine AWP_exit ?_ | (refine AWP_cond_true ?_ ?_; · simp only [SS, argList, aPut, aFill, ↓reduceIte, Nat.reduceEqDiff, Nat.reduceAdd, Nat.reduceLeDiff, reduceCtorEq]) | (refine AWP_cond_false ?_ ?_; · simp only [SS, argList, aPut, aFill, ↓reduceIte, Nat.reduceEqDiff, Nat.reduceAdd, Nat.reduceLeDiff, reduceCtorEq])); try simp only [SS, argList, aPut, aFill, ↓reduceIte, Nat.reduceEqDiff, Nat.reduceAdd, Nat.reduceLeDiff, reduceCtorEq])
  refine AWP_while [0, 1, 5] (fun i : Nat => l.length - i) (fun i => [v, .int .i64 n, .int .i64 i])
    (fun i s => s = σ ∧ i ≤ l.length ∧ ¬ n ∈ l.take i) 0 ⟨rfl, by omega, by simp⟩ ?_ ?_
  · try simp only [SS, argList, aPut, aFill, ↓reduceIte, Nat.reduceEqDiff, Nat.reduceAdd, Nat.reduceLeDiff, reduceCtorEq]
    repeat ((with_reducible first | refine AWP_seq ?_ | refine AWP_block ?_ | refine AWP_scope ?_ | refine AWP_reg ?_ | refine AWP_draw ?_ | refine AWP_skip ?_ | refine AWP_ret ?_ | refine AWP_exit ?_ | (refine AWP_cond_true ?_ ?_; · simp only [SS, argList, aPut, aFill, ↓reduceIte, Nat.reduceEqDiff, Nat.reduceAdd, Nat.reduceLeDiff, reduceCtorEq]) | (refine AWP_cond_false ?_ ?_; · simp only [SS, argList, aPut, aFill, ↓reduceIte, Nat.reduceEqDiff, Nat.reduceAdd, Nat.reduceLeDiff, reduceCtorEq])); try simp only [SS, argList, aPut, aFill, ↓reduceIte, Nat.reduceEqDiff, Nat.reduceAdd, Nat.reduceLeDiff, reduceCtorEq])
    rfl
  · rintro i s ⟨rfl, hi, hall⟩
    have hlen := hv.len
    simp only [List.length_map] at hlen
    by_cases hil : i < l.length
    · have hil' : (i : Int) < (l.length : Int) := by omega
      obtain ⟨x, hx⟩ : ∃ x, l[i]? = some x := ⟨_, List.getElem?_eq_getElem hil⟩
      obtain ⟨p, hp, hep⟩ := hv.iad i [.int .i64 x] (by simp [hx])
      have hld := hep.load none
      by_cases hxn : x = n
      · subst hxn
        have hm : x ∈ l := List.mem_of_getElem? hx
        try simp only [SS, argList, aPut, aFill, ↓reduceIte, Nat.reduceEqDiff, Nat.reduceAdd, Nat.reduceLeDiff, reduceCtorEq, hlen, hil', hp, hld]
        repeat ((with_reducible first | refine AWP_seq ?_ | refine AWP_block ?_ | refine AWP_scope ?_ | refine AWP_reg ?_ | refine AWP_draw ?_ | refine AWP_skip ?_ | refine AWP_ret ?_ | refine AWP_exit ?_ | (refine AWP_cond_true ?_ ?_; · simp only [SS, argList, aPut, aFill, ↓reduceIte, Nat.reduceEqDiff, Nat.reduceAdd, Nat.reduceLeDiff, reduceCtorEq, hlen, hil', hp, hld]) | (refine AWP_cond_false ?_ ?_; · simp only [SS, argList, aPut, aFill, ↓reduceIte, Nat.reduceEqDiff, Nat.reduceAdd, Nat.reduceLeDiff, reduceCtorEq, hlen, hil', hp, hld])); try simp only [SS, argList, aPut, aFill, ↓reduceIte, Nat.reduceEqDiff, Nat.reduceAdd, Nat.reduceLeDiff, reduceCtorEq, hlen, hil', hp, hld])
        simp [hm]
      · try simp only [SS, argList, aPut, aFill, ↓reduceIte, Nat.reduceEqDiff, Nat.reduceAdd, Nat.reduceLeDiff, reduceCtorEq, hlen, hil', hp, hld, hxn, wrap_succ (i := i) (by omega)]
        repeat ((with_reducible first | refine AWP_seq ?_ | refine AWP_block ?_ | refine AWP_scope ?_ | refine AWP_reg ?_ | refine AWP_draw ?_ | refine AWP_skip ?_ | refine AWP_ret ?_ | refine AWP_exit ?_ | (refine AWP_cond_true ?_ ?_; · simp only [SS, argList, aPut, aFill, ↓reduceIte, Nat.reduceEqDiff, Nat.reduceAdd, Nat.reduceLeDiff, reduceCtorEq, hlen, hil', hp, hld, hxn, wrap_succ (i := i) (by omega)]) | (refine AWP_cond_false ?_ ?_; · simp only [SS, argList, aPut, aFill, ↓reduceIte, Nat.reduceEqDiff, Nat.reduceAdd, Nat.reduceLeDiff, reduceCtorEq, hlen, hil', hp, hld, hxn, wrap_succ (i := i) (by omega)])); try simp only [SS, argList, aPut, aFill, ↓reduceIte, Nat.reduceEqDiff, Nat.reduceAdd, Nat.reduceLeDiff, reduceCtorEq, hlen, hil', hp, hld, hxn, wrap_succ (i := i) (by omega)])
        refine ⟨i + 1, rfl, ⟨by omega, fun hm => ?_⟩, by omega⟩
        rw [List.take_add_one, hx] at hm
        simp at hm
        rcases hm with hm | rfl
        · exact hall hm
        · exact hxn rfl
    · have hil' : ¬ (i : Int) < (l.length : Int) := by omega
      try simp only [SS, argList, aPut, aFill, ↓reduceIte, Nat.reduceEqDiff, Nat.reduceAdd, Nat.reduceLeDiff, reduceCtorEq, hlen, hil']
      repeat ((with_reducible first | refine AWP_seq ?_ | refine AWP_block ?_ | refine AWP_scope ?_ | refine AWP_reg ?_ | refine AWP_draw ?_ | refine AWP_skip ?_ | refine AWP_ret ?_ | refine AWP_exit ?_ | (refine AWP_cond_true ?_ ?_; · simp only [SS, argList, aPut, aFill, ↓reduceIte, Nat.reduceEqDiff, Nat.reduceAdd, Nat.reduceLeDiff, reduceCtorEq, hlen, hil']) | (refine AWP_cond_false ?_ ?_; · simp only [SS, argList, aPut, aFill, ↓reduceIte, Nat.reduceEqDiff, Nat.reduceAdd, Nat.reduceLeDiff, reduceCtorEq, hlen, hil'])); try simp only [SS, argList, aPut, aFill, ↓reduceIte, Nat.reduceEqDiff, Nat.reduceAdd, Nat.reduceLeDiff, reduceCtorEq, hlen, hil'])
      rw [List.take_of_length_le (by omega)] at hall
      simp [hall]
theorem rreached_ok (σ : Store) (h : RH) (hl : h.l.length ≤ 1000) (C : List Cl) (hat : ∀ a, h.at a = nodeAt C a) (hcl : ∀ a x, nodeAt C a = some x → ∀ b, b ∈ x.l → (nodeAt C b).isSome = true) (hsz : ∀ a x, nodeAt C a = some x → x.l.length ≤ 1000) (roots : List Int)
    (hrl : roots.length ≤ 1000) (hr : ∀ a, a ∈ roots → (nodeAt C a).isSome = true) :
    ACalls Try.prog 55 [h.av, ints roots] σ fun r σ' => (∃ o : List Int, r = ints o ∧ o.Nodup ∧ o.length ≤ h.l.length ∧ ∀ a, a ∈ o ↔ AL.Reach C roots a) ∧ σ' = σ := by
  refine ACalls_pure (K := fun r => ∃ o : List Int, r = ints o ∧ o.Nodup ∧ o.length ≤ h.l.length ∧ ∀ a, a ∈ o ↔ AL.Reach C roots a) ?_
  have hin : ∀ a, AL.Reach C roots a → (nodeAt C a).isSome = true := by
    intro a ha
    cases ha with
    | root h => exact hr a h
    | step h1 h2 h3 => exact hcl _ _ h2 a h3
  have hlen : ∀ o : List Int, o.Nodup → (∀ a, a ∈ o → AL.Reach C roots a) → o.length ≤ h.l.length := by
    intro o hn hs
    have := nodup_len o (h.l.map (·.1)) hn fun a ha => by
      have := hin a (hs a ha)
      rw [← hat, ← idx_at] at this
      cases hi : h.idx a with
      | none => rw [hi] at this; cases this
      | some i =>
        obtain ⟨x, hx, _⟩ := idx_some hi
        exact List.mem_map.2 ⟨_, List.mem_of_getElem? hx, rfl⟩
    simpa using this
  refine in55 (by simp) ?_
  unfold c55
  try simp only [SS, argList, aPut, aFill, ↓reduceIte, Nat.reduceEqDiff, Nat.reduceAdd, Nat.reduceLeDiff, reduceCtorEq, RH.av, RH.cs]
  repeat ((with_reducible first | refine AWP_seq ?_ | refine AWP_block ?_ | refine AWP_scope ?_ | refine AWP_reg ?_ | refine AWP_draw ?_ | refine AWP_skip ?_ | refine AWP_ret ?_ | refine AWP_exit ?_ | (refine AWP_cond_true ?_ ?_; · simp only [SS, argList, aPut, aFill, ↓reduceIte, Nat.reduceEqDiff, Nat.reduceAdd, Nat.reduceLeDiff, reduceCtorEq, RH.av, RH.cs]) | (refine AWP_cond_false ?_ ?_; · simp only [SS, argList, aPut, aFill, ↓reduceIte, Nat.reduceEqDiff, Nat.reduceAdd, Nat.reduceLeDiff, reduceCtorEq, RH.av, RH.cs])); try simp only [SS, argList, aPut, aFill, ↓reduceIte, Nat.reduceEqDiff, Nat.reduceAdd, Nat.reduceLeDiff, reduceCtorEq, RH.av, RH.cs])
  refine AWP_while [1, 2, 5, 6] (fun y : RS2 => roots.length - y.i) (fun y => [ints roots, .ptr σ.next 0 0 0, y.v, .int .i64 y.i])
    (fun y s => y.i ≤ roots.length ∧ Grow (σ.push (.cells 43 0 3 [h.cs])) s y.v 3 1 (i1 y.o) ∧ y.o.Nodup ∧ (∀ a, a ∈ y.o → a ∈ roots) ∧ ∀ a, a ∈ roots.take y.i → a ∈ y.o)
    ⟨[], .nils, 0⟩ ⟨by simp, .start _ _ _, by simp, by simp, by simp⟩ ?_ ?_
  · try simp only [SS, argList, aPut, aFill, ↓reduceIte, Nat.reduceEqDiff, Nat.reduceAdd, Nat.reduceLeDiff, reduceCtorEq]
    repeat ((with_reducible first | refine AWP_seq ?_ | refine AWP_block ?_ | refine AWP_scope ?_ | refine AWP_reg ?_ | refine AWP_draw ?_ | refine AWP_skip ?_ | refine AWP_ret ?_ | refine AWP_exit ?_ | (refine AWP_cond_true ?_ ?_; · simp only [SS, argList, aPut, aFill, ↓reduceIte, Nat.reduceEqDiff, Nat.reduceAdd, Nat.reduceLeDiff, reduceCtorEq]) | (refine AWP_cond_false ?_ ?_; · simp only [SS, argList, aPut, aFill, ↓reduceIte, Nat.reduceEqDiff, Nat.reduceAdd, Nat.reduceLeDiff, reduceCtorEq])); try simp only [SS, argList, aPut, aFill, ↓reduceIte, Nat.reduceEqDiff, Nat.reduceAdd, Nat.reduceLeDiff, reduceCtorEq])
    rfl
  · rintro ⟨o, v, i⟩ s ⟨hi, hG, hn, hs, hc⟩
    simp only at hi hG hn hs hc
    obtain ⟨hb, hlt, hk0⟩ := hG.kp.box
    have hol := hlen o hn fun a ha => .root (hs a ha)
    by_cases hil : i < roots.length
    · have hil' : (i : Int) < (roots.length : Int) := by omega
      obtain ⟨x, hx⟩ : ∃ x, roots[i]? = some x := ⟨_, List.getElem?_eq_getElem hil⟩
      have hg : (roots.map fun y => [AV.int .i64 y])[i]? = some [.int .i64 x] := by simp [hx]
      try simp only [SS, argList, aPut, aFill, ↓reduceIte, Nat.reduceEqDiff, Nat.reduceAdd, Nat.reduceLeDiff, reduceCtorEq, ints, hil', hg]
      repeat ((with_reducible first | refine AWP_seq ?_ | refine AWP_block ?_ | refine AWP_scope ?_ | refine AWP_reg ?_ | refine AWP_draw ?_ | refine AWP_skip ?_ | refine AWP_ret ?_ | refine AWP_exit ?_ | (refine AWP_cond_true ?_ ?_; · simp only [SS, argList, aPut, aFill, ↓reduceIte, Nat.reduceEqDiff, Nat.reduceAdd, Nat.reduceLeDiff, reduceCtorEq, ints, hil', hg]) | (refine AWP_cond_false ?_ ?_; · simp only [SS, argList, aPut, aFill, ↓reduceIte, Nat.reduceEqDiff, Nat.reduceAdd, Nat.reduceLeDiff, reduceCtorEq, ints, hil', hg])); try simp only [SS, argList, aPut, aFill, ↓reduceIte, Nat.reduceEqDiff, Nat.reduceAdd, Nat.reduceLeDiff, reduceCtorEq, ints, hil', hg])
      refine (rhas_ok s (l := o) hG.sl.rds (by omega) x).mono ?_
      rintro r s ⟨rfl, rfl⟩
      by_cases hxo : x ∈ o
      · try simp only [SS, argList, aPut, aFill, ↓reduceIte, Nat.reduceEqDiff, Nat.reduceAdd, Nat.reduceLeDiff, reduceCtorEq, hxo, wrap_succ (i := i) (by omega)]
        repeat ((with_reducible first | refine AWP_seq ?_ | refine AWP_block ?_ | refine AWP_scope ?_ | refine AWP_reg ?_ | refine AWP_draw ?_ | refine AWP_skip ?_ | refine AWP_ret ?_ | refine AWP_exit ?_ | (refine AWP_cond_true ?_ ?_; · simp only [SS, argList, aPut, aFill, ↓reduceIte, Nat.reduceEqDiff, Nat.reduceAdd, Nat.reduceLeDiff, reduceCtorEq, hxo, wrap_succ (i := i) (by omega)]) | (refine AWP_cond_false ?_ ?_; · simp only [SS, argList, aPut, aFill, ↓reduceIte, Nat.reduceEqDiff, Nat.reduceAdd, Nat.reduceLeDiff, reduceCtorEq, hxo, wrap_succ (i := i) (by omega)])); try simp only [SS, argList, aPut, aFill, ↓reduceIte, Nat.reduceEqDiff, Nat.reduceAdd, Nat.reduceLeDiff, reduceCtorEq, hxo, wrap_succ (i := i) (by omega)])
        refine ⟨⟨o, v, i + 1⟩, rfl, ⟨by simp only; omega, hG, hn, hs, fun a ha => ?_⟩, by simp only; omega⟩
        simp only [List.take_add_one, hx] at ha
        simp at ha
        rcases ha with ha | rfl
        · exact hc a ha
        · exact hxo
      · try simp only [SS, argList, aPut, aFill, ↓reduceIte, Nat.reduceEqDiff, Nat.reduceAdd, Nat.reduceLeDiff, reduceCtorEq, hxo, ints, hg]
        repeat ((with_reducible first | refine AWP_seq ?_ | refine AWP_block ?_ | refine AWP_scope ?_ | refine AWP_reg ?_ | refine AWP_draw ?_ | refine AWP_skip ?_ | refine AWP_ret ?_ | refine AWP_exit ?_ | (refine AWP_cond_true ?_ ?_; · simp only [SS, argList, aPut, aFill, ↓reduceIte, Nat.reduceEqDiff, Nat.reduceAdd, Nat.reduceLeDiff, reduceCtorEq, hxo, ints, hg]) | (refine AWP_cond_false ?_ ?_; · simp only [SS, argList, aPut, aFill, ↓reduceIte, Nat.reduceEqDiff, Nat.reduceAdd, Nat.reduceLeDiff, reduceCtorEq, hxo, ints, hg])); try simp only [SS, argList, aPut, aFill, ↓reduceIte, Nat.reduceEqDiff, Nat.reduceAdd, Nat.reduceLeDiff, reduceCtorEq, hxo, ints, hg])
        refine ok_grow hG (by simp) (by simp; omega) (by simp [maxLen]; omega) ?_
        intro v' s' hG' _ _
        try simp only [SS, argList, aPut, aFill, ↓reduceIte, Nat.reduceEqDiff, Nat.reduceAdd, Nat.reduceLeDiff, reduceCtorEq, wrap_succ (i := i) (by omega)]
        repeat ((with_reducible first | refine AWP_seq ?_ | refine AWP_block ?_ | refine AWP_scope ?_ | refine AWP_reg ?_ | refine AWP_draw ?_ | refine AWP_skip ?_ | refine AWP_ret ?_ | refine AWP_exit ?_ | (refine AWP_cond_true ?_ ?_; · simp only [SS, argList, aPut, aFill, ↓reduceIte, Nat.reduceEqDiff, Nat.reduceAdd, Nat.reduceLeDiff, reduceCtorEq, wrap_succ (i := i) (by omega)]) | (refine AWP_cond_false ?_ ?_; · simp only [SS, argList, aPut, aFill, ↓reduceIte, Nat.reduceEqDiff, Nat.reduceAdd, Nat.reduceLeDiff, reduceCtorEq, wrap_succ (i := i) (by omega)])); try simp only [SS, argList, aPut, aFill, ↓reduceIte, Nat.reduceEqDiff, Nat.reduceAdd, Nat.reduceLeDiff, reduceCtorEq, wrap_succ (i := i) (by omega)])
        refine ⟨⟨o ++ [x], v', i + 1⟩, rfl, ⟨by simp only; omega, by simpa using hG', ?_, fun a ha => ?_, fun a ha => ?_⟩, by simp only; omega⟩
        · simp only [List.nodup_append]
          exact ⟨hn, by simp, fun c hc d hd e => by simp at hd; subst hd; subst e; exact hxo hc⟩
        · simp only [List.mem_append, List.mem_singleton] at ha
          rcases ha with ha | rfl
          · exact hs a ha
          · exact List.mem_of_getElem? hx
        · simp only [List.take_add_one, hx] at ha
          simp at ha ⊢
          rcases ha with ha | rfl
          · exact .inl (hc a ha)
          · exact .inr rfl
    · have hil' : ¬ (i : Int) < (roots.length : Int) := by omega
      rw [List.take_of_length_le (by omega)] at hc
      have hJ : RJ C roots o 0 := ⟨hn, fun a ha => .root (hs a ha), hc, by simp⟩
      try simp only [SS, argList, aPut, aFill, ↓reduceIte, Nat.reduceEqDiff, Nat.reduceAdd, Nat.reduceLeDiff, reduceCtorEq, ints, hil']
      repeat ((with_reducible first | refine AWP_seq ?_ | refine AWP_block ?_ | refine AWP_scope ?_ | refine AWP_reg ?_ | refine AWP_draw ?_ | refine AWP_skip ?_ | refine AWP_ret ?_ | refine AWP_exit ?_ | (refine AWP_cond_true ?_ ?_; · simp only [SS, argList, aPut, aFill, ↓reduceIte, Nat.reduceEqDiff, Nat.reduceAdd, Nat.reduceLeDiff, reduceCtorEq, ints, hil']) | (refine AWP_cond_false ?_ ?_; · simp only [SS, argList, aPut, aFill, ↓reduceIte, Nat.reduceEqDiff, Nat.reduceAdd, Nat.reduceLeDiff, reduceCtorEq, ints, hil'])); try simp only [SS, argList, aPut, aFill, ↓reduceIte, Nat.reduceEqDiff, Nat.reduceAdd, Nat.reduceLeDiff, reduceCtorEq, ints, hil'])
      clear hil' hi hol
      refine AWP_while [2, 5, 7] (fun y : RS2 => 1000 - y.i) (fun y => [.ptr σ.next 0 0 0, y.v, .int .i64 y.i])
        (fun y s => y.i ≤ y.o.length ∧ Grow (σ.push (.cells 43 0 3 [h.cs])) s y.v 3 1 (i1 y.o) ∧ RJ C roots y.o y.i)
        ⟨o, v, 0⟩ ⟨by simp, hG, hJ⟩ ?_ ?_
      · try simp only [SS, argList, aPut, aFill, ↓reduceIte, Nat.reduceEqDiff, Nat.reduceAdd, Nat.reduceLeDiff, reduceCtorEq]
        repeat ((with_reducible first | refine AWP_seq ?_ | refine AWP_block ?_ | refine AWP_scope ?_ | refine AWP_reg ?_ | refine AWP_draw ?_ | refine AWP_skip ?_ | refine AWP_ret ?_ | refine AWP_exit ?_ | (refine AWP_cond_true ?_ ?_; · simp only [SS, argList, aPut, aFill, ↓reduceIte, Nat.reduceEqDiff, Nat.reduceAdd, Nat.reduceLeDiff, reduceCtorEq]) | (refine AWP_cond_false ?_ ?_; · simp only [SS, argList, aPut, aFill, ↓reduceIte, Nat.reduceEqDiff, Nat.reduceAdd, Nat.reduceLeDiff, reduceCtorEq])); try simp only [SS, argList, aPut, aFill, ↓reduceIte, Nat.reduceEqDiff, Nat.reduceAdd, Nat.reduceLeDiff, reduceCtorEq])
        rfl
      · clear hG hJ hn hs hc hb hlt hk0
        rintro ⟨o, v, i⟩ s ⟨hi, hG, hJ⟩
        simp only at hi hG hJ
        obtain ⟨hb, hlt, hk0⟩ := hG.kp.box
        have hol := hlen o hJ.nodup hJ.sound
        have hlen' := hG.sl.rds.len
        simp only [List.length_map] at hlen'
        by_cases hil : i < o.length
        · have hil' : (i : Int) < (o.length : Int) := by omega
          obtain ⟨a, ha⟩ : ∃ a, o[i]? = some a := ⟨_, List.getElem?_eq_getElem hil⟩
          obtain ⟨p, hp, hep⟩ := hG.sl.rds.iad i [.int .i64 a] (by simp [ha])
          have hld := hep.load none
          obtain ⟨x, hx⟩ := Option.isSome_iff_exists.mp (hin a (hJ.sound a (List.mem_of_getElem? ha)))
          have hxl := hsz a x hx
          try simp only [SS, argList, aPut, aFill, ↓reduceIte, Nat.reduceEqDiff, Nat.reduceAdd, Nat.reduceLeDiff, reduceCtorEq, hlen', hil', hb, RH.cs, hp, hld]
          repeat ((with_reducible first | refine AWP_seq ?_ | refine AWP_block ?_ | refine AWP_scope ?_ | refine AWP_reg ?_ | refine AWP_draw ?_ | refine AWP_skip ?_ | refine AWP_ret ?_ | refine AWP_exit ?_ | (refine AWP_cond_true ?_ ?_; · simp only [SS, argList, aPut, aFill, ↓reduceIte, Nat.reduceEqDiff, Nat.reduceAdd, Nat.reduceLeDiff, reduceCtorEq, hlen', hil', hb, RH.cs, hp, hld]) | (refine AWP_cond_false ?_ ?_; · simp only [SS, argList, aPut, aFill, ↓reduceIte, Nat.reduceEqDiff, Nat.reduceAdd, Nat.reduceLeDiff, reduceCtorEq, hlen', hil', hb, RH.cs, hp, hld])); try simp only [SS, argList, aPut, aFill, ↓reduceIte, Nat.reduceEqDiff, Nat.reduceAdd, Nat.reduceLeDiff, reduceCtorEq, hlen', hil', hb, RH.cs, hp, hld])
          refine (rget_ok s h (by omega) a).mono ?_
          rintro r s ⟨rfl, rfl⟩
          rw [hat, hx]
          simp only [getR]
          try simp only [SS, argList, aPut, aFill, ↓reduceIte, Nat.reduceEqDiff, Nat.reduceAdd, Nat.reduceLeDiff, reduceCtorEq, Nd.cells]
          repeat ((with_reducible first | refine AWP_seq ?_ | refine AWP_block ?_ | refine AWP_scope ?_ | refine AWP_reg ?_ | refine AWP_draw ?_ | refine AWP_skip ?_ | refine AWP_ret ?_ | refine AWP_exit ?_ | (refine AWP_cond_true ?_ ?_; · simp only [SS, argList, aPut, aFill, ↓reduceIte, Nat.reduceEqDiff, Nat.reduceAdd, Nat.reduceLeDiff, reduceCtorEq, Nd.cells]) | (refine AWP_cond_false ?_ ?_; · simp only [SS, argList, aPut, aFill, ↓reduceIte, Nat.reduceEqDiff, Nat.reduceAdd, Nat.reduceLeDiff, reduceCtorEq, Nd.cells])); try simp only [SS, argList, aPut, aFill, ↓reduceIte, Nat.reduceEqDiff, Nat.reduceAdd, Nat.reduceLeDiff, reduceCtorEq, Nd.cells])
          have hGp := hG.push (.cells 31 0 3 [x.cells])
          have hnb : s.next < (s.push (.cells 31 0 3 [x.cells])).next := by simp [Store.push_next]
          have hbx : (s.push (.cells 31 0 3 [x.cells])).get s.next = some (.cells 31 0 3 [x.cells]) := by simp [Store.push_get]
          have hsl : ∀ j, j ∈ slIds v → j < s.next := fun j hj => hG.sl.lt hj
          refine AWP_while [2, 5, 7, 8, 10] (fun y : RS2 => x.l.length - y.i) (fun y => [.ptr σ.next 0 0 0, y.v, .int .i64 i, .ptr s.next 0 0 0, .int .i64 y.i])
            (fun y s' => y.i ≤ x.l.length ∧ Grow (σ.push (.cells 43 0 3 [h.cs])) s' y.v 3 1 (i1 y.o) ∧ RJM C roots y.o i a x y.i ∧ s.next < s'.next ∧ s'.get s.next = some (.cells 31 0 3 [x.cells]) ∧ ¬ s.next ∈ slIds y.v)
            ⟨o, v, 0⟩ ⟨by simp, hGp, ⟨hJ, ha, by simp⟩, hnb, hbx, fun hm => by have := hsl _ hm; omega⟩ ?_ ?_
          · try simp only [SS, argList, aPut, aFill, ↓reduceIte, Nat.reduceEqDiff, Nat.reduceAdd, Nat.reduceLeDiff, reduceCtorEq]
            repeat ((with_reducible first | refine AWP_seq ?_ | refine AWP_block ?_ | refine AWP_scope ?_ | refine AWP_reg ?_ | refine AWP_draw ?_ | refine AWP_skip ?_ | refine AWP_ret ?_ | refine AWP_exit ?_ | (refine AWP_cond_true ?_ ?_; · simp only [SS, argList, aPut, aFill, ↓reduceIte, Nat.reduceEqDiff, Nat.reduceAdd, Nat.reduceLeDiff, reduceCtorEq]) | (refine AWP_cond_false ?_ ?_; · simp only [SS, argList, aPut, aFill, ↓reduceIte, Nat.reduceEqDiff, Nat.reduceAdd, Nat.reduceLeDiff, reduceCtorEq])); try simp only [SS, argList, aPut, aFill, ↓reduceIte, Nat.reduceEqDiff, Nat.reduceAdd, Nat.reduceLeDiff, reduceCtorEq])
            rfl
          · rintro ⟨o1, v1, k⟩ s1 ⟨hk, hG1, hM, hn1, hb1, hv1⟩
            simp only at hk hG1 hM hv1
            obtain ⟨hb', hlt', hk0'⟩ := hG1.kp.box
            have hol1 := hlen o1 hM.base.nodup hM.base.sound
            by_cases hkl : k < x.l.length
            · have hkl' : (k : Int) < (x.l.length : Int) := by omega
              obtain ⟨b, hbk⟩ : ∃ b, x.l[k]? = some b := ⟨_, List.getElem?_eq_getElem hkl⟩
              have hgb : (x.l.map fun y => [AV.int .i64 y])[k]? = some [.int .i64 b] := by simp [hbk]
              try simp only [SS, argList, aPut, aFill, ↓reduceIte, Nat.reduceEqDiff, Nat.reduceAdd, Nat.reduceLeDiff, reduceCtorEq, hb1, Nd.cells, ints, hkl', hgb]
              repeat ((with_reducible first | refine AWP_seq ?_ | refine AWP_block ?_ | refine AWP_scope ?_ | refine AWP_reg ?_ | refine AWP_draw ?_ | refine AWP_skip ?_ | refine AWP_ret ?_ | refine AWP_exit ?_ | (refine AWP_cond_true ?_ ?_; · simp only [SS, argList, aPut, aFill, ↓reduceIte, Nat.reduceEqDiff, Nat.reduceAdd, Nat.reduceLeDiff, reduceCtorEq, hb1, Nd.cells, ints, hkl', hgb]) | (refine AWP_cond_false ?_ ?_; · simp only [SS, argList, aPut, aFill, ↓reduceIte, Nat.reduceEqDiff, Nat.reduceAdd, Nat.reduceLeDiff, reduceCtorEq, hb1, Nd.cells, ints, hkl', hgb])); try simp only [SS, argList, aPut, aFill, ↓reduceIte, Nat.reduceEqDiff, Nat.reduceAdd, Nat.reduceLeDiff, reduceCtorEq, hb1, Nd.cells, ints, hkl', hgb])
              refine (rhas_ok s1 (l := o1) hG1.sl.rds (by omega) b).mono ?_
              rintro r s ⟨rfl, rfl⟩
              by_cases hxo : b ∈ o1
              · try simp only [SS, argList, aPut, aFill, ↓reduceIte, Nat.reduceEqDiff, Nat.reduceAdd, Nat.reduceLeDiff, reduceCtorEq, hxo, wrap_succ (i := k) (by omega)]
                repeat ((with_reducible first | refine AWP_seq ?_ | refine AWP_block ?_ | refine AWP_scope ?_ | refine AWP_reg ?_ | refine AWP_draw ?_ | refine AWP_skip ?_ | refine AWP_ret ?_ | refine AWP_exit ?_ | (refine AWP_cond_true ?_ ?_; · simp only [SS, argList, aPut, aFill, ↓reduceIte, Nat.reduceEqDiff, Nat.reduceAdd, Nat.reduceLeDiff, reduceCtorEq, hxo, wrap_succ (i := k) (by omega)]) | (refine AWP_cond_false ?_ ?_; · simp only [SS, argList, aPut, aFill, ↓reduceIte, Nat.reduceEqDiff, Nat.reduceAdd, Nat.reduceLeDiff, reduceCtorEq, hxo, wrap_succ (i := k) (by omega)])); try simp only [SS, argList, aPut, aFill, ↓reduceIte, Nat.reduceEqDiff, Nat.reduceAdd, Nat.reduceLeDiff, reduceCtorEq, hxo, wrap_succ (i := k) (by omega)])
                exact ⟨⟨o1, v1, k + 1⟩, rfl, ⟨by simp only; omega, hG1, hM.skip hbk hxo, hn1, hb1, hv1⟩, by simp only; omega⟩
              · try simp only [SS, argList, aPut, aFill, ↓reduceIte, Nat.reduceEqDiff, Nat.reduceAdd, Nat.reduceLeDiff, reduceCtorEq, hxo, hb1, Nd.cells, ints, hgb]
                repeat ((with_reducible first | refine AWP_seq ?_ | refine AWP_block ?_ | refine AWP_scope ?_ | refine AWP_reg ?_ | refine AWP_draw ?_ | refine AWP_skip ?_ | refine AWP_ret ?_ | refine AWP_exit ?_ | (refine AWP_cond_true ?_ ?_; · simp only [SS, argList, aPut, aFill, ↓reduceIte, Nat.reduceEqDiff, Nat.reduceAdd, Nat.reduceLeDiff, reduceCtorEq, hxo, hb1, Nd.cells, ints, hgb]) | (refine AWP_cond_false ?_ ?_; · simp only [SS, argList, aPut, aFill, ↓reduceIte, Nat.reduceEqDiff, Nat.reduceAdd, Nat.reduceLeDiff, reduceCtorEq, hxo, hb1, Nd.cells, ints, hgb])); try simp only [SS, argList, aPut, aFill, ↓reduceIte, Nat.reduceEqDiff, Nat.reduceAdd, Nat.reduceLeDiff, reduceCtorEq, hxo, hb1, Nd.cells, ints, hgb])
                refine ok_grow hG1 (by simp) (by simp; omega) (by simp [maxLen]; omega) ?_
                intro v' s' hG' hkeep hnx
                try simp only [SS, argList, aPut, aFill, ↓reduceIte, Nat.reduceEqDiff, Nat.reduceAdd, Nat.reduceLeDiff, reduceCtorEq, wrap_succ (i := k) (by omega)]
                repeat ((with_reducible first | refine AWP_seq ?_ | refine AWP_block ?_ | refine AWP_scope ?_ | refine AWP_reg ?_ | refine AWP_draw ?_ | refine AWP_skip ?_ | refine AWP_ret ?_ | refine AWP_exit ?_ | (refine AWP_cond_true ?_ ?_; · simp only [SS, argList, aPut, aFill, ↓reduceIte, Nat.reduceEqDiff, Nat.reduceAdd, Nat.reduceLeDiff, reduceCtorEq, wrap_succ (i := k) (by omega)]) | (refine AWP_cond_false ?_ ?_; · simp only [SS, argList, aPut, aFill, ↓reduceIte, Nat.reduceEqDiff, Nat.reduceAdd, Nat.reduceLeDiff, reduceCtorEq, wrap_succ (i := k) (by omega)])); try simp only [SS, argList, aPut, aFill, ↓reduceIte, Nat.reduceEqDiff, Nat.reduceAdd, Nat.reduceLeDiff, reduceCtorEq, wrap_succ (i := k) (by omega)])
                refine ⟨⟨o1 ++ [b], v', k + 1⟩, rfl, ⟨by simp only; omega, by simpa using hG', hM.add hx hbk hxo, by omega, by rw [hkeep _ hn1 hv1]; exact hb1, ?_⟩, by simp only; omega⟩
                intro hm
                have e1 := hG'.sl.ids hm
                obtain ⟨_, _, e1⟩ := e1
                rw [hkeep _ hn1 hv1, hb1] at e1
                simp at e1
            · have hkl' : ¬ (k : Int) < (x.l.length : Int) := by omega
              have hil1 : i < o1.length := (List.getElem?_eq_some_iff.mp hM.here).1
              try simp only [SS, argList, aPut, aFill, ↓reduceIte, Nat.reduceEqDiff, Nat.reduceAdd, Nat.reduceLeDiff, reduceCtorEq, hb1, Nd.cells, ints, hkl', wrap_succ (i := i) (by omega)]
              repeat ((with_reducible first | refine AWP_seq ?_ | refine AWP_block ?_ | refine AWP_scope ?_ | refine AWP_reg ?_ | refine AWP_draw ?_ | refine AWP_skip ?_ | refine AWP_ret ?_ | refine AWP_exit ?_ | (refine AWP_cond_true ?_ ?_; · simp only [SS, argList, aPut, aFill, ↓reduceIte, Nat.reduceEqDiff, Nat.reduceAdd, Nat.reduceLeDiff, reduceCtorEq, hb1, Nd.cells, ints, hkl', wrap_succ (i := i) (by omega)]) | (refine AWP_cond_false ?_ ?_; · simp only [SS, argList, aPut, aFill, ↓reduceIte, Nat.reduceEqDiff, Nat.reduceAdd, Nat.reduceLeDiff, reduceCtorEq, hb1, Nd.cells, ints, hkl', wrap_succ (i := i) (by omega)])); try simp only [SS, argList, aPut, aFill, ↓reduceIte, Nat.reduceEqDiff, Nat.reduceAdd, Nat.reduceLeDiff, reduceCtorEq, hb1, Nd.cells, ints, hkl', wrap_succ (i := i) (by omega)])
              exact ⟨⟨o1, v1, i + 1⟩, rfl, ⟨by simp only; omega, hG1, hM.next hx (by omega)⟩, by simp only; omega⟩
        · have hil' : ¬ (i : Int) < (o.length : Int) := by omega
          refine AWP_grown 5 (v := v) (by simp only [SS, argList, aPut, aFill, ↓reduceIte, Nat.reduceEqDiff, Nat.reduceAdd, Nat.reduceLeDiff, reduceCtorEq]) hG ?_
          intro s2 hk2 hn2
          obtain ⟨hb2, hlt2, hk02⟩ := hk2.box
          try simp only [SS, argList, aPut, aFill, ↓reduceIte, Nat.reduceEqDiff, Nat.reduceAdd, Nat.reduceLeDiff, reduceCtorEq, hil']
          repeat ((with_reducible first | refine AWP_seq ?_ | refine AWP_block ?_ | refine AWP_scope ?_ | refine AWP_reg ?_ | refine AWP_draw ?_ | refine AWP_skip ?_ | refine AWP_ret ?_ | refine AWP_exit ?_ | (refine AWP_cond_true ?_ ?_; · simp only [SS, argList, aPut, aFill, ↓reduceIte, Nat.reduceEqDiff, Nat.reduceAdd, Nat.reduceLeDiff, reduceCtorEq, hil']) | (refine AWP_cond_false ?_ ?_; · simp only [SS, argList, aPut, aFill, ↓reduceIte, Nat.reduceEqDiff, Nat.reduceAdd, Nat.reduceLeDiff, reduceCtorEq, hil'])); try simp only [SS, argList, aPut, aFill, ↓reduceIte, Nat.reduceEqDiff, Nat.reduceAdd, Nat.reduceLeDiff, reduceCtorEq, hil'])
          refine hk02.out ⟨o, rfl, hJ.nodup, hol, hJ.done (by omega)⟩ ?_
          refine .list' fun e he c hc => ?_
          simp at he
          obtain ⟨y, _, rfl⟩ := he
          simp at hc; subst hc; exact .int _ _
end Go.Proofs.Ytoejjhehpbmgbaa
