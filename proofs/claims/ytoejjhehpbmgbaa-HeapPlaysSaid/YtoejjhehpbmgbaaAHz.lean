/- The document's heap: Alloc, Set, Collect. -/
import Derived.Test.YtoejjhehpbmgbaaAHy
set_option linter.unusedVariables false
set_option linter.unusedSimpArgs false
namespace Go.AL
/-- An arena and the document's heap are the same. -/
structure HR (H : Hp) (h : RH) : Prop where
  cap : h.cap = H.cap
  at_ : ∀ a, h.at a = H.at a
  nodup : (h.l.map (·.1)).Nodup
  allocs : h.allocs = H.allocs
theorem RH.mem_addrs (h : RH) (a : Int) : a ∈ h.l.map (·.1) ↔ (h.at a).isSome = true := by
  rw [← idx_at]
  simp [RH.idx]
theorem HR.has {H : Hp} {h : RH} (k : HR H h) (a : Int) : (h.idx a).isSome = H.has a := by rw [idx_at, k.at_]; rfl
theorem HR.all {H : Hp} {h : RH} (k : HR H h) (l : List Int) : h.all l = H.all l := by
  unfold RH.all Hp.all
  congr 1; funext a; exact k.has a
theorem HR.live {H : Hp} {h : RH} (k : HR H h) (hG : H.Good) : (h.l.length : Int) = H.live := by
  rw [hG.live_card k.nodup (fun a => by rw [RH.mem_addrs, k.at_]; rfl)]
  simp
theorem find_app (l : List (Int × Nd)) (a b : Int) (x : Nd) (hn : ¬ (l.find? fun c => c.1 == a).isSome = true) : ((l ++ [(a, x)]).find? fun c => c.1 == b).map (·.2) = if b = a then some x else (l.find? fun c => c.1 == b).map (·.2) := by
  rw [List.find?_append]
  by_cases e : b = a
  · subst e
    simp only [Option.not_isSome_iff_eq_none] at hn
    simp [hn]
  · have : ¬ a = b := fun h => e h.symm
    cases h : l.find? fun c => c.1 == b <;> simp [this, e]
theorem find_set (l : List (Int × Nd)) (a b : Int) (x : Nd) {i : Nat} (hi : l.findIdx? (fun c => c.1 == a) = some i) : ((l.set i (a, x)).find? fun c => c.1 == b).map (·.2) = if b = a then some x else (l.find? fun c => c.1 == b).map (·.2) := by
  induction l generalizing i with
  | nil => simp at hi
  | cons c l ih =>
    rw [List.findIdx?_cons] at hi
    by_cases hc : c.1 = a
    · simp [hc] at hi
      subst hi
      simp only [List.set_cons_zero, List.find?_cons]
      by_cases e : b = a
      · subst e; simp
      · have h1 : (a == b) = false := by simpa using fun h : a = b => e h.symm
        have h2 : (c.1 == b) = false := by simpa using fun h : c.1 = b => e (h.symm.trans hc)
        rw [h1, h2]
        simp [e]
    · simp [hc] at hi
      obtain ⟨j, hj, rfl⟩ := hi
      simp only [List.set_cons_succ, List.find?_cons]
      by_cases e : c.1 = b
      · have : ¬ b = a := fun h => hc (e.trans h)
        simp [e, this]
      · have e' : (c.1 == b) = false := by simp [e]
        rw [e']
        exact ih hj
/-- What Alloc makes of the document's heap. -/
def RAlloc (h : RH) (x : Nd) (h' : RH) (a e : Int) : Prop :=
  if h.all x.l = true then
    if h.cap ≤ h.l.length then h' = h ∧ a = 0 ∧ e = 160
    else e = 0 ∧ 0 ≤ a ∧ h.idx a = none ∧ (∀ b, 0 ≤ b → b < a → (h.idx b).isSome = true) ∧ h' = ⟨h.cap, h.l ++ [(a, x)], IntKind.i64.wrap (h.allocs + 1)⟩
  else h' = h ∧ a = 0 ∧ e = 161
def RH.set (h : RH) (a : Int) (x : Nd) : RH × Int :=
  match h.idx a with
  | some i => if h.all x.l = true then ({ h with l := h.l.set i (a, x) }, 0) else (h, 161)
  | none => (h, 161)
theorem RH.cln {n : Nat} (h : RH) : Cln n h.av := by
  refine .agg' fun c hc => ?_
  simp [RH.cs] at hc
  rcases hc with rfl | rfl | rfl
  · exact .int _ _
  · refine .list' fun e he c hc => ?_
    simp at he
    obtain ⟨a, b, _, rfl⟩ := he
    simp [RC.cells] at hc
    rcases hc with rfl | rfl | rfl | rfl
    · exact .int _ _
    · exact .int _ _
    · exact .int _ _
    · refine .list' fun e he c hc => ?_
      simp at he
      obtain ⟨y, _, rfl⟩ := he
      simp at hc; subst hc; exact .int _ _
  · exact .int _ _
theorem RC.len (c : Int × Nd) : (RC.cells c).length = 4 := rfl
theorem addrs_of_small {h : RH} {a : Nat} (hs : ∀ b : Int, 0 ≤ b → b < a → (h.idx b).isSome = true) : a ≤ h.l.length := by
  have := nodup_len ((List.range a).map fun (i : Nat) => (i : Int)) (h.l.map (·.1)) ?_ fun b hb => ?_
  · simpa using this
  · rw [List.Nodup, List.pairwise_map]
    exact List.nodup_range.imp fun {x y} hxy => by omega
  · simp at hb
    obtain ⟨i, hi, rfl⟩ := hb
    rw [RH.mem_addrs, ← idx_at]
    exact hs _ (by omega) (by omega)
end Go.AL
namespace Go.Proofs.Ytoejjhehpbmgbaa
open Go.AL
theorem ralloc_ok (σ : Store) (h : RH) (hl : h.l.length ≤ 1000) (x : Nd) :
    ACalls Try.prog 43 [h.av, .agg x.cells] σ fun r σ' => (∃ h' a e, r = .tuple [h'.av, .int .i64 a, .int .i64 e] ∧ RAlloc h x h' a e) ∧ σ' = σ := by
  refine ACalls_pure (K := fun r => ∃ h' a e, r = .tuple [h'.av, .int .i64 a, .int .i64 e] ∧ RAlloc h x h' a e) ?_
  refine ACalls_froze ?_
  have same : ∀ (s : Store) (a e : Int), Kp σ s → RAlloc h x h a e → ∃ v ty sz es r', SliceAt s v ty sz es ∧ Sub v (.list es) (.tuple [h.av, .int .i64 a, .int .i64 e]) r' ∧
      ∀ σ2 : Store, σ2.next = s.next → (∀ i, i ∉ slIds v → σ2.get i = s.get i) → (∃ h' a e, r' = .tuple [h'.av, .int .i64 a, .int .i64 e] ∧ RAlloc h x h' a e) ∧ Cln σ.next r' ∧ σ.next ≤ σ2.next ∧ ∀ id, id < σ.next → σ2.get id = σ.get id := by
    intro s a e hk hR
    refine ⟨.nils, 0, 0, [], _, .nil _ _ _, .refl _, fun σ2 hn hg => ⟨⟨h, a, e, rfl, hR⟩, Cln.tuple' fun c hc => ?_, by rw [hn]; exact hk.next, fun id hid => by rw [hg id (by simp [slIds]), hk.keep id hid]⟩⟩
    simp at hc
    rcases hc with rfl | rfl | rfl
    · exact h.cln
    · exact .int _ _
    · exact .int _ _
  have k3 : ∀ o o' o'' : AObj, Kp σ (((σ.push o).push o').push o'') := fun o o' o'' => (((Kp.refl σ).push o).push o').push o''
  refine in43 (by simp) ?_
  unfold c43
  try simp only [SS, argList, aPut, aFill, ↓reduceIte, Nat.reduceEqDiff, Nat.reduceAdd, Nat.reduceLeDiff, reduceCtorEq, RH.av, RH.cs, Nd.cells]
  repeat ((with_reducible first | refine AWP_seq ?_ | refine AWP_block ?_ | refine AWP_scope ?_ | refine AWP_reg ?_ | refine AWP_draw ?_ | refine AWP_skip ?_ | refine AWP_ret ?_ | refine AWP_exit ?_ | (refine AWP_cond_true ?_ ?_; · simp only [SS, argList, aPut, aFill, ↓reduceIte, Nat.reduceEqDiff, Nat.reduceAdd, Nat.reduceLeDiff, reduceCtorEq, RH.av, RH.cs, Nd.cells]) | (refine AWP_cond_false ?_ ?_; · simp only [SS, argList, aPut, aFill, ↓reduceIte, Nat.reduceEqDiff, Nat.reduceAdd, Nat.reduceLeDiff, reduceCtorEq, RH.av, RH.cs, Nd.cells])); try simp only [SS, argList, aPut, aFill, ↓reduceIte, Nat.reduceEqDiff, Nat.reduceAdd, Nat.reduceLeDiff, reduceCtorEq, RH.av, RH.cs, Nd.cells])
  refine (rall_ok _ h (by omega) x.l).mono ?_
  rintro r s ⟨rfl, rfl⟩
  cases hal : h.all x.l with
  | false =>
    try simp only [SS, argList, aPut, aFill, ↓reduceIte, Nat.reduceEqDiff, Nat.reduceAdd, Nat.reduceLeDiff, reduceCtorEq, RH.cs]
    repeat ((with_reducible first | refine AWP_seq ?_ | refine AWP_block ?_ | refine AWP_scope ?_ | refine AWP_reg ?_ | refine AWP_draw ?_ | refine AWP_skip ?_ | refine AWP_ret ?_ | refine AWP_exit ?_ | (refine AWP_cond_true ?_ ?_; · simp only [SS, argList, aPut, aFill, ↓reduceIte, Nat.reduceEqDiff, Nat.reduceAdd, Nat.reduceLeDiff, reduceCtorEq, RH.cs]) | (refine AWP_cond_false ?_ ?_; · simp only [SS, argList, aPut, aFill, ↓reduceIte, Nat.reduceEqDiff, Nat.reduceAdd, Nat.reduceLeDiff, reduceCtorEq, RH.cs])); try simp only [SS, argList, aPut, aFill, ↓reduceIte, Nat.reduceEqDiff, Nat.reduceAdd, Nat.reduceLeDiff, reduceCtorEq, RH.cs])
    exact same _ 0 161 (k3 _ _ _) (by simp [RAlloc, hal])
  | true =>
    by_cases hfull : h.cap ≤ (h.l.length : Int)
    · try simp only [SS, argList, aPut, aFill, ↓reduceIte, Nat.reduceEqDiff, Nat.reduceAdd, Nat.reduceLeDiff, reduceCtorEq, hfull]
      repeat ((with_reducible first | refine AWP_seq ?_ | refine AWP_block ?_ | refine AWP_scope ?_ | refine AWP_reg ?_ | refine AWP_draw ?_ | refine AWP_skip ?_ | refine AWP_ret ?_ | refine AWP_exit ?_ | (refine AWP_cond_true ?_ ?_; · simp only [SS, argList, aPut, aFill, ↓reduceIte, Nat.reduceEqDiff, Nat.reduceAdd, Nat.reduceLeDiff, reduceCtorEq, hfull]) | (refine AWP_cond_false ?_ ?_; · simp only [SS, argList, aPut, aFill, ↓reduceIte, Nat.reduceEqDiff, Nat.reduceAdd, Nat.reduceLeDiff, reduceCtorEq, hfull])); try simp only [SS, argList, aPut, aFill, ↓reduceIte, Nat.reduceEqDiff, Nat.reduceAdd, Nat.reduceLeDiff, reduceCtorEq, hfull])
      exact same _ 0 160 (k3 _ _ _) (by simp [RAlloc, hal, hfull])
    · try simp only [SS, argList, aPut, aFill, ↓reduceIte, Nat.reduceEqDiff, Nat.reduceAdd, Nat.reduceLeDiff, reduceCtorEq, hfull]
      repeat ((with_reducible first | refine AWP_seq ?_ | refine AWP_block ?_ | refine AWP_scope ?_ | refine AWP_reg ?_ | refine AWP_draw ?_ | refine AWP_skip ?_ | refine AWP_ret ?_ | refine AWP_exit ?_ | (refine AWP_cond_true ?_ ?_; · simp only [SS, argList, aPut, aFill, ↓reduceIte, Nat.reduceEqDiff, Nat.reduceAdd, Nat.reduceLeDiff, reduceCtorEq, hfull]) | (refine AWP_cond_false ?_ ?_; · simp only [SS, argList, aPut, aFill, ↓reduceIte, Nat.reduceEqDiff, Nat.reduceAdd, Nat.reduceLeDiff, reduceCtorEq, hfull])); try simp only [SS, argList, aPut, aFill, ↓reduceIte, Nat.reduceEqDiff, Nat.reduceAdd, Nat.reduceLeDiff, reduceCtorEq, hfull])
      generalize hs0 : Store.push _ _ = s0
      have e0 : s0.get σ.next = some (.cells 43 0 3 [h.cs]) := by rw [← hs0]; simp [Store.push_get, Store.push_next, RH.cs]; try omega
      have e1 : s0.get (σ.next + 1) = some (.cells 31 0 3 [x.cells]) := by rw [← hs0]; simp [Store.push_get, Store.push_next, Nd.cells]; try omega
      have e2 : s0.get (σ.next + 2) = some (.cells 43 0 3 [[.int .i64 0, .nils, .int .i64 0]]) := by rw [← hs0]; simp [Store.push_get, Store.push_next]
      have n0 : s0.next = σ.next + 3 := by rw [← hs0]; simp [Store.push_next]
      have k0 : Kp σ s0 := by rw [← hs0]; exact k3 _ _ _
      clear hs0
      refine AWP_while [2, 3, 4, 7] (fun a : Nat => 2000 - a) (fun a => [.ptr σ.next 0 0 0, .ptr (σ.next + 1) 0 0 0, .ptr (σ.next + 2) 0 0 0, .int .i64 a])
        (fun a s => s = s0 ∧ ∀ b : Int, 0 ≤ b → b < a → (h.idx b).isSome = true) 0 ⟨rfl, fun b h1 h2 => by simp at h2; omega⟩ ?_ ?_
      · try simp only [SS, argList, aPut, aFill, ↓reduceIte, Nat.reduceEqDiff, Nat.reduceAdd, Nat.reduceLeDiff, reduceCtorEq]
        repeat ((with_reducible first | refine AWP_seq ?_ | refine AWP_block ?_ | refine AWP_scope ?_ | refine AWP_reg ?_ | refine AWP_draw ?_ | refine AWP_skip ?_ | refine AWP_ret ?_ | refine AWP_exit ?_ | (refine AWP_cond_true ?_ ?_; · simp only [SS, argList, aPut, aFill, ↓reduceIte, Nat.reduceEqDiff, Nat.reduceAdd, Nat.reduceLeDiff, reduceCtorEq]) | (refine AWP_cond_false ?_ ?_; · simp only [SS, argList, aPut, aFill, ↓reduceIte, Nat.reduceEqDiff, Nat.reduceAdd, Nat.reduceLeDiff, reduceCtorEq])); try simp only [SS, argList, aPut, aFill, ↓reduceIte, Nat.reduceEqDiff, Nat.reduceAdd, Nat.reduceLeDiff, reduceCtorEq])
        rfl
      · rintro a s ⟨rfl, hs⟩
        have hal2 := addrs_of_small hs
        try simp only [SS, argList, aPut, aFill, ↓reduceIte, Nat.reduceEqDiff, Nat.reduceAdd, Nat.reduceLeDiff, reduceCtorEq, e0, RH.cs]
        repeat ((with_reducible first | refine AWP_seq ?_ | refine AWP_block ?_ | refine AWP_scope ?_ | refine AWP_reg ?_ | refine AWP_draw ?_ | refine AWP_skip ?_ | refine AWP_ret ?_ | refine AWP_exit ?_ | (refine AWP_cond_true ?_ ?_; · simp only [SS, argList, aPut, aFill, ↓reduceIte, Nat.reduceEqDiff, Nat.reduceAdd, Nat.reduceLeDiff, reduceCtorEq, e0, RH.cs]) | (refine AWP_cond_false ?_ ?_; · simp only [SS, argList, aPut, aFill, ↓reduceIte, Nat.reduceEqDiff, Nat.reduceAdd, Nat.reduceLeDiff, reduceCtorEq, e0, RH.cs])); try simp only [SS, argList, aPut, aFill, ↓reduceIte, Nat.reduceEqDiff, Nat.reduceAdd, Nat.reduceLeDiff, reduceCtorEq, e0, RH.cs])
        refine (rfind_ok s h (by omega) a).mono ?_
        rintro r s ⟨rfl, rfl⟩
        cases hix : h.idx a with
        | some k =>
          have h0 : 0 ≤ idxV (some k) := by simp only [idxV]; omega
          try simp only [SS, argList, aPut, aFill, ↓reduceIte, Nat.reduceEqDiff, Nat.reduceAdd, Nat.reduceLeDiff, reduceCtorEq, h0, wrap_succ (i := a) (by omega)]
          repeat ((with_reducible first | refine AWP_seq ?_ | refine AWP_block ?_ | refine AWP_scope ?_ | refine AWP_reg ?_ | refine AWP_draw ?_ | refine AWP_skip ?_ | refine AWP_ret ?_ | refine AWP_exit ?_ | (refine AWP_cond_true ?_ ?_; · simp only [SS, argList, aPut, aFill, ↓reduceIte, Nat.reduceEqDiff, Nat.reduceAdd, Nat.reduceLeDiff, reduceCtorEq, h0, wrap_succ (i := a) (by omega)]) | (refine AWP_cond_false ?_ ?_; · simp only [SS, argList, aPut, aFill, ↓reduceIte, Nat.reduceEqDiff, Nat.reduceAdd, Nat.reduceLeDiff, reduceCtorEq, h0, wrap_succ (i := a) (by omega)])); try simp only [SS, argList, aPut, aFill, ↓reduceIte, Nat.reduceEqDiff, Nat.reduceAdd, Nat.reduceLeDiff, reduceCtorEq, h0, wrap_succ (i := a) (by omega)])
          refine ⟨a + 1, rfl, fun b h1 h2 => ?_, by omega⟩
          by_cases hba : b = a
          · subst hba; rw [hix]; rfl
          · exact hs b h1 (by omega)
        | none =>
          have h0 : ¬ 0 ≤ idxV none := by simp [idxV]
          try simp only [SS, argList, aPut, aFill, ↓reduceIte, Nat.reduceEqDiff, Nat.reduceAdd, Nat.reduceLeDiff, reduceCtorEq, h0]
          repeat ((with_reducible first | refine AWP_seq ?_ | refine AWP_block ?_ | refine AWP_scope ?_ | refine AWP_reg ?_ | refine AWP_draw ?_ | refine AWP_skip ?_ | refine AWP_ret ?_ | refine AWP_exit ?_ | (refine AWP_cond_true ?_ ?_; · simp only [SS, argList, aPut, aFill, ↓reduceIte, Nat.reduceEqDiff, Nat.reduceAdd, Nat.reduceLeDiff, reduceCtorEq, h0]) | (refine AWP_cond_false ?_ ?_; · simp only [SS, argList, aPut, aFill, ↓reduceIte, Nat.reduceEqDiff, Nat.reduceAdd, Nat.reduceLeDiff, reduceCtorEq, h0])); try simp only [SS, argList, aPut, aFill, ↓reduceIte, Nat.reduceEqDiff, Nat.reduceAdd, Nat.reduceLeDiff, reduceCtorEq, h0])
          refine AWP_while [2, 3, 4, 7, 8, 9] (fun y : AV × Nat => h.l.length - y.2) (fun y => [.ptr σ.next 0 0 0, .ptr (σ.next + 1) 0 0 0, .ptr (σ.next + 2) 0 0 0, .int .i64 a, y.1, .int .i64 y.2])
            (fun y s' => y.2 ≤ h.l.length ∧ Grow s s' y.1 51 4 ((h.l.take y.2).map RC.cells)) (.nils, 0) ⟨by simp, .start _ _ _⟩ ?_ ?_
          · try simp only [SS, argList, aPut, aFill, ↓reduceIte, Nat.reduceEqDiff, Nat.reduceAdd, Nat.reduceLeDiff, reduceCtorEq]
            repeat ((with_reducible first | refine AWP_seq ?_ | refine AWP_block ?_ | refine AWP_scope ?_ | refine AWP_reg ?_ | refine AWP_draw ?_ | refine AWP_skip ?_ | refine AWP_ret ?_ | refine AWP_exit ?_ | (refine AWP_cond_true ?_ ?_; · simp only [SS, argList, aPut, aFill, ↓reduceIte, Nat.reduceEqDiff, Nat.reduceAdd, Nat.reduceLeDiff, reduceCtorEq]) | (refine AWP_cond_false ?_ ?_; · simp only [SS, argList, aPut, aFill, ↓reduceIte, Nat.reduceEqDiff, Nat.reduceAdd, Nat.reduceLeDiff, reduceCtorEq])); try simp only [SS, argList, aPut, aFill, ↓reduceIte, Nat.reduceEqDiff, Nat.reduceAdd, Nat.reduceLeDiff, reduceCtorEq])
            rfl
          · rintro ⟨v, i⟩ s1 ⟨hi, hG⟩
            simp only at hi hG
            have f0 := hG.kp.get e0
            have f1 := hG.kp.get e1
            have f2 := hG.kp.get e2
            by_cases hil : i < h.l.length
            · have hil' : (i : Int) < (h.l.length : Int) := by omega
              obtain ⟨c, hc⟩ : ∃ c, h.l[i]? = some c := ⟨_, List.getElem?_eq_getElem hil⟩
              have hg : (h.l.map RC.cells)[i]? = some (RC.cells c) := by simp [hc]
              try simp only [SS, argList, aPut, aFill, ↓reduceIte, Nat.reduceEqDiff, Nat.reduceAdd, Nat.reduceLeDiff, reduceCtorEq, f0, RH.cs, hil', hg, RC.cells]
              repeat ((with_reducible first | refine AWP_seq ?_ | refine AWP_block ?_ | refine AWP_scope ?_ | refine AWP_reg ?_ | refine AWP_draw ?_ | refine AWP_skip ?_ | refine AWP_ret ?_ | refine AWP_exit ?_ | (refine AWP_cond_true ?_ ?_; · simp only [SS, argList, aPut, aFill, ↓reduceIte, Nat.reduceEqDiff, Nat.reduceAdd, Nat.reduceLeDiff, reduceCtorEq, f0, RH.cs, hil', hg, RC.cells]) | (refine AWP_cond_false ?_ ?_; · simp only [SS, argList, aPut, aFill, ↓reduceIte, Nat.reduceEqDiff, Nat.reduceAdd, Nat.reduceLeDiff, reduceCtorEq, f0, RH.cs, hil', hg, RC.cells])); try simp only [SS, argList, aPut, aFill, ↓reduceIte, Nat.reduceEqDiff, Nat.reduceAdd, Nat.reduceLeDiff, reduceCtorEq, f0, RH.cs, hil', hg, RC.cells])
              refine ok_grow hG (by simp) (by simp; omega) (by simp [maxLen]; omega) ?_
              intro v' s' hG' hkeep hnx
              try simp only [SS, argList, aPut, aFill, ↓reduceIte, Nat.reduceEqDiff, Nat.reduceAdd, Nat.reduceLeDiff, reduceCtorEq, wrap_succ (i := i) (by omega)]
              repeat ((with_reducible first | refine AWP_seq ?_ | refine AWP_block ?_ | refine AWP_scope ?_ | refine AWP_reg ?_ | refine AWP_draw ?_ | refine AWP_skip ?_ | refine AWP_ret ?_ | refine AWP_exit ?_ | (refine AWP_cond_true ?_ ?_; · simp only [SS, argList, aPut, aFill, ↓reduceIte, Nat.reduceEqDiff, Nat.reduceAdd, Nat.reduceLeDiff, reduceCtorEq, wrap_succ (i := i) (by omega)]) | (refine AWP_cond_false ?_ ?_; · simp only [SS, argList, aPut, aFill, ↓reduceIte, Nat.reduceEqDiff, Nat.reduceAdd, Nat.reduceLeDiff, reduceCtorEq, wrap_succ (i := i) (by omega)])); try simp only [SS, argList, aPut, aFill, ↓reduceIte, Nat.reduceEqDiff, Nat.reduceAdd, Nat.reduceLeDiff, reduceCtorEq, wrap_succ (i := i) (by omega)])
              refine ⟨⟨v', i + 1⟩, rfl, ⟨by simp only; omega, ?_⟩, by simp only; omega⟩
              have : (h.l.take (i + 1)).map RC.cells = (h.l.take i).map RC.cells ++ [RC.cells c] := by rw [List.take_add_one, hc]; simp
              simp only [this]; exact hG'
            · have hil' : ¬ (i : Int) < (h.l.length : Int) := by omega
              rw [List.take_of_length_le (by omega)] at hG
              try simp only [SS, argList, aPut, aFill, ↓reduceIte, Nat.reduceEqDiff, Nat.reduceAdd, Nat.reduceLeDiff, reduceCtorEq, f0, f1, RH.cs, hil', Nd.cells]
              repeat ((with_reducible first | refine AWP_seq ?_ | refine AWP_block ?_ | refine AWP_scope ?_ | refine AWP_reg ?_ | refine AWP_draw ?_ | refine AWP_skip ?_ | refine AWP_ret ?_ | refine AWP_exit ?_ | (refine AWP_cond_true ?_ ?_; · simp only [SS, argList, aPut, aFill, ↓reduceIte, Nat.reduceEqDiff, Nat.reduceAdd, Nat.reduceLeDiff, reduceCtorEq, f0, f1, RH.cs, hil', Nd.cells]) | (refine AWP_cond_false ?_ ?_; · simp only [SS, argList, aPut, aFill, ↓reduceIte, Nat.reduceEqDiff, Nat.reduceAdd, Nat.reduceLeDiff, reduceCtorEq, f0, f1, RH.cs, hil', Nd.cells])); try simp only [SS, argList, aPut, aFill, ↓reduceIte, Nat.reduceEqDiff, Nat.reduceAdd, Nat.reduceLeDiff, reduceCtorEq, f0, f1, RH.cs, hil', Nd.cells])
              refine ok_grow hG (by simp) (by simp; omega) (by simp [maxLen]; omega) ?_
              intro v' s' hG' hkeep hnx
              have g0 := hG'.kp.get e0
              have g2 := hG'.kp.get e2
              have l0 : σ.next < s'.next := by have := hG'.kp.next; omega
              have l2 : σ.next + 1 + 1 < s'.next := by have := hG'.kp.next; omega
              have hu : ∀ (o : AObj) (j : Nat), (s'.upd σ.next o).get j = if j = σ.next then some o else s'.get j := fun o j => Store.get_upd _ _ l0 j
              have hu2 : ∀ (o o' : AObj) (j : Nat), ((s'.upd σ.next o).upd (σ.next + 1 + 1) o').get j = if j = σ.next + 1 + 1 then some o' else (s'.upd σ.next o).get j := fun o o' j => Store.get_upd _ _ (show σ.next + 1 + 1 < (s'.upd σ.next o).next from l2) j
              try simp only [SS, argList, aPut, aFill, ↓reduceIte, Nat.reduceEqDiff, Nat.reduceAdd, Nat.reduceLeDiff, reduceCtorEq, g0, g2, RH.cs, hG'.sl.co, hu, hu2]
              repeat ((with_reducible first | refine AWP_seq ?_ | refine AWP_block ?_ | refine AWP_scope ?_ | refine AWP_reg ?_ | refine AWP_draw ?_ | refine AWP_skip ?_ | refine AWP_ret ?_ | refine AWP_exit ?_ | (refine AWP_cond_true ?_ ?_; · simp only [SS, argList, aPut, aFill, ↓reduceIte, Nat.reduceEqDiff, Nat.reduceAdd, Nat.reduceLeDiff, reduceCtorEq, g0, g2, RH.cs, hG'.sl.co, hu, hu2]) | (refine AWP_cond_false ?_ ?_; · simp only [SS, argList, aPut, aFill, ↓reduceIte, Nat.reduceEqDiff, Nat.reduceAdd, Nat.reduceLeDiff, reduceCtorEq, g0, g2, RH.cs, hG'.sl.co, hu, hu2])); try simp only [SS, argList, aPut, aFill, ↓reduceIte, Nat.reduceEqDiff, Nat.reduceAdd, Nat.reduceLeDiff, reduceCtorEq, g0, g2, RH.cs, hG'.sl.co, hu, hu2])
              have hR : RAlloc h x ⟨h.cap, h.l ++ [((a : Int), x)], IntKind.i64.wrap (h.allocs + 1)⟩ a 0 := by
                unfold RAlloc
                rw [if_pos hal, if_neg hfull]
                exact ⟨rfl, by omega, hix, hs, rfl⟩
              generalize hs5 : (Store.upd _ (σ.next + 1 + 1) _) = s5
              have hs5g : ∀ j, j ≠ σ.next → j ≠ σ.next + 1 + 1 → s5.get j = s'.get j := fun j h1 h2 => by rw [← hs5, hu2, if_neg h2, hu, if_neg h1]
              have hn5 : s5.next = s'.next := by rw [← hs5]; rfl
              have hne : ∀ j, j ∈ slIds v' → s.next ≤ j := fun j hj => hG'.fresh j hj
              refine ⟨v', 51, 4, _, .tuple [RH.av ⟨h.cap, h.l ++ [((a : Int), x)], IntKind.i64.wrap (h.allocs + 1)⟩, .int .i64 a, .int .i64 0], hG'.sl.keep fun j hj => hs5g j (by have := hne j hj; omega) (by have := hne j hj; omega),
                .tuple (.cons (.agg (.cons (.refl _) (.cons ?_ (.cons (.refl _) .nil)))) (.cons (.refl _) (.cons (.refl _) .nil))), fun σ2 hn hg => ⟨⟨_, _, _, rfl, hR⟩, Cln.tuple' fun c hc => ?_, by have := hG'.kp.next; omega, fun id hid => ?_⟩⟩
              · rw [show (h.l ++ [((a : Int), x)]).map RC.cells = h.l.map RC.cells ++ [RC.cells (↑a, x)] by simp]
                exact .here
              · simp only [List.mem_cons, List.not_mem_nil, or_false] at hc
                rcases hc with rfl | rfl | rfl
                · exact RH.cln _
                · exact .int _ _
                · exact .int _ _
              · rw [hg id (fun hm => by have := hne id hm; omega), if_neg (by omega), if_neg (by omega), hG'.kp.keep id (by omega), k0.keep id hid]
theorem rset_ok (σ : Store) (h : RH) (hl : h.l.length ≤ 1000) (a : Int) (x : Nd) :
    ACalls Try.prog 44 [h.av, .int .i64 a, .agg x.cells] σ fun r σ' => r = .tuple [(h.set a x).1.av, .int .i64 (h.set a x).2] ∧ σ' = σ := by
  refine ACalls_pure (K := fun r => r = .tuple [(h.set a x).1.av, .int .i64 (h.set a x).2]) ?_
  refine ACalls_froze ?_
  have cl : ∀ (h : RH) (e : Int), Cln σ.next (.tuple [h.av, .int .i64 e]) := fun h e => Cln.tuple' fun c hc => by
    simp at hc
    rcases hc with rfl | rfl
    · exact h.cln
    · exact .int _ _
  have same : ∀ (s : Store) (e : Int), Kp σ s → h.set a x = (h, e) → ∃ v ty sz es r', SliceAt s v ty sz es ∧ Sub v (.list es) (.tuple [h.av, .int .i64 e]) r' ∧
      ∀ σ2 : Store, σ2.next = s.next → (∀ i, i ∉ slIds v → σ2.get i = s.get i) → r' = .tuple [(h.set a x).1.av, .int .i64 (h.set a x).2] ∧ Cln σ.next r' ∧ σ.next ≤ σ2.next ∧ ∀ id, id < σ.next → σ2.get id = σ.get id := by
    intro s e hk hR
    rw [hR]
    exact ⟨.nils, 0, 0, [], _, .nil _ _ _, .refl _, fun σ2 hn hg => ⟨rfl, cl _ _, by rw [hn]; exact hk.next, fun id hid => by rw [hg id (by simp [slIds]), hk.keep id hid]⟩⟩
  have k3 : ∀ o o' o'' : AObj, Kp σ (((σ.push o).push o').push o'') := fun o o' o'' => (((Kp.refl σ).push o).push o').push o''
  refine in44 (by simp) ?_
  unfold c44
  try simp only [SS, argList, aPut, aFill, ↓reduceIte, Nat.reduceEqDiff, Nat.reduceAdd, Nat.reduceLeDiff, reduceCtorEq, RH.av, RH.cs, Nd.cells]
  repeat ((with_reducible first | refine AWP_seq ?_ | refine AWP_block ?_ | refine AWP_scope ?_ | refine AWP_reg ?_ | refine AWP_draw ?_ | refine AWP_skip ?_ | refine AWP_ret ?_ | refine AWP_exit ?_ | (refine AWP_cond_true ?_ ?_; · simp only [SS, argList, aPut, aFill, ↓reduceIte, Nat.reduceEqDiff, Nat.reduceAdd, Nat.reduceLeDiff, reduceCtorEq, RH.av, RH.cs, Nd.cells]) | (refine AWP_cond_false ?_ ?_; · simp only [SS, argList, aPut, aFill, ↓reduceIte, Nat.reduceEqDiff, Nat.reduceAdd, Nat.reduceLeDiff, reduceCtorEq, RH.av, RH.cs, Nd.cells])); try simp only [SS, argList, aPut, aFill, ↓reduceIte, Nat.reduceEqDiff, Nat.reduceAdd, Nat.reduceLeDiff, reduceCtorEq, RH.av, RH.cs, Nd.cells])
  refine (rfind_ok _ h (by omega) a).mono ?_
  rintro r s ⟨rfl, rfl⟩
  cases hix : h.idx a with
  | none =>
    have h0 : idxV none < 0 := by simp [idxV]
    try simp only [SS, argList, aPut, aFill, ↓reduceIte, Nat.reduceEqDiff, Nat.reduceAdd, Nat.reduceLeDiff, reduceCtorEq, h0]
    repeat ((with_reducible first | refine AWP_seq ?_ | refine AWP_block ?_ | refine AWP_scope ?_ | refine AWP_reg ?_ | refine AWP_draw ?_ | refine AWP_skip ?_ | refine AWP_ret ?_ | refine AWP_exit ?_ | (refine AWP_cond_true ?_ ?_; · simp only [SS, argList, aPut, aFill, ↓reduceIte, Nat.reduceEqDiff, Nat.reduceAdd, Nat.reduceLeDiff, reduceCtorEq, h0]) | (refine AWP_cond_false ?_ ?_; · simp only [SS, argList, aPut, aFill, ↓reduceIte, Nat.reduceEqDiff, Nat.reduceAdd, Nat.reduceLeDiff, reduceCtorEq, h0])); try simp only [SS, argList, aPut, aFill, ↓reduceIte, Nat.reduceEqDiff, Nat.reduceAdd, Nat.reduceLeDiff, reduceCtorEq, h0])
    exact same _ 161 (k3 _ _ _) (by simp [RH.set, hix])
  | some k =>
    have h0 : ¬ idxV (some k) < 0 := by simp only [idxV]; omega
    try simp only [SS, argList, aPut, aFill, ↓reduceIte, Nat.reduceEqDiff, Nat.reduceAdd, Nat.reduceLeDiff, reduceCtorEq, h0]
    repeat ((with_reducible first | refine AWP_seq ?_ | refine AWP_block ?_ | refine AWP_scope ?_ | refine AWP_reg ?_ | refine AWP_draw ?_ | refine AWP_skip ?_ | refine AWP_ret ?_ | refine AWP_exit ?_ | (refine AWP_cond_true ?_ ?_; · simp only [SS, argList, aPut, aFill, ↓reduceIte, Nat.reduceEqDiff, Nat.reduceAdd, Nat.reduceLeDiff, reduceCtorEq, h0]) | (refine AWP_cond_false ?_ ?_; · simp only [SS, argList, aPut, aFill, ↓reduceIte, Nat.reduceEqDiff, Nat.reduceAdd, Nat.reduceLeDiff, reduceCtorEq, h0])); try simp only [SS, argList, aPut, aFill, ↓reduceIte, Nat.reduceEqDiff, Nat.reduceAdd, Nat.reduceLeDiff, reduceCtorEq, h0])
    refine (rall_ok _ h (by omega) x.l).mono ?_
    rintro r s ⟨rfl, rfl⟩
    cases hal : h.all x.l with
    | false =>
      try simp only [SS, argList, aPut, aFill, ↓reduceIte, Nat.reduceEqDiff, Nat.reduceAdd, Nat.reduceLeDiff, reduceCtorEq, RH.cs]
      repeat ((with_reducible first | refine AWP_seq ?_ | refine AWP_block ?_ | refine AWP_scope ?_ | refine AWP_reg ?_ | refine AWP_draw ?_ | refine AWP_skip ?_ | refine AWP_ret ?_ | refine AWP_exit ?_ | (refine AWP_cond_true ?_ ?_; · simp only [SS, argList, aPut, aFill, ↓reduceIte, Nat.reduceEqDiff, Nat.reduceAdd, Nat.reduceLeDiff, reduceCtorEq, RH.cs]) | (refine AWP_cond_false ?_ ?_; · simp only [SS, argList, aPut, aFill, ↓reduceIte, Nat.reduceEqDiff, Nat.reduceAdd, Nat.reduceLeDiff, reduceCtorEq, RH.cs])); try simp only [SS, argList, aPut, aFill, ↓reduceIte, Nat.reduceEqDiff, Nat.reduceAdd, Nat.reduceLeDiff, reduceCtorEq, RH.cs])
      exact same _ 161 (k3 _ _ _) (by simp [RH.set, hix, hal])
    | true =>
      try simp only [SS, argList, aPut, aFill, ↓reduceIte, Nat.reduceEqDiff, Nat.reduceAdd, Nat.reduceLeDiff, reduceCtorEq]
      repeat ((with_reducible first | refine AWP_seq ?_ | refine AWP_block ?_ | refine AWP_scope ?_ | refine AWP_reg ?_ | refine AWP_draw ?_ | refine AWP_skip ?_ | refine AWP_ret ?_ | refine AWP_exit ?_ | (refine AWP_cond_true ?_ ?_; · simp only [SS, argList, aPut, aFill, ↓reduceIte, Nat.reduceEqDiff, Nat.reduceAdd, Nat.reduceLeDiff, reduceCtorEq]) | (refine AWP_cond_false ?_ ?_; · simp only [SS, argList, aPut, aFill, ↓reduceIte, Nat.reduceEqDiff, Nat.reduceAdd, Nat.reduceLeDiff, reduceCtorEq])); try simp only [SS, argList, aPut, aFill, ↓reduceIte, Nat.reduceEqDiff, Nat.reduceAdd, Nat.reduceLeDiff, reduceCtorEq])
      have hset : h.set a x = ({ h with l := h.l.set k (a, x) }, 0) := by simp [RH.set, hix, hal]
      obtain ⟨y, hy, _⟩ := idx_some hix
      have hkl := (List.getElem?_eq_some_iff.mp hy).1
      generalize hs0 : Store.push _ _ = s0
      have e0 : s0.get σ.next = some (.cells 43 0 3 [h.cs]) := by rw [← hs0]; simp [Store.push_get, Store.push_next, RH.cs]; try omega
      have e1 : s0.get (σ.next + 1) = some (.cells 31 0 3 [x.cells]) := by rw [← hs0]; simp [Store.push_get, Store.push_next, Nd.cells]; try omega
      have e2 : s0.get (σ.next + 2) = some (.cells 43 0 3 [[.int .i64 0, .nils, .int .i64 0]]) := by rw [← hs0]; simp [Store.push_get, Store.push_next]
      have n0 : s0.next = σ.next + 3 := by rw [← hs0]; simp [Store.push_next]
      have k0 : Kp σ s0 := by rw [← hs0]; exact k3 _ _ _
      clear hs0
      refine AWP_while [1, 3, 5, 6, 8, 9, 10] (fun y : AV × Nat => h.l.length - y.2) (fun y => [.int .i64 a, .ptr σ.next 0 0 0, .ptr (σ.next + 1) 0 0 0, .ptr (σ.next + 2) 0 0 0, .int .i64 k, y.1, .int .i64 y.2])
        (fun y s' => y.2 ≤ h.l.length ∧ Grow s0 s' y.1 51 4 (((h.l.set k (a, x)).take y.2).map RC.cells)) (.nils, 0) ⟨by simp, .start _ _ _⟩ ?_ ?_
      · try simp only [SS, argList, aPut, aFill, ↓reduceIte, Nat.reduceEqDiff, Nat.reduceAdd, Nat.reduceLeDiff, reduceCtorEq]
        repeat ((with_reducible first | refine AWP_seq ?_ | refine AWP_block ?_ | refine AWP_scope ?_ | refine AWP_reg ?_ | refine AWP_draw ?_ | refine AWP_skip ?_ | refine AWP_ret ?_ | refine AWP_exit ?_ | (refine AWP_cond_true ?_ ?_; · simp only [SS, argList, aPut, aFill, ↓reduceIte, Nat.reduceEqDiff, Nat.reduceAdd, Nat.reduceLeDiff, reduceCtorEq]) | (refine AWP_cond_false ?_ ?_; · simp only [SS, argList, aPut, aFill, ↓reduceIte, Nat.reduceEqDiff, Nat.reduceAdd, Nat.reduceLeDiff, reduceCtorEq])); try simp only [SS, argList, aPut, aFill, ↓reduceIte, Nat.reduceEqDiff, Nat.reduceAdd, Nat.reduceLeDiff, reduceCtorEq])
        simp [idxV]
      · rintro ⟨v, i⟩ s1 ⟨hi, hG⟩
        simp only at hi hG
        have f0 := hG.kp.get e0
        have f1 := hG.kp.get e1
        have f2 := hG.kp.get e2
        by_cases hil : i < h.l.length
        · have hil' : (i : Int) < (h.l.length : Int) := by omega
          obtain ⟨c, hc⟩ : ∃ c, h.l[i]? = some c := ⟨_, List.getElem?_eq_getElem hil⟩
          have hg : (h.l.map RC.cells)[i]? = some (RC.cells c) := by simp [hc]
          have hlen : ((h.l.set k (a, x)).take i).length ≤ 1000 := by simp; omega
          by_cases hik : i = k
          · subst hik
            have hc2 : (h.l.set i (a, x))[i]? = some (a, x) := by simp [hil]
            try simp only [SS, argList, aPut, aFill, ↓reduceIte, Nat.reduceEqDiff, Nat.reduceAdd, Nat.reduceLeDiff, reduceCtorEq, f0, f1, RH.cs, hil', Nd.cells]
            repeat ((with_reducible first | refine AWP_seq ?_ | refine AWP_block ?_ | refine AWP_scope ?_ | refine AWP_reg ?_ | refine AWP_draw ?_ | refine AWP_skip ?_ | refine AWP_ret ?_ | refine AWP_exit ?_ | (refine AWP_cond_true ?_ ?_; · simp only [SS, argList, aPut, aFill, ↓reduceIte, Nat.reduceEqDiff, Nat.reduceAdd, Nat.reduceLeDiff, reduceCtorEq, f0, f1, RH.cs, hil', Nd.cells]) | (refine AWP_cond_false ?_ ?_; · simp only [SS, argList, aPut, aFill, ↓reduceIte, Nat.reduceEqDiff, Nat.reduceAdd, Nat.reduceLeDiff, reduceCtorEq, f0, f1, RH.cs, hil', Nd.cells])); try simp only [SS, argList, aPut, aFill, ↓reduceIte, Nat.reduceEqDiff, Nat.reduceAdd, Nat.reduceLeDiff, reduceCtorEq, f0, f1, RH.cs, hil', Nd.cells])
            refine ok_grow hG (by simp) (by simp; omega) (by simp [maxLen]; omega) ?_
            intro v' s' hG' hkeep hnx
            try simp only [SS, argList, aPut, aFill, ↓reduceIte, Nat.reduceEqDiff, Nat.reduceAdd, Nat.reduceLeDiff, reduceCtorEq, wrap_succ (i := i) (by omega)]
            repeat ((with_reducible first | refine AWP_seq ?_ | refine AWP_block ?_ | refine AWP_scope ?_ | refine AWP_reg ?_ | refine AWP_draw ?_ | refine AWP_skip ?_ | refine AWP_ret ?_ | refine AWP_exit ?_ | (refine AWP_cond_true ?_ ?_; · simp only [SS, argList, aPut, aFill, ↓reduceIte, Nat.reduceEqDiff, Nat.reduceAdd, Nat.reduceLeDiff, reduceCtorEq, wrap_succ (i := i) (by omega)]) | (refine AWP_cond_false ?_ ?_; · simp only [SS, argList, aPut, aFill, ↓reduceIte, Nat.reduceEqDiff, Nat.reduceAdd, Nat.reduceLeDiff, reduceCtorEq, wrap_succ (i := i) (by omega)])); try simp only [SS, argList, aPut, aFill, ↓reduceIte, Nat.reduceEqDiff, Nat.reduceAdd, Nat.reduceLeDiff, reduceCtorEq, wrap_succ (i := i) (by omega)])
            refine ⟨⟨v', i + 1⟩, rfl, ⟨by simp only; omega, ?_⟩, by simp only; omega⟩
            have : ((h.l.set i (a, x)).take (i + 1)).map RC.cells = ((h.l.set i (a, x)).take i).map RC.cells ++ [RC.cells (a, x)] := by rw [List.take_add_one, hc2]; simp
            simp only [this]; exact hG'
          · have hik' : ¬ (i : Int) = (k : Int) := by omega
            have hc2 : (h.l.set k (a, x))[i]? = some c := by rw [List.getElem?_set_ne (by omega)]; exact hc
            try simp only [SS, argList, aPut, aFill, ↓reduceIte, Nat.reduceEqDiff, Nat.reduceAdd, Nat.reduceLeDiff, reduceCtorEq, f0, RH.cs, hil', hg, RC.cells, hik']
            repeat ((with_reducible first | refine AWP_seq ?_ | refine AWP_block ?_ | refine AWP_scope ?_ | refine AWP_reg ?_ | refine AWP_draw ?_ | refine AWP_skip ?_ | refine AWP_ret ?_ | refine AWP_exit ?_ | (refine AWP_cond_true ?_ ?_; · simp only [SS, argList, aPut, aFill, ↓reduceIte, Nat.reduceEqDiff, Nat.reduceAdd, Nat.reduceLeDiff, reduceCtorEq, f0, RH.cs, hil', hg, RC.cells, hik']) | (refine AWP_cond_false ?_ ?_; · simp only [SS, argList, aPut, aFill, ↓reduceIte, Nat.reduceEqDiff, Nat.reduceAdd, Nat.reduceLeDiff, reduceCtorEq, f0, RH.cs, hil', hg, RC.cells, hik'])); try simp only [SS, argList, aPut, aFill, ↓reduceIte, Nat.reduceEqDiff, Nat.reduceAdd, Nat.reduceLeDiff, reduceCtorEq, f0, RH.cs, hil', hg, RC.cells, hik'])
            refine ok_grow hG (by simp) (by simp; omega) (by simp [maxLen]; omega) ?_
            intro v' s' hG' hkeep hnx
            try simp only [SS, argList, aPut, aFill, ↓reduceIte, Nat.reduceEqDiff, Nat.reduceAdd, Nat.reduceLeDiff, reduceCtorEq, wrap_succ (i := i) (by omega)]
            repeat ((with_reducible first | refine AWP_seq ?_ | refine AWP_block ?_ | refine AWP_scope ?_ | refine AWP_reg ?_ | refine AWP_draw ?_ | refine AWP_skip ?_ | refine AWP_ret ?_ | refine AWP_exit ?_ | (refine AWP_cond_true ?_ ?_; · simp only [SS, argList, aPut, aFill, ↓reduceIte, Nat.reduceEqDiff, Nat.reduceAdd, Nat.reduceLeDiff, reduceCtorEq, wrap_succ (i := i) (by omega)]) | (refine AWP_cond_false ?_ ?_; · simp only [SS, argList, aPut, aFill, ↓reduceIte, Nat.reduceEqDiff, Nat.reduceAdd, Nat.reduceLeDiff, reduceCtorEq, wrap_succ (i := i) (by omega)])); try simp only [SS, argList, aPut, aFill, ↓reduceIte, Nat.reduceEqDiff, Nat.reduceAdd, Nat.reduceLeDiff, reduceCtorEq, wrap_succ (i := i) (by omega)])
            refine ⟨⟨v', i + 1⟩, rfl, ⟨by simp only; omega, ?_⟩, by simp only; omega⟩
            have : ((h.l.set k (a, x)).take (i + 1)).map RC.cells = ((h.l.set k (a, x)).take i).map RC.cells ++ [RC.cells c] := by rw [List.take_add_one, hc2]; simp
            simp only [this]; exact hG'
        · have hil' : ¬ (i : Int) < (h.l.length : Int) := by omega
          rw [List.take_of_length_le (by simp; omega)] at hG
          have l0 : σ.next < s1.next := by have := hG.kp.next; omega
          have l2 : σ.next + 1 + 1 < s1.next := by have := hG.kp.next; omega
          have hu : ∀ (o : AObj) (j : Nat), (s1.upd σ.next o).get j = if j = σ.next then some o else s1.get j := fun o j => Store.get_upd _ _ l0 j
          have hu2 : ∀ (o o' : AObj) (j : Nat), ((s1.upd σ.next o).upd (σ.next + 1 + 1) o').get j = if j = σ.next + 1 + 1 then some o' else (s1.upd σ.next o).get j := fun o o' j => Store.get_upd _ _ (show σ.next + 1 + 1 < (s1.upd σ.next o).next from l2) j
          try simp only [SS, argList, aPut, aFill, ↓reduceIte, Nat.reduceEqDiff, Nat.reduceAdd, Nat.reduceLeDiff, reduceCtorEq, f0, f2, RH.cs, hil', hG.sl.co, hu, hu2]
          repeat ((with_reducible first | refine AWP_seq ?_ | refine AWP_block ?_ | refine AWP_scope ?_ | refine AWP_reg ?_ | refine AWP_draw ?_ | refine AWP_skip ?_ | refine AWP_ret ?_ | refine AWP_exit ?_ | (refine AWP_cond_true ?_ ?_; · simp only [SS, argList, aPut, aFill, ↓reduceIte, Nat.reduceEqDiff, Nat.reduceAdd, Nat.reduceLeDiff, reduceCtorEq, f0, f2, RH.cs, hil', hG.sl.co, hu, hu2]) | (refine AWP_cond_false ?_ ?_; · simp only [SS, argList, aPut, aFill, ↓reduceIte, Nat.reduceEqDiff, Nat.reduceAdd, Nat.reduceLeDiff, reduceCtorEq, f0, f2, RH.cs, hil', hG.sl.co, hu, hu2])); try simp only [SS, argList, aPut, aFill, ↓reduceIte, Nat.reduceEqDiff, Nat.reduceAdd, Nat.reduceLeDiff, reduceCtorEq, f0, f2, RH.cs, hil', hG.sl.co, hu, hu2])
          have hne : ∀ j, j ∈ slIds v → s0.next ≤ j := fun j hj => hG.fresh j hj
          rw [hset]
          refine ⟨v, 51, 4, (h.l.set k (a, x)).map RC.cells, .tuple [RH.av { h with l := h.l.set k (a, x) }, .int .i64 0], hG.sl.keep fun j hj => ?_, .tuple (.cons (.agg (.cons (.refl _) (.cons .here (.cons (.refl _) .nil)))) (.cons (.refl _) .nil)),
            fun σ2 hn hg => ⟨rfl, cl _ _, by have := hG.kp.next; omega, fun id hid => ?_⟩⟩
          · have := hne j hj
            rw [hu2, if_neg (by omega), hu, if_neg (by omega)]
          · rw [hg id (fun hm => by have := hne id hm; omega), if_neg (by omega), if_neg (by omega), hG.kp.keep id (by omega), k0.keep id hid]
theorem rcollect_ok (σ : Store) (h : RH) (hl : h.l.length ≤ 1000) (C : List Cl) (hat : ∀ a, h.at a = nodeAt C a) (hcl : ∀ a x, nodeAt C a = some x → ∀ b, b ∈ x.l → (nodeAt C b).isSome = true) (hsz : ∀ a x, nodeAt C a = some x → x.l.length ≤ 1000) (roots : List Int)
    (hrl : roots.length ≤ 1000) :
    ACalls Try.prog 45 [h.av, ints roots] σ fun r σ' => (∃ (h' : RH) (n e : Int), r = .tuple [h'.av, .int .i64 n, .int .i64 e] ∧
      if h.all roots = true then ∃ o : List Int, (∀ a, a ∈ o ↔ AL.Reach C roots a) ∧ h' = { h with l := h.l.filter fun c => decide (c.1 ∈ o) } ∧ n = h.l.length - h'.l.length ∧ e = 0 else h' = h ∧ n = 0 ∧ e = 161) ∧ σ' = σ := by
  refine ACalls_pure (K := fun r => ∃ (h' : RH) (n e : Int), r = .tuple [h'.av, .int .i64 n, .int .i64 e] ∧ if h.all roots = true then ∃ o : List Int, (∀ a, a ∈ o ↔ AL.Reach C roots a) ∧ h' = { h with l := h.l.filter fun c => decide (c.1 ∈ o) } ∧ n = h.l.length - h'.l.length ∧ e = 0 else h' = h ∧ n = 0 ∧ e = 161) ?_
  refine ACalls_froze ?_
  have cl : ∀ (h : RH) (n e : Int), Cln σ.next (.tuple [h.av, .int .i64 n, .int .i64 e]) := fun h n e => Cln.tuple' fun c hc => by
    simp at hc
    rcases hc with rfl | rfl | rfl
    · exact h.cln
    · exact .int _ _
    · exact .int _ _
  have k2 : ∀ o o' : AObj, Kp σ ((σ.push o).push o') := fun o o' => ((Kp.refl σ).push o).push o'
  refine in45 (by simp) ?_
  unfold c45
  try simp only [SS, argList, aPut, aFill, ↓reduceIte, Nat.reduceEqDiff, Nat.reduceAdd, Nat.reduceLeDiff, reduceCtorEq, RH.av, RH.cs]
  repeat ((with_reducible first | refine AWP_seq ?_ | refine AWP_block ?_ | refine AWP_scope ?_ | refine AWP_reg ?_ | refine AWP_draw ?_ | refine AWP_skip ?_ | refine AWP_ret ?_ | refine AWP_exit ?_ | (refine AWP_cond_true ?_ ?_; · simp only [SS, argList, aPut, aFill, ↓reduceIte, Nat.reduceEqDiff, Nat.reduceAdd, Nat.reduceLeDiff, reduceCtorEq, RH.av, RH.cs]) | (refine AWP_cond_false ?_ ?_; · simp only [SS, argList, aPut, aFill, ↓reduceIte, Nat.reduceEqDiff, Nat.reduceAdd, Nat.reduceLeDiff, reduceCtorEq, RH.av, RH.cs])); try simp only [SS, argList, aPut, aFill, ↓reduceIte, Nat.reduceEqDiff, Nat.reduceAdd, Nat.reduceLeDiff, reduceCtorEq, RH.av, RH.cs])
  refine (rall_ok _ h (by omega) roots).mono ?_
  rintro r s ⟨rfl, rfl⟩
  cases hal : h.all roots with
  | false =>
    try simp only [SS, argList, aPut, aFill, ↓reduceIte, Nat.reduceEqDiff, Nat.reduceAdd, Nat.reduceLeDiff, reduceCtorEq, RH.cs]
    repeat ((with_reducible first | refine AWP_seq ?_ | refine AWP_block ?_ | refine AWP_scope ?_ | refine AWP_reg ?_ | refine AWP_draw ?_ | refine AWP_skip ?_ | refine AWP_ret ?_ | refine AWP_exit ?_ | (refine AWP_cond_true ?_ ?_; · simp only [SS, argList, aPut, aFill, ↓reduceIte, Nat.reduceEqDiff, Nat.reduceAdd, Nat.reduceLeDiff, reduceCtorEq, RH.cs]) | (refine AWP_cond_false ?_ ?_; · simp only [SS, argList, aPut, aFill, ↓reduceIte, Nat.reduceEqDiff, Nat.reduceAdd, Nat.reduceLeDiff, reduceCtorEq, RH.cs])); try simp only [SS, argList, aPut, aFill, ↓reduceIte, Nat.reduceEqDiff, Nat.reduceAdd, Nat.reduceLeDiff, reduceCtorEq, RH.cs])
    exact ⟨.nils, 0, 0, [], _, .nil _ _ _, .refl _, fun σ2 hn hg => ⟨⟨h, 0, 161, rfl, by simp⟩, cl _ _ _, by rw [hn]; omega, fun id hid => by rw [hg id (by simp [slIds]), if_neg (by omega), if_neg (by omega)]⟩⟩
  | true =>
    have hr : ∀ a, a ∈ roots → (nodeAt C a).isSome = true := fun a ha => by
      rw [← hat, ← idx_at]; exact (List.all_eq_true.mp hal) a ha
    try simp only [SS, argList, aPut, aFill, ↓reduceIte, Nat.reduceEqDiff, Nat.reduceAdd, Nat.reduceLeDiff, reduceCtorEq]
    repeat ((with_reducible first | refine AWP_seq ?_ | refine AWP_block ?_ | refine AWP_scope ?_ | refine AWP_reg ?_ | refine AWP_draw ?_ | refine AWP_skip ?_ | refine AWP_ret ?_ | refine AWP_exit ?_ | (refine AWP_cond_true ?_ ?_; · simp only [SS, argList, aPut, aFill, ↓reduceIte, Nat.reduceEqDiff, Nat.reduceAdd, Nat.reduceLeDiff, reduceCtorEq]) | (refine AWP_cond_false ?_ ?_; · simp only [SS, argList, aPut, aFill, ↓reduceIte, Nat.reduceEqDiff, Nat.reduceAdd, Nat.reduceLeDiff, reduceCtorEq])); try simp only [SS, argList, aPut, aFill, ↓reduceIte, Nat.reduceEqDiff, Nat.reduceAdd, Nat.reduceLeDiff, reduceCtorEq])
    refine (rreached_ok _ h hl C hat hcl hsz roots hrl hr).mono ?_
    rintro r s ⟨⟨o, rfl, hon, hol, hos⟩, rfl⟩
    try simp only [SS, argList, aPut, aFill, ↓reduceIte, Nat.reduceEqDiff, Nat.reduceAdd, Nat.reduceLeDiff, reduceCtorEq]
    repeat ((with_reducible first | refine AWP_seq ?_ | refine AWP_block ?_ | refine AWP_scope ?_ | refine AWP_reg ?_ | refine AWP_draw ?_ | refine AWP_skip ?_ | refine AWP_ret ?_ | refine AWP_exit ?_ | (refine AWP_cond_true ?_ ?_; · simp only [SS, argList, aPut, aFill, ↓reduceIte, Nat.reduceEqDiff, Nat.reduceAdd, Nat.reduceLeDiff, reduceCtorEq]) | (refine AWP_cond_false ?_ ?_; · simp only [SS, argList, aPut, aFill, ↓reduceIte, Nat.reduceEqDiff, Nat.reduceAdd, Nat.reduceLeDiff, reduceCtorEq])); try simp only [SS, argList, aPut, aFill, ↓reduceIte, Nat.reduceEqDiff, Nat.reduceAdd, Nat.reduceLeDiff, reduceCtorEq])
    generalize hs0 : Store.push _ _ = s0
    have e0 : s0.get σ.next = some (.cells 43 0 3 [h.cs]) := by rw [← hs0]; simp [Store.push_get, Store.push_next, RH.cs]; try omega
    have e2 : s0.get (σ.next + 1) = some (.cells 43 0 3 [[.int .i64 0, .nils, .int .i64 0]]) := by rw [← hs0]; simp [Store.push_get, Store.push_next]
    have n0 : s0.next = σ.next + 2 := by rw [← hs0]; simp [Store.push_next]
    have k0 : Kp σ s0 := by rw [← hs0]; exact k2 _ _
    clear hs0
    refine AWP_while [2, 4, 7, 8, 9] (fun y : AV × Nat => h.l.length - y.2) (fun y => [.ptr σ.next 0 0 0, .ptr (σ.next + 1) 0 0 0, ints o, y.1, .int .i64 y.2])
      (fun y s' => y.2 ≤ h.l.length ∧ Grow s0 s' y.1 51 4 (((h.l.take y.2).filter fun c => decide (c.1 ∈ o)).map RC.cells)) (.nils, 0) ⟨by simp, .start _ _ _⟩ ?_ ?_
    · try simp only [SS, argList, aPut, aFill, ↓reduceIte, Nat.reduceEqDiff, Nat.reduceAdd, Nat.reduceLeDiff, reduceCtorEq]
      repeat ((with_reducible first | refine AWP_seq ?_ | refine AWP_block ?_ | refine AWP_scope ?_ | refine AWP_reg ?_ | refine AWP_draw ?_ | refine AWP_skip ?_ | refine AWP_ret ?_ | refine AWP_exit ?_ | (refine AWP_cond_true ?_ ?_; · simp only [SS, argList, aPut, aFill, ↓reduceIte, Nat.reduceEqDiff, Nat.reduceAdd, Nat.reduceLeDiff, reduceCtorEq]) | (refine AWP_cond_false ?_ ?_; · simp only [SS, argList, aPut, aFill, ↓reduceIte, Nat.reduceEqDiff, Nat.reduceAdd, Nat.reduceLeDiff, reduceCtorEq])); try simp only [SS, argList, aPut, aFill, ↓reduceIte, Nat.reduceEqDiff, Nat.reduceAdd, Nat.reduceLeDiff, reduceCtorEq])
      rfl
    · rintro ⟨v, i⟩ s1 ⟨hi, hG⟩
      simp only at hi hG
      have f0 := hG.kp.get e0
      have f2 := hG.kp.get e2
      by_cases hil : i < h.l.length
      · have hil' : (i : Int) < (h.l.length : Int) := by omega
        obtain ⟨c, hc⟩ : ∃ c, h.l[i]? = some c := ⟨_, List.getElem?_eq_getElem hil⟩
        have hg : (h.l.map RC.cells)[i]? = some (RC.cells c) := by simp [hc]
        have hflen : ((h.l.take i).filter fun c => decide (c.1 ∈ o)).length ≤ 1000 := Nat.le_trans (List.length_filter_le _ _) (by simp; omega)
        try simp only [SS, argList, aPut, aFill, ↓reduceIte, Nat.reduceEqDiff, Nat.reduceAdd, Nat.reduceLeDiff, reduceCtorEq, f0, RH.cs, hil', hg, RC.cells]
        repeat ((with_reducible first | refine AWP_seq ?_ | refine AWP_block ?_ | refine AWP_scope ?_ | refine AWP_reg ?_ | refine AWP_draw ?_ | refine AWP_skip ?_ | refine AWP_ret ?_ | refine AWP_exit ?_ | (refine AWP_cond_true ?_ ?_; · simp only [SS, argList, aPut, aFill, ↓reduceIte, Nat.reduceEqDiff, Nat.reduceAdd, Nat.reduceLeDiff, reduceCtorEq, f0, RH.cs, hil', hg, RC.cells]) | (refine AWP_cond_false ?_ ?_; · simp only [SS, argList, aPut, aFill, ↓reduceIte, Nat.reduceEqDiff, Nat.reduceAdd, Nat.reduceLeDiff, reduceCtorEq, f0, RH.cs, hil', hg, RC.cells])); try simp only [SS, argList, aPut, aFill, ↓reduceIte, Nat.reduceEqDiff, Nat.reduceAdd, Nat.reduceLeDiff, reduceCtorEq, f0, RH.cs, hil', hg, RC.cells])
        refine (rhas_ok s1 (l := o) (Rds.list s1 (by simp)) (by omega) c.1).mono ?_
        rintro r s ⟨rfl, rfl⟩
        by_cases hco : c.1 ∈ o
        · try simp only [SS, argList, aPut, aFill, ↓reduceIte, Nat.reduceEqDiff, Nat.reduceAdd, Nat.reduceLeDiff, reduceCtorEq, hco, f0, RH.cs, hil', hg, RC.cells]
          repeat ((with_reducible first | refine AWP_seq ?_ | refine AWP_block ?_ | refine AWP_scope ?_ | refine AWP_reg ?_ | refine AWP_draw ?_ | refine AWP_skip ?_ | refine AWP_ret ?_ | refine AWP_exit ?_ | (refine AWP_cond_true ?_ ?_; · simp only [SS, argList, aPut, aFill, ↓reduceIte, Nat.reduceEqDiff, Nat.reduceAdd, Nat.reduceLeDiff, reduceCtorEq, hco, f0, RH.cs, hil', hg, RC.cells]) | (refine AWP_cond_false ?_ ?_; · simp only [SS, argList, aPut, aFill, ↓reduceIte, Nat.reduceEqDiff, Nat.reduceAdd, Nat.reduceLeDiff, reduceCtorEq, hco, f0, RH.cs, hil', hg, RC.cells])); try simp only [SS, argList, aPut, aFill, ↓reduceIte, Nat.reduceEqDiff, Nat.reduceAdd, Nat.reduceLeDiff, reduceCtorEq, hco, f0, RH.cs, hil', hg, RC.cells])
          refine ok_grow hG (by simp) (by simp; omega) (by simp [maxLen]; omega) ?_
          intro v' s' hG' hkeep hnx
          try simp only [SS, argList, aPut, aFill, ↓reduceIte, Nat.reduceEqDiff, Nat.reduceAdd, Nat.reduceLeDiff, reduceCtorEq, wrap_succ (i := i) (by omega)]
          repeat ((with_reducible first | refine AWP_seq ?_ | refine AWP_block ?_ | refine AWP_scope ?_ | refine AWP_reg ?_ | refine AWP_draw ?_ | refine AWP_skip ?_ | refine AWP_ret ?_ | refine AWP_exit ?_ | (refine AWP_cond_true ?_ ?_; · simp only [SS, argList, aPut, aFill, ↓reduceIte, Nat.reduceEqDiff, Nat.reduceAdd, Nat.reduceLeDiff, reduceCtorEq, wrap_succ (i := i) (by omega)]) | (refine AWP_cond_false ?_ ?_; · simp only [SS, argList, aPut, aFill, ↓reduceIte, Nat.reduceEqDiff, Nat.reduceAdd, Nat.reduceLeDiff, reduceCtorEq, wrap_succ (i := i) (by omega)])); try simp only [SS, argList, aPut, aFill, ↓reduceIte, Nat.reduceEqDiff, Nat.reduceAdd, Nat.reduceLeDiff, reduceCtorEq, wrap_succ (i := i) (by omega)])
          refine ⟨⟨v', i + 1⟩, rfl, ⟨by simp only; omega, ?_⟩, by simp only; omega⟩
          have : ((h.l.take (i + 1)).filter fun c => decide (c.1 ∈ o)).map RC.cells = ((h.l.take i).filter fun c => decide (c.1 ∈ o)).map RC.cells ++ [RC.cells c] := by rw [List.take_add_one, hc, List.filter_append]; simp [hco]
          simp only [this]; exact hG'
        · try simp only [SS, argList, aPut, aFill, ↓reduceIte, Nat.reduceEqDiff, Nat.reduceAdd, Nat.reduceLeDiff, reduceCtorEq, hco, wrap_succ (i := i) (by omega)]
          repeat ((with_reducible first | refine AWP_seq ?_ | refine AWP_block ?_ | refine AWP_scope ?_ | refine AWP_reg ?_ | refine AWP_draw ?_ | refine AWP_skip ?_ | refine AWP_ret ?_ | refine AWP_exit ?_ | (refine AWP_cond_true ?_ ?_; · simp only [SS, argList, aPut, aFill, ↓reduceIte, Nat.reduceEqDiff, Nat.reduceAdd, Nat.reduceLeDiff, reduceCtorEq, hco, wrap_succ (i := i) (by omega)]) | (refine AWP_cond_false ?_ ?_; · simp only [SS, argList, aPut, aFill, ↓reduceIte, Nat.reduceEqDiff, Nat.reduceAdd, Nat.reduceLeDiff, reduceCtorEq, hco, wrap_succ (i := i) (by omega)])); try simp only [SS, argList, aPut, aFill, ↓reduceIte, Nat.reduceEqDiff, Nat.reduceAdd, Nat.reduceLeDiff, reduceCtorEq, hco, wrap_succ (i := i) (by omega)])
          refine ⟨⟨v, i + 1⟩, rfl, ⟨by simp only; omega, ?_⟩, by simp only; omega⟩
          have : (h.l.take (i + 1)).filter (fun c => decide (c.1 ∈ o)) = (h.l.take i).filter fun c => decide (c.1 ∈ o) := by rw [List.take_add_one, hc, List.filter_append]; simp [hco]
          simp only [this]; exact hG
      · have hil' : ¬ (i : Int) < (h.l.length : Int) := by omega
        rw [List.take_of_length_le (by omega)] at hG
        have l0 : σ.next < s1.next := by have := hG.kp.next; omega
        have l2 : σ.next + 1 < s1.next := by have := hG.kp.next; omega
        have hu : ∀ (o : AObj) (j : Nat), (s1.upd σ.next o).get j = if j = σ.next then some o else s1.get j := fun o j => Store.get_upd _ _ l0 j
        have hu2 : ∀ (o o' : AObj) (j : Nat), ((s1.upd σ.next o).upd (σ.next + 1) o').get j = if j = σ.next + 1 then some o' else (s1.upd σ.next o).get j := fun o o' j => Store.get_upd _ _ (show σ.next + 1 < (s1.upd σ.next o).next from l2) j
        have hlen := hG.sl.rds.len
        simp only [List.length_map] at hlen
        have hfl := List.length_filter_le (fun c => decide (c.1 ∈ o)) h.l
        have hw : IntKind.i64.wrap ((h.l.length : Int) - ((h.l.filter fun c => decide (c.1 ∈ o)).length : Int)) = (h.l.length : Int) - ((h.l.filter fun c => decide (c.1 ∈ o)).length : Int) := wrap_of (by omega) (by omega)
        try simp only [SS, argList, aPut, aFill, ↓reduceIte, Nat.reduceEqDiff, Nat.reduceAdd, Nat.reduceLeDiff, reduceCtorEq, f0, f2, RH.cs, hil', hG.sl.co, hu, hu2, hlen, hw]
        repeat ((with_reducible first | refine AWP_seq ?_ | refine AWP_block ?_ | refine AWP_scope ?_ | refine AWP_reg ?_ | refine AWP_draw ?_ | refine AWP_skip ?_ | refine AWP_ret ?_ | refine AWP_exit ?_ | (refine AWP_cond_true ?_ ?_; · simp only [SS, argList, aPut, aFill, ↓reduceIte, Nat.reduceEqDiff, Nat.reduceAdd, Nat.reduceLeDiff, reduceCtorEq, f0, f2, RH.cs, hil', hG.sl.co, hu, hu2, hlen, hw]) | (refine AWP_cond_false ?_ ?_; · simp only [SS, argList, aPut, aFill, ↓reduceIte, Nat.reduceEqDiff, Nat.reduceAdd, Nat.reduceLeDiff, reduceCtorEq, f0, f2, RH.cs, hil', hG.sl.co, hu, hu2, hlen, hw])); try simp only [SS, argList, aPut, aFill, ↓reduceIte, Nat.reduceEqDiff, Nat.reduceAdd, Nat.reduceLeDiff, reduceCtorEq, f0, f2, RH.cs, hil', hG.sl.co, hu, hu2, hlen, hw])
        have hne : ∀ j, j ∈ slIds v → s0.next ≤ j := fun j hj => hG.fresh j hj
        refine ⟨v, 51, 4, _, .tuple [RH.av { h with l := h.l.filter fun c => decide (c.1 ∈ o) }, .int .i64 _, .int .i64 0], hG.sl.keep fun j hj => ?_, .tuple (.cons (.agg (.cons (.refl _) (.cons .here (.cons (.refl _) .nil)))) (.cons (.refl _) (.cons (.refl _) .nil))),
            fun σ2 hn hg => ⟨⟨_, _, 0, rfl, o, hos, rfl, rfl, rfl⟩, cl _ _ _, by have := hG.kp.next; omega, fun id hid => ?_⟩⟩
        · have := hne j hj
          rw [hu2, if_neg (by omega), hu, if_neg (by omega)]
        · rw [hg id (fun hm => by have := hne id hm; omega), if_neg (by omega), if_neg (by omega), hG.kp.keep id (by omega), k0.keep id hid]
end Go.Proofs.Ytoejjhehpbmgbaa
