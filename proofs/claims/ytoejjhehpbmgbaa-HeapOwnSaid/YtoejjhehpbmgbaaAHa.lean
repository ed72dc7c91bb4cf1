/- The heap's small functions: what made, has, all and own answer. -/
import Derived.Test.YtoejjhehpbmgbaaAHm
set_option linter.unusedVariables false
set_option linter.unusedSimpArgs false
namespace Go.Proofs.Ytoejjhehpbmgbaa
open Go.AL

theorem made_ok {id : Nat} {σ : Store} {cs fs : AV} {H : Hp} (hH : HeapAt σ id cs fs H) :
    ACalls Try.prog 37 [.ptr id 0 0 0] σ fun r σ' => r = .bool (decide (0 < H.cap)) ∧ σ' = σ := by
  refine in37 (by simp) ?_
  unfold c37
  refine AWP_seq (AWP_reg ?_)
  simp only [S, argList, aPut, aFill, ↓reduceIte, Nat.reduceEqDiff, Nat.reduceAdd, Nat.reduceLeDiff, reduceCtorEq]
  refine AWP_seq (AWP_reg ?_)
  simp only [S, argList, aPut, aFill, ↓reduceIte, Nat.reduceEqDiff, Nat.reduceAdd, Nat.reduceLeDiff, reduceCtorEq, hH.hd]
  refine AWP_ret ?_
  simp only [S, argList, aPut, aFill, ↓reduceIte, Nat.reduceEqDiff, Nat.reduceAdd, Nat.reduceLeDiff, reduceCtorEq]
theorem made_nil (σ : Store) :
    ACalls Try.prog 37 [.nilp] σ fun r σ' => r = .bool false ∧ σ' = σ := by
  refine in37 (by simp) ?_
  unfold c37
  refine AWP_seq (AWP_reg ?_)
  simp only [S, argList, aPut, aFill, ↓reduceIte, Nat.reduceEqDiff, Nat.reduceAdd, Nat.reduceLeDiff, reduceCtorEq]
  refine AWP_seq (AWP_reg ?_)
  simp only [S, argList, aPut, aFill, ↓reduceIte, Nat.reduceEqDiff, Nat.reduceAdd, Nat.reduceLeDiff, reduceCtorEq]
  refine AWP_ret ?_
  simp only [S, argList, aPut, aFill, ↓reduceIte, Nat.reduceEqDiff, Nat.reduceAdd, Nat.reduceLeDiff, reduceCtorEq]

theorem has_ok {id : Nat} {σ : Store} {cs fs : AV} {H : Hp} (hH : HeapAt σ id cs fs H) (a : Int) :
    ACalls Try.prog 42 [.ptr id 0 0 0, .int .i64 a] σ fun r σ' => r = .bool (H.has a) ∧ σ' = σ := by
  refine in42 (by simp) ?_
  unfold c42
  refine AWP_seq (AWP_reg ?_)
  simp only [S, argList, aPut, aFill, ↓reduceIte, Nat.reduceEqDiff, Nat.reduceAdd, Nat.reduceLeDiff, reduceCtorEq]
  refine AWP_seq (AWP_reg ?_)
  by_cases h : 0 ≤ a
  · by_cases h2 : a < H.cells.length
    · have hi : a.toNat < H.cells.length := by omega
      obtain ⟨cid, ver, es', rfl, hc⟩ := hH.cs.own (by intro e; simp at e; simp [e] at hi)
      obtain ⟨c, hcc⟩ : ∃ c, H.cells[a.toNat]? = some c := ⟨_, List.getElem?_eq_getElem hi⟩
      have hg : (H.cells.map Cl.cells ++ es')[a.toNat]? = some (Cl.cells c) := by rw [List.getElem?_append_left (by simpa using hi)]; simp [hcc]
      rw [Hp.has_of h hcc]
      rcases c with ⟨_ | x, m⟩ <;> (
        simp only [S, argList, aPut, aFill, ↓reduceIte, Nat.reduceEqDiff, Nat.reduceAdd, Nat.reduceLeDiff, reduceCtorEq, hH.hd, hc, h, h2, decide_true, List.length_map, Nat.zero_add, hg, Cl.cells]
        refine AWP_ret ?_
        simp only [S, argList, aPut, aFill, ↓reduceIte, Nat.reduceEqDiff, Nat.reduceAdd, Nat.reduceLeDiff, reduceCtorEq, Option.isSome])
    · simp only [S, argList, aPut, aFill, ↓reduceIte, Nat.reduceEqDiff, Nat.reduceAdd, Nat.reduceLeDiff, reduceCtorEq, hH.hd, hH.cs.len, h, h2, decide_true, decide_false, List.length_map]
      refine AWP_ret ?_
      simp only [S, argList, aPut, aFill, ↓reduceIte, Nat.reduceEqDiff, Nat.reduceAdd, Nat.reduceLeDiff, reduceCtorEq]
      have : ¬ a.toNat < H.cells.length := by omega
      simp [Hp.has, Hp.at, h, this]
  · simp only [S, argList, aPut, aFill, ↓reduceIte, Nat.reduceEqDiff, Nat.reduceAdd, Nat.reduceLeDiff, reduceCtorEq, h, decide_false]
    refine AWP_ret ?_
    simp only [S, argList, aPut, aFill, ↓reduceIte, Nat.reduceEqDiff, Nat.reduceAdd, Nat.reduceLeDiff, reduceCtorEq]
    simp [Hp.has, Hp.at, h]

theorem all_take {H : Hp} {l : List Int} {i : Nat} {x : Int} (hx : l[i]? = some x) (h : (l.take i).all H.has = true) (hx2 : H.has x = true) : (l.take (i + 1)).all H.has = true := by
  rw [List.take_add_one, hx]; simp at h ⊢
  exact ⟨h, hx2⟩
theorem all_false {H : Hp} {l : List Int} {i : Nat} {x : Int} (hx : l[i]? = some x) (hx2 : H.has x = false) : H.all l = false := by
  simp only [Hp.all, List.all_eq_false]
  exact ⟨x, List.mem_of_getElem? hx, by simp [hx2]⟩

theorem all_ok {id : Nat} {σ : Store} {cs fs : AV} {H : Hp} (hH : HeapAt σ id cs fs H) (l : List Int) :
    ACalls Try.prog 38 [.ptr id 0 0 0, ints l] σ fun r σ' => r = .bool (H.all l) ∧ σ' = σ := by
  refine ACalls_len (j := 1) rfl fun hlen => ?_
  simp only [List.length_map, maxLen] at hlen
  refine in38 (by simp) ?_
  unfold c38
  refine AWP_seq (AWP_reg ?_)
  simp only [S, argList, aPut, aFill, ↓reduceIte, Nat.reduceEqDiff, Nat.reduceAdd, Nat.reduceLeDiff, reduceCtorEq]
  refine AWP_seq (AWP_seq (AWP_reg ?_))
  simp only [S, argList, aPut, aFill, ↓reduceIte, Nat.reduceEqDiff, Nat.reduceAdd, Nat.reduceLeDiff, reduceCtorEq, ints, List.length_map]
  refine AWP_block (AWP_while [0, 7, 8, 9] (fun i : Nat => l.length - i) (fun i => [.ptr id 0 0 0, ints l, .int .i64 l.length, .int .i64 i])
    (fun i s => s = σ ∧ i ≤ l.length ∧ (l.take i).all H.has = true) 0 ⟨rfl, by omega, by simp⟩ ?_ ?_)
  · simp only [S, argList, aPut, aFill, ↓reduceIte, Nat.reduceEqDiff, Nat.reduceAdd, Nat.reduceLeDiff, reduceCtorEq, ints]; rfl
  · rintro i s ⟨rfl, hi, hall⟩
    simp only [List.zip_cons_cons, List.zip_nil_right]
    refine AWP_seq (AWP_reg ?_)
    simp only [S, argList, aPut, aFill, ↓reduceIte, Nat.reduceEqDiff, Nat.reduceAdd, Nat.reduceLeDiff, reduceCtorEq]
    refine AWP_seq ?_
    by_cases h : i < l.length
    · refine AWP_cond_true (by simp only [S, argList, aPut, aFill, ↓reduceIte, Nat.reduceEqDiff, Nat.reduceAdd, Nat.reduceLeDiff, reduceCtorEq]; simp; exact h) (AWP_skip ?_)
      simp only [S, argList, aPut, aFill, ↓reduceIte, Nat.reduceEqDiff, Nat.reduceAdd, Nat.reduceLeDiff, reduceCtorEq]
      obtain ⟨x, hx⟩ : ∃ x, l[i]? = some x := ⟨_, List.getElem?_eq_getElem h⟩
      refine AWP_seq (AWP_block (AWP_seq (AWP_reg ?_)))
      simp only [S, argList, aPut, aFill, ↓reduceIte, Nat.reduceEqDiff, Nat.reduceAdd, Nat.reduceLeDiff, reduceCtorEq, ints, Int.natCast_nonneg, Int.toNat_natCast, List.getElem?_map, hx, Option.map_some]
      refine AWP_seq (AWP_reg ?_)
      simp only [S, argList, aPut, aFill, ↓reduceIte, Nat.reduceEqDiff, Nat.reduceAdd, Nat.reduceLeDiff, reduceCtorEq]
      refine (has_ok hH x).mono ?_
      rintro r s ⟨rfl, rfl⟩
      simp only [S, argList, aPut, aFill, ↓reduceIte, Nat.reduceEqDiff, Nat.reduceAdd, Nat.reduceLeDiff, reduceCtorEq]
      cases hx2 : H.has x with
      | false =>
        refine AWP_cond_true (by simp only [S, argList, aPut, aFill, ↓reduceIte, Nat.reduceEqDiff, Nat.reduceAdd, Nat.reduceLeDiff, reduceCtorEq]) ?_
        refine AWP_seq (AWP_reg ?_)
        simp only [S, argList, aPut, aFill, ↓reduceIte, Nat.reduceEqDiff, Nat.reduceAdd, Nat.reduceLeDiff, reduceCtorEq]
        refine AWP_ret ?_
        simp only [S, argList, aPut, aFill, ↓reduceIte, Nat.reduceEqDiff, Nat.reduceAdd, Nat.reduceLeDiff, reduceCtorEq]
        simp [all_false hx hx2]
      | true =>
        refine AWP_cond_false (by simp only [S, argList, aPut, aFill, ↓reduceIte, Nat.reduceEqDiff, Nat.reduceAdd, Nat.reduceLeDiff, reduceCtorEq]) (AWP_skip ?_)
        simp only [S, argList, aPut, aFill, ↓reduceIte, Nat.reduceEqDiff, Nat.reduceAdd, Nat.reduceLeDiff, reduceCtorEq]
        refine AWP_reg ?_
        simp only [S, argList, aPut, aFill, ↓reduceIte, Nat.reduceEqDiff, Nat.reduceAdd, Nat.reduceLeDiff, reduceCtorEq]
        refine ⟨i + 1, ?_, ⟨by omega, all_take hx hall hx2⟩, by omega⟩
        rw [wrap_of (by omega) (by omega)]; rfl
    · refine AWP_cond_false (by simp only [S, argList, aPut, aFill, ↓reduceIte, Nat.reduceEqDiff, Nat.reduceAdd, Nat.reduceLeDiff, reduceCtorEq]; simp; omega) (AWP_exit ?_)
      simp only [S, argList, aPut, aFill, ↓reduceIte, Nat.reduceEqDiff, Nat.reduceAdd, Nat.reduceLeDiff, reduceCtorEq]
      have : i = l.length := by omega
      subst this
      refine AWP_seq (AWP_reg ?_)
      simp only [S, argList, aPut, aFill, ↓reduceIte, Nat.reduceEqDiff, Nat.reduceAdd, Nat.reduceLeDiff, reduceCtorEq]
      refine AWP_ret ?_
      simp only [S, argList, aPut, aFill, ↓reduceIte, Nat.reduceEqDiff, Nat.reduceAdd, Nat.reduceLeDiff, reduceCtorEq]
      simp [Hp.all] at hall ⊢
      exact hall

theorem Nd.cln {n : Nat} (x : Nd) : Cln n (.agg x.cells) := by
  refine .agg' ?_
  intro c hc
  simp [Nd.cells] at hc
  rcases hc with rfl | rfl | rfl
  · exact .int _ _
  · exact .int _ _
  · refine .list' fun e he c hc => ?_
    simp at he
    obtain ⟨y, _, rfl⟩ := he
    simp at hc; subst hc; exact .int _ _
/-- `own` answers the same node. -/
theorem own_ok (σ : Store) (x : Nd) (hb : x.l.length * 8 ≤ 140737488355328) :
    ACalls Try.prog 39 [.agg x.cells] σ fun r σ' => r = .agg x.cells ∧ σ' = σ := by
  refine ACalls_pure (K := fun r => r = .agg x.cells) ?_
  refine in39 (by simp) ?_
  unfold c39
  refine AWP_seq (AWP_reg ?_)
  simp only [S, argList, aPut, aFill, ↓reduceIte, Nat.reduceEqDiff, Nat.reduceAdd, Nat.reduceLeDiff, reduceCtorEq, Nd.cells]
  refine AWP_seq (AWP_reg ?_)
  simp only [S, argList, aPut, aFill, ↓reduceIte, Nat.reduceEqDiff, Nat.reduceAdd, Nat.reduceLeDiff, reduceCtorEq]
  refine AWP_seq (AWP_reg ?_)
  simp only [S, argList, aPut, aFill, ↓reduceIte, Nat.reduceEqDiff, Nat.reduceAdd, Nat.reduceLeDiff, reduceCtorEq, ints, lt_ne (Nat.lt_succ_self σ.next)]
  refine ok_app (SliceAt.nil _ 3 1) (by simp) (by simpa using hb) (by simp [maxLen]; omega) ?_
  intro v s hS hF
  simp only [S, argList, aPut, aFill, ↓reduceIte, Nat.reduceEqDiff, Nat.reduceAdd, Nat.reduceLeDiff, reduceCtorEq]
  refine AWP_frozen 3 (by simp only [S, argList, aPut, aFill, ↓reduceIte, Nat.reduceEqDiff, Nat.reduceAdd, Nat.reduceLeDiff, reduceCtorEq]) hS ?_
  intro σ2 hn hk
  have hN := hF.next
  simp only [Store.push_next] at hN
  have hv : ∀ i, i < σ.next + 2 → i ∉ slIds v := fun i hi hm => by
    have := hF.fresh i hm
    simp [slIds, Store.push_next] at this; omega
  have hg : ∀ i, i < σ.next + 2 → σ2.get i = _ := fun i hi => by
    rw [hk i (hv i hi), hF.keep i (by simp only [Store.push_next]; omega) (by simp [slIds])]
  have e1 := hg σ.next (by omega)
  have e2 := hg (σ.next + 1) (by omega)
  simp only [Store.push_get, Store.push_next, lt_ne (Nat.lt_succ_self σ.next), if_true, if_false] at e1 e2
  have l1 : σ.next < σ2.next := by omega
  have l2 : σ.next + 1 < σ2.next := by omega
  have hne : σ.next ≠ σ.next + 1 := by omega
  simp only [S, argList, aPut, aFill, ↓reduceIte, Nat.reduceEqDiff, Nat.reduceAdd, Nat.reduceLeDiff, reduceCtorEq]
  refine AWP_seq (AWP_reg ?_)
  simp only [S, argList, aPut, aFill, ↓reduceIte, Nat.reduceEqDiff, Nat.reduceAdd, Nat.reduceLeDiff, reduceCtorEq, e1, aPut, List.take, List.drop, List.cons_append, List.nil_append, List.set_cons_zero, Nat.lt_irrefl, Nat.le_refl]
  refine AWP_seq (AWP_reg ?_)
  simp only [S, argList, aPut, aFill, ↓reduceIte, Nat.reduceEqDiff, Nat.reduceAdd, Nat.reduceLeDiff, reduceCtorEq, Store.get_upd _ _ l1, e2, Nat.succ_ne_self, aPut, List.take, List.drop, List.append_nil, List.cons_append, List.nil_append, List.set_cons_zero, Nat.lt_irrefl, Nat.le_refl]
  refine AWP_ret ?_
  have l3 : ∀ o, σ.next + 1 < (σ2.upd σ.next o).next := fun o => l2
  simp only [S, argList, aPut, aFill, ↓reduceIte, Nat.reduceEqDiff, Nat.reduceAdd, Nat.reduceLeDiff, reduceCtorEq, Store.get_upd _ _ l1, Store.get_upd _ _ (l3 _), List.take, List.drop, ints]
  refine ⟨Nd.cln x, by omega, fun i hi => ?_⟩
  · rw [if_neg (by omega), if_neg (by omega), hg i (by omega)]
    simp only [Store.push_get, Store.push_next]
    rw [if_neg (by omega), if_neg (by omega)]

theorem live_ok {id : Nat} {σ : Store} {cs fs : AV} {H : Hp} (hH : HeapAt σ id cs fs H) (hc : 0 < H.cap) :
    ACalls Try.prog 21 [.ptr id 0 0 0] σ fun r σ' => r = .int .i64 H.live ∧ σ' = σ := by
  refine in21 (by simp) ?_
  unfold c21
  try simp only [S, argList, aPut, aFill, ↓reduceIte, Nat.reduceEqDiff, Nat.reduceAdd, Nat.reduceLeDiff, reduceCtorEq]
  repeat ((with_reducible first | refine AWP_seq ?_ | refine AWP_block ?_ | refine AWP_scope ?_ | refine AWP_reg ?_ | refine AWP_draw ?_ | refine AWP_skip ?_ | refine AWP_ret ?_ | refine AWP_exit ?_ | (refine AWP_cond_true ?_ ?_; · simp only [S, argList, aPut, aFill, ↓reduceIte, Nat.reduceEqDiff, Nat.reduceAdd, Nat.reduceLeDiff, reduceCtorEq]) | (refine AWP_cond_false ?_ ?_; · simp only [S, argList, aPut, aFill, ↓reduceIte, Nat.reduceEqDiff, Nat.reduceAdd, Nat.reduceLeDiff, reduceCtorEq])); try simp only [S, argList, aPut, aFill, ↓reduceIte, Nat.reduceEqDiff, Nat.reduceAdd, Nat.reduceLeDiff, reduceCtorEq])
  refine (made_ok hH).mono ?_
  rintro r s ⟨rfl, rfl⟩
  simp only [S, argList, aPut, aFill, ↓reduceIte, Nat.reduceEqDiff, Nat.reduceAdd, Nat.reduceLeDiff, reduceCtorEq]
  try simp only [S, argList, aPut, aFill, ↓reduceIte, Nat.reduceEqDiff, Nat.reduceAdd, Nat.reduceLeDiff, reduceCtorEq, hc, hH.hd]
  repeat ((with_reducible first | refine AWP_seq ?_ | refine AWP_block ?_ | refine AWP_scope ?_ | refine AWP_reg ?_ | refine AWP_draw ?_ | refine AWP_skip ?_ | refine AWP_ret ?_ | refine AWP_exit ?_ | (refine AWP_cond_true ?_ ?_; · simp only [S, argList, aPut, aFill, ↓reduceIte, Nat.reduceEqDiff, Nat.reduceAdd, Nat.reduceLeDiff, reduceCtorEq, hc, hH.hd]) | (refine AWP_cond_false ?_ ?_; · simp only [S, argList, aPut, aFill, ↓reduceIte, Nat.reduceEqDiff, Nat.reduceAdd, Nat.reduceLeDiff, reduceCtorEq, hc, hH.hd])); try simp only [S, argList, aPut, aFill, ↓reduceIte, Nat.reduceEqDiff, Nat.reduceAdd, Nat.reduceLeDiff, reduceCtorEq, hc, hH.hd])
theorem live_nil (σ : Store) : ACalls Try.prog 21 [.nilp] σ fun r σ' => r = .int .i64 0 ∧ σ' = σ := by
  refine in21 (by simp) ?_
  unfold c21
  try simp only [S, argList, aPut, aFill, ↓reduceIte, Nat.reduceEqDiff, Nat.reduceAdd, Nat.reduceLeDiff, reduceCtorEq]
  repeat ((with_reducible first | refine AWP_seq ?_ | refine AWP_block ?_ | refine AWP_scope ?_ | refine AWP_reg ?_ | refine AWP_draw ?_ | refine AWP_skip ?_ | refine AWP_ret ?_ | refine AWP_exit ?_ | (refine AWP_cond_true ?_ ?_; · simp only [S, argList, aPut, aFill, ↓reduceIte, Nat.reduceEqDiff, Nat.reduceAdd, Nat.reduceLeDiff, reduceCtorEq]) | (refine AWP_cond_false ?_ ?_; · simp only [S, argList, aPut, aFill, ↓reduceIte, Nat.reduceEqDiff, Nat.reduceAdd, Nat.reduceLeDiff, reduceCtorEq])); try simp only [S, argList, aPut, aFill, ↓reduceIte, Nat.reduceEqDiff, Nat.reduceAdd, Nat.reduceLeDiff, reduceCtorEq])
  refine (made_nil σ).mono ?_
  rintro r s ⟨rfl, rfl⟩
  simp only [S, argList, aPut, aFill, ↓reduceIte, Nat.reduceEqDiff, Nat.reduceAdd, Nat.reduceLeDiff, reduceCtorEq]
  try simp only [S, argList, aPut, aFill, ↓reduceIte, Nat.reduceEqDiff, Nat.reduceAdd, Nat.reduceLeDiff, reduceCtorEq]
  repeat ((with_reducible first | refine AWP_seq ?_ | refine AWP_block ?_ | refine AWP_scope ?_ | refine AWP_reg ?_ | refine AWP_draw ?_ | refine AWP_skip ?_ | refine AWP_ret ?_ | refine AWP_exit ?_ | (refine AWP_cond_true ?_ ?_; · simp only [S, argList, aPut, aFill, ↓reduceIte, Nat.reduceEqDiff, Nat.reduceAdd, Nat.reduceLeDiff, reduceCtorEq]) | (refine AWP_cond_false ?_ ?_; · simp only [S, argList, aPut, aFill, ↓reduceIte, Nat.reduceEqDiff, Nat.reduceAdd, Nat.reduceLeDiff, reduceCtorEq])); try simp only [S, argList, aPut, aFill, ↓reduceIte, Nat.reduceEqDiff, Nat.reduceAdd, Nat.reduceLeDiff, reduceCtorEq])
theorem cap_ok {id : Nat} {σ : Store} {cs fs : AV} {H : Hp} (hH : HeapAt σ id cs fs H) (hc : 0 < H.cap) :
    ACalls Try.prog 22 [.ptr id 0 0 0] σ fun r σ' => r = .int .i64 H.cap ∧ σ' = σ := by
  refine in22 (by simp) ?_
  unfold c22
  try simp only [S, argList, aPut, aFill, ↓reduceIte, Nat.reduceEqDiff, Nat.reduceAdd, Nat.reduceLeDiff, reduceCtorEq]
  repeat ((with_reducible first | refine AWP_seq ?_ | refine AWP_block ?_ | refine AWP_scope ?_ | refine AWP_reg ?_ | refine AWP_draw ?_ | refine AWP_skip ?_ | refine AWP_ret ?_ | refine AWP_exit ?_ | (refine AWP_cond_true ?_ ?_; · simp only [S, argList, aPut, aFill, ↓reduceIte, Nat.reduceEqDiff, Nat.reduceAdd, Nat.reduceLeDiff, reduceCtorEq]) | (refine AWP_cond_false ?_ ?_; · simp only [S, argList, aPut, aFill, ↓reduceIte, Nat.reduceEqDiff, Nat.reduceAdd, Nat.reduceLeDiff, reduceCtorEq])); try simp only [S, argList, aPut, aFill, ↓reduceIte, Nat.reduceEqDiff, Nat.reduceAdd, Nat.reduceLeDiff, reduceCtorEq])
  refine (made_ok hH).mono ?_
  rintro r s ⟨rfl, rfl⟩
  simp only [S, argList, aPut, aFill, ↓reduceIte, Nat.reduceEqDiff, Nat.reduceAdd, Nat.reduceLeDiff, reduceCtorEq]
  try simp only [S, argList, aPut, aFill, ↓reduceIte, Nat.reduceEqDiff, Nat.reduceAdd, Nat.reduceLeDiff, reduceCtorEq, hc, hH.hd]
  repeat ((with_reducible first | refine AWP_seq ?_ | refine AWP_block ?_ | refine AWP_scope ?_ | refine AWP_reg ?_ | refine AWP_draw ?_ | refine AWP_skip ?_ | refine AWP_ret ?_ | refine AWP_exit ?_ | (refine AWP_cond_true ?_ ?_; · simp only [S, argList, aPut, aFill, ↓reduceIte, Nat.reduceEqDiff, Nat.reduceAdd, Nat.reduceLeDiff, reduceCtorEq, hc, hH.hd]) | (refine AWP_cond_false ?_ ?_; · simp only [S, argList, aPut, aFill, ↓reduceIte, Nat.reduceEqDiff, Nat.reduceAdd, Nat.reduceLeDiff, reduceCtorEq, hc, hH.hd])); try simp only [S, argList, aPut, aFill, ↓reduceIte, Nat.reduceEqDiff, Nat.reduceAdd, Nat.reduceLeDiff, reduceCtorEq, hc, hH.hd])
theorem cap_nil (σ : Store) : ACalls Try.prog 22 [.nilp] σ fun r σ' => r = .int .i64 0 ∧ σ' = σ := by
  refine in22 (by simp) ?_
  unfold c22
  try simp only [S, argList, aPut, aFill, ↓reduceIte, Nat.reduceEqDiff, Nat.reduceAdd, Nat.reduceLeDiff, reduceCtorEq]
  repeat ((with_reducible first | refine AWP_seq ?_ | refine AWP_block ?_ | refine AWP_scope ?_ | refine AWP_reg ?_ | refine AWP_draw ?_ | refine AWP_skip ?_ | refine AWP_ret ?_ | refine AWP_exit ?_ | (refine AWP_cond_true ?_ ?_; · simp only [S, argList, aPut, aFill, ↓reduceIte, Nat.reduceEqDiff, Nat.reduceAdd, Nat.reduceLeDiff, reduceCtorEq]) | (refine AWP_cond_false ?_ ?_; · simp only [S, argList, aPut, aFill, ↓reduceIte, Nat.reduceEqDiff, Nat.reduceAdd, Nat.reduceLeDiff, reduceCtorEq])); try simp only [S, argList, aPut, aFill, ↓reduceIte, Nat.reduceEqDiff, Nat.reduceAdd, Nat.reduceLeDiff, reduceCtorEq])
  refine (made_nil σ).mono ?_
  rintro r s ⟨rfl, rfl⟩
  simp only [S, argList, aPut, aFill, ↓reduceIte, Nat.reduceEqDiff, Nat.reduceAdd, Nat.reduceLeDiff, reduceCtorEq]
  try simp only [S, argList, aPut, aFill, ↓reduceIte, Nat.reduceEqDiff, Nat.reduceAdd, Nat.reduceLeDiff, reduceCtorEq]
  repeat ((with_reducible first | refine AWP_seq ?_ | refine AWP_block ?_ | refine AWP_scope ?_ | refine AWP_reg ?_ | refine AWP_draw ?_ | refine AWP_skip ?_ | refine AWP_ret ?_ | refine AWP_exit ?_ | (refine AWP_cond_true ?_ ?_; · simp only [S, argList, aPut, aFill, ↓reduceIte, Nat.reduceEqDiff, Nat.reduceAdd, Nat.reduceLeDiff, reduceCtorEq]) | (refine AWP_cond_false ?_ ?_; · simp only [S, argList, aPut, aFill, ↓reduceIte, Nat.reduceEqDiff, Nat.reduceAdd, Nat.reduceLeDiff, reduceCtorEq])); try simp only [S, argList, aPut, aFill, ↓reduceIte, Nat.reduceEqDiff, Nat.reduceAdd, Nat.reduceLeDiff, reduceCtorEq])
theorem allocs_ok {id : Nat} {σ : Store} {cs fs : AV} {H : Hp} (hH : HeapAt σ id cs fs H) (hc : 0 < H.cap) :
    ACalls Try.prog 23 [.ptr id 0 0 0] σ fun r σ' => r = .int .i64 H.allocs ∧ σ' = σ := by
  refine in23 (by simp) ?_
  unfold c23
  try simp only [S, argList, aPut, aFill, ↓reduceIte, Nat.reduceEqDiff, Nat.reduceAdd, Nat.reduceLeDiff, reduceCtorEq]
  repeat ((with_reducible first | refine AWP_seq ?_ | refine AWP_block ?_ | refine AWP_scope ?_ | refine AWP_reg ?_ | refine AWP_draw ?_ | refine AWP_skip ?_ | refine AWP_ret ?_ | refine AWP_exit ?_ | (refine AWP_cond_true ?_ ?_; · simp only [S, argList, aPut, aFill, ↓reduceIte, Nat.reduceEqDiff, Nat.reduceAdd, Nat.reduceLeDiff, reduceCtorEq]) | (refine AWP_cond_false ?_ ?_; · simp only [S, argList, aPut, aFill, ↓reduceIte, Nat.reduceEqDiff, Nat.reduceAdd, Nat.reduceLeDiff, reduceCtorEq])); try simp only [S, argList, aPut, aFill, ↓reduceIte, Nat.reduceEqDiff, Nat.reduceAdd, Nat.reduceLeDiff, reduceCtorEq])
  refine (made_ok hH).mono ?_
  rintro r s ⟨rfl, rfl⟩
  simp only [S, argList, aPut, aFill, ↓reduceIte, Nat.reduceEqDiff, Nat.reduceAdd, Nat.reduceLeDiff, reduceCtorEq]
  try simp only [S, argList, aPut, aFill, ↓reduceIte, Nat.reduceEqDiff, Nat.reduceAdd, Nat.reduceLeDiff, reduceCtorEq, hc, hH.hd]
  repeat ((with_reducible first | refine AWP_seq ?_ | refine AWP_block ?_ | refine AWP_scope ?_ | refine AWP_reg ?_ | refine AWP_draw ?_ | refine AWP_skip ?_ | refine AWP_ret ?_ | refine AWP_exit ?_ | (refine AWP_cond_true ?_ ?_; · simp only [S, argList, aPut, aFill, ↓reduceIte, Nat.reduceEqDiff, Nat.reduceAdd, Nat.reduceLeDiff, reduceCtorEq, hc, hH.hd]) | (refine AWP_cond_false ?_ ?_; · simp only [S, argList, aPut, aFill, ↓reduceIte, Nat.reduceEqDiff, Nat.reduceAdd, Nat.reduceLeDiff, reduceCtorEq, hc, hH.hd])); try simp only [S, argList, aPut, aFill, ↓reduceIte, Nat.reduceEqDiff, Nat.reduceAdd, Nat.reduceLeDiff, reduceCtorEq, hc, hH.hd])
theorem allocs_nil (σ : Store) : ACalls Try.prog 23 [.nilp] σ fun r σ' => r = .int .i64 0 ∧ σ' = σ := by
  refine in23 (by simp) ?_
  unfold c23
  try simp only [S, argList, aPut, aFill, ↓reduceIte, Nat.reduceEqDiff, Nat.reduceAdd, Nat.reduceLeDiff, reduceCtorEq]
  repeat ((with_reducible first | refine AWP_seq ?_ | refine AWP_block ?_ | refine AWP_scope ?_ | refine AWP_reg ?_ | refine AWP_draw ?_ | refine AWP_skip ?_ | refine AWP_ret ?_ | refine AWP_exit ?_ | (refine AWP_cond_true ?_ ?_; · simp only [S, argList, aPut, aFill, ↓reduceIte, Nat.reduceEqDiff, Nat.reduceAdd, Nat.reduceLeDiff, reduceCtorEq]) | (refine AWP_cond_false ?_ ?_; · simp only [S, argList, aPut, aFill, ↓reduceIte, Nat.reduceEqDiff, Nat.reduceAdd, Nat.reduceLeDiff, reduceCtorEq])); try simp only [S, argList, aPut, aFill, ↓reduceIte, Nat.reduceEqDiff, Nat.reduceAdd, Nat.reduceLeDiff, reduceCtorEq])
  refine (made_nil σ).mono ?_
  rintro r s ⟨rfl, rfl⟩
  simp only [S, argList, aPut, aFill, ↓reduceIte, Nat.reduceEqDiff, Nat.reduceAdd, Nat.reduceLeDiff, reduceCtorEq]
  try simp only [S, argList, aPut, aFill, ↓reduceIte, Nat.reduceEqDiff, Nat.reduceAdd, Nat.reduceLeDiff, reduceCtorEq]
  repeat ((with_reducible first | refine AWP_seq ?_ | refine AWP_block ?_ | refine AWP_scope ?_ | refine AWP_reg ?_ | refine AWP_draw ?_ | refine AWP_skip ?_ | refine AWP_ret ?_ | refine AWP_exit ?_ | (refine AWP_cond_true ?_ ?_; · simp only [S, argList, aPut, aFill, ↓reduceIte, Nat.reduceEqDiff, Nat.reduceAdd, Nat.reduceLeDiff, reduceCtorEq]) | (refine AWP_cond_false ?_ ?_; · simp only [S, argList, aPut, aFill, ↓reduceIte, Nat.reduceEqDiff, Nat.reduceAdd, Nat.reduceLeDiff, reduceCtorEq])); try simp only [S, argList, aPut, aFill, ↓reduceIte, Nat.reduceEqDiff, Nat.reduceAdd, Nat.reduceLeDiff, reduceCtorEq])

/-- What Get answers. -/
def getR : Option Nd → AV
  | some x => .tuple [.agg x.cells, .bool true]
  | none => .tuple [.agg Nd.zero.cells, .bool false]
theorem get_ok {id : Nat} {σ : Store} {cs fs : AV} {H : Hp} (hH : HeapAt σ id cs fs H) (hc : 0 < H.cap) (a : Int) (hb : ∀ x, H.at a = some x → x.l.length * 8 ≤ 140737488355328) :
    ACalls Try.prog 16 [.ptr id 0 0 0, .int .i64 a] σ fun r σ' => r = getR (H.at a) ∧ σ' = σ := by
  refine ACalls_pure (K := fun r => r = getR (H.at a)) (ACalls_le ?_)
  refine in16 (by simp) ?_
  unfold c16
  try simp only [S, argList, aPut, aFill, ↓reduceIte, Nat.reduceEqDiff, Nat.reduceAdd, Nat.reduceLeDiff, reduceCtorEq]
  repeat ((with_reducible first | refine AWP_seq ?_ | refine AWP_block ?_ | refine AWP_scope ?_ | refine AWP_reg ?_ | refine AWP_draw ?_ | refine AWP_skip ?_ | refine AWP_ret ?_ | refine AWP_exit ?_ | (refine AWP_cond_true ?_ ?_; · simp only [S, argList, aPut, aFill, ↓reduceIte, Nat.reduceEqDiff, Nat.reduceAdd, Nat.reduceLeDiff, reduceCtorEq]) | (refine AWP_cond_false ?_ ?_; · simp only [S, argList, aPut, aFill, ↓reduceIte, Nat.reduceEqDiff, Nat.reduceAdd, Nat.reduceLeDiff, reduceCtorEq])); try simp only [S, argList, aPut, aFill, ↓reduceIte, Nat.reduceEqDiff, Nat.reduceAdd, Nat.reduceLeDiff, reduceCtorEq])
  refine (made_ok (hH.push _)).mono ?_
  rintro r s ⟨rfl, rfl⟩
  simp only [S, argList, aPut, aFill, ↓reduceIte, Nat.reduceEqDiff, Nat.reduceAdd, Nat.reduceLeDiff, reduceCtorEq]
  try simp only [S, argList, aPut, aFill, ↓reduceIte, Nat.reduceEqDiff, Nat.reduceAdd, Nat.reduceLeDiff, reduceCtorEq, hc]
  repeat ((with_reducible first | refine AWP_seq ?_ | refine AWP_block ?_ | refine AWP_scope ?_ | refine AWP_reg ?_ | refine AWP_draw ?_ | refine AWP_skip ?_ | refine AWP_ret ?_ | refine AWP_exit ?_ | (refine AWP_cond_true ?_ ?_; · simp only [S, argList, aPut, aFill, ↓reduceIte, Nat.reduceEqDiff, Nat.reduceAdd, Nat.reduceLeDiff, reduceCtorEq, hc]) | (refine AWP_cond_false ?_ ?_; · simp only [S, argList, aPut, aFill, ↓reduceIte, Nat.reduceEqDiff, Nat.reduceAdd, Nat.reduceLeDiff, reduceCtorEq, hc])); try simp only [S, argList, aPut, aFill, ↓reduceIte, Nat.reduceEqDiff, Nat.reduceAdd, Nat.reduceLeDiff, reduceCtorEq, hc])
  refine (has_ok (hH.push _) a).mono ?_
  rintro r s ⟨rfl, rfl⟩
  simp only [S, argList, aPut, aFill, ↓reduceIte, Nat.reduceEqDiff, Nat.reduceAdd, Nat.reduceLeDiff, reduceCtorEq]
  cases hx : H.has a with
  | false =>
    try simp only [S, argList, aPut, aFill, ↓reduceIte, Nat.reduceEqDiff, Nat.reduceAdd, Nat.reduceLeDiff, reduceCtorEq, Hp.not_has hx]
    repeat ((with_reducible first | refine AWP_seq ?_ | refine AWP_block ?_ | refine AWP_scope ?_ | refine AWP_reg ?_ | refine AWP_draw ?_ | refine AWP_skip ?_ | refine AWP_ret ?_ | refine AWP_exit ?_ | (refine AWP_cond_true ?_ ?_; · simp only [S, argList, aPut, aFill, ↓reduceIte, Nat.reduceEqDiff, Nat.reduceAdd, Nat.reduceLeDiff, reduceCtorEq, Hp.not_has hx]) | (refine AWP_cond_false ?_ ?_; · simp only [S, argList, aPut, aFill, ↓reduceIte, Nat.reduceEqDiff, Nat.reduceAdd, Nat.reduceLeDiff, reduceCtorEq, Hp.not_has hx])); try simp only [S, argList, aPut, aFill, ↓reduceIte, Nat.reduceEqDiff, Nat.reduceAdd, Nat.reduceLeDiff, reduceCtorEq, Hp.not_has hx])
    refine ⟨_, Le.tupleL (.cons (Le.aggL (.cons (.refl _) (.cons (.refl _) (.cons Le.nil .nil)))) (.cons (.refl _) .nil)), rfl, Cln.tuple' ?_, by omega, fun i hi => by rw [if_neg (by omega)]⟩
    intro c hc
    simp at hc
    rcases hc with rfl | rfl
    · exact Nd.cln Nd.zero
    · exact .bool _
  | true =>
    obtain ⟨x, hat, h0, m, hcell⟩ := Hp.has_at hx
    obtain ⟨cid, ver, es', hcs, hg, hes, hlt⟩ := hH.cell hcell
    subst hcs
    have hlt' : a < H.cells.length := by omega
    try simp only [S, argList, aPut, aFill, ↓reduceIte, Nat.reduceEqDiff, Nat.reduceAdd, Nat.reduceLeDiff, reduceCtorEq, h0, hlt', hg, hes, hH.hd, hH.ne, Cl.cells, lt_ne (σ.lt hg)]
    repeat ((with_reducible first | refine AWP_seq ?_ | refine AWP_block ?_ | refine AWP_scope ?_ | refine AWP_reg ?_ | refine AWP_draw ?_ | refine AWP_skip ?_ | refine AWP_ret ?_ | refine AWP_exit ?_ | (refine AWP_cond_true ?_ ?_; · simp only [S, argList, aPut, aFill, ↓reduceIte, Nat.reduceEqDiff, Nat.reduceAdd, Nat.reduceLeDiff, reduceCtorEq, h0, hlt', hg, hes, hH.hd, hH.ne, Cl.cells, lt_ne (σ.lt hg)]) | (refine AWP_cond_false ?_ ?_; · simp only [S, argList, aPut, aFill, ↓reduceIte, Nat.reduceEqDiff, Nat.reduceAdd, Nat.reduceLeDiff, reduceCtorEq, h0, hlt', hg, hes, hH.hd, hH.ne, Cl.cells, lt_ne (σ.lt hg)])); try simp only [S, argList, aPut, aFill, ↓reduceIte, Nat.reduceEqDiff, Nat.reduceAdd, Nat.reduceLeDiff, reduceCtorEq, h0, hlt', hg, hes, hH.hd, hH.ne, Cl.cells, lt_ne (σ.lt hg)])
    refine (own_ok _ x (hb x hat)).mono ?_
    rintro r s ⟨rfl, rfl⟩
    simp only [S, argList, aPut, aFill, ↓reduceIte, Nat.reduceEqDiff, Nat.reduceAdd, Nat.reduceLeDiff, reduceCtorEq]
    try simp only [S, argList, aPut, aFill, ↓reduceIte, Nat.reduceEqDiff, Nat.reduceAdd, Nat.reduceLeDiff, reduceCtorEq, Nd.cells, hat]
    repeat ((with_reducible first | refine AWP_seq ?_ | refine AWP_block ?_ | refine AWP_scope ?_ | refine AWP_reg ?_ | refine AWP_draw ?_ | refine AWP_skip ?_ | refine AWP_ret ?_ | refine AWP_exit ?_ | (refine AWP_cond_true ?_ ?_; · simp only [S, argList, aPut, aFill, ↓reduceIte, Nat.reduceEqDiff, Nat.reduceAdd, Nat.reduceLeDiff, reduceCtorEq, Nd.cells, hat]) | (refine AWP_cond_false ?_ ?_; · simp only [S, argList, aPut, aFill, ↓reduceIte, Nat.reduceEqDiff, Nat.reduceAdd, Nat.reduceLeDiff, reduceCtorEq, Nd.cells, hat])); try simp only [S, argList, aPut, aFill, ↓reduceIte, Nat.reduceEqDiff, Nat.reduceAdd, Nat.reduceLeDiff, reduceCtorEq, Nd.cells, hat])
    refine ⟨_, .refl _, rfl, Cln.tuple' ?_, by omega, fun i hi => by rw [if_neg (by omega)]⟩
    intro c hc
    simp at hc
    rcases hc with rfl | rfl
    · exact Nd.cln x
    · exact .bool _
end Go.Proofs.Ytoejjhehpbmgbaa
