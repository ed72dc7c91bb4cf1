/- What reached answers: the cells to which one leads, each once. -/
import Derived.Test.YtoejjhehpbmgbaaAHq
set_option linter.unusedVariables false
set_option linter.unusedSimpArgs false
namespace Go.AL
theorem nodup_len : ∀ (l m : List Int), l.Nodup → (∀ a, a ∈ l → a ∈ m) → l.length ≤ m.length
  | [], _, _, _ => Nat.zero_le _
  | a :: l, m, hn, hs => by
    have hn' := List.nodup_cons.mp hn
    have ha := hs a (by simp)
    have := nodup_len l (m.erase a) hn'.2 fun b hb => by
      have hne : b ≠ a := fun e => hn'.1 (e ▸ hb)
      exact (List.mem_erase_of_ne hne).mpr (hs b (by simp [hb]))
    rw [List.length_erase_of_mem ha] at this
    have := List.length_pos_of_mem ha
    simp only [List.length_cons]; omega
/-- What a search keeps: what was found is led to, and what the first i lead to was found. -/
structure RI (H : Hp) (root : Int) (o : List Int) (i : Nat) : Prop where
  nodup : o.Nodup
  sound : ∀ a, a ∈ o → AL.Reach H.cells [root] a
  root : root ∈ o
  clos : ∀ a, a ∈ o.take i → ∀ x, H.at a = some x → ∀ b, b ∈ x.l → b ∈ o
theorem RI.has {H : Hp} (hG : H.Good) {root : Int} (hr : H.has root = true) {a : Int} (h : AL.Reach H.cells [root] a) : H.has a = true := by
  cases h with
  | root h => simp at h; subst h; exact hr
  | step h1 h2 h3 => exact Go.Proofs.Ytoejjhehpbmgbaa.Good.ptrs hG _ _ h2 a h3
theorem RI.len {H : Hp} (hG : H.Good) {root : Int} (hr : H.has root = true) {o : List Int} {i : Nat} (h : RI H root o i) : o.length ≤ H.cells.length := by
  have h1 : o.length ≤ H.addrs.length := by
    refine nodup_len _ _ h.nodup fun a ha => ?_
    rw [mem_addrs]; exact RI.has hG hr (h.sound a ha)
  have h2 : H.addrs.length ≤ H.cells.length := by
    unfold Hp.addrs
    rw [List.length_map]
    exact Nat.le_trans (List.length_filter_le _ _) (by simp)
  omega
theorem RI.done {H : Hp} {root : Int} {o : List Int} {i : Nat} (h : RI H root o i) (hi : o.length ≤ i) (a : Int) : a ∈ o ↔ AL.Reach H.cells [root] a := by
  refine ⟨h.sound a, fun hr => ?_⟩
  induction hr with
  | root hr => simp at hr; subst hr; exact h.root
  | step hr hx hb ih => exact h.clos _ (by rw [List.take_of_length_le hi]; exact ih) _ (by rw [Hp.at_node]; exact hx) _ hb
/-- In the middle of a round: what the first k pointers of the node lead to was found, too. -/
structure RM (H : Hp) (root : Int) (o : List Int) (i : Nat) (a : Int) (x : Nd) (k : Nat) : Prop where
  base : RI H root o i
  here : o[i]? = some a
  got : ∀ b, b ∈ x.l.take k → b ∈ o
theorem RM.next {H : Hp} {root : Int} {o : List Int} {i : Nat} {a : Int} {x : Nd} {k : Nat} (h : RM H root o i a x k) (hx : H.at a = some x) (hk : x.l.length ≤ k) : RI H root o (i + 1) := by
  refine ⟨h.base.nodup, h.base.sound, h.base.root, fun c hc y hy b hb => ?_⟩
  rw [List.take_add_one, h.here] at hc
  simp at hc
  rcases hc with hc | rfl
  · exact h.base.clos c hc y hy b hb
  · rw [hx] at hy; cases hy
    exact h.got b (by rw [List.take_of_length_le hk]; exact hb)
theorem RM.skip {H : Hp} {root : Int} {o : List Int} {i : Nat} {a : Int} {x : Nd} {k : Nat} (h : RM H root o i a x k) {b : Int} (hb : x.l[k]? = some b) (hm : b ∈ o) : RM H root o i a x (k + 1) := by
  refine ⟨h.base, h.here, fun c hc => ?_⟩
  rw [List.take_add_one, hb] at hc
  simp at hc
  rcases hc with hc | rfl
  · exact h.got c hc
  · exact hm
theorem RM.add {H : Hp} {root : Int} {o : List Int} {i : Nat} {a : Int} {x : Nd} {k : Nat} (h : RM H root o i a x k) (hx : H.at a = some x) {b : Int} (hb : x.l[k]? = some b) (hm : ¬ b ∈ o) : RM H root (o ++ [b]) i a x (k + 1) := by
  have hil : i < o.length := (List.getElem?_eq_some_iff.mp h.here).1
  refine ⟨⟨?_, ?_, by simp [h.base.root], ?_⟩, by rw [List.getElem?_append_left hil]; exact h.here, fun c hc => ?_⟩
  · rw [List.nodup_append]
    exact ⟨h.base.nodup, by simp, fun c hc d hd e => by simp at hd; subst hd; subst e; exact hm hc⟩
  · intro c hc
    simp at hc
    rcases hc with hc | rfl
    · exact h.base.sound c hc
    · exact .step (h.base.sound a (List.mem_of_getElem? h.here)) (by rw [← Hp.at_node]; exact hx) (List.mem_of_getElem? hb)
  · intro c hc y hy d hd
    rw [List.take_append_of_le_length (by omega)] at hc
    simp [h.base.clos c hc y hy d hd]
  · rw [List.take_add_one, hb] at hc
    simp at hc ⊢
    rcases hc with hc | rfl
    · exact .inl (h.got c hc)
    · exact .inr rfl
end Go.AL
namespace Go.Proofs.Ytoejjhehpbmgbaa
open Go.AL
/-- A round of the outer loop: what was found, and where it stands. -/
structure RS where
  o : List Int
  v : AV
  i : Nat
theorem reached_ok {id : Nat} {σ : Store} {cs fs : AV} {H : Hp} {cap : Int} (hH : HeapAt σ id cs fs H) (hP : Played H cap 400) (root : Int) (hr : H.has root = true) :
    ACalls Try.prog 25 [.ptr id 0 0 0, .int .i64 root] σ fun r σ' => (∃ o : List Int, r = ints o ∧ o.Nodup ∧ ∀ a, a ∈ o ↔ AL.Reach H.cells [root] a) ∧ σ' = σ := by
  refine ACalls_pure (K := fun r => ∃ o : List Int, r = ints o ∧ o.Nodup ∧ ∀ a, a ∈ o ↔ AL.Reach H.cells [root] a) ?_
  have hG := hP.good
  have hcp : 0 < H.cap := by have := hG.cap; omega
  have hsz : ∀ a x, H.at a = some x → x.l.length * 8 ≤ 140737488355328 := fun a x hx => by have := hP.sizes a x hx; omega
  have h400 := hP.len
  have hw : ∀ i : Nat, (i : Int) ≤ 1000 → IntKind.i64.wrap ((i : Int) + 1) = ((i + 1 : Nat) : Int) := fun i hi => by rw [wrap_of (by omega) (by omega)]; rfl
  refine in25 (by simp) ?_
  unfold c25
  try simp only [S, argList, aPut, aFill, ↓reduceIte, Nat.reduceEqDiff, Nat.reduceAdd, Nat.reduceLeDiff, reduceCtorEq]
  repeat ((with_reducible first | refine AWP_seq ?_ | refine AWP_block ?_ | refine AWP_scope ?_ | refine AWP_reg ?_ | refine AWP_draw ?_ | refine AWP_skip ?_ | refine AWP_ret ?_ | refine AWP_exit ?_ | (refine AWP_cond_true ?_ ?_; · simp only [S, argList, aPut, aFill, ↓reduceIte, Nat.reduceEqDiff, Nat.reduceAdd, Nat.reduceLeDiff, reduceCtorEq]) | (refine AWP_cond_false ?_ ?_; · simp only [S, argList, aPut, aFill, ↓reduceIte, Nat.reduceEqDiff, Nat.reduceAdd, Nat.reduceLeDiff, reduceCtorEq])); try simp only [S, argList, aPut, aFill, ↓reduceIte, Nat.reduceEqDiff, Nat.reduceAdd, Nat.reduceLeDiff, reduceCtorEq])
  refine AWP_while [0, 5, 6] (fun y : RS => 400 - y.i) (fun y => [.ptr id 0 0 0, y.v, .int .i64 y.i])
    (fun y s => y.i ≤ y.o.length ∧ RI H root y.o y.i ∧ SliceAt s y.v 3 1 (y.o.map fun z => [.int .i64 z]) ∧ (∀ j, j ∈ slIds y.v → σ.next ≤ j) ∧ σ.next ≤ s.next ∧ ∀ j, j < σ.next → s.get j = σ.get j)
    ⟨[root], .own σ.next 0 1 0 1, 0⟩ ⟨by simp, ⟨by simp, fun a ha => by simp at ha; subst ha; exact .root (by simp), by simp, by simp⟩, .inr ⟨σ.next, 0, [], by simp, by simp [Store.push_get]⟩, by simp [slIds], by simp [Store.push_next], fun j hj => by rw [Store.push_get, if_neg (by omega)]⟩ ?_ ?_
  · try simp only [S, argList, aPut, aFill, ↓reduceIte, Nat.reduceEqDiff, Nat.reduceAdd, Nat.reduceLeDiff, reduceCtorEq]
    repeat ((with_reducible first | refine AWP_seq ?_ | refine AWP_block ?_ | refine AWP_scope ?_ | refine AWP_reg ?_ | refine AWP_draw ?_ | refine AWP_skip ?_ | refine AWP_ret ?_ | refine AWP_exit ?_ | (refine AWP_cond_true ?_ ?_; · simp only [S, argList, aPut, aFill, ↓reduceIte, Nat.reduceEqDiff, Nat.reduceAdd, Nat.reduceLeDiff, reduceCtorEq]) | (refine AWP_cond_false ?_ ?_; · simp only [S, argList, aPut, aFill, ↓reduceIte, Nat.reduceEqDiff, Nat.reduceAdd, Nat.reduceLeDiff, reduceCtorEq])); try simp only [S, argList, aPut, aFill, ↓reduceIte, Nat.reduceEqDiff, Nat.reduceAdd, Nat.reduceLeDiff, reduceCtorEq])
    rfl
  · rintro ⟨o, v, i⟩ s ⟨hi, hR, hS, hfr, hnx, hk⟩
    simp only at hi hR hS hfr
    have hlen := hR.len hG hr
    have hne : o.map (fun z => [AV.int .i64 z]) ≠ [] := by have := hR.root; intro e; simp at e; subst e; simp at this
    by_cases hil : i < o.length
    · have hil' : (i : Int) < (o.length : Int) := by omega
      have h2000 : (o.length : Int) < 2000 := by omega
      obtain ⟨vid, vver, ves, rfl, hvg⟩ := hS.own hne
      obtain ⟨a, ha⟩ : ∃ a, o[i]? = some a := ⟨_, List.getElem?_eq_getElem hil⟩
      have hga : (o.map (fun z => [AV.int .i64 z]) ++ ves)[i]? = some [.int .i64 a] := by rw [List.getElem?_append_left (by simpa using hil)]; simp [ha]
      have hH2 := hH.grow hk
      have hah := RI.has hG hr (hR.sound a (List.mem_of_getElem? ha))
      obtain ⟨x, hx, _⟩ := Hp.has_at hah
      try simp only [S, argList, aPut, aFill, ↓reduceIte, Nat.reduceEqDiff, Nat.reduceAdd, Nat.reduceLeDiff, reduceCtorEq, hil', h2000, hvg, hga]
      repeat ((with_reducible first | refine AWP_seq ?_ | refine AWP_block ?_ | refine AWP_scope ?_ | refine AWP_reg ?_ | refine AWP_draw ?_ | refine AWP_skip ?_ | refine AWP_ret ?_ | refine AWP_exit ?_ | (refine AWP_cond_true ?_ ?_; · simp only [S, argList, aPut, aFill, ↓reduceIte, Nat.reduceEqDiff, Nat.reduceAdd, Nat.reduceLeDiff, reduceCtorEq, hil', h2000, hvg, hga]) | (refine AWP_cond_false ?_ ?_; · simp only [S, argList, aPut, aFill, ↓reduceIte, Nat.reduceEqDiff, Nat.reduceAdd, Nat.reduceLeDiff, reduceCtorEq, hil', h2000, hvg, hga])); try simp only [S, argList, aPut, aFill, ↓reduceIte, Nat.reduceEqDiff, Nat.reduceAdd, Nat.reduceLeDiff, reduceCtorEq, hil', h2000, hvg, hga])
      refine (get_ok hH2 hcp a (hsz a)).mono ?_
      rintro r s ⟨rfl, rfl⟩
      simp only [hx, getR]
      try simp only [S, argList, aPut, aFill, ↓reduceIte, Nat.reduceEqDiff, Nat.reduceAdd, Nat.reduceLeDiff, reduceCtorEq, Nd.cells]
      repeat ((with_reducible first | refine AWP_seq ?_ | refine AWP_block ?_ | refine AWP_scope ?_ | refine AWP_reg ?_ | refine AWP_draw ?_ | refine AWP_skip ?_ | refine AWP_ret ?_ | refine AWP_exit ?_ | (refine AWP_cond_true ?_ ?_; · simp only [S, argList, aPut, aFill, ↓reduceIte, Nat.reduceEqDiff, Nat.reduceAdd, Nat.reduceLeDiff, reduceCtorEq, Nd.cells]) | (refine AWP_cond_false ?_ ?_; · simp only [S, argList, aPut, aFill, ↓reduceIte, Nat.reduceEqDiff, Nat.reduceAdd, Nat.reduceLeDiff, reduceCtorEq, Nd.cells])); try simp only [S, argList, aPut, aFill, ↓reduceIte, Nat.reduceEqDiff, Nat.reduceAdd, Nat.reduceLeDiff, reduceCtorEq, Nd.cells])
      have hxl := hP.sizes a x hx
      have hbid : (s.push (.cells 31 0 3 [x.cells])).get s.next = some (.cells 31 0 3 [x.cells]) := by simp [Store.push_get]
      refine AWP_while [0, 5, 6, 7, 9] (fun y : RS => x.l.length - y.i) (fun y => [.ptr id 0 0 0, y.v, .int .i64 i, .ptr s.next 0 0 0, .int .i64 y.i])
        (fun y s' => y.i ≤ x.l.length ∧ RM H root y.o i a x y.i ∧ SliceAt s' y.v 3 1 (y.o.map fun z => [.int .i64 z]) ∧ (∀ j, j ∈ slIds y.v → σ.next ≤ j ∧ j ≠ s.next) ∧ s.next < s'.next ∧ (∀ j, j < σ.next → s'.get j = σ.get j) ∧ s'.get s.next = some (.cells 31 0 3 [x.cells]))
        ⟨o, .own vid vver 1 0 o.length, 0⟩ ⟨by simp, ⟨hR, ha, by simp⟩, .inr ⟨vid, vver, ves, by simp, ?_⟩, ?_, by simp [Store.push_next], fun j hj => ?_, hbid⟩ ?_ ?_
      · have := s.lt hvg
        rw [Store.push_get, if_neg (by omega)]; exact hvg
      · intro j hj
        have h1 := hfr j (by simpa [slIds] using hj)
        have h2 := s.lt hvg
        simp [slIds] at hj; subst hj
        exact ⟨h1, by omega⟩
      · rw [Store.push_get, if_neg (by omega)]; exact hk j hj
      · try simp only [S, argList, aPut, aFill, ↓reduceIte, Nat.reduceEqDiff, Nat.reduceAdd, Nat.reduceLeDiff, reduceCtorEq]
        repeat ((with_reducible first | refine AWP_seq ?_ | refine AWP_block ?_ | refine AWP_scope ?_ | refine AWP_reg ?_ | refine AWP_draw ?_ | refine AWP_skip ?_ | refine AWP_ret ?_ | refine AWP_exit ?_ | (refine AWP_cond_true ?_ ?_; · simp only [S, argList, aPut, aFill, ↓reduceIte, Nat.reduceEqDiff, Nat.reduceAdd, Nat.reduceLeDiff, reduceCtorEq]) | (refine AWP_cond_false ?_ ?_; · simp only [S, argList, aPut, aFill, ↓reduceIte, Nat.reduceEqDiff, Nat.reduceAdd, Nat.reduceLeDiff, reduceCtorEq])); try simp only [S, argList, aPut, aFill, ↓reduceIte, Nat.reduceEqDiff, Nat.reduceAdd, Nat.reduceLeDiff, reduceCtorEq])
        rfl
      · rintro ⟨o1, v1, k⟩ s1 ⟨hk1, hM1, hS1, hf1, hn1, hkp1, hb1⟩
        simp only at hk1 hM1 hS1 hf1
        have hlen1 := hM1.base.len hG hr
        have hne1 : o1.map (fun z => [AV.int .i64 z]) ≠ [] := by have := hM1.base.root; intro e; simp at e; subst e; simp at this
        by_cases hkl : k < x.l.length
        · have hkl' : (k : Int) < (x.l.length : Int) := by omega
          obtain ⟨b, hb⟩ : ∃ b, x.l[k]? = some b := ⟨_, List.getElem?_eq_getElem hkl⟩
          have hgb : (x.l.map fun y => [AV.int .i64 y])[k]? = some [.int .i64 b] := by simp [hb]
          obtain ⟨vid1, vver1, ves1, rfl, hvg1⟩ := hS1.own hne1
          simp only [List.length_map] at hS1 hf1
          try simp only [S, argList, aPut, aFill, ↓reduceIte, Nat.reduceEqDiff, Nat.reduceAdd, Nat.reduceLeDiff, reduceCtorEq, hb1, Nd.cells, ints, hkl']
          repeat ((with_reducible first | refine AWP_seq ?_ | refine AWP_block ?_ | refine AWP_scope ?_ | refine AWP_reg ?_ | refine AWP_draw ?_ | refine AWP_skip ?_ | refine AWP_ret ?_ | refine AWP_exit ?_ | (refine AWP_cond_true ?_ ?_; · simp only [S, argList, aPut, aFill, ↓reduceIte, Nat.reduceEqDiff, Nat.reduceAdd, Nat.reduceLeDiff, reduceCtorEq, hb1, Nd.cells, ints, hkl']) | (refine AWP_cond_false ?_ ?_; · simp only [S, argList, aPut, aFill, ↓reduceIte, Nat.reduceEqDiff, Nat.reduceAdd, Nat.reduceLeDiff, reduceCtorEq, hb1, Nd.cells, ints, hkl'])); try simp only [S, argList, aPut, aFill, ↓reduceIte, Nat.reduceEqDiff, Nat.reduceAdd, Nat.reduceLeDiff, reduceCtorEq, hb1, Nd.cells, ints, hkl'])
          refine AWP_while [0, 5, 6, 7, 9, 10, 11] (fun j : Nat => o1.length - j) (fun j => [.ptr id 0 0 0, .own vid1 vver1 1 0 o1.length, .int .i64 i, .ptr s.next 0 0 0, .int .i64 k, .bool (decide (b ∈ o1.take j)), .int .i64 j])
            (fun j s' => s' = s1 ∧ j ≤ o1.length) 0 ⟨rfl, by omega⟩ ?_ ?_
          · try simp only [S, argList, aPut, aFill, ↓reduceIte, Nat.reduceEqDiff, Nat.reduceAdd, Nat.reduceLeDiff, reduceCtorEq]
            repeat ((with_reducible first | refine AWP_seq ?_ | refine AWP_block ?_ | refine AWP_scope ?_ | refine AWP_reg ?_ | refine AWP_draw ?_ | refine AWP_skip ?_ | refine AWP_ret ?_ | refine AWP_exit ?_ | (refine AWP_cond_true ?_ ?_; · simp only [S, argList, aPut, aFill, ↓reduceIte, Nat.reduceEqDiff, Nat.reduceAdd, Nat.reduceLeDiff, reduceCtorEq]) | (refine AWP_cond_false ?_ ?_; · simp only [S, argList, aPut, aFill, ↓reduceIte, Nat.reduceEqDiff, Nat.reduceAdd, Nat.reduceLeDiff, reduceCtorEq])); try simp only [S, argList, aPut, aFill, ↓reduceIte, Nat.reduceEqDiff, Nat.reduceAdd, Nat.reduceLeDiff, reduceCtorEq])
            simp
          · rintro j s2 ⟨rfl, hj⟩
            by_cases hjl : j < o1.length
            · have hjl' : (j : Int) < (o1.length : Int) := by omega
              obtain ⟨c, hc⟩ : ∃ c, o1[j]? = some c := ⟨_, List.getElem?_eq_getElem hjl⟩
              have hgc : (o1.map (fun z => [AV.int .i64 z]) ++ ves1)[j]? = some [.int .i64 c] := by rw [List.getElem?_append_left (by simpa using hjl)]; simp [hc]
              have htk : (b ∈ o1.take (j + 1)) ↔ (b ∈ o1.take j ∨ c = b) := by
                rw [List.take_add_one, hc]; simp [eq_comm]
              by_cases hin : b ∈ o1.take j
              · try simp only [S, argList, aPut, aFill, ↓reduceIte, Nat.reduceEqDiff, Nat.reduceAdd, Nat.reduceLeDiff, reduceCtorEq, hjl', hin, hw j (by omega)]
                repeat ((with_reducible first | refine AWP_seq ?_ | refine AWP_block ?_ | refine AWP_scope ?_ | refine AWP_reg ?_ | refine AWP_draw ?_ | refine AWP_skip ?_ | refine AWP_ret ?_ | refine AWP_exit ?_ | (refine AWP_cond_true ?_ ?_; · simp only [S, argList, aPut, aFill, ↓reduceIte, Nat.reduceEqDiff, Nat.reduceAdd, Nat.reduceLeDiff, reduceCtorEq, hjl', hin, hw j (by omega)]) | (refine AWP_cond_false ?_ ?_; · simp only [S, argList, aPut, aFill, ↓reduceIte, Nat.reduceEqDiff, Nat.reduceAdd, Nat.reduceLeDiff, reduceCtorEq, hjl', hin, hw j (by omega)])); try simp only [S, argList, aPut, aFill, ↓reduceIte, Nat.reduceEqDiff, Nat.reduceAdd, Nat.reduceLeDiff, reduceCtorEq, hjl', hin, hw j (by omega)])
                exact ⟨j + 1, by simp [htk, hin], by omega, by omega⟩
              · try simp only [S, argList, aPut, aFill, ↓reduceIte, Nat.reduceEqDiff, Nat.reduceAdd, Nat.reduceLeDiff, reduceCtorEq, hjl', hin, hw j (by omega), hvg1, hgc, hb1, Nd.cells, ints, hgb]
                repeat ((with_reducible first | refine AWP_seq ?_ | refine AWP_block ?_ | refine AWP_scope ?_ | refine AWP_reg ?_ | refine AWP_draw ?_ | refine AWP_skip ?_ | refine AWP_ret ?_ | refine AWP_exit ?_ | (refine AWP_cond_true ?_ ?_; · simp only [S, argList, aPut, aFill, ↓reduceIte, Nat.reduceEqDiff, Nat.reduceAdd, Nat.reduceLeDiff, reduceCtorEq, hjl', hin, hw j (by omega), hvg1, hgc, hb1, Nd.cells, ints, hgb]) | (refine AWP_cond_false ?_ ?_; · simp only [S, argList, aPut, aFill, ↓reduceIte, Nat.reduceEqDiff, Nat.reduceAdd, Nat.reduceLeDiff, reduceCtorEq, hjl', hin, hw j (by omega), hvg1, hgc, hb1, Nd.cells, ints, hgb])); try simp only [S, argList, aPut, aFill, ↓reduceIte, Nat.reduceEqDiff, Nat.reduceAdd, Nat.reduceLeDiff, reduceCtorEq, hjl', hin, hw j (by omega), hvg1, hgc, hb1, Nd.cells, ints, hgb])
                exact ⟨j + 1, by simp [htk, hin], by omega, by omega⟩
            · have hjl' : ¬ (j : Int) < (o1.length : Int) := by omega
              have hje : o1.take j = o1 := List.take_of_length_le (by omega)
              by_cases hin : b ∈ o1
              · try simp only [S, argList, aPut, aFill, ↓reduceIte, Nat.reduceEqDiff, Nat.reduceAdd, Nat.reduceLeDiff, reduceCtorEq, hjl', hje, hin, hw k (by omega)]
                repeat ((with_reducible first | refine AWP_seq ?_ | refine AWP_block ?_ | refine AWP_scope ?_ | refine AWP_reg ?_ | refine AWP_draw ?_ | refine AWP_skip ?_ | refine AWP_ret ?_ | refine AWP_exit ?_ | (refine AWP_cond_true ?_ ?_; · simp only [S, argList, aPut, aFill, ↓reduceIte, Nat.reduceEqDiff, Nat.reduceAdd, Nat.reduceLeDiff, reduceCtorEq, hjl', hje, hin, hw k (by omega)]) | (refine AWP_cond_false ?_ ?_; · simp only [S, argList, aPut, aFill, ↓reduceIte, Nat.reduceEqDiff, Nat.reduceAdd, Nat.reduceLeDiff, reduceCtorEq, hjl', hje, hin, hw k (by omega)])); try simp only [S, argList, aPut, aFill, ↓reduceIte, Nat.reduceEqDiff, Nat.reduceAdd, Nat.reduceLeDiff, reduceCtorEq, hjl', hje, hin, hw k (by omega)])
                exact ⟨⟨o1, _, k + 1⟩, rfl, ⟨by simp only; omega, hM1.skip hb hin, hS1, hf1, hn1, hkp1, hb1⟩, by simp only; omega⟩
              · try simp only [S, argList, aPut, aFill, ↓reduceIte, Nat.reduceEqDiff, Nat.reduceAdd, Nat.reduceLeDiff, reduceCtorEq, hjl', hje, hin, hb1, Nd.cells, ints, hgb]
                repeat ((with_reducible first | refine AWP_seq ?_ | refine AWP_block ?_ | refine AWP_scope ?_ | refine AWP_reg ?_ | refine AWP_draw ?_ | refine AWP_skip ?_ | refine AWP_ret ?_ | refine AWP_exit ?_ | (refine AWP_cond_true ?_ ?_; · simp only [S, argList, aPut, aFill, ↓reduceIte, Nat.reduceEqDiff, Nat.reduceAdd, Nat.reduceLeDiff, reduceCtorEq, hjl', hje, hin, hb1, Nd.cells, ints, hgb]) | (refine AWP_cond_false ?_ ?_; · simp only [S, argList, aPut, aFill, ↓reduceIte, Nat.reduceEqDiff, Nat.reduceAdd, Nat.reduceLeDiff, reduceCtorEq, hjl', hje, hin, hb1, Nd.cells, ints, hgb])); try simp only [S, argList, aPut, aFill, ↓reduceIte, Nat.reduceEqDiff, Nat.reduceAdd, Nat.reduceLeDiff, reduceCtorEq, hjl', hje, hin, hb1, Nd.cells, ints, hgb])
                refine ok_app hS1 (by simp) (by simp; omega) (by simp [maxLen]; omega) ?_
                intro v3 s3 hS3 hF3
                try simp only [S, argList, aPut, aFill, ↓reduceIte, Nat.reduceEqDiff, Nat.reduceAdd, Nat.reduceLeDiff, reduceCtorEq, hw k (by omega)]
                repeat ((with_reducible first | refine AWP_seq ?_ | refine AWP_block ?_ | refine AWP_scope ?_ | refine AWP_reg ?_ | refine AWP_draw ?_ | refine AWP_skip ?_ | refine AWP_ret ?_ | refine AWP_exit ?_ | (refine AWP_cond_true ?_ ?_; · simp only [S, argList, aPut, aFill, ↓reduceIte, Nat.reduceEqDiff, Nat.reduceAdd, Nat.reduceLeDiff, reduceCtorEq, hw k (by omega)]) | (refine AWP_cond_false ?_ ?_; · simp only [S, argList, aPut, aFill, ↓reduceIte, Nat.reduceEqDiff, Nat.reduceAdd, Nat.reduceLeDiff, reduceCtorEq, hw k (by omega)])); try simp only [S, argList, aPut, aFill, ↓reduceIte, Nat.reduceEqDiff, Nat.reduceAdd, Nat.reduceLeDiff, reduceCtorEq, hw k (by omega)])
                refine ⟨⟨o1 ++ [b], v3, k + 1⟩, rfl, ⟨by simp only; omega, hM1.add hx hb hin, by simpa using hS3, ?_, ?_, ?_, ?_⟩, by simp only; omega⟩
                · intro j hj
                  rcases hF3.fresh j hj with h | h
                  · exact hf1 j h
                  · exact ⟨by omega, by omega⟩
                · have := hF3.next; omega
                · intro j hj
                  rw [hF3.keep j (by omega) (fun h => by have := hf1 j h; omega), hkp1 j hj]
                · rw [hF3.keep _ hn1 (fun h => (hf1 _ h).2 rfl)]; exact hb1
        · have hkl' : ¬ (k : Int) < (x.l.length : Int) := by omega
          try simp only [S, argList, aPut, aFill, ↓reduceIte, Nat.reduceEqDiff, Nat.reduceAdd, Nat.reduceLeDiff, reduceCtorEq, hb1, Nd.cells, ints, hkl', hw i (by omega)]
          repeat ((with_reducible first | refine AWP_seq ?_ | refine AWP_block ?_ | refine AWP_scope ?_ | refine AWP_reg ?_ | refine AWP_draw ?_ | refine AWP_skip ?_ | refine AWP_ret ?_ | refine AWP_exit ?_ | (refine AWP_cond_true ?_ ?_; · simp only [S, argList, aPut, aFill, ↓reduceIte, Nat.reduceEqDiff, Nat.reduceAdd, Nat.reduceLeDiff, reduceCtorEq, hb1, Nd.cells, ints, hkl', hw i (by omega)]) | (refine AWP_cond_false ?_ ?_; · simp only [S, argList, aPut, aFill, ↓reduceIte, Nat.reduceEqDiff, Nat.reduceAdd, Nat.reduceLeDiff, reduceCtorEq, hb1, Nd.cells, ints, hkl', hw i (by omega)])); try simp only [S, argList, aPut, aFill, ↓reduceIte, Nat.reduceEqDiff, Nat.reduceAdd, Nat.reduceLeDiff, reduceCtorEq, hb1, Nd.cells, ints, hkl', hw i (by omega)])
          have hil1 : i < o1.length := (List.getElem?_eq_some_iff.mp hM1.here).1
          exact ⟨⟨o1, v1, i + 1⟩, rfl, ⟨by simp only; omega, hM1.next hx (by omega), hS1, fun j h => (hf1 j h).1, by omega, hkp1⟩, by simp only; omega⟩
    · have hil' : ¬ (i : Int) < (o.length : Int) := by omega
      refine AWP_frozen 5 (v := v) (by simp only [S, argList, aPut, aFill, ↓reduceIte, Nat.reduceEqDiff, Nat.reduceAdd, Nat.reduceLeDiff, reduceCtorEq]) hS ?_
      intro s2 hn2 hk2
      try simp only [S, argList, aPut, aFill, ↓reduceIte, Nat.reduceEqDiff, Nat.reduceAdd, Nat.reduceLeDiff, reduceCtorEq, hil']
      repeat ((with_reducible first | refine AWP_seq ?_ | refine AWP_block ?_ | refine AWP_scope ?_ | refine AWP_reg ?_ | refine AWP_draw ?_ | refine AWP_skip ?_ | refine AWP_ret ?_ | refine AWP_exit ?_ | (refine AWP_cond_true ?_ ?_; · simp only [S, argList, aPut, aFill, ↓reduceIte, Nat.reduceEqDiff, Nat.reduceAdd, Nat.reduceLeDiff, reduceCtorEq, hil']) | (refine AWP_cond_false ?_ ?_; · simp only [S, argList, aPut, aFill, ↓reduceIte, Nat.reduceEqDiff, Nat.reduceAdd, Nat.reduceLeDiff, reduceCtorEq, hil'])); try simp only [S, argList, aPut, aFill, ↓reduceIte, Nat.reduceEqDiff, Nat.reduceAdd, Nat.reduceLeDiff, reduceCtorEq, hil'])
      refine ⟨⟨o, rfl, hR.nodup, hR.done (by omega)⟩, ?_, by omega, fun j hj => ?_⟩
      · refine .list' fun e he c hc => ?_
        simp at he
        obtain ⟨y, _, rfl⟩ := he
        simp at hc; subst hc; exact .int _ _
      · rw [hk2 j (fun h => by have := hfr j h; omega), hk j hj]
end Go.Proofs.Ytoejjhehpbmgbaa
