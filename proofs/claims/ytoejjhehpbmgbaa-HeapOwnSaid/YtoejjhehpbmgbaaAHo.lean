/- HeapOwn answers true. -/
import Derived.Test.YtoejjhehpbmgbaaAHf
import Derived.Test.YtoejjhehpbmgbaaAL19
set_option linter.unusedVariables false
set_option linter.unusedSimpArgs false
namespace Go.Proofs.Ytoejjhehpbmgbaa
open Go.AL
theorem alloc_gen {id : Nat} {σ : Store} {cs fs : AV} {H : Hp} (hH : HeapAt σ id cs fs H) (hG : H.Good) (x : Nd) (v0 : AV) (hv : v0.cellsOf = some [v0]) (hd : ∀ i, i ∈ slIds v0 → i < σ.next ∧ i ≠ id)
    (hall : ∀ s, HeapAt s id cs fs H → (∀ i, i ∈ slIds v0 → s.get i = σ.get i) → ACalls Try.prog 38 [.ptr id 0 0 0, v0] s fun r σ' => r = .bool (H.all x.l) ∧ σ' = s)
    (hown : ∀ s, (∀ i, i ∈ slIds v0 → s.get i = σ.get i) → ACalls Try.prog 39 [.agg [.int .i64 x.tag, .int .i64 x.n, v0]] s fun r σ' => r = .agg x.cells ∧ σ' = s) :
    ACalls Try.prog 14 [.ptr id 0 0 0, .agg [.int .i64 x.tag, .int .i64 x.n, v0]] σ fun r σ' => r = .tuple [.int .i64 (H.alloc x).2.1, .int .i64 (H.alloc x).2.2] ∧ HeapTo σ id (foot id cs fs) (H.alloc x).1 σ' := by
  have hc : 0 < H.cap := by have := hG.cap; omega
  refine in14 (by simp) ?_
  unfold c14
  have same : ∀ o : AObj, HeapTo σ id (foot id cs fs) H (σ.push o) := fun o => ⟨cs, fs, hH.push _, ⟨by simp only [Store.push_next]; omega, fun i hi hn => by rw [Store.push_get, if_neg (by omega)], fun i hi => .inl hi⟩⟩
  try simp only [S, argList, aPut, aFill, ↓reduceIte, Nat.reduceEqDiff, Nat.reduceAdd, Nat.reduceLeDiff, reduceCtorEq, hv]
  repeat ((with_reducible first | refine AWP_seq ?_ | refine AWP_block ?_ | refine AWP_scope ?_ | refine AWP_reg ?_ | refine AWP_draw ?_ | refine AWP_skip ?_ | refine AWP_ret ?_ | refine AWP_exit ?_ | (refine AWP_cond_true ?_ ?_; · simp only [S, argList, aPut, aFill, ↓reduceIte, Nat.reduceEqDiff, Nat.reduceAdd, Nat.reduceLeDiff, reduceCtorEq, hv]) | (refine AWP_cond_false ?_ ?_; · simp only [S, argList, aPut, aFill, ↓reduceIte, Nat.reduceEqDiff, Nat.reduceAdd, Nat.reduceLeDiff, reduceCtorEq, hv])); try simp only [S, argList, aPut, aFill, ↓reduceIte, Nat.reduceEqDiff, Nat.reduceAdd, Nat.reduceLeDiff, reduceCtorEq, hv])
  refine (made_ok (hH.push _)).mono ?_
  rintro r s ⟨rfl, rfl⟩
  simp only [S, argList, aPut, aFill, ↓reduceIte, Nat.reduceEqDiff, Nat.reduceAdd, Nat.reduceLeDiff, reduceCtorEq]
  try simp only [S, argList, aPut, aFill, ↓reduceIte, Nat.reduceEqDiff, Nat.reduceAdd, Nat.reduceLeDiff, reduceCtorEq, hc, hv]
  repeat ((with_reducible first | refine AWP_seq ?_ | refine AWP_block ?_ | refine AWP_scope ?_ | refine AWP_reg ?_ | refine AWP_draw ?_ | refine AWP_skip ?_ | refine AWP_ret ?_ | refine AWP_exit ?_ | (refine AWP_cond_true ?_ ?_; · simp only [S, argList, aPut, aFill, ↓reduceIte, Nat.reduceEqDiff, Nat.reduceAdd, Nat.reduceLeDiff, reduceCtorEq, hc, hv]) | (refine AWP_cond_false ?_ ?_; · simp only [S, argList, aPut, aFill, ↓reduceIte, Nat.reduceEqDiff, Nat.reduceAdd, Nat.reduceLeDiff, reduceCtorEq, hc, hv])); try simp only [S, argList, aPut, aFill, ↓reduceIte, Nat.reduceEqDiff, Nat.reduceAdd, Nat.reduceLeDiff, reduceCtorEq, hc, hv])
  refine (hall _ (hH.push _) (fun i hi => by have := hd i hi; rw [Store.push_get, if_neg (by omega)])).mono ?_
  rintro r s ⟨rfl, rfl⟩
  simp only [S, argList, aPut, aFill, ↓reduceIte, Nat.reduceEqDiff, Nat.reduceAdd, Nat.reduceLeDiff, reduceCtorEq]
  cases hal : H.all x.l with
  | false =>
    try simp only [S, argList, aPut, aFill, ↓reduceIte, Nat.reduceEqDiff, Nat.reduceAdd, Nat.reduceLeDiff, reduceCtorEq]
    repeat ((with_reducible first | refine AWP_seq ?_ | refine AWP_block ?_ | refine AWP_scope ?_ | refine AWP_reg ?_ | refine AWP_draw ?_ | refine AWP_skip ?_ | refine AWP_ret ?_ | refine AWP_exit ?_ | (refine AWP_cond_true ?_ ?_; · simp only [S, argList, aPut, aFill, ↓reduceIte, Nat.reduceEqDiff, Nat.reduceAdd, Nat.reduceLeDiff, reduceCtorEq]) | (refine AWP_cond_false ?_ ?_; · simp only [S, argList, aPut, aFill, ↓reduceIte, Nat.reduceEqDiff, Nat.reduceAdd, Nat.reduceLeDiff, reduceCtorEq])); try simp only [S, argList, aPut, aFill, ↓reduceIte, Nat.reduceEqDiff, Nat.reduceAdd, Nat.reduceLeDiff, reduceCtorEq])
    have e : H.alloc x = (H, 0, 161) := by simp [Hp.alloc, hal]
    rw [e]
    exact ⟨rfl, same _⟩
  | true =>
    by_cases hfull : H.cap ≤ H.live
    · try simp only [S, argList, aPut, aFill, ↓reduceIte, Nat.reduceEqDiff, Nat.reduceAdd, Nat.reduceLeDiff, reduceCtorEq, hH.hd, hH.ne, hfull]
      repeat ((with_reducible first | refine AWP_seq ?_ | refine AWP_block ?_ | refine AWP_scope ?_ | refine AWP_reg ?_ | refine AWP_draw ?_ | refine AWP_skip ?_ | refine AWP_ret ?_ | refine AWP_exit ?_ | (refine AWP_cond_true ?_ ?_; · simp only [S, argList, aPut, aFill, ↓reduceIte, Nat.reduceEqDiff, Nat.reduceAdd, Nat.reduceLeDiff, reduceCtorEq, hH.hd, hH.ne, hfull]) | (refine AWP_cond_false ?_ ?_; · simp only [S, argList, aPut, aFill, ↓reduceIte, Nat.reduceEqDiff, Nat.reduceAdd, Nat.reduceLeDiff, reduceCtorEq, hH.hd, hH.ne, hfull])); try simp only [S, argList, aPut, aFill, ↓reduceIte, Nat.reduceEqDiff, Nat.reduceAdd, Nat.reduceLeDiff, reduceCtorEq, hH.hd, hH.ne, hfull])
      have e : H.alloc x = (H, 0, 160) := by simp [Hp.alloc, hal, hfull]
      rw [e]
      exact ⟨rfl, same _⟩
    · have l1 : ∀ o, id < (σ.push o).next := fun o => by have := σ.lt hH.hd; simp only [Store.push_next]; omega
      have hgu : ∀ o o' j, ((σ.push o).upd id o').get j = if j = id then some o' else (σ.push o).get j := fun o o' j => Store.get_upd _ _ (l1 o) j
      have hne : (σ.next = id) = False := by have := hH.ne; simp only [eq_comm] at this ⊢; exact this
      try simp only [S, argList, aPut, aFill, ↓reduceIte, Nat.reduceEqDiff, Nat.reduceAdd, Nat.reduceLeDiff, reduceCtorEq, hH.hd, hH.ne, hfull, hgu, hne]
      repeat ((with_reducible first | refine AWP_seq ?_ | refine AWP_block ?_ | refine AWP_scope ?_ | refine AWP_reg ?_ | refine AWP_draw ?_ | refine AWP_skip ?_ | refine AWP_ret ?_ | refine AWP_exit ?_ | (refine AWP_cond_true ?_ ?_; · simp only [S, argList, aPut, aFill, ↓reduceIte, Nat.reduceEqDiff, Nat.reduceAdd, Nat.reduceLeDiff, reduceCtorEq, hH.hd, hH.ne, hfull, hgu, hne]) | (refine AWP_cond_false ?_ ?_; · simp only [S, argList, aPut, aFill, ↓reduceIte, Nat.reduceEqDiff, Nat.reduceAdd, Nat.reduceLeDiff, reduceCtorEq, hH.hd, hH.ne, hfull, hgu, hne])); try simp only [S, argList, aPut, aFill, ↓reduceIte, Nat.reduceEqDiff, Nat.reduceAdd, Nat.reduceLeDiff, reduceCtorEq, hH.hd, hH.ne, hfull, hgu, hne])
      generalize hτ : Store.upd _ _ _ = τ
      have hlv := hG.live
      have hcp := hG.cap
      have hT : HeapAt τ id cs fs { H with live := H.live + 1, allocs := IntKind.i64.wrap (H.allocs + 1) } := by
        refine hH.setHd ?_ (fun j hj hn => by rw [← hτ, hgu, if_neg hn, Store.push_get, if_neg (by omega)]) hH.cs hH.fs
        rw [← hτ, hgu, if_pos rfl, wrap_of (x := H.live + 1) (by omega) (by omega)]
      have hF : Fr σ τ [id] [id] := ⟨by rw [← hτ]; simp only [Store.upd_next, Store.push_next]; omega, fun j hj hn => by rw [← hτ, hgu, if_neg (by simpa using hn), Store.push_get, if_neg (by omega)], fun i hi => .inl hi⟩
      clear hτ
      refine (hown τ (fun i hi => hF.keep i (hd i hi).1 (by simpa using (hd i hi).2))).mono ?_
      rintro r s ⟨rfl, rfl⟩
      simp only [S, argList, aPut, aFill, ↓reduceIte, Nat.reduceEqDiff, Nat.reduceAdd, Nat.reduceLeDiff, reduceCtorEq]
      try simp only [S, argList, aPut, aFill, ↓reduceIte, Nat.reduceEqDiff, Nat.reduceAdd, Nat.reduceLeDiff, reduceCtorEq, Nd.cells, hT.hd, hT.ne, hT.fs.len]
      repeat ((with_reducible first | refine AWP_seq ?_ | refine AWP_block ?_ | refine AWP_scope ?_ | refine AWP_reg ?_ | refine AWP_draw ?_ | refine AWP_skip ?_ | refine AWP_ret ?_ | refine AWP_exit ?_ | (refine AWP_cond_true ?_ ?_; · simp only [S, argList, aPut, aFill, ↓reduceIte, Nat.reduceEqDiff, Nat.reduceAdd, Nat.reduceLeDiff, reduceCtorEq, Nd.cells, hT.hd, hT.ne, hT.fs.len]) | (refine AWP_cond_false ?_ ?_; · simp only [S, argList, aPut, aFill, ↓reduceIte, Nat.reduceEqDiff, Nat.reduceAdd, Nat.reduceLeDiff, reduceCtorEq, Nd.cells, hT.hd, hT.ne, hT.fs.len])); try simp only [S, argList, aPut, aFill, ↓reduceIte, Nat.reduceEqDiff, Nat.reduceAdd, Nat.reduceLeDiff, reduceCtorEq, Nd.cells, hT.hd, hT.ne, hT.fs.len])
      generalize hs2 : s.push _ = s2
      have hN2 : s2.next = s.next + 1 := by rw [← hs2]; rfl
      have hT2 := hT.push (.cells 95 0 5 [[.int .i64 x.tag, .int .i64 x.n, ints x.l, .bool true, .bool false]])
      have hbox : s2.get s.next = some (.cells 95 0 5 [[.int .i64 x.tag, .int .i64 x.n, ints x.l, .bool true, .bool false]]) := by rw [← hs2]; simp [Store.push_get]
      rw [hs2] at hT2
      have hF2 : Fr s s2 [] [] := ⟨by omega, fun j hj _ => by rw [← hs2, Store.push_get, if_neg (by omega)], by simp⟩
      clear hs2
      have hlen := hG.len
      rcases List.eq_nil_or_concat H.free with hfree | ⟨pre, a, hfree⟩
      · have hfz : H.free.length = 0 := by simp [hfree]
        have hcl : H.cells.length < 16777216 := by
          have := freeOf_nil (l := H.cells) (by rw [← hG.free]; exact hfree)
          omega
        try simp only [S, argList, aPut, aFill, ↓reduceIte, Nat.reduceEqDiff, Nat.reduceAdd, Nat.reduceLeDiff, reduceCtorEq, hT2.hd, hfz, hbox, Int.lt_irrefl, Int.ofNat_zero]
        repeat ((with_reducible first | refine AWP_seq ?_ | refine AWP_block ?_ | refine AWP_scope ?_ | refine AWP_reg ?_ | refine AWP_draw ?_ | refine AWP_skip ?_ | refine AWP_ret ?_ | refine AWP_exit ?_ | (refine AWP_cond_true ?_ ?_; · simp only [S, argList, aPut, aFill, ↓reduceIte, Nat.reduceEqDiff, Nat.reduceAdd, Nat.reduceLeDiff, reduceCtorEq, hT2.hd, hfz, hbox, Int.lt_irrefl, Int.ofNat_zero]) | (refine AWP_cond_false ?_ ?_; · simp only [S, argList, aPut, aFill, ↓reduceIte, Nat.reduceEqDiff, Nat.reduceAdd, Nat.reduceLeDiff, reduceCtorEq, hT2.hd, hfz, hbox, Int.lt_irrefl, Int.ofNat_zero])); try simp only [S, argList, aPut, aFill, ↓reduceIte, Nat.reduceEqDiff, Nat.reduceAdd, Nat.reduceLeDiff, reduceCtorEq, hT2.hd, hfz, hbox, Int.lt_irrefl, Int.ofNat_zero])
        refine ok_app hT2.cs (by simp) (by simp; omega) (by simp [maxLen]; omega) ?_
        intro v' s4 hS4 hF4
        have hid2 : id < s2.next := s2.lt hT2.hd
        have hd4 : s4.get id = _ := (hF4.keep id hid2 (fun hi => hT2.ty (.inl hi) rfl)).trans hT2.hd
        have hid4 : id < s4.next := by have := hF4.next; omega
        have hw : IntKind.i64.wrap (((H.cells.length + 1 : Nat) : Int) - 1) = (H.cells.length : Int) := by rw [wrap_of (by omega) (by omega)]; omega
        try simp only [S, argList, aPut, aFill, ↓reduceIte, Nat.reduceEqDiff, Nat.reduceAdd, Nat.reduceLeDiff, reduceCtorEq, hd4, Store.get_upd_self _ _ hid4, hS4.co, hS4.len, List.length_append, hw]
        repeat ((with_reducible first | refine AWP_seq ?_ | refine AWP_block ?_ | refine AWP_scope ?_ | refine AWP_reg ?_ | refine AWP_draw ?_ | refine AWP_skip ?_ | refine AWP_ret ?_ | refine AWP_exit ?_ | (refine AWP_cond_true ?_ ?_; · simp only [S, argList, aPut, aFill, ↓reduceIte, Nat.reduceEqDiff, Nat.reduceAdd, Nat.reduceLeDiff, reduceCtorEq, hd4, Store.get_upd_self _ _ hid4, hS4.co, hS4.len, List.length_append, hw]) | (refine AWP_cond_false ?_ ?_; · simp only [S, argList, aPut, aFill, ↓reduceIte, Nat.reduceEqDiff, Nat.reduceAdd, Nat.reduceLeDiff, reduceCtorEq, hd4, Store.get_upd_self _ _ hid4, hS4.co, hS4.len, List.length_append, hw])); try simp only [S, argList, aPut, aFill, ↓reduceIte, Nat.reduceEqDiff, Nat.reduceAdd, Nat.reduceLeDiff, reduceCtorEq, hd4, Store.get_upd_self _ _ hid4, hS4.co, hS4.len, List.length_append, hw])
        have e : H.alloc x = ({ H with live := H.live + 1, allocs := IntKind.i64.wrap (H.allocs + 1), cells := H.cells ++ [(some x, false)] }, (H.cells.length : Int), 0) := by
          simp [Hp.alloc, hal, hfull, hfree]
        rw [e]
        have hk5 : ∀ o j, j ≠ id → (s4.upd id o).get j = s4.get j := fun o j hj => Store.get_upd_ne _ _ hj
        refine ⟨rfl, v', fs, ⟨Store.get_upd_self _ _ hid4, ?_, ?_⟩, ?_⟩
        · have := hS4.keep (σ' := s4.upd id (.cells 91 0 5 [[.int .i64 H.cap, v', fs, .int .i64 (H.live + 1), .int .i64 (IntKind.i64.wrap (H.allocs + 1))]])) fun i hi => hk5 _ i ?_
          · simpa [Cl.cells] using this
          · rintro rfl; obtain ⟨_, _, e⟩ := hS4.ids hi; rw [hd4] at e; simp at e
        · refine hT2.fs.keep fun i hi => ?_
          rw [hk5 _ i (hT2.ty (.inr hi)), hF4.keep i (hT2.fs.lt hi)]
          intro hi'
          obtain ⟨_, _, e1⟩ := hT2.fs.ids hi
          obtain ⟨_, _, e2⟩ := hT2.cs.ids hi'
          rw [e1] at e2; simp at e2
        · refine ⟨?_, fun j hj hn => ?_, fun i hi => ?_⟩
          · simp only [Store.upd_next]; have := hF.next; have := hF4.next; omega
          · simp [foot] at hn
            rw [hk5 _ j hn.1, hF4.keep j (by have := hF.next; omega) hn.2.1, hF2.keep j (by have := hF.next; omega) (by simp), hF.keep j hj (by simp [hn.1])]
          · simp only [foot, List.mem_cons, List.mem_append] at hi ⊢
            rcases hi with hi | hi | hi
            · exact .inl (.inl hi)
            · rcases hF4.fresh i hi with h | h
              · exact .inl (.inr (.inl h))
              · right; have := hF.next; omega
            · exact .inl (.inr (.inr hi))
      · have hin := hG.inFree (a := a) (by rw [hfree]; simp)
        obtain ⟨h0, hlt, m, hcell⟩ := hin
        obtain ⟨cid, ver, es', hcs, hg, hes, hlt2⟩ := hT2.cell hcell
        obtain ⟨fid, fver, fes, hfs, hfg⟩ := hT2.fs.own (by simp [hfree])
        have hfl : H.free.length = pre.length + 1 := by simp [hfree]
        simp only [List.length_map, hfl] at hfs
        subst hcs
        subst hfs
        have hpl : pre.length < 16777216 := by
          have : H.free.length ≤ H.cells.length := by
            rw [hG.free]; simp only [freeOf, List.length_map, List.length_reverse]
            exact Nat.le_trans (List.length_filter_le _ _) (by simp)
          omega
        have hw : IntKind.i64.wrap (((pre.length + 1 : Nat) : Int) - 1) = (pre.length : Int) := by rw [wrap_of (by omega) (by omega)]; omega
        have hget : (H.free.map (fun x => [AV.int .i64 x]) ++ fes)[pre.length]? = some [.int .i64 a] := by simp [hfree]
        have hp1 : (0 : Int) < ((pre.length + 1 : Nat) : Int) := by omega
        have hp2 : (0 : Int) ≤ (pre.length : Int) := by omega
        have hp3 : (pre.length : Int) < ((pre.length + 1 : Nat) : Int) := by omega
        have hp4 : (pre.length : Int) ≤ ((pre.length + 1 : Nat) : Int) := by omega
        try simp only [S, argList, aPut, aFill, ↓reduceIte, Nat.reduceEqDiff, Nat.reduceAdd, Nat.reduceLeDiff, reduceCtorEq, hT2.hd, hfl, List.length_map, hp1, hw, hfg, hp2, hp3, hp4, Int.toNat_natCast, hget, Int.toNat_zero, Nat.sub_zero, Int.le_refl]
        repeat ((with_reducible first | refine AWP_seq ?_ | refine AWP_block ?_ | refine AWP_scope ?_ | refine AWP_reg ?_ | refine AWP_draw ?_ | refine AWP_skip ?_ | refine AWP_ret ?_ | refine AWP_exit ?_ | (refine AWP_cond_true ?_ ?_; · simp only [S, argList, aPut, aFill, ↓reduceIte, Nat.reduceEqDiff, Nat.reduceAdd, Nat.reduceLeDiff, reduceCtorEq, hT2.hd, hfl, List.length_map, hp1, hw, hfg, hp2, hp3, hp4, Int.toNat_natCast, hget, Int.toNat_zero, Nat.sub_zero, Int.le_refl]) | (refine AWP_cond_false ?_ ?_; · simp only [S, argList, aPut, aFill, ↓reduceIte, Nat.reduceEqDiff, Nat.reduceAdd, Nat.reduceLeDiff, reduceCtorEq, hT2.hd, hfl, List.length_map, hp1, hw, hfg, hp2, hp3, hp4, Int.toNat_natCast, hget, Int.toNat_zero, Nat.sub_zero, Int.le_refl])); try simp only [S, argList, aPut, aFill, ↓reduceIte, Nat.reduceEqDiff, Nat.reduceAdd, Nat.reduceLeDiff, reduceCtorEq, hT2.hd, hfl, List.length_map, hp1, hw, hfg, hp2, hp3, hp4, Int.toNat_natCast, hget, Int.toNat_zero, Nat.sub_zero, Int.le_refl])
        have hidlt : id < s2.next := s2.lt hT2.hd
        generalize hs3 : s2.upd id _ = s3
        have hk3 : ∀ j, j ≠ id → s3.get j = s2.get j := fun j hj => by rw [← hs3, Store.get_upd_ne _ _ hj]
        have hT3 : HeapAt s3 id (.own cid ver 5 0 H.cells.length) (.own fid fver 1 0 pre.length) { H with live := H.live + 1, allocs := IntKind.i64.wrap (H.allocs + 1), free := pre } := by
          refine hT2.setHd ?_ (fun j _ hj => hk3 j hj) hT2.cs (.inr ⟨fid, fver, [.int .i64 a] :: fes, by simp, by simp only [hfg, hfree]; simp⟩)
          rw [← hs3, Store.get_upd_self _ _ hidlt]
        have hb3 : s3.get s.next = _ := (hk3 s.next (by have := s.lt hT.hd; omega)).trans hbox
        have hg3 : s3.get cid = _ := (hk3 cid (hT2.ty (.inl (by simp [slIds])))).trans hg
        have hN3 : s3.next = s2.next := by rw [← hs3]; rfl
        have hF3 : Fr s2 s3 [id] [id] := ⟨by omega, fun j _ hj => hk3 j (by simpa using hj), fun i hi => .inl hi⟩
        clear hs3
        have hlt' : a < H.cells.length := by omega
        try simp only [S, argList, aPut, aFill, ↓reduceIte, Nat.reduceEqDiff, Nat.reduceAdd, Nat.reduceLeDiff, reduceCtorEq, hT3.hd, hb3, hg3, h0, hlt', hes, Cl.cells]
        repeat ((with_reducible first | refine AWP_seq ?_ | refine AWP_block ?_ | refine AWP_scope ?_ | refine AWP_reg ?_ | refine AWP_draw ?_ | refine AWP_skip ?_ | refine AWP_ret ?_ | refine AWP_exit ?_ | (refine AWP_cond_true ?_ ?_; · simp only [S, argList, aPut, aFill, ↓reduceIte, Nat.reduceEqDiff, Nat.reduceAdd, Nat.reduceLeDiff, reduceCtorEq, hT3.hd, hb3, hg3, h0, hlt', hes, Cl.cells]) | (refine AWP_cond_false ?_ ?_; · simp only [S, argList, aPut, aFill, ↓reduceIte, Nat.reduceEqDiff, Nat.reduceAdd, Nat.reduceLeDiff, reduceCtorEq, hT3.hd, hb3, hg3, h0, hlt', hes, Cl.cells])); try simp only [S, argList, aPut, aFill, ↓reduceIte, Nat.reduceEqDiff, Nat.reduceAdd, Nat.reduceLeDiff, reduceCtorEq, hT3.hd, hb3, hg3, h0, hlt', hes, Cl.cells])
        have e : H.alloc x = ({ H with live := H.live + 1, allocs := IntKind.i64.wrap (H.allocs + 1), cells := H.cells.set a.toNat (some x, false), free := pre }, a, 0) := by
          simp [Hp.alloc, hal, hfull, hfree]
        rw [e]
        have hcl := s3.lt hg3
        have hF4 : ∀ o, Fr s3 (s3.upd cid o) [cid] [cid] := fun o => ⟨by simp only [Store.upd_next]; omega, fun j hj hn => Store.get_upd_ne _ _ (by simpa using hn), fun i hi => .inl hi⟩
        refine ⟨rfl, _, _, hT3.setCell hg3 hlt (some x, false) (by rw [Store.get_upd_self _ _ hcl]; rfl) (fun j hj hn => Store.get_upd_ne _ _ hn), ?_⟩
        refine ⟨?_, fun j hj hn => ?_, fun i hi => .inl (by simpa [foot, slIds] using hi)⟩
        · simp only [Store.upd_next]; have := hF.next; omega
        · simp [foot, slIds] at hn
          rw [Store.get_upd_ne _ _ hn.2.1, hk3 j hn.1, hF2.keep j (by have := hF.next; omega) (by simp), hF.keep j hj (by simp [hn.1])]

theorem all_gen {id : Nat} {σ : Store} {cs fs : AV} {H : Hp} (hH : HeapAt σ id cs fs H) {v : AV} {l : List Int} (hv : Rds σ v 1 (l.map fun x => [.int .i64 x])) (hl : l.length ≤ 1000000000) :
    ACalls Try.prog 38 [.ptr id 0 0 0, v] σ fun r σ' => r = .bool (H.all l) ∧ σ' = σ := by
  have hlen := hv.len
  simp only [List.length_map] at hlen
  refine in38 (by simp) ?_
  unfold c38
  try simp only [S, argList, aPut, aFill, ↓reduceIte, Nat.reduceEqDiff, Nat.reduceAdd, Nat.reduceLeDiff, reduceCtorEq, hlen]
  repeat ((with_reducible first | refine AWP_seq ?_ | refine AWP_block ?_ | refine AWP_scope ?_ | refine AWP_reg ?_ | refine AWP_draw ?_ | refine AWP_skip ?_ | refine AWP_ret ?_ | refine AWP_exit ?_ | (refine AWP_cond_true ?_ ?_; · simp only [S, argList, aPut, aFill, ↓reduceIte, Nat.reduceEqDiff, Nat.reduceAdd, Nat.reduceLeDiff, reduceCtorEq, hlen]) | (refine AWP_cond_false ?_ ?_; · simp only [S, argList, aPut, aFill, ↓reduceIte, Nat.reduceEqDiff, Nat.reduceAdd, Nat.reduceLeDiff, reduceCtorEq, hlen])); try simp only [S, argList, aPut, aFill, ↓reduceIte, Nat.reduceEqDiff, Nat.reduceAdd, Nat.reduceLeDiff, reduceCtorEq, hlen])
  refine AWP_while [0, 7, 8, 9] (fun i : Nat => l.length - i) (fun i => [.ptr id 0 0 0, v, .int .i64 l.length, .int .i64 i])
    (fun i s => s = σ ∧ i ≤ l.length ∧ (l.take i).all H.has = true) 0 ⟨rfl, by omega, by simp⟩ ?_ ?_
  · try simp only [S, argList, aPut, aFill, ↓reduceIte, Nat.reduceEqDiff, Nat.reduceAdd, Nat.reduceLeDiff, reduceCtorEq]
    repeat ((with_reducible first | refine AWP_seq ?_ | refine AWP_block ?_ | refine AWP_scope ?_ | refine AWP_reg ?_ | refine AWP_draw ?_ | refine AWP_skip ?_ | refine AWP_ret ?_ | refine AWP_exit ?_ | (refine AWP_cond_true ?_ ?_; · simp only [S, argList, aPut, aFill, ↓reduceIte, Nat.reduceEqDiff, Nat.reduceAdd, Nat.reduceLeDiff, reduceCtorEq]) | (refine AWP_cond_false ?_ ?_; · simp only [S, argList, aPut, aFill, ↓reduceIte, Nat.reduceEqDiff, Nat.reduceAdd, Nat.reduceLeDiff, reduceCtorEq])); try simp only [S, argList, aPut, aFill, ↓reduceIte, Nat.reduceEqDiff, Nat.reduceAdd, Nat.reduceLeDiff, reduceCtorEq])
    rfl
  · rintro i s ⟨rfl, hi, hall⟩
    by_cases h : i < l.length
    · have h' : (i : Int) < (l.length : Int) := by omega
      obtain ⟨x, hx⟩ : ∃ x, l[i]? = some x := ⟨_, List.getElem?_eq_getElem h⟩
      obtain ⟨p, hp, hep⟩ := hv.iad i [.int .i64 x] (by simp [hx])
      have hld := hep.load none
      try simp only [S, argList, aPut, aFill, ↓reduceIte, Nat.reduceEqDiff, Nat.reduceAdd, Nat.reduceLeDiff, reduceCtorEq, h', hp, hld]
      repeat ((with_reducible first | refine AWP_seq ?_ | refine AWP_block ?_ | refine AWP_scope ?_ | refine AWP_reg ?_ | refine AWP_draw ?_ | refine AWP_skip ?_ | refine AWP_ret ?_ | refine AWP_exit ?_ | (refine AWP_cond_true ?_ ?_; · simp only [S, argList, aPut, aFill, ↓reduceIte, Nat.reduceEqDiff, Nat.reduceAdd, Nat.reduceLeDiff, reduceCtorEq, h', hp, hld]) | (refine AWP_cond_false ?_ ?_; · simp only [S, argList, aPut, aFill, ↓reduceIte, Nat.reduceEqDiff, Nat.reduceAdd, Nat.reduceLeDiff, reduceCtorEq, h', hp, hld])); try simp only [S, argList, aPut, aFill, ↓reduceIte, Nat.reduceEqDiff, Nat.reduceAdd, Nat.reduceLeDiff, reduceCtorEq, h', hp, hld])
      refine (has_ok hH x).mono ?_
      rintro r s ⟨rfl, rfl⟩
      simp only [S, argList, aPut, aFill, ↓reduceIte, Nat.reduceEqDiff, Nat.reduceAdd, Nat.reduceLeDiff, reduceCtorEq]
      cases hx2 : H.has x with
      | false =>
        try simp only [S, argList, aPut, aFill, ↓reduceIte, Nat.reduceEqDiff, Nat.reduceAdd, Nat.reduceLeDiff, reduceCtorEq]
        repeat ((with_reducible first | refine AWP_seq ?_ | refine AWP_block ?_ | refine AWP_scope ?_ | refine AWP_reg ?_ | refine AWP_draw ?_ | refine AWP_skip ?_ | refine AWP_ret ?_ | refine AWP_exit ?_ | (refine AWP_cond_true ?_ ?_; · simp only [S, argList, aPut, aFill, ↓reduceIte, Nat.reduceEqDiff, Nat.reduceAdd, Nat.reduceLeDiff, reduceCtorEq]) | (refine AWP_cond_false ?_ ?_; · simp only [S, argList, aPut, aFill, ↓reduceIte, Nat.reduceEqDiff, Nat.reduceAdd, Nat.reduceLeDiff, reduceCtorEq])); try simp only [S, argList, aPut, aFill, ↓reduceIte, Nat.reduceEqDiff, Nat.reduceAdd, Nat.reduceLeDiff, reduceCtorEq])
        simp [all_false hx hx2]
      | true =>
        try simp only [S, argList, aPut, aFill, ↓reduceIte, Nat.reduceEqDiff, Nat.reduceAdd, Nat.reduceLeDiff, reduceCtorEq, wrap_succ (i := i) (by omega)]
        repeat ((with_reducible first | refine AWP_seq ?_ | refine AWP_block ?_ | refine AWP_scope ?_ | refine AWP_reg ?_ | refine AWP_draw ?_ | refine AWP_skip ?_ | refine AWP_ret ?_ | refine AWP_exit ?_ | (refine AWP_cond_true ?_ ?_; · simp only [S, argList, aPut, aFill, ↓reduceIte, Nat.reduceEqDiff, Nat.reduceAdd, Nat.reduceLeDiff, reduceCtorEq, wrap_succ (i := i) (by omega)]) | (refine AWP_cond_false ?_ ?_; · simp only [S, argList, aPut, aFill, ↓reduceIte, Nat.reduceEqDiff, Nat.reduceAdd, Nat.reduceLeDiff, reduceCtorEq, wrap_succ (i := i) (by omega)])); try simp only [S, argList, aPut, aFill, ↓reduceIte, Nat.reduceEqDiff, Nat.reduceAdd, Nat.reduceLeDiff, reduceCtorEq, wrap_succ (i := i) (by omega)])
        exact ⟨i + 1, rfl, ⟨by omega, all_take hx hall hx2⟩, by omega⟩
    · have h' : ¬ (i : Int) < (l.length : Int) := by omega
      try simp only [S, argList, aPut, aFill, ↓reduceIte, Nat.reduceEqDiff, Nat.reduceAdd, Nat.reduceLeDiff, reduceCtorEq, h']
      repeat ((with_reducible first | refine AWP_seq ?_ | refine AWP_block ?_ | refine AWP_scope ?_ | refine AWP_reg ?_ | refine AWP_draw ?_ | refine AWP_skip ?_ | refine AWP_ret ?_ | refine AWP_exit ?_ | (refine AWP_cond_true ?_ ?_; · simp only [S, argList, aPut, aFill, ↓reduceIte, Nat.reduceEqDiff, Nat.reduceAdd, Nat.reduceLeDiff, reduceCtorEq, h']) | (refine AWP_cond_false ?_ ?_; · simp only [S, argList, aPut, aFill, ↓reduceIte, Nat.reduceEqDiff, Nat.reduceAdd, Nat.reduceLeDiff, reduceCtorEq, h'])); try simp only [S, argList, aPut, aFill, ↓reduceIte, Nat.reduceEqDiff, Nat.reduceAdd, Nat.reduceLeDiff, reduceCtorEq, h'])
      rw [List.take_of_length_le (by omega)] at hall
      simp [Hp.all, hall]
/-- `own` at a node whose pointers are owned. -/
theorem own_own {σ : Store} {id ver len : Nat} {es : List (List AV)} (hg : σ.get id = some (.cells 3 ver 1 es)) (t n : Int) (l : List Int) (hl : es.take len = l.map fun x => [AV.int .i64 x]) (hlen : len ≤ es.length) (hb : l.length ≤ 1000) :
    ACalls Try.prog 39 [.agg [.int .i64 t, .int .i64 n, .own id ver 1 0 len]] σ fun r σ' => r = .agg (Nd.cells ⟨t, n, l⟩) ∧ σ' = σ := by
  refine ACalls_pure (K := fun r => r = .agg (Nd.cells ⟨t, n, l⟩)) ?_
  have x0 := lt_ne (σ.lt hg)
  have x1 : (id = σ.next + 1) = False := by have := σ.lt hg; simp; omega
  have hll : len = l.length := by have := congrArg List.length hl; simp at this; omega
  refine in39 (by simp) ?_
  unfold c39
  refine AWP_seq (AWP_reg ?_)
  simp only [S, argList, aPut, aFill, ↓reduceIte, Nat.reduceEqDiff, Nat.reduceAdd, Nat.reduceLeDiff, reduceCtorEq]
  refine AWP_seq (AWP_reg ?_)
  simp only [S, argList, aPut, aFill, ↓reduceIte, Nat.reduceEqDiff, Nat.reduceAdd, Nat.reduceLeDiff, reduceCtorEq]
  refine AWP_seq (AWP_reg ?_)
  have h0 : (len ≤ es.length) = True := by simp; omega
  simp only [S, argList, aPut, aFill, ↓reduceIte, Nat.reduceEqDiff, Nat.reduceAdd, Nat.reduceLeDiff, reduceCtorEq, lt_ne (Nat.lt_succ_self σ.next), x0, x1, hg, h0, hl]
  refine ok_app (SliceAt.nil _ 3 1) (by simp) (by simp; omega) (by simp [maxLen]; omega) ?_
  intro v s hS hF
  simp only [S, argList, aPut, aFill, ↓reduceIte, Nat.reduceEqDiff, Nat.reduceAdd, Nat.reduceLeDiff, reduceCtorEq]
  refine AWP_frozen 3 (by simp only [S, argList, aPut, aFill, ↓reduceIte, Nat.reduceEqDiff, Nat.reduceAdd, Nat.reduceLeDiff, reduceCtorEq]) hS ?_
  intro σ2 hn hk
  have hN := hF.next
  simp only [Store.push_next] at hN
  have hv : ∀ i, i < σ.next + 2 → i ∉ slIds v := fun i hi hm => by
    have := hF.fresh i hm
    simp [slIds, Store.push_next] at this; omega
  have hgg : ∀ i, i < σ.next + 2 → σ2.get i = _ := fun i hi => by
    rw [hk i (hv i hi), hF.keep i (by simp only [Store.push_next]; omega) (by simp [slIds])]
  have e1 := hgg σ.next (by omega)
  have e2 := hgg (σ.next + 1) (by omega)
  simp only [Store.push_get, Store.push_next, lt_ne (Nat.lt_succ_self σ.next), if_true, if_false] at e1 e2
  have l1 : σ.next < σ2.next := by omega
  have l2 : σ.next + 1 < σ2.next := by omega
  have l3 : ∀ o, σ.next + 1 < (σ2.upd σ.next o).next := fun o => l2
  try simp only [S, argList, aPut, aFill, ↓reduceIte, Nat.reduceEqDiff, Nat.reduceAdd, Nat.reduceLeDiff, reduceCtorEq, e1, e2, Store.get_upd _ _ l1, Store.get_upd _ _ (l3 _), Nat.succ_ne_self, Nd.cells, ints]
  repeat ((with_reducible first | refine AWP_seq ?_ | refine AWP_block ?_ | refine AWP_scope ?_ | refine AWP_reg ?_ | refine AWP_draw ?_ | refine AWP_skip ?_ | refine AWP_ret ?_ | refine AWP_exit ?_ | (refine AWP_cond_true ?_ ?_; · simp only [S, argList, aPut, aFill, ↓reduceIte, Nat.reduceEqDiff, Nat.reduceAdd, Nat.reduceLeDiff, reduceCtorEq, e1, e2, Store.get_upd _ _ l1, Store.get_upd _ _ (l3 _), Nat.succ_ne_self, Nd.cells, ints]) | (refine AWP_cond_false ?_ ?_; · simp only [S, argList, aPut, aFill, ↓reduceIte, Nat.reduceEqDiff, Nat.reduceAdd, Nat.reduceLeDiff, reduceCtorEq, e1, e2, Store.get_upd _ _ l1, Store.get_upd _ _ (l3 _), Nat.succ_ne_self, Nd.cells, ints])); try simp only [S, argList, aPut, aFill, ↓reduceIte, Nat.reduceEqDiff, Nat.reduceAdd, Nat.reduceLeDiff, reduceCtorEq, e1, e2, Store.get_upd _ _ l1, Store.get_upd _ _ (l3 _), Nat.succ_ne_self, Nd.cells, ints])
  refine ⟨Nd.cln ⟨t, n, l⟩, by omega, fun i hi => ?_⟩
  rw [if_neg (by omega), if_neg (by omega), hgg i (by omega)]
  simp only [Store.push_get, Store.push_next]
  rw [if_neg (by omega), if_neg (by omega)]
/-- `own` answers a node whose pointers are its own. -/
theorem own_fresh (σ : Store) (x : Nd) (hb : x.l.length ≤ 1000) :
    ACalls Try.prog 39 [.agg x.cells] σ fun r σ' => ∃ v, r = .agg [.int .i64 x.tag, .int .i64 x.n, v] ∧ Grow σ σ' v 3 1 (x.l.map fun x => [.int .i64 x]) := by
  refine in39 (by simp) ?_
  unfold c39
  refine AWP_seq (AWP_reg ?_)
  simp only [S, argList, aPut, aFill, ↓reduceIte, Nat.reduceEqDiff, Nat.reduceAdd, Nat.reduceLeDiff, reduceCtorEq, Nd.cells]
  refine AWP_seq (AWP_reg ?_)
  simp only [S, argList, aPut, aFill, ↓reduceIte, Nat.reduceEqDiff, Nat.reduceAdd, Nat.reduceLeDiff, reduceCtorEq]
  refine AWP_seq (AWP_reg ?_)
  simp only [S, argList, aPut, aFill, ↓reduceIte, Nat.reduceEqDiff, Nat.reduceAdd, Nat.reduceLeDiff, reduceCtorEq, ints, lt_ne (Nat.lt_succ_self σ.next)]
  refine ok_grow (Grow.start _ 3 1) (by simp) (by simp; omega) (by simp [maxLen]; omega) ?_
  intro v s hS hkeep hnx
  have e1 : s.get σ.next = some (.cells 31 0 3 [[.int .i64 x.tag, .int .i64 x.n, ints x.l]]) := by
    rw [hS.kp.keep _ (by simp only [Store.push_next]; omega)]
    simp only [Store.push_get, Store.push_next, lt_ne (Nat.lt_succ_self σ.next), if_true, if_false]
    rfl
  have e2 : s.get (σ.next + 1) = some (.cells 31 0 3 [[.int .i64 0, .int .i64 0, .nils]]) := by
    rw [hS.kp.keep _ (by simp only [Store.push_next]; omega)]
    simp only [Store.push_get, Store.push_next, if_true]
  have l1 : σ.next < s.next := by have := hS.kp.next; simp only [Store.push_next] at this; omega
  have l2 : σ.next + 1 < s.next := by have := hS.kp.next; simp only [Store.push_next] at this; omega
  have l3 : ∀ o, σ.next + 1 < (s.upd σ.next o).next := fun o => l2
  have hco := hS.sl.co
  simp only [S, argList, aPut, aFill, ↓reduceIte, Nat.reduceEqDiff, Nat.reduceAdd, Nat.reduceLeDiff, reduceCtorEq]
  try simp only [S, argList, aPut, aFill, ↓reduceIte, Nat.reduceEqDiff, Nat.reduceAdd, Nat.reduceLeDiff, reduceCtorEq, e1, e2, Store.get_upd _ _ l1, Store.get_upd _ _ (l3 _), Nat.succ_ne_self, Nd.cells, ints, hco]
  repeat ((with_reducible first | refine AWP_seq ?_ | refine AWP_block ?_ | refine AWP_scope ?_ | refine AWP_reg ?_ | refine AWP_draw ?_ | refine AWP_skip ?_ | refine AWP_ret ?_ | refine AWP_exit ?_ | (refine AWP_cond_true ?_ ?_; · simp only [S, argList, aPut, aFill, ↓reduceIte, Nat.reduceEqDiff, Nat.reduceAdd, Nat.reduceLeDiff, reduceCtorEq, e1, e2, Store.get_upd _ _ l1, Store.get_upd _ _ (l3 _), Nat.succ_ne_self, Nd.cells, ints, hco]) | (refine AWP_cond_false ?_ ?_; · simp only [S, argList, aPut, aFill, ↓reduceIte, Nat.reduceEqDiff, Nat.reduceAdd, Nat.reduceLeDiff, reduceCtorEq, e1, e2, Store.get_upd _ _ l1, Store.get_upd _ _ (l3 _), Nat.succ_ne_self, Nd.cells, ints, hco])); try simp only [S, argList, aPut, aFill, ↓reduceIte, Nat.reduceEqDiff, Nat.reduceAdd, Nat.reduceLeDiff, reduceCtorEq, e1, e2, Store.get_upd _ _ l1, Store.get_upd _ _ (l3 _), Nat.succ_ne_self, Nd.cells, ints, hco])
  have hfr : ∀ j, j ∈ slIds v → σ.next + 2 ≤ j := fun j hj => by have := hS.fresh j hj; simp only [Store.push_next] at this; omega
  refine ⟨v, rfl, ⟨?_, hS.sl.keep fun j hj => ?_, fun j hj => by have := hfr j hj; omega⟩⟩
  · refine ⟨by simp only [Store.upd_next]; omega, fun j hj => ?_⟩
    rw [Store.get_upd_ne _ _ (by omega), Store.get_upd_ne _ _ (by omega), hS.kp.keep j (by simp only [Store.push_next]; omega), Store.push_get, if_neg (by simp only [Store.push_next]; omega), Store.push_get, if_neg (by omega)]
  · have := hfr j hj
    rw [Store.get_upd_ne _ _ (by omega), Store.get_upd_ne _ _ (by omega)]
theorem get_fresh {id : Nat} {σ : Store} {cs fs : AV} {H : Hp} (hH : HeapAt σ id cs fs H) (hc : 0 < H.cap) (a : Int) (x : Nd) (hx : H.at a = some x) (hb : x.l.length ≤ 1000) :
    ACalls Try.prog 16 [.ptr id 0 0 0, .int .i64 a] σ fun r σ' => ∃ v, r = .tuple [.agg [.int .i64 x.tag, .int .i64 x.n, v], .bool true] ∧ Grow σ σ' v 3 1 (x.l.map fun x => [.int .i64 x]) := by
  have hh : H.has a = true := by unfold Hp.has; rw [hx]; rfl
  refine in16 (by simp) ?_
  unfold c16
  try simp only [S, argList, aPut, aFill, ↓reduceIte, Nat.reduceEqDiff, Nat.reduceAdd, Nat.reduceLeDiff, reduceCtorEq]
  repeat ((with_reducible first | refine AWP_seq ?_ | refine AWP_block ?_ | refine AWP_scope ?_ | refine AWP_reg ?_ | refine AWP_draw ?_ | refine AWP_skip ?_ | refine AWP_ret ?_ | refine AWP_exit ?_ | (refine AWP_cond_true ?_ ?_; · simp only [S, argList, aPut, aFill, ↓reduceIte, Nat.reduceEqDiff, Nat.reduceAdd, Nat.reduceLeDiff, reduceCtorEq]) | (refine AWP_cond_false ?_ ?_; · simp only [S, argList, aPut, aFill, ↓reduceIte, Nat.reduceEqDiff, Nat.reduceAdd, Nat.reduceLeDiff, reduceCtorEq])); try simp only [S, argList, aPut, aFill, ↓reduceIte, Nat.reduceEqDiff, Nat.reduceAdd, Nat.reduceLeDiff, reduceCtorEq])
  refine (made_ok (hH.push _)).mono ?_
  rintro r s ⟨rfl, rfl⟩
  simp only [S, argList, aPut, aFill, ↓reduceIte, Nat.reduceEqDiff, Nat.reduceAdd, Nat.reduceLeDiff, reduceCtorEq]
  try simp only [S, argList, aPut, aFill, ↓reduceIte, Nat.reduceEqDiff, Nat.reduceAdd, Nat.reduceLeDiff, reduceCtorEq, hc]
  repeat ((with_reducible first | refine AWP_seq ?_ | refine AWP_block ?_ | refine AWP_scope ?_ | refine AWP_reg ?_ | refine AWP_draw ?_ | refine AWP_skip ?_ | refine AWP_ret ?_ | refine AWP_exit ?_ | (refine AWP_cond_true ?_ ?_; · simp only [S, argList, aPut, aFill, ↓reduceIte, Nat.reduceEqDiff, Nat.reduceAdd, Nat.reduceLeDiff, reduceCtorEq, hc]) | (refine AWP_cond_false ?_ ?_; · simp only [S, argList, aPut, aFill, ↓reduceIte, Nat.reduceEqDiff, Nat.reduceAdd, Nat.reduceLeDiff, reduceCtorEq, hc])); try simp only [S, argList, aPut, aFill, ↓reduceIte, Nat.reduceEqDiff, Nat.reduceAdd, Nat.reduceLeDiff, reduceCtorEq, hc])
  refine (has_ok (hH.push _) a).mono ?_
  rintro r s ⟨rfl, rfl⟩
  simp only [S, argList, aPut, aFill, ↓reduceIte, Nat.reduceEqDiff, Nat.reduceAdd, Nat.reduceLeDiff, reduceCtorEq]
  obtain ⟨x', hat, h0, m, hcell⟩ := Hp.has_at hh
  rw [hx] at hat; cases hat
  obtain ⟨cid, ver, es', hcs, hg, hes, hlt⟩ := hH.cell hcell
  subst hcs
  have hlt' : a < H.cells.length := by omega
  try simp only [S, argList, aPut, aFill, ↓reduceIte, Nat.reduceEqDiff, Nat.reduceAdd, Nat.reduceLeDiff, reduceCtorEq, hh, h0, hlt', hg, hes, hH.hd, hH.ne, Cl.cells, lt_ne (σ.lt hg)]
  repeat ((with_reducible first | refine AWP_seq ?_ | refine AWP_block ?_ | refine AWP_scope ?_ | refine AWP_reg ?_ | refine AWP_draw ?_ | refine AWP_skip ?_ | refine AWP_ret ?_ | refine AWP_exit ?_ | (refine AWP_cond_true ?_ ?_; · simp only [S, argList, aPut, aFill, ↓reduceIte, Nat.reduceEqDiff, Nat.reduceAdd, Nat.reduceLeDiff, reduceCtorEq, hh, h0, hlt', hg, hes, hH.hd, hH.ne, Cl.cells, lt_ne (σ.lt hg)]) | (refine AWP_cond_false ?_ ?_; · simp only [S, argList, aPut, aFill, ↓reduceIte, Nat.reduceEqDiff, Nat.reduceAdd, Nat.reduceLeDiff, reduceCtorEq, hh, h0, hlt', hg, hes, hH.hd, hH.ne, Cl.cells, lt_ne (σ.lt hg)])); try simp only [S, argList, aPut, aFill, ↓reduceIte, Nat.reduceEqDiff, Nat.reduceAdd, Nat.reduceLeDiff, reduceCtorEq, hh, h0, hlt', hg, hes, hH.hd, hH.ne, Cl.cells, lt_ne (σ.lt hg)])
  refine (own_fresh _ x hb).mono ?_
  rintro r s ⟨v, rfl, hG⟩
  have e1 : s.get σ.next = some (.cells 31 0 3 [[.int .i64 0, .int .i64 0, .nils]]) := hG.kp.get (by simp [Store.push_get])
  have l1 : σ.next < s.next := by have := hG.kp.next; simp only [Store.push_next] at this; omega
  try simp only [S, argList, aPut, aFill, ↓reduceIte, Nat.reduceEqDiff, Nat.reduceAdd, Nat.reduceLeDiff, reduceCtorEq, e1, Store.get_upd _ _ l1]
  repeat ((with_reducible first | refine AWP_seq ?_ | refine AWP_block ?_ | refine AWP_scope ?_ | refine AWP_reg ?_ | refine AWP_draw ?_ | refine AWP_skip ?_ | refine AWP_ret ?_ | refine AWP_exit ?_ | (refine AWP_cond_true ?_ ?_; · simp only [S, argList, aPut, aFill, ↓reduceIte, Nat.reduceEqDiff, Nat.reduceAdd, Nat.reduceLeDiff, reduceCtorEq, e1, Store.get_upd _ _ l1]) | (refine AWP_cond_false ?_ ?_; · simp only [S, argList, aPut, aFill, ↓reduceIte, Nat.reduceEqDiff, Nat.reduceAdd, Nat.reduceLeDiff, reduceCtorEq, e1, Store.get_upd _ _ l1])); try simp only [S, argList, aPut, aFill, ↓reduceIte, Nat.reduceEqDiff, Nat.reduceAdd, Nat.reduceLeDiff, reduceCtorEq, e1, Store.get_upd _ _ l1])
  have hfr : ∀ j, j ∈ slIds v → σ.next + 1 ≤ j := fun j hj => by have := hG.fresh j hj; simp only [Store.push_next] at this; omega
  refine ⟨v, rfl, ⟨⟨by simp only [Store.upd_next]; omega, fun j hj => ?_⟩, hG.sl.keep fun j hj => ?_, fun j hj => by have := hfr j hj; omega⟩⟩
  · rw [Store.get_upd_ne _ _ (by omega), hG.kp.keep j (by simp only [Store.push_next]; omega), Store.push_get, if_neg (by omega)]
  · have := hfr j hj
    rw [Store.get_upd_ne _ _ (by omega)]
theorem alloc_nilp (σ : Store) (c : List AV) : ACalls Try.prog 14 [.nilp, .agg c] σ fun r σ' => r = .tuple [.int .i64 0, .int .i64 3] ∧ Kp σ σ' := by
  refine in14 (by simp) ?_
  unfold c14
  try simp only [S, argList, aPut, aFill, ↓reduceIte, Nat.reduceEqDiff, Nat.reduceAdd, Nat.reduceLeDiff, reduceCtorEq]
  repeat ((with_reducible first | refine AWP_seq ?_ | refine AWP_block ?_ | refine AWP_scope ?_ | refine AWP_reg ?_ | refine AWP_draw ?_ | refine AWP_skip ?_ | refine AWP_ret ?_ | refine AWP_exit ?_ | (refine AWP_cond_true ?_ ?_; · simp only [S, argList, aPut, aFill, ↓reduceIte, Nat.reduceEqDiff, Nat.reduceAdd, Nat.reduceLeDiff, reduceCtorEq]) | (refine AWP_cond_false ?_ ?_; · simp only [S, argList, aPut, aFill, ↓reduceIte, Nat.reduceEqDiff, Nat.reduceAdd, Nat.reduceLeDiff, reduceCtorEq])); try simp only [S, argList, aPut, aFill, ↓reduceIte, Nat.reduceEqDiff, Nat.reduceAdd, Nat.reduceLeDiff, reduceCtorEq])
  refine (made_nil _).mono ?_
  rintro r s ⟨rfl, rfl⟩
  simp only [S, argList, aPut, aFill, ↓reduceIte, Nat.reduceEqDiff, Nat.reduceAdd, Nat.reduceLeDiff, reduceCtorEq]
  try simp only [S, argList, aPut, aFill, ↓reduceIte, Nat.reduceEqDiff, Nat.reduceAdd, Nat.reduceLeDiff, reduceCtorEq]
  repeat ((with_reducible first | refine AWP_seq ?_ | refine AWP_block ?_ | refine AWP_scope ?_ | refine AWP_reg ?_ | refine AWP_draw ?_ | refine AWP_skip ?_ | refine AWP_ret ?_ | refine AWP_exit ?_ | (refine AWP_cond_true ?_ ?_; · simp only [S, argList, aPut, aFill, ↓reduceIte, Nat.reduceEqDiff, Nat.reduceAdd, Nat.reduceLeDiff, reduceCtorEq]) | (refine AWP_cond_false ?_ ?_; · simp only [S, argList, aPut, aFill, ↓reduceIte, Nat.reduceEqDiff, Nat.reduceAdd, Nat.reduceLeDiff, reduceCtorEq])); try simp only [S, argList, aPut, aFill, ↓reduceIte, Nat.reduceEqDiff, Nat.reduceAdd, Nat.reduceLeDiff, reduceCtorEq])
  exact Kp.pushed σ _
theorem collect_nilp (σ : Store) (v : AV) : ACalls Try.prog 15 [.nilp, v] σ fun r σ' => r = .tuple [.int .i64 0, .int .i64 3] ∧ Kp σ σ' := by
  refine in15 (by simp) ?_
  unfold c15
  try simp only [S, argList, aPut, aFill, ↓reduceIte, Nat.reduceEqDiff, Nat.reduceAdd, Nat.reduceLeDiff, reduceCtorEq]
  repeat ((with_reducible first | refine AWP_seq ?_ | refine AWP_block ?_ | refine AWP_scope ?_ | refine AWP_reg ?_ | refine AWP_draw ?_ | refine AWP_skip ?_ | refine AWP_ret ?_ | refine AWP_exit ?_ | (refine AWP_cond_true ?_ ?_; · simp only [S, argList, aPut, aFill, ↓reduceIte, Nat.reduceEqDiff, Nat.reduceAdd, Nat.reduceLeDiff, reduceCtorEq]) | (refine AWP_cond_false ?_ ?_; · simp only [S, argList, aPut, aFill, ↓reduceIte, Nat.reduceEqDiff, Nat.reduceAdd, Nat.reduceLeDiff, reduceCtorEq])); try simp only [S, argList, aPut, aFill, ↓reduceIte, Nat.reduceEqDiff, Nat.reduceAdd, Nat.reduceLeDiff, reduceCtorEq])
  refine (made_nil _).mono ?_
  rintro r s ⟨rfl, rfl⟩
  simp only [S, argList, aPut, aFill, ↓reduceIte, Nat.reduceEqDiff, Nat.reduceAdd, Nat.reduceLeDiff, reduceCtorEq]
  try simp only [S, argList, aPut, aFill, ↓reduceIte, Nat.reduceEqDiff, Nat.reduceAdd, Nat.reduceLeDiff, reduceCtorEq]
  repeat ((with_reducible first | refine AWP_seq ?_ | refine AWP_block ?_ | refine AWP_scope ?_ | refine AWP_reg ?_ | refine AWP_draw ?_ | refine AWP_skip ?_ | refine AWP_ret ?_ | refine AWP_exit ?_ | (refine AWP_cond_true ?_ ?_; · simp only [S, argList, aPut, aFill, ↓reduceIte, Nat.reduceEqDiff, Nat.reduceAdd, Nat.reduceLeDiff, reduceCtorEq]) | (refine AWP_cond_false ?_ ?_; · simp only [S, argList, aPut, aFill, ↓reduceIte, Nat.reduceEqDiff, Nat.reduceAdd, Nat.reduceLeDiff, reduceCtorEq])); try simp only [S, argList, aPut, aFill, ↓reduceIte, Nat.reduceEqDiff, Nat.reduceAdd, Nat.reduceLeDiff, reduceCtorEq])
  exact Kp.refl _
theorem get_nilp (σ : Store) (a : Int) : ACalls Try.prog 16 [.nilp, .int .i64 a] σ fun r σ' => r = .tuple [.agg [.int .i64 0, .int .i64 0, .nils], .bool false] ∧ Kp σ σ' := by
  refine in16 (by simp) ?_
  unfold c16
  try simp only [S, argList, aPut, aFill, ↓reduceIte, Nat.reduceEqDiff, Nat.reduceAdd, Nat.reduceLeDiff, reduceCtorEq]
  repeat ((with_reducible first | refine AWP_seq ?_ | refine AWP_block ?_ | refine AWP_scope ?_ | refine AWP_reg ?_ | refine AWP_draw ?_ | refine AWP_skip ?_ | refine AWP_ret ?_ | refine AWP_exit ?_ | (refine AWP_cond_true ?_ ?_; · simp only [S, argList, aPut, aFill, ↓reduceIte, Nat.reduceEqDiff, Nat.reduceAdd, Nat.reduceLeDiff, reduceCtorEq]) | (refine AWP_cond_false ?_ ?_; · simp only [S, argList, aPut, aFill, ↓reduceIte, Nat.reduceEqDiff, Nat.reduceAdd, Nat.reduceLeDiff, reduceCtorEq])); try simp only [S, argList, aPut, aFill, ↓reduceIte, Nat.reduceEqDiff, Nat.reduceAdd, Nat.reduceLeDiff, reduceCtorEq])
  refine (made_nil _).mono ?_
  rintro r s ⟨rfl, rfl⟩
  simp only [S, argList, aPut, aFill, ↓reduceIte, Nat.reduceEqDiff, Nat.reduceAdd, Nat.reduceLeDiff, reduceCtorEq]
  try simp only [S, argList, aPut, aFill, ↓reduceIte, Nat.reduceEqDiff, Nat.reduceAdd, Nat.reduceLeDiff, reduceCtorEq]
  repeat ((with_reducible first | refine AWP_seq ?_ | refine AWP_block ?_ | refine AWP_scope ?_ | refine AWP_reg ?_ | refine AWP_draw ?_ | refine AWP_skip ?_ | refine AWP_ret ?_ | refine AWP_exit ?_ | (refine AWP_cond_true ?_ ?_; · simp only [S, argList, aPut, aFill, ↓reduceIte, Nat.reduceEqDiff, Nat.reduceAdd, Nat.reduceLeDiff, reduceCtorEq]) | (refine AWP_cond_false ?_ ?_; · simp only [S, argList, aPut, aFill, ↓reduceIte, Nat.reduceEqDiff, Nat.reduceAdd, Nat.reduceLeDiff, reduceCtorEq])); try simp only [S, argList, aPut, aFill, ↓reduceIte, Nat.reduceEqDiff, Nat.reduceAdd, Nat.reduceLeDiff, reduceCtorEq])
  exact Kp.pushed σ _
theorem set_nilp (σ : Store) (a : Int) (c : List AV) : ACalls Try.prog 27 [.nilp, .int .i64 a, .agg c] σ fun r σ' => r = .int .i64 3 ∧ Kp σ σ' := by
  refine in27 (by simp) ?_
  unfold c27
  try simp only [S, argList, aPut, aFill, ↓reduceIte, Nat.reduceEqDiff, Nat.reduceAdd, Nat.reduceLeDiff, reduceCtorEq]
  repeat ((with_reducible first | refine AWP_seq ?_ | refine AWP_block ?_ | refine AWP_scope ?_ | refine AWP_reg ?_ | refine AWP_draw ?_ | refine AWP_skip ?_ | refine AWP_ret ?_ | refine AWP_exit ?_ | (refine AWP_cond_true ?_ ?_; · simp only [S, argList, aPut, aFill, ↓reduceIte, Nat.reduceEqDiff, Nat.reduceAdd, Nat.reduceLeDiff, reduceCtorEq]) | (refine AWP_cond_false ?_ ?_; · simp only [S, argList, aPut, aFill, ↓reduceIte, Nat.reduceEqDiff, Nat.reduceAdd, Nat.reduceLeDiff, reduceCtorEq])); try simp only [S, argList, aPut, aFill, ↓reduceIte, Nat.reduceEqDiff, Nat.reduceAdd, Nat.reduceLeDiff, reduceCtorEq])
  refine (made_nil _).mono ?_
  rintro r s ⟨rfl, rfl⟩
  simp only [S, argList, aPut, aFill, ↓reduceIte, Nat.reduceEqDiff, Nat.reduceAdd, Nat.reduceLeDiff, reduceCtorEq]
  try simp only [S, argList, aPut, aFill, ↓reduceIte, Nat.reduceEqDiff, Nat.reduceAdd, Nat.reduceLeDiff, reduceCtorEq]
  repeat ((with_reducible first | refine AWP_seq ?_ | refine AWP_block ?_ | refine AWP_scope ?_ | refine AWP_reg ?_ | refine AWP_draw ?_ | refine AWP_skip ?_ | refine AWP_ret ?_ | refine AWP_exit ?_ | (refine AWP_cond_true ?_ ?_; · simp only [S, argList, aPut, aFill, ↓reduceIte, Nat.reduceEqDiff, Nat.reduceAdd, Nat.reduceLeDiff, reduceCtorEq]) | (refine AWP_cond_false ?_ ?_; · simp only [S, argList, aPut, aFill, ↓reduceIte, Nat.reduceEqDiff, Nat.reduceAdd, Nat.reduceLeDiff, reduceCtorEq])); try simp only [S, argList, aPut, aFill, ↓reduceIte, Nat.reduceEqDiff, Nat.reduceAdd, Nat.reduceLeDiff, reduceCtorEq])
  exact Kp.pushed σ _

def O0 : Hp := Hp.mk0 4
def O1 : Hp := ⟨4, [(some ⟨0, 0, []⟩, false)], [], 1, 1⟩
def O2 (x : Nd) : Hp := ⟨4, [(some ⟨0, 0, []⟩, false), (some x, false)], [], 2, 2⟩
theorem O01 : O0.alloc ⟨0, 0, []⟩ = (O1, 0, 0) := rfl
theorem O0g : O0.Good := Hp.mk0_good (by decide)
theorem O1g : O1.Good := by have := O0g.alloc ⟨0, 0, []⟩; rw [O01] at this; exact this
theorem O12 (x : Nd) (h : ∀ a, a ∈ x.l → a = 0) : O1.alloc x = (O2 x, 1, 0) := by
  have hal : O1.all x.l = true := by
    simp only [Hp.all, List.all_eq_true]
    intro a ha
    rw [h a ha]; rfl
  unfold Hp.alloc
  rw [if_pos hal]
  rfl
theorem O1all (x : Nd) (h : ∀ a, a ∈ x.l → a = 0) : O1.all x.l = true := by
  simp only [Hp.all, List.all_eq_true]
  intro a ha
  rw [h a ha]; rfl
theorem known_kp (σ : Store) {Q : AV → Store → Prop} (h : Q (.bool true) σ) : ACalls Try.prog 12 [] σ Q := (known_ok σ).mono fun r s ⟨h1, h2⟩ => by subst h1; subst h2; exact h
theorem HeapAt.kp' {σ s : Store} {id : Nat} {cs fs : AV} {H : Hp} (h : HeapAt σ id cs fs H) (k : Kp σ s) : HeapAt s id cs fs H := h.grow k.keep
theorem law8 (σ : Store) (x : Nd) : ACalls Try.prog 8 [.agg x.cells] σ fun r σ' => r = .bool true := by
  refine in8 (by simp) ?_
  unfold c8
  try simp only [S, argList, aPut, aFill, ↓reduceIte, Nat.reduceEqDiff, Nat.reduceAdd, Nat.reduceLeDiff, reduceCtorEq, Nd.cells]
  repeat ((with_reducible first | refine AWP_seq ?_ | refine AWP_block ?_ | refine AWP_scope ?_ | refine AWP_reg ?_ | refine AWP_draw ?_ | refine AWP_skip ?_ | refine AWP_ret ?_ | refine AWP_exit ?_ | (refine AWP_cond_true ?_ ?_; · simp only [S, argList, aPut, aFill, ↓reduceIte, Nat.reduceEqDiff, Nat.reduceAdd, Nat.reduceLeDiff, reduceCtorEq, Nd.cells]) | (refine AWP_cond_false ?_ ?_; · simp only [S, argList, aPut, aFill, ↓reduceIte, Nat.reduceEqDiff, Nat.reduceAdd, Nat.reduceLeDiff, reduceCtorEq, Nd.cells])); try simp only [S, argList, aPut, aFill, ↓reduceIte, Nat.reduceEqDiff, Nat.reduceAdd, Nat.reduceLeDiff, reduceCtorEq, Nd.cells])
  refine (new_ok _ 4 (by omega)).mono ?_
  rintro r s0 ⟨rfl, cs0, fs0, hH0, hF0⟩
  have b0 : s0.get σ.next = some (.cells 31 0 3 [x.cells]) := by rw [hF0.keep _ (by simp [Store.push_next]) (by simp)]; simp [Store.push_get, Nd.cells]
  by_cases hlen : 100 < x.l.length
  · have hlen' : (100 : Int) < (x.l.length : Int) := by omega
    try simp only [S, argList, aPut, aFill, ↓reduceIte, Nat.reduceEqDiff, Nat.reduceAdd, Nat.reduceLeDiff, reduceCtorEq, b0, Nd.cells, ints, hlen']
    repeat ((with_reducible first | refine AWP_seq ?_ | refine AWP_block ?_ | refine AWP_scope ?_ | refine AWP_reg ?_ | refine AWP_draw ?_ | refine AWP_skip ?_ | refine AWP_ret ?_ | refine AWP_exit ?_ | (refine AWP_cond_true ?_ ?_; · simp only [S, argList, aPut, aFill, ↓reduceIte, Nat.reduceEqDiff, Nat.reduceAdd, Nat.reduceLeDiff, reduceCtorEq, b0, Nd.cells, ints, hlen']) | (refine AWP_cond_false ?_ ?_; · simp only [S, argList, aPut, aFill, ↓reduceIte, Nat.reduceEqDiff, Nat.reduceAdd, Nat.reduceLeDiff, reduceCtorEq, b0, Nd.cells, ints, hlen'])); try simp only [S, argList, aPut, aFill, ↓reduceIte, Nat.reduceEqDiff, Nat.reduceAdd, Nat.reduceLeDiff, reduceCtorEq, b0, Nd.cells, ints, hlen'])
    refine known_kp s0 ?_
    try simp only [S, argList, aPut, aFill, ↓reduceIte, Nat.reduceEqDiff, Nat.reduceAdd, Nat.reduceLeDiff, reduceCtorEq]
    repeat ((with_reducible first | refine AWP_seq ?_ | refine AWP_block ?_ | refine AWP_scope ?_ | refine AWP_reg ?_ | refine AWP_draw ?_ | refine AWP_skip ?_ | refine AWP_ret ?_ | refine AWP_exit ?_ | (refine AWP_cond_true ?_ ?_; · simp only [S, argList, aPut, aFill, ↓reduceIte, Nat.reduceEqDiff, Nat.reduceAdd, Nat.reduceLeDiff, reduceCtorEq]) | (refine AWP_cond_false ?_ ?_; · simp only [S, argList, aPut, aFill, ↓reduceIte, Nat.reduceEqDiff, Nat.reduceAdd, Nat.reduceLeDiff, reduceCtorEq])); try simp only [S, argList, aPut, aFill, ↓reduceIte, Nat.reduceEqDiff, Nat.reduceAdd, Nat.reduceLeDiff, reduceCtorEq])
  · have hlen' : ¬ (100 : Int) < (x.l.length : Int) := by omega
    try simp only [S, argList, aPut, aFill, ↓reduceIte, Nat.reduceEqDiff, Nat.reduceAdd, Nat.reduceLeDiff, reduceCtorEq, b0, Nd.cells, ints, hlen']
    repeat ((with_reducible first | refine AWP_seq ?_ | refine AWP_block ?_ | refine AWP_scope ?_ | refine AWP_reg ?_ | refine AWP_draw ?_ | refine AWP_skip ?_ | refine AWP_ret ?_ | refine AWP_exit ?_ | (refine AWP_cond_true ?_ ?_; · simp only [S, argList, aPut, aFill, ↓reduceIte, Nat.reduceEqDiff, Nat.reduceAdd, Nat.reduceLeDiff, reduceCtorEq, b0, Nd.cells, ints, hlen']) | (refine AWP_cond_false ?_ ?_; · simp only [S, argList, aPut, aFill, ↓reduceIte, Nat.reduceEqDiff, Nat.reduceAdd, Nat.reduceLeDiff, reduceCtorEq, b0, Nd.cells, ints, hlen'])); try simp only [S, argList, aPut, aFill, ↓reduceIte, Nat.reduceEqDiff, Nat.reduceAdd, Nat.reduceLeDiff, reduceCtorEq, b0, Nd.cells, ints, hlen'])
    simp only [Store.push_next] at hH0 hF0
    refine (alloc_nil_ok hH0 O0g 0 0).mono ?_
    rintro r s1 ⟨rfl, hT1⟩
    rw [show (⟨4, [], [], 0, 0⟩ : Hp).alloc ⟨0, 0, []⟩ = (O1, 0, 0) from rfl] at hT1 ⊢
    obtain ⟨cs1, fs1, hH1, hF1⟩ := hT1
    have nf0 : ∀ i, i ∈ foot (σ.next + 1) cs0 fs0 → i ≠ σ.next := fun i hi e => by
      rcases hF0.fresh i hi with h | h
      · simp at h
      · simp only [Store.push_next] at h; omega
    have n0 : σ.next < s0.next := by have := hF0.next; simp only [Store.push_next] at this; omega
    have b1 : s1.get σ.next = some (.cells 31 0 3 [x.cells]) := by rw [hF1.keep _ n0 (fun h => nf0 _ h rfl)]; exact b0
    have n1 : σ.next < s1.next := by have := hF1.next; omega
    have c1 : (0 : Int) ≤ (x.l.length : Int) := by omega
    have c2 : ((8 : Nat) : Int) * (x.l.length : Int) ≤ 281474976710656 := by omega
    have c3 : (x.l.length : Int) ≤ 9223372036854775807 := by omega
    have nf1 : ∀ i, i ∈ foot (σ.next + 1) cs1 fs1 → i ≠ σ.next := fun i hi e => by
      rcases hF1.fresh i hi with h | h
      · exact nf0 i h e
      · omega
    try simp only [S, argList, aPut, aFill, ↓reduceIte, Nat.reduceEqDiff, Nat.reduceAdd, Nat.reduceLeDiff, reduceCtorEq, b1, Nd.cells, ints, c1, c2, c3, lt_ne n1]
    repeat ((with_reducible first | refine AWP_seq ?_ | refine AWP_block ?_ | refine AWP_scope ?_ | refine AWP_reg ?_ | refine AWP_draw ?_ | refine AWP_skip ?_ | refine AWP_ret ?_ | refine AWP_exit ?_ | (refine AWP_cond_true ?_ ?_; · simp only [S, argList, aPut, aFill, ↓reduceIte, Nat.reduceEqDiff, Nat.reduceAdd, Nat.reduceLeDiff, reduceCtorEq, b1, Nd.cells, ints, c1, c2, c3, lt_ne n1]) | (refine AWP_cond_false ?_ ?_; · simp only [S, argList, aPut, aFill, ↓reduceIte, Nat.reduceEqDiff, Nat.reduceAdd, Nat.reduceLeDiff, reduceCtorEq, b1, Nd.cells, ints, c1, c2, c3, lt_ne n1])); try simp only [S, argList, aPut, aFill, ↓reduceIte, Nat.reduceEqDiff, Nat.reduceAdd, Nat.reduceLeDiff, reduceCtorEq, b1, Nd.cells, ints, c1, c2, c3, lt_ne n1])
    have hz : ∀ a, a ∈ List.replicate x.l.length (0 : Int) → a = 0 := fun a ha => (List.mem_replicate.mp ha).2
    have hes : List.replicate x.l.length [AV.int .i64 0] = (List.replicate x.l.length (0 : Int)).map fun x => [AV.int .i64 x] := by simp
    have hget2 : ∀ o : AObj, (s1.push o).get s1.next = some o := fun o => by simp [Store.push_get]
    have hH1' := hH1.push (.cells 3 0 1 (List.replicate x.l.length [AV.int .i64 0]))
    have hslid : ∀ i, i ∈ slIds (.own s1.next 0 1 0 x.l.length) → i = s1.next := fun i hi => by simpa [slIds] using hi
    have hidlt : σ.next + 1 < s1.next := s1.lt hH1.hd
    refine (alloc_gen hH1' O1g ⟨x.tag, x.n, List.replicate x.l.length 0⟩ (.own s1.next 0 1 0 x.l.length) rfl (fun i hi => by rw [hslid i hi]; exact ⟨by simp [Store.push_next], by omega⟩) (fun s hHs hs => ?_) (fun s hs => ?_)).mono ?_
    · have hg : s.get s1.next = some (.cells 3 0 1 (List.replicate x.l.length [AV.int .i64 0])) := by rw [hs _ (by simp [slIds])]; exact hget2 _
      refine all_gen hHs (l := List.replicate x.l.length 0) ?_ (by simp; omega)
      have : SliceAt s (.own s1.next 0 1 0 x.l.length) 3 1 ((List.replicate x.l.length (0 : Int)).map fun x => [AV.int .i64 x]) := .inr ⟨s1.next, 0, [], by simp, by rw [hg, hes]; simp⟩
      exact this.rds
    · have hg : s.get s1.next = some (.cells 3 0 1 (List.replicate x.l.length [AV.int .i64 0])) := by rw [hs _ (by simp [slIds])]; exact hget2 _
      exact own_own hg x.tag x.n (List.replicate x.l.length 0) (by simp) (by simp) (by simp; omega)
    · rintro r s2 ⟨rfl, cs2, fs2, hH2, hF2⟩
      rw [O12 _ hz] at hH2 ⊢
      generalize hs1' : s1.push _ = s1' at hF2
      have nx1 : s1'.next = s1.next + 1 := by rw [← hs1']; rfl
      have gl1 : s1'.get s1.next = some (.cells 3 0 1 (List.replicate x.l.length [AV.int .i64 0])) := by rw [← hs1']; exact hget2 _
      have gb1 : s1'.get σ.next = some (.cells 31 0 3 [x.cells]) := by rw [← hs1', Store.push_get, if_neg (by omega)]; exact b1
      clear hs1' hH1' 
      have gl2 : s2.get s1.next = _ := (hF2.keep _ (by omega) (fun h => by have := hH1.lt h; omega)).trans gl1
      have gb2 : s2.get σ.next = _ := (hF2.keep _ (by omega) (fun h => nf1 _ h rfl)).trans gb1
      have nf2 : ∀ i, i ∈ foot (σ.next + 1) cs2 fs2 → i ≠ σ.next ∧ i ≠ s1.next := fun i hi => by
        rcases hF2.fresh i hi with h | h
        · exact ⟨nf1 i h, fun e => by have := hH1.lt h; omega⟩
        · exact ⟨by omega, by omega⟩
      have n2 : s1.next < s2.next := by have := hF2.next; omega
      try simp only [S, argList, aPut, aFill, ↓reduceIte, Nat.reduceEqDiff, Nat.reduceAdd, Nat.reduceLeDiff, reduceCtorEq]
      repeat ((with_reducible first | refine AWP_seq ?_ | refine AWP_block ?_ | refine AWP_scope ?_ | refine AWP_reg ?_ | refine AWP_draw ?_ | refine AWP_skip ?_ | refine AWP_ret ?_ | refine AWP_exit ?_ | (refine AWP_cond_true ?_ ?_; · simp only [S, argList, aPut, aFill, ↓reduceIte, Nat.reduceEqDiff, Nat.reduceAdd, Nat.reduceLeDiff, reduceCtorEq]) | (refine AWP_cond_false ?_ ?_; · simp only [S, argList, aPut, aFill, ↓reduceIte, Nat.reduceEqDiff, Nat.reduceAdd, Nat.reduceLeDiff, reduceCtorEq])); try simp only [S, argList, aPut, aFill, ↓reduceIte, Nat.reduceEqDiff, Nat.reduceAdd, Nat.reduceLeDiff, reduceCtorEq])
      refine AWP_while [1, 3, 5, 8] (fun i : Nat => x.l.length - i) (fun i => [.ptr σ.next 0 0 0, .ptr (σ.next + 1) 0 0 0, .own s1.next 0 1 0 x.l.length, .int .i64 i])
        (fun i s => i ≤ x.l.length ∧ HeapAt s (σ.next + 1) cs2 fs2 (O2 ⟨x.tag, x.n, List.replicate x.l.length 0⟩) ∧ s.get σ.next = some (.cells 31 0 3 [x.cells]) ∧ s1.next < s.next ∧ ∃ es, s.get s1.next = some (.cells 3 0 1 es) ∧ es.length = x.l.length ∧ ∀ e, e ∈ es → e.length = 1)
        0 ⟨by omega, hH2, gb2, n2, _, gl2, by simp, fun e he => by rw [(List.mem_replicate.mp he).2]; rfl⟩ ?_ ?_
      · try simp only [S, argList, aPut, aFill, ↓reduceIte, Nat.reduceEqDiff, Nat.reduceAdd, Nat.reduceLeDiff, reduceCtorEq]
        repeat ((with_reducible first | refine AWP_seq ?_ | refine AWP_block ?_ | refine AWP_scope ?_ | refine AWP_reg ?_ | refine AWP_draw ?_ | refine AWP_skip ?_ | refine AWP_ret ?_ | refine AWP_exit ?_ | (refine AWP_cond_true ?_ ?_; · simp only [S, argList, aPut, aFill, ↓reduceIte, Nat.reduceEqDiff, Nat.reduceAdd, Nat.reduceLeDiff, reduceCtorEq]) | (refine AWP_cond_false ?_ ?_; · simp only [S, argList, aPut, aFill, ↓reduceIte, Nat.reduceEqDiff, Nat.reduceAdd, Nat.reduceLeDiff, reduceCtorEq])); try simp only [S, argList, aPut, aFill, ↓reduceIte, Nat.reduceEqDiff, Nat.reduceAdd, Nat.reduceLeDiff, reduceCtorEq])
        rfl
      · clear hH2 gl2 gb2 n2
        rintro i s ⟨hi, hH, hb, hn, es, hg, hel, he1⟩
        by_cases hil : i < x.l.length
        · have hil' : (i : Int) < (x.l.length : Int) := by omega
          obtain ⟨e, he⟩ : ∃ e, es[i]? = some e := ⟨_, List.getElem?_eq_getElem (by omega)⟩
          have hee := he1 e (List.mem_of_getElem? he)
          have hle : (1 ≤ e.length) = True := by simp [hee]
          try simp only [S, argList, aPut, aFill, ↓reduceIte, Nat.reduceEqDiff, Nat.reduceAdd, Nat.reduceLeDiff, reduceCtorEq, hil', hg, he, hle, wrap_succ (i := i) (by omega)]
          repeat ((with_reducible first | refine AWP_seq ?_ | refine AWP_block ?_ | refine AWP_scope ?_ | refine AWP_reg ?_ | refine AWP_draw ?_ | refine AWP_skip ?_ | refine AWP_ret ?_ | refine AWP_exit ?_ | (refine AWP_cond_true ?_ ?_; · simp only [S, argList, aPut, aFill, ↓reduceIte, Nat.reduceEqDiff, Nat.reduceAdd, Nat.reduceLeDiff, reduceCtorEq, hil', hg, he, hle, wrap_succ (i := i) (by omega)]) | (refine AWP_cond_false ?_ ?_; · simp only [S, argList, aPut, aFill, ↓reduceIte, Nat.reduceEqDiff, Nat.reduceAdd, Nat.reduceLeDiff, reduceCtorEq, hil', hg, he, hle, wrap_succ (i := i) (by omega)])); try simp only [S, argList, aPut, aFill, ↓reduceIte, Nat.reduceEqDiff, Nat.reduceAdd, Nat.reduceLeDiff, reduceCtorEq, hil', hg, he, hle, wrap_succ (i := i) (by omega)])
          refine ⟨i + 1, rfl, ⟨by omega, hH.keep fun j hj => Store.get_upd_ne _ _ (nf2 j hj).2, by rw [Store.get_upd_ne _ _ (by omega)]; exact hb, by first | exact hn | (simp only [Store.upd_next]; exact hn), _, Store.get_upd_self _ _ hn, by simpa using hel, fun q hq => ?_⟩, by omega⟩
          rcases List.mem_or_eq_of_mem_set hq with h | h
          · exact he1 q h
          · rw [h]; simp [hee]
        · have hil' : ¬ (i : Int) < (x.l.length : Int) := by omega
          try simp only [S, argList, aPut, aFill, ↓reduceIte, Nat.reduceEqDiff, Nat.reduceAdd, Nat.reduceLeDiff, reduceCtorEq, hil']
          repeat ((with_reducible first | refine AWP_seq ?_ | refine AWP_block ?_ | refine AWP_scope ?_ | refine AWP_reg ?_ | refine AWP_draw ?_ | refine AWP_skip ?_ | refine AWP_ret ?_ | refine AWP_exit ?_ | (refine AWP_cond_true ?_ ?_; · simp only [S, argList, aPut, aFill, ↓reduceIte, Nat.reduceEqDiff, Nat.reduceAdd, Nat.reduceLeDiff, reduceCtorEq, hil']) | (refine AWP_cond_false ?_ ?_; · simp only [S, argList, aPut, aFill, ↓reduceIte, Nat.reduceEqDiff, Nat.reduceAdd, Nat.reduceLeDiff, reduceCtorEq, hil'])); try simp only [S, argList, aPut, aFill, ↓reduceIte, Nat.reduceEqDiff, Nat.reduceAdd, Nat.reduceLeDiff, reduceCtorEq, hil'])
          have hlow : ∀ i, i ∈ foot (σ.next + 1) cs2 fs2 → i < s.next := fun i hi => hH.lt hi
          clear hg hel he1 hil hil' hi nf2 nf1 nf0
          have hat : (O2 ⟨x.tag, x.n, List.replicate x.l.length 0⟩).at 1 = some ⟨x.tag, x.n, List.replicate x.l.length 0⟩ := rfl
          refine (get_fresh hH (by show (0 : Int) < 4; decide) 1 _ hat (by simp; omega)).mono ?_
          rintro r s3 ⟨v, rfl, hG⟩
          have hvl := hG.sl.len
          simp only [List.length_map, List.length_replicate] at hvl
          have hH3 := HeapAt.kp' hH hG.kp
          have hb3 := hG.kp.get hb
          have n3 : s.next ≤ s3.next := hG.kp.next
          have hn0 : s1.next < s.next := hn
          have hvlt : ∀ j, j ∈ slIds v → j < s3.next := fun j hj => hG.sl.lt hj
          try simp only [S, argList, aPut, aFill, ↓reduceIte, Nat.reduceEqDiff, Nat.reduceAdd, Nat.reduceLeDiff, reduceCtorEq]
          repeat ((with_reducible first | refine AWP_seq ?_ | refine AWP_block ?_ | refine AWP_scope ?_ | refine AWP_reg ?_ | refine AWP_draw ?_ | refine AWP_skip ?_ | refine AWP_ret ?_ | refine AWP_exit ?_ | (refine AWP_cond_true ?_ ?_; · simp only [S, argList, aPut, aFill, ↓reduceIte, Nat.reduceEqDiff, Nat.reduceAdd, Nat.reduceLeDiff, reduceCtorEq]) | (refine AWP_cond_false ?_ ?_; · simp only [S, argList, aPut, aFill, ↓reduceIte, Nat.reduceEqDiff, Nat.reduceAdd, Nat.reduceLeDiff, reduceCtorEq])); try simp only [S, argList, aPut, aFill, ↓reduceIte, Nat.reduceEqDiff, Nat.reduceAdd, Nat.reduceLeDiff, reduceCtorEq])
          refine AWP_while [1, 3, 9, 11] (fun i : Nat => x.l.length - i) (fun i => [.ptr σ.next 0 0 0, .ptr (σ.next + 1) 0 0 0, .ptr s3.next 0 0 0, .int .i64 i])
            (fun i s' => i ≤ x.l.length ∧ HeapAt s' (σ.next + 1) cs2 fs2 (O2 ⟨x.tag, x.n, List.replicate x.l.length 0⟩) ∧ s'.get σ.next = some (.cells 31 0 3 [x.cells]) ∧ s'.get s3.next = some (.cells 31 0 3 [[.int .i64 x.tag, .int .i64 x.n, v]]) ∧ s3.next < s'.next ∧
              ((v = .nils ∧ x.l.length = 0) ∨ ∃ vid ver es, v = .own vid ver 1 0 x.l.length ∧ s.next ≤ vid ∧ vid < s3.next ∧ s'.get vid = some (.cells 3 ver 1 es) ∧ x.l.length ≤ es.length ∧ ∀ e, e ∈ es.take x.l.length → e.length = 1))
            0 ⟨by omega, hH3.push _, by rw [Store.push_get, if_neg (by omega)]; exact hb3, by simp [Store.push_get], by simp [Store.push_next], ?_⟩ ?_ ?_
          · rcases hG.sl with ⟨rfl, e⟩ | ⟨vid, vver, ves, e, hvg⟩
            · left
              have := congrArg List.length e
              simp at this
              simp [this]
            · right
              simp only [List.length_map, List.length_replicate] at e
              subst e
              have h1 := hG.fresh vid (by simp [slIds])
              have h2 := hvlt vid (by simp [slIds])
              refine ⟨vid, vver, _, rfl, h1, h2, by rw [Store.push_get, if_neg (by omega)]; exact hvg, by simp, fun e he => ?_⟩
              rw [List.take_append_of_le_length (by simp)] at he
              have := List.mem_of_mem_take he
              simp at this
              rw [this.2]; rfl
          · try simp only [S, argList, aPut, aFill, ↓reduceIte, Nat.reduceEqDiff, Nat.reduceAdd, Nat.reduceLeDiff, reduceCtorEq]
            repeat ((with_reducible first | refine AWP_seq ?_ | refine AWP_block ?_ | refine AWP_scope ?_ | refine AWP_reg ?_ | refine AWP_draw ?_ | refine AWP_skip ?_ | refine AWP_ret ?_ | refine AWP_exit ?_ | (refine AWP_cond_true ?_ ?_; · simp only [S, argList, aPut, aFill, ↓reduceIte, Nat.reduceEqDiff, Nat.reduceAdd, Nat.reduceLeDiff, reduceCtorEq]) | (refine AWP_cond_false ?_ ?_; · simp only [S, argList, aPut, aFill, ↓reduceIte, Nat.reduceEqDiff, Nat.reduceAdd, Nat.reduceLeDiff, reduceCtorEq])); try simp only [S, argList, aPut, aFill, ↓reduceIte, Nat.reduceEqDiff, Nat.reduceAdd, Nat.reduceLeDiff, reduceCtorEq])
            rfl
          · clear hb3 hH3 hH hb hn hG
            rintro i s' ⟨hi, hH, hb, hbx, hn, hv⟩
            have hvl' : eLen .slice v s' = some (.int .i64 x.l.length, s') := by
              rcases hv with ⟨rfl, e⟩ | ⟨vid, ver, es, rfl, _⟩
              · rw [e]; rfl
              · rfl
            by_cases hil : i < x.l.length
            · have hil' : (i : Int) < (x.l.length : Int) := by omega
              rcases hv with ⟨rfl, e⟩ | ⟨vid, ver, es, rfl, hv1, hv2, hvg, hel, he1⟩
              · omega
              · obtain ⟨e, he⟩ : ∃ e, es[i]? = some e := ⟨_, List.getElem?_eq_getElem (by omega)⟩
                have hee := he1 e (List.mem_of_getElem? (i := i) (by rw [List.getElem?_take, if_pos hil]; exact he))
                have hle : (1 ≤ e.length) = True := by simp [hee]
                have hvn : vid < s'.next := s'.lt hvg
                try simp only [S, argList, aPut, aFill, ↓reduceIte, Nat.reduceEqDiff, Nat.reduceAdd, Nat.reduceLeDiff, reduceCtorEq, hbx, hil', hvg, he, hle, wrap_succ (i := i) (by omega)]
                repeat ((with_reducible first | refine AWP_seq ?_ | refine AWP_block ?_ | refine AWP_scope ?_ | refine AWP_reg ?_ | refine AWP_draw ?_ | refine AWP_skip ?_ | refine AWP_ret ?_ | refine AWP_exit ?_ | (refine AWP_cond_true ?_ ?_; · simp only [S, argList, aPut, aFill, ↓reduceIte, Nat.reduceEqDiff, Nat.reduceAdd, Nat.reduceLeDiff, reduceCtorEq, hbx, hil', hvg, he, hle, wrap_succ (i := i) (by omega)]) | (refine AWP_cond_false ?_ ?_; · simp only [S, argList, aPut, aFill, ↓reduceIte, Nat.reduceEqDiff, Nat.reduceAdd, Nat.reduceLeDiff, reduceCtorEq, hbx, hil', hvg, he, hle, wrap_succ (i := i) (by omega)])); try simp only [S, argList, aPut, aFill, ↓reduceIte, Nat.reduceEqDiff, Nat.reduceAdd, Nat.reduceLeDiff, reduceCtorEq, hbx, hil', hvg, he, hle, wrap_succ (i := i) (by omega)])
                refine ⟨i + 1, rfl, ⟨by omega, hH.keep fun j hj => Store.get_upd_ne _ _ ?_, by rw [Store.get_upd_ne _ _ (by omega)]; exact hb, by rw [Store.get_upd_ne _ _ (by omega)]; exact hbx, by first | exact hn | (simp only [Store.upd_next]; exact hn), .inr ⟨vid, ver, _, rfl, hv1, hv2, Store.get_upd_self _ _ hvn, by simpa using hel, fun q hq => ?_⟩⟩, by omega⟩
                · intro e
                  subst e
                  have := hlow _ hj
                  omega
                · rw [List.take_set] at hq
                  rcases List.mem_or_eq_of_mem_set hq with h | h
                  · exact he1 q h
                  · rw [h]; simp [hee]
            · have hil' : ¬ (i : Int) < (x.l.length : Int) := by omega
              try simp only [S, argList, aPut, aFill, ↓reduceIte, Nat.reduceEqDiff, Nat.reduceAdd, Nat.reduceLeDiff, reduceCtorEq, hbx, hvl', hil']
              repeat ((with_reducible first | refine AWP_seq ?_ | refine AWP_block ?_ | refine AWP_scope ?_ | refine AWP_reg ?_ | refine AWP_draw ?_ | refine AWP_skip ?_ | refine AWP_ret ?_ | refine AWP_exit ?_ | (refine AWP_cond_true ?_ ?_; · simp only [S, argList, aPut, aFill, ↓reduceIte, Nat.reduceEqDiff, Nat.reduceAdd, Nat.reduceLeDiff, reduceCtorEq, hbx, hvl', hil']) | (refine AWP_cond_false ?_ ?_; · simp only [S, argList, aPut, aFill, ↓reduceIte, Nat.reduceEqDiff, Nat.reduceAdd, Nat.reduceLeDiff, reduceCtorEq, hbx, hvl', hil'])); try simp only [S, argList, aPut, aFill, ↓reduceIte, Nat.reduceEqDiff, Nat.reduceAdd, Nat.reduceLeDiff, reduceCtorEq, hbx, hvl', hil'])
              clear hv hvl' hil' hil hi
              refine (get_ok hH (by show (0 : Int) < 4; decide) 1 (fun y hy => by rw [hat] at hy; cases hy; simp; omega)).mono ?_
              rintro r s4 ⟨rfl, rfl⟩
              rw [hat]
              simp only [getR]
              try simp only [S, argList, aPut, aFill, ↓reduceIte, Nat.reduceEqDiff, Nat.reduceAdd, Nat.reduceLeDiff, reduceCtorEq, Nd.cells]
              repeat ((with_reducible first | refine AWP_seq ?_ | refine AWP_block ?_ | refine AWP_scope ?_ | refine AWP_reg ?_ | refine AWP_draw ?_ | refine AWP_skip ?_ | refine AWP_ret ?_ | refine AWP_exit ?_ | (refine AWP_cond_true ?_ ?_; · simp only [S, argList, aPut, aFill, ↓reduceIte, Nat.reduceEqDiff, Nat.reduceAdd, Nat.reduceLeDiff, reduceCtorEq, Nd.cells]) | (refine AWP_cond_false ?_ ?_; · simp only [S, argList, aPut, aFill, ↓reduceIte, Nat.reduceEqDiff, Nat.reduceAdd, Nat.reduceLeDiff, reduceCtorEq, Nd.cells])); try simp only [S, argList, aPut, aFill, ↓reduceIte, Nat.reduceEqDiff, Nat.reduceAdd, Nat.reduceLeDiff, reduceCtorEq, Nd.cells])
              refine AWP_while [1, 3, 12, 13, 14] (fun i : Nat => x.l.length - i) (fun i => [.ptr σ.next 0 0 0, .ptr (σ.next + 1) 0 0 0, .ptr s4.next 0 0 0, .bool true, .int .i64 i])
                (fun i s' => i ≤ x.l.length ∧ s' = s4.push (.cells 31 0 3 [Nd.cells ⟨x.tag, x.n, List.replicate x.l.length 0⟩])) 0 ⟨by omega, rfl⟩ ?_ ?_
              · try simp only [S, argList, aPut, aFill, ↓reduceIte, Nat.reduceEqDiff, Nat.reduceAdd, Nat.reduceLeDiff, reduceCtorEq]
                repeat ((with_reducible first | refine AWP_seq ?_ | refine AWP_block ?_ | refine AWP_scope ?_ | refine AWP_reg ?_ | refine AWP_draw ?_ | refine AWP_skip ?_ | refine AWP_ret ?_ | refine AWP_exit ?_ | (refine AWP_cond_true ?_ ?_; · simp only [S, argList, aPut, aFill, ↓reduceIte, Nat.reduceEqDiff, Nat.reduceAdd, Nat.reduceLeDiff, reduceCtorEq]) | (refine AWP_cond_false ?_ ?_; · simp only [S, argList, aPut, aFill, ↓reduceIte, Nat.reduceEqDiff, Nat.reduceAdd, Nat.reduceLeDiff, reduceCtorEq])); try simp only [S, argList, aPut, aFill, ↓reduceIte, Nat.reduceEqDiff, Nat.reduceAdd, Nat.reduceLeDiff, reduceCtorEq])
                rfl
              · rintro i s' ⟨hi, rfl⟩
                by_cases hil : i < x.l.length
                · have hil' : (i : Int) < (x.l.length : Int) := by omega
                  have hg : ((List.replicate x.l.length (0 : Int)).map fun y => [AV.int .i64 y])[i]? = some [.int .i64 0] := by simp [hil]
                  try simp only [S, argList, aPut, aFill, ↓reduceIte, Nat.reduceEqDiff, Nat.reduceAdd, Nat.reduceLeDiff, reduceCtorEq, Nd.cells, ints, List.length_replicate, hil', hg, wrap_succ (i := i) (by omega)]
                  repeat ((with_reducible first | refine AWP_seq ?_ | refine AWP_block ?_ | refine AWP_scope ?_ | refine AWP_reg ?_ | refine AWP_draw ?_ | refine AWP_skip ?_ | refine AWP_ret ?_ | refine AWP_exit ?_ | (refine AWP_cond_true ?_ ?_; · simp only [S, argList, aPut, aFill, ↓reduceIte, Nat.reduceEqDiff, Nat.reduceAdd, Nat.reduceLeDiff, reduceCtorEq, Nd.cells, ints, List.length_replicate, hil', hg, wrap_succ (i := i) (by omega)]) | (refine AWP_cond_false ?_ ?_; · simp only [S, argList, aPut, aFill, ↓reduceIte, Nat.reduceEqDiff, Nat.reduceAdd, Nat.reduceLeDiff, reduceCtorEq, Nd.cells, ints, List.length_replicate, hil', hg, wrap_succ (i := i) (by omega)])); try simp only [S, argList, aPut, aFill, ↓reduceIte, Nat.reduceEqDiff, Nat.reduceAdd, Nat.reduceLeDiff, reduceCtorEq, Nd.cells, ints, List.length_replicate, hil', hg, wrap_succ (i := i) (by omega)])
                  exact ⟨i + 1, rfl, by omega, by omega⟩
                · have hil' : ¬ (i : Int) < (x.l.length : Int) := by omega
                  have x4 : (σ.next = s4.next) = False := by simp; omega
                  have yb : (s4.push (.cells 31 0 3 [Nd.cells ⟨x.tag, x.n, List.replicate x.l.length 0⟩])).get s4.next = some (.cells 31 0 3 [Nd.cells ⟨x.tag, x.n, List.replicate x.l.length 0⟩]) := by simp [Store.push_get]
                  have xb : (s4.push (.cells 31 0 3 [Nd.cells ⟨x.tag, x.n, List.replicate x.l.length 0⟩])).get σ.next = some (.cells 31 0 3 [x.cells]) := by rw [Store.push_get, if_neg (by omega)]; exact hb
                  generalize s4.push _ = s5 at yb xb ⊢
                  try simp only [S, argList, aPut, aFill, ↓reduceIte, Nat.reduceEqDiff, Nat.reduceAdd, Nat.reduceLeDiff, reduceCtorEq, Nd.cells, ints, List.length_replicate, hil', xb, yb]
                  repeat ((with_reducible first | refine AWP_seq ?_ | refine AWP_block ?_ | refine AWP_scope ?_ | refine AWP_reg ?_ | refine AWP_draw ?_ | refine AWP_skip ?_ | refine AWP_ret ?_ | refine AWP_exit ?_ | (refine AWP_cond_true ?_ ?_; · simp only [S, argList, aPut, aFill, ↓reduceIte, Nat.reduceEqDiff, Nat.reduceAdd, Nat.reduceLeDiff, reduceCtorEq, Nd.cells, ints, List.length_replicate, hil', xb, yb]) | (refine AWP_cond_false ?_ ?_; · simp only [S, argList, aPut, aFill, ↓reduceIte, Nat.reduceEqDiff, Nat.reduceAdd, Nat.reduceLeDiff, reduceCtorEq, Nd.cells, ints, List.length_replicate, hil', xb, yb])); try simp only [S, argList, aPut, aFill, ↓reduceIte, Nat.reduceEqDiff, Nat.reduceAdd, Nat.reduceLeDiff, reduceCtorEq, Nd.cells, ints, List.length_replicate, hil', xb, yb])
                  refine (alloc_nilp s5 _).mono ?_
                  rintro r s6 ⟨rfl, k6⟩
                  replace yb := k6.get yb
                  replace xb := k6.get xb
                  try simp only [S, argList, aPut, aFill, ↓reduceIte, Nat.reduceEqDiff, Nat.reduceAdd, Nat.reduceLeDiff, reduceCtorEq, Nd.cells, ints, xb, yb]
                  repeat ((with_reducible first | refine AWP_seq ?_ | refine AWP_block ?_ | refine AWP_scope ?_ | refine AWP_reg ?_ | refine AWP_draw ?_ | refine AWP_skip ?_ | refine AWP_ret ?_ | refine AWP_exit ?_ | (refine AWP_cond_true ?_ ?_; · simp only [S, argList, aPut, aFill, ↓reduceIte, Nat.reduceEqDiff, Nat.reduceAdd, Nat.reduceLeDiff, reduceCtorEq, Nd.cells, ints, xb, yb]) | (refine AWP_cond_false ?_ ?_; · simp only [S, argList, aPut, aFill, ↓reduceIte, Nat.reduceEqDiff, Nat.reduceAdd, Nat.reduceLeDiff, reduceCtorEq, Nd.cells, ints, xb, yb])); try simp only [S, argList, aPut, aFill, ↓reduceIte, Nat.reduceEqDiff, Nat.reduceAdd, Nat.reduceLeDiff, reduceCtorEq, Nd.cells, ints, xb, yb])
                  refine (collect_nilp s6 _).mono ?_
                  rintro r s7 ⟨rfl, k7⟩
                  replace yb := k7.get yb
                  replace xb := k7.get xb
                  try simp only [S, argList, aPut, aFill, ↓reduceIte, Nat.reduceEqDiff, Nat.reduceAdd, Nat.reduceLeDiff, reduceCtorEq]
                  repeat ((with_reducible first | refine AWP_seq ?_ | refine AWP_block ?_ | refine AWP_scope ?_ | refine AWP_reg ?_ | refine AWP_draw ?_ | refine AWP_skip ?_ | refine AWP_ret ?_ | refine AWP_exit ?_ | (refine AWP_cond_true ?_ ?_; · simp only [S, argList, aPut, aFill, ↓reduceIte, Nat.reduceEqDiff, Nat.reduceAdd, Nat.reduceLeDiff, reduceCtorEq]) | (refine AWP_cond_false ?_ ?_; · simp only [S, argList, aPut, aFill, ↓reduceIte, Nat.reduceEqDiff, Nat.reduceAdd, Nat.reduceLeDiff, reduceCtorEq])); try simp only [S, argList, aPut, aFill, ↓reduceIte, Nat.reduceEqDiff, Nat.reduceAdd, Nat.reduceLeDiff, reduceCtorEq])
                  refine (get_nilp s7 _).mono ?_
                  rintro r s8 ⟨rfl, k8⟩
                  replace yb := k8.get yb
                  replace xb := k8.get xb
                  have q1 := lt_ne (s8.lt yb)
                  have q2 := lt_ne (s8.lt xb)
                  try simp only [S, argList, aPut, aFill, ↓reduceIte, Nat.reduceEqDiff, Nat.reduceAdd, Nat.reduceLeDiff, reduceCtorEq, xb, yb, q1, q2, Nd.cells, ints, List.length_replicate]
                  repeat ((with_reducible first | refine AWP_seq ?_ | refine AWP_block ?_ | refine AWP_scope ?_ | refine AWP_reg ?_ | refine AWP_draw ?_ | refine AWP_skip ?_ | refine AWP_ret ?_ | refine AWP_exit ?_ | (refine AWP_cond_true ?_ ?_; · simp only [S, argList, aPut, aFill, ↓reduceIte, Nat.reduceEqDiff, Nat.reduceAdd, Nat.reduceLeDiff, reduceCtorEq, xb, yb, q1, q2, Nd.cells, ints, List.length_replicate]) | (refine AWP_cond_false ?_ ?_; · simp only [S, argList, aPut, aFill, ↓reduceIte, Nat.reduceEqDiff, Nat.reduceAdd, Nat.reduceLeDiff, reduceCtorEq, xb, yb, q1, q2, Nd.cells, ints, List.length_replicate])); try simp only [S, argList, aPut, aFill, ↓reduceIte, Nat.reduceEqDiff, Nat.reduceAdd, Nat.reduceLeDiff, reduceCtorEq, xb, yb, q1, q2, Nd.cells, ints, List.length_replicate])
                  refine (set_nilp _ _ _).mono ?_
                  rintro r s10 ⟨rfl, k10⟩
                  try simp only [S, argList, aPut, aFill, ↓reduceIte, Nat.reduceEqDiff, Nat.reduceAdd, Nat.reduceLeDiff, reduceCtorEq]
                  repeat ((with_reducible first | refine AWP_seq ?_ | refine AWP_block ?_ | refine AWP_scope ?_ | refine AWP_reg ?_ | refine AWP_draw ?_ | refine AWP_skip ?_ | refine AWP_ret ?_ | refine AWP_exit ?_ | (refine AWP_cond_true ?_ ?_; · simp only [S, argList, aPut, aFill, ↓reduceIte, Nat.reduceEqDiff, Nat.reduceAdd, Nat.reduceLeDiff, reduceCtorEq]) | (refine AWP_cond_false ?_ ?_; · simp only [S, argList, aPut, aFill, ↓reduceIte, Nat.reduceEqDiff, Nat.reduceAdd, Nat.reduceLeDiff, reduceCtorEq])); try simp only [S, argList, aPut, aFill, ↓reduceIte, Nat.reduceEqDiff, Nat.reduceAdd, Nat.reduceLeDiff, reduceCtorEq])
                  refine (live_nil _).mono ?_
                  rintro r s ⟨rfl, rfl⟩
                  simp only [S, argList, aPut, aFill, ↓reduceIte, Nat.reduceEqDiff, Nat.reduceAdd, Nat.reduceLeDiff, reduceCtorEq]
                  try simp only [S, argList, aPut, aFill, ↓reduceIte, Nat.reduceEqDiff, Nat.reduceAdd, Nat.reduceLeDiff, reduceCtorEq]
                  repeat ((with_reducible first | refine AWP_seq ?_ | refine AWP_block ?_ | refine AWP_scope ?_ | refine AWP_reg ?_ | refine AWP_draw ?_ | refine AWP_skip ?_ | refine AWP_ret ?_ | refine AWP_exit ?_ | (refine AWP_cond_true ?_ ?_; · simp only [S, argList, aPut, aFill, ↓reduceIte, Nat.reduceEqDiff, Nat.reduceAdd, Nat.reduceLeDiff, reduceCtorEq]) | (refine AWP_cond_false ?_ ?_; · simp only [S, argList, aPut, aFill, ↓reduceIte, Nat.reduceEqDiff, Nat.reduceAdd, Nat.reduceLeDiff, reduceCtorEq])); try simp only [S, argList, aPut, aFill, ↓reduceIte, Nat.reduceEqDiff, Nat.reduceAdd, Nat.reduceLeDiff, reduceCtorEq])
                  refine (cap_nil _).mono ?_
                  rintro r s ⟨rfl, rfl⟩
                  simp only [S, argList, aPut, aFill, ↓reduceIte, Nat.reduceEqDiff, Nat.reduceAdd, Nat.reduceLeDiff, reduceCtorEq]
                  try simp only [S, argList, aPut, aFill, ↓reduceIte, Nat.reduceEqDiff, Nat.reduceAdd, Nat.reduceLeDiff, reduceCtorEq]
                  repeat ((with_reducible first | refine AWP_seq ?_ | refine AWP_block ?_ | refine AWP_scope ?_ | refine AWP_reg ?_ | refine AWP_draw ?_ | refine AWP_skip ?_ | refine AWP_ret ?_ | refine AWP_exit ?_ | (refine AWP_cond_true ?_ ?_; · simp only [S, argList, aPut, aFill, ↓reduceIte, Nat.reduceEqDiff, Nat.reduceAdd, Nat.reduceLeDiff, reduceCtorEq]) | (refine AWP_cond_false ?_ ?_; · simp only [S, argList, aPut, aFill, ↓reduceIte, Nat.reduceEqDiff, Nat.reduceAdd, Nat.reduceLeDiff, reduceCtorEq])); try simp only [S, argList, aPut, aFill, ↓reduceIte, Nat.reduceEqDiff, Nat.reduceAdd, Nat.reduceLeDiff, reduceCtorEq])
                  refine (allocs_nil _).mono ?_
                  rintro r s ⟨rfl, rfl⟩
                  simp only [S, argList, aPut, aFill, ↓reduceIte, Nat.reduceEqDiff, Nat.reduceAdd, Nat.reduceLeDiff, reduceCtorEq]
                  try simp only [S, argList, aPut, aFill, ↓reduceIte, Nat.reduceEqDiff, Nat.reduceAdd, Nat.reduceLeDiff, reduceCtorEq]
                  repeat ((with_reducible first | refine AWP_seq ?_ | refine AWP_block ?_ | refine AWP_scope ?_ | refine AWP_reg ?_ | refine AWP_draw ?_ | refine AWP_skip ?_ | refine AWP_ret ?_ | refine AWP_exit ?_ | (refine AWP_cond_true ?_ ?_; · simp only [S, argList, aPut, aFill, ↓reduceIte, Nat.reduceEqDiff, Nat.reduceAdd, Nat.reduceLeDiff, reduceCtorEq]) | (refine AWP_cond_false ?_ ?_; · simp only [S, argList, aPut, aFill, ↓reduceIte, Nat.reduceEqDiff, Nat.reduceAdd, Nat.reduceLeDiff, reduceCtorEq])); try simp only [S, argList, aPut, aFill, ↓reduceIte, Nat.reduceEqDiff, Nat.reduceAdd, Nat.reduceLeDiff, reduceCtorEq])
                  refine known_kp _ ?_
                  have hz0 : IntKind.i64.wrap (IntKind.i64.wrap (0 + 0) + 0) = 0 := by decide
                  try simp only [S, argList, aPut, aFill, ↓reduceIte, Nat.reduceEqDiff, Nat.reduceAdd, Nat.reduceLeDiff, reduceCtorEq, hz0]
                  repeat ((with_reducible first | refine AWP_seq ?_ | refine AWP_block ?_ | refine AWP_scope ?_ | refine AWP_reg ?_ | refine AWP_draw ?_ | refine AWP_skip ?_ | refine AWP_ret ?_ | refine AWP_exit ?_ | (refine AWP_cond_true ?_ ?_; · simp only [S, argList, aPut, aFill, ↓reduceIte, Nat.reduceEqDiff, Nat.reduceAdd, Nat.reduceLeDiff, reduceCtorEq, hz0]) | (refine AWP_cond_false ?_ ?_; · simp only [S, argList, aPut, aFill, ↓reduceIte, Nat.reduceEqDiff, Nat.reduceAdd, Nat.reduceLeDiff, reduceCtorEq, hz0])); try simp only [S, argList, aPut, aFill, ↓reduceIte, Nat.reduceEqDiff, Nat.reduceAdd, Nat.reduceLeDiff, reduceCtorEq, hz0])
end Go.Proofs.Ytoejjhehpbmgbaa
