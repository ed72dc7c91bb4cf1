/- The heap's mark: it marks what the roots lead to. -/
import Derived.Test.YtoejjhehpbmgbaaAHb
import Derived.Test.YtoejjhehpbmgbaaAHk
set_option linter.unusedVariables false
set_option linter.unusedSimpArgs false
namespace Go.Proofs.Ytoejjhehpbmgbaa
open Go.AL
/-- One round's state of the marking. -/
structure MS where
  st : List Int
  C : List Cl
  v : AV

theorem Good.ptrs {H : Hp} (hG : H.Good) : ∀ b y, nodeAt H.cells b = some y → ∀ c, c ∈ y.l → (nodeAt H.cells c).isSome = true := by
  intro b y hy c hc
  obtain ⟨h0, m, hcell⟩ := nodeAt_cell hy
  have := hG.ptr _ (List.mem_of_getElem? hcell) y rfl
  exact (List.all_eq_true.mp this) c hc
theorem mark_ok {id : Nat} {σ : Store} {cs fs : AV} {H : Hp} (hH : HeapAt σ id cs fs H) (hG : H.Good) (roots : List Int) (hr : H.all roots = true) (hb : weight H.cells + roots.length ≤ 1099511627776) :
    ACalls Try.prog 40 [.ptr id 0 0 0, ints roots] σ fun r σ' => r = .tuple [] ∧ ∃ C, MI H.cells roots C [] ∧ HeapAt σ' id cs fs { H with cells := C } ∧ Fr σ σ' (foot id cs fs) (foot id cs fs) := by
  refine in40 (by simp) ?_
  unfold c40
  try simp only [S, argList, aPut, aFill, ↓reduceIte, Nat.reduceEqDiff, Nat.reduceAdd, Nat.reduceLeDiff, reduceCtorEq, ints]
  repeat ((with_reducible first | refine AWP_seq ?_ | refine AWP_block ?_ | refine AWP_scope ?_ | refine AWP_reg ?_ | refine AWP_draw ?_ | refine AWP_skip ?_ | refine AWP_ret ?_ | refine AWP_exit ?_ | (refine AWP_cond_true ?_ ?_; · simp only [S, argList, aPut, aFill, ↓reduceIte, Nat.reduceEqDiff, Nat.reduceAdd, Nat.reduceLeDiff, reduceCtorEq, ints]) | (refine AWP_cond_false ?_ ?_; · simp only [S, argList, aPut, aFill, ↓reduceIte, Nat.reduceEqDiff, Nat.reduceAdd, Nat.reduceLeDiff, reduceCtorEq, ints])); try simp only [S, argList, aPut, aFill, ↓reduceIte, Nat.reduceEqDiff, Nat.reduceAdd, Nat.reduceLeDiff, reduceCtorEq, ints])
  refine ok_app (.nil σ 3 1) (by simp) (by simp; omega) (by simp [maxLen]; omega) ?_
  intro v s0 hS0 hF0
  try simp only [S, argList, aPut, aFill, ↓reduceIte, Nat.reduceEqDiff, Nat.reduceAdd, Nat.reduceLeDiff, reduceCtorEq]
  repeat ((with_reducible first | refine AWP_seq ?_ | refine AWP_block ?_ | refine AWP_scope ?_ | refine AWP_reg ?_ | refine AWP_draw ?_ | refine AWP_skip ?_ | refine AWP_ret ?_ | refine AWP_exit ?_ | (refine AWP_cond_true ?_ ?_; · simp only [S, argList, aPut, aFill, ↓reduceIte, Nat.reduceEqDiff, Nat.reduceAdd, Nat.reduceLeDiff, reduceCtorEq]) | (refine AWP_cond_false ?_ ?_; · simp only [S, argList, aPut, aFill, ↓reduceIte, Nat.reduceEqDiff, Nat.reduceAdd, Nat.reduceLeDiff, reduceCtorEq])); try simp only [S, argList, aPut, aFill, ↓reduceIte, Nat.reduceEqDiff, Nat.reduceAdd, Nat.reduceLeDiff, reduceCtorEq])
  refine AWP_while [0, 4] (fun x : MS => weight x.C + x.st.length) (fun x => [.ptr id 0 0 0, x.v])
    (fun x s => HeapAt s id cs fs { H with cells := x.C } ∧ SliceAt s x.v 3 1 (x.st.map fun y => [.int .i64 y]) ∧ (∀ i, i ∈ slIds x.v → σ.next ≤ i) ∧ Fr σ s (foot id cs fs) (foot id cs fs) ∧ MI H.cells roots x.C x.st ∧ weight x.C + x.st.length ≤ 1099511627776)
    ⟨roots, H.cells, v⟩ ⟨hH.grow fun i hi => hF0.keep i hi (by simp [slIds]), by simpa using hS0, fun i hi => ?_, ⟨hF0.next, fun i hi hn => hF0.keep i hi (by simp [slIds]), fun i hi => .inl hi⟩, MI.start hG.clean ?_, hb⟩ ?_ ?_
  · have := hF0.fresh i hi; simpa [slIds] using this
  · intro a ha
    have := (List.all_eq_true.mp hr) a ha
    exact this
  · try simp only [S, argList, aPut, aFill, ↓reduceIte, Nat.reduceEqDiff, Nat.reduceAdd, Nat.reduceLeDiff, reduceCtorEq]
    repeat ((with_reducible first | refine AWP_seq ?_ | refine AWP_block ?_ | refine AWP_scope ?_ | refine AWP_reg ?_ | refine AWP_draw ?_ | refine AWP_skip ?_ | refine AWP_ret ?_ | refine AWP_exit ?_ | (refine AWP_cond_true ?_ ?_; · simp only [S, argList, aPut, aFill, ↓reduceIte, Nat.reduceEqDiff, Nat.reduceAdd, Nat.reduceLeDiff, reduceCtorEq]) | (refine AWP_cond_false ?_ ?_; · simp only [S, argList, aPut, aFill, ↓reduceIte, Nat.reduceEqDiff, Nat.reduceAdd, Nat.reduceLeDiff, reduceCtorEq])); try simp only [S, argList, aPut, aFill, ↓reduceIte, Nat.reduceEqDiff, Nat.reduceAdd, Nat.reduceLeDiff, reduceCtorEq])
  · rintro ⟨st, C, v⟩ s ⟨hT, hS, hfr, hF, hM, hw⟩
    simp only at hT hS hfr hF hM hw
    try simp only [S, argList, aPut, aFill, ↓reduceIte, Nat.reduceEqDiff, Nat.reduceAdd, Nat.reduceLeDiff, reduceCtorEq, hS.len]
    repeat ((with_reducible first | refine AWP_seq ?_ | refine AWP_block ?_ | refine AWP_scope ?_ | refine AWP_reg ?_ | refine AWP_draw ?_ | refine AWP_skip ?_ | refine AWP_ret ?_ | refine AWP_exit ?_ | (refine AWP_cond_true ?_ ?_; · simp only [S, argList, aPut, aFill, ↓reduceIte, Nat.reduceEqDiff, Nat.reduceAdd, Nat.reduceLeDiff, reduceCtorEq, hS.len]) | (refine AWP_cond_false ?_ ?_; · simp only [S, argList, aPut, aFill, ↓reduceIte, Nat.reduceEqDiff, Nat.reduceAdd, Nat.reduceLeDiff, reduceCtorEq, hS.len])); try simp only [S, argList, aPut, aFill, ↓reduceIte, Nat.reduceEqDiff, Nat.reduceAdd, Nat.reduceLeDiff, reduceCtorEq, hS.len])
    rcases List.eq_nil_or_concat st with rfl | ⟨pre, a, rfl⟩
    · try simp only [S, argList, aPut, aFill, ↓reduceIte, Nat.reduceEqDiff, Nat.reduceAdd, Nat.reduceLeDiff, reduceCtorEq, List.length_nil, Int.ofNat_zero, Int.lt_irrefl]
      repeat ((with_reducible first | refine AWP_seq ?_ | refine AWP_block ?_ | refine AWP_scope ?_ | refine AWP_reg ?_ | refine AWP_draw ?_ | refine AWP_skip ?_ | refine AWP_ret ?_ | refine AWP_exit ?_ | (refine AWP_cond_true ?_ ?_; · simp only [S, argList, aPut, aFill, ↓reduceIte, Nat.reduceEqDiff, Nat.reduceAdd, Nat.reduceLeDiff, reduceCtorEq, List.length_nil, Int.ofNat_zero, Int.lt_irrefl]) | (refine AWP_cond_false ?_ ?_; · simp only [S, argList, aPut, aFill, ↓reduceIte, Nat.reduceEqDiff, Nat.reduceAdd, Nat.reduceLeDiff, reduceCtorEq, List.length_nil, Int.ofNat_zero, Int.lt_irrefl])); try simp only [S, argList, aPut, aFill, ↓reduceIte, Nat.reduceEqDiff, Nat.reduceAdd, Nat.reduceLeDiff, reduceCtorEq, List.length_nil, Int.ofNat_zero, Int.lt_irrefl])
      exact ⟨C, hM, hT, hF⟩
    · simp only [List.concat_eq_append] at hS hM hw ⊢
      obtain ⟨vid, vver, ves, rfl, hvg⟩ := hS.own (by simp)
      simp only [List.length_map, List.length_append, List.length_cons, List.length_nil, Nat.zero_add] at hw hvg ⊢
      have hval := hM.val a (by simp)
      obtain ⟨x, hx⟩ := Option.isSome_iff_exists.mp hval
      have hx' : nodeAt C a = some x := by rw [nodeAt_same hM.same]; exact hx
      obtain ⟨h0, m, hcell⟩ := nodeAt_cell hx'
      obtain ⟨cid, ver, es', rfl, hg, hes, hlt⟩ := hT.cell (H := { H with cells := C }) hcell
      simp only at hlt
      have hlt' : a < C.length := by omega
      have hw1 : IntKind.i64.wrap (((pre.length + 1 : Nat) : Int) - 1) = (pre.length : Int) := by rw [wrap_of (by omega) (by omega)]; omega
      have hget : ((pre ++ [a]).map (fun y => [AV.int .i64 y]) ++ ves)[pre.length]? = some [.int .i64 a] := by simp
      have hp1 : (0 : Int) < ((pre.length + 1 : Nat) : Int) := by omega
      have hp3 : (pre.length : Int) < ((pre.length + 1 : Nat) : Int) := by omega
      have hp4 : (pre.length : Int) ≤ ((pre.length + 1 : Nat) : Int) := by omega
      have hp5 : ((pre.length + 1 : Nat) : Int) ≤ ((pre.length + 1 : Nat) : Int) := by omega
      try simp only [S, argList, aPut, aFill, ↓reduceIte, Nat.reduceEqDiff, Nat.reduceAdd, Nat.reduceLeDiff, reduceCtorEq, hp1, hvg, hw1, hp3, hp4, hp5, hget, hT.hd, hg, h0, hlt', hes, Cl.cells, List.length_append]
      repeat ((with_reducible first | refine AWP_seq ?_ | refine AWP_block ?_ | refine AWP_scope ?_ | refine AWP_reg ?_ | refine AWP_draw ?_ | refine AWP_skip ?_ | refine AWP_ret ?_ | refine AWP_exit ?_ | (refine AWP_cond_true ?_ ?_; · simp only [S, argList, aPut, aFill, ↓reduceIte, Nat.reduceEqDiff, Nat.reduceAdd, Nat.reduceLeDiff, reduceCtorEq, hp1, hvg, hw1, hp3, hp4, hp5, hget, hT.hd, hg, h0, hlt', hes, Cl.cells, List.length_append]) | (refine AWP_cond_false ?_ ?_; · simp only [S, argList, aPut, aFill, ↓reduceIte, Nat.reduceEqDiff, Nat.reduceAdd, Nat.reduceLeDiff, reduceCtorEq, hp1, hvg, hw1, hp3, hp4, hp5, hget, hT.hd, hg, h0, hlt', hes, Cl.cells, List.length_append])); try simp only [S, argList, aPut, aFill, ↓reduceIte, Nat.reduceEqDiff, Nat.reduceAdd, Nat.reduceLeDiff, reduceCtorEq, hp1, hvg, hw1, hp3, hp4, hp5, hget, hT.hd, hg, h0, hlt', hes, Cl.cells, List.length_append])
      cases m with
      | true =>
        try simp only [S, argList, aPut, aFill, ↓reduceIte, Nat.reduceEqDiff, Nat.reduceAdd, Nat.reduceLeDiff, reduceCtorEq]
        repeat ((with_reducible first | refine AWP_seq ?_ | refine AWP_block ?_ | refine AWP_scope ?_ | refine AWP_reg ?_ | refine AWP_draw ?_ | refine AWP_skip ?_ | refine AWP_ret ?_ | refine AWP_exit ?_ | (refine AWP_cond_true ?_ ?_; · simp only [S, argList, aPut, aFill, ↓reduceIte, Nat.reduceEqDiff, Nat.reduceAdd, Nat.reduceLeDiff, reduceCtorEq]) | (refine AWP_cond_false ?_ ?_; · simp only [S, argList, aPut, aFill, ↓reduceIte, Nat.reduceEqDiff, Nat.reduceAdd, Nat.reduceLeDiff, reduceCtorEq])); try simp only [S, argList, aPut, aFill, ↓reduceIte, Nat.reduceEqDiff, Nat.reduceAdd, Nat.reduceLeDiff, reduceCtorEq])
        exact ⟨⟨pre, C, .own vid vver 1 0 pre.length⟩, rfl, ⟨hT, .inr ⟨vid, vver, [.int .i64 a] :: ves, by simp, by rw [hvg]; simp⟩, hfr, hF, hM.pop (mk_cell hcell), by simp only; omega⟩, by simp only; omega⟩
      | false =>
        try simp only [S, argList, aPut, aFill, ↓reduceIte, Nat.reduceEqDiff, Nat.reduceAdd, Nat.reduceLeDiff, reduceCtorEq, hT.hd, hg, h0, hlt', hes, Cl.cells]
        repeat ((with_reducible first | refine AWP_seq ?_ | refine AWP_block ?_ | refine AWP_scope ?_ | refine AWP_reg ?_ | refine AWP_draw ?_ | refine AWP_skip ?_ | refine AWP_ret ?_ | refine AWP_exit ?_ | (refine AWP_cond_true ?_ ?_; · simp only [S, argList, aPut, aFill, ↓reduceIte, Nat.reduceEqDiff, Nat.reduceAdd, Nat.reduceLeDiff, reduceCtorEq, hT.hd, hg, h0, hlt', hes, Cl.cells]) | (refine AWP_cond_false ?_ ?_; · simp only [S, argList, aPut, aFill, ↓reduceIte, Nat.reduceEqDiff, Nat.reduceAdd, Nat.reduceLeDiff, reduceCtorEq, hT.hd, hg, h0, hlt', hes, Cl.cells])); try simp only [S, argList, aPut, aFill, ↓reduceIte, Nat.reduceEqDiff, Nat.reduceAdd, Nat.reduceLeDiff, reduceCtorEq, hT.hd, hg, h0, hlt', hes, Cl.cells])
        have hcl := s.lt hg
        generalize hs1 : s.upd cid _ = s1
        have hT1 : HeapAt s1 id (.own cid ver 5 0 C.length) fs { H with cells := C.set a.toNat (some x, true) } :=
          hT.setCell hg hlt (some x, true) (by rw [← hs1, Store.get_upd_self _ _ hcl]; rfl) (fun j hj hn => by rw [← hs1, Store.get_upd_ne _ _ hn])
        have hg1 : s1.get cid = some (.cells 95 ver 5 (es'.set a.toNat [AV.int .i64 x.tag, .int .i64 x.n, ints x.l, .bool true, .bool true])) := by rw [← hs1, Store.get_upd_self _ _ hcl]
        have hcσ : cid < σ.next := hH.cs.lt (by simp [slIds])
        have hvσ : σ.next ≤ vid := hfr vid (by simp [slIds])
        have hv1 : s1.get vid = some (.cells 3 vver 1 ((pre ++ [a]).map (fun y => [AV.int .i64 y]) ++ ves)) := by rw [← hs1, Store.get_upd_ne _ _ (by omega)]; exact hvg
        have hF1 : Fr σ s1 (foot id (.own cid ver 5 0 C.length) fs) (foot id (.own cid ver 5 0 C.length) fs) :=
          hF.trans ⟨by rw [← hs1]; exact Nat.le_refl _, fun j hj hn => by rw [← hs1, Store.get_upd_ne]; simp [foot, slIds] at hn; exact hn.2.1, fun i hi => .inl hi⟩
        clear hs1
        have hes1 : (es'.set a.toNat [AV.int .i64 x.tag, .int .i64 x.n, ints x.l, .bool true, .bool true])[a.toNat]? = some (Cl.cells (some x, true)) := by
          rw [List.getElem?_set]; simp [(List.getElem?_eq_some_iff.mp hes).1]; rfl
        generalize hE : es'.set a.toNat _ = es1 at hg1 hes1
        clear hE
        have hxl : x.l.length ≤ 1099511627776 := by have := weight_set hcell; omega
        try simp only [S, argList, aPut, aFill, ↓reduceIte, Nat.reduceEqDiff, Nat.reduceAdd, Nat.reduceLeDiff, reduceCtorEq, hT1.hd, hg1, h0, hlt', hes1, Cl.cells, ints]
        repeat ((with_reducible first | refine AWP_seq ?_ | refine AWP_block ?_ | refine AWP_scope ?_ | refine AWP_reg ?_ | refine AWP_draw ?_ | refine AWP_skip ?_ | refine AWP_ret ?_ | refine AWP_exit ?_ | (refine AWP_cond_true ?_ ?_; · simp only [S, argList, aPut, aFill, ↓reduceIte, Nat.reduceEqDiff, Nat.reduceAdd, Nat.reduceLeDiff, reduceCtorEq, hT1.hd, hg1, h0, hlt', hes1, Cl.cells, ints]) | (refine AWP_cond_false ?_ ?_; · simp only [S, argList, aPut, aFill, ↓reduceIte, Nat.reduceEqDiff, Nat.reduceAdd, Nat.reduceLeDiff, reduceCtorEq, hT1.hd, hg1, h0, hlt', hes1, Cl.cells, ints])); try simp only [S, argList, aPut, aFill, ↓reduceIte, Nat.reduceEqDiff, Nat.reduceAdd, Nat.reduceLeDiff, reduceCtorEq, hT1.hd, hg1, h0, hlt', hes1, Cl.cells, ints])
        refine AWP_while [0, 4, 48, 49, 50] (fun y : Nat × AV => x.l.length - y.1) (fun y => [.ptr id 0 0 0, y.2, ints x.l, .int .i64 x.l.length, .int .i64 y.1])
          (fun y s' => y.1 ≤ x.l.length ∧ HeapAt s' id (.own cid ver 5 0 C.length) fs { H with cells := C.set a.toNat (some x, true) } ∧
            SliceAt s' y.2 3 1 ((pre ++ (x.l.take y.1).filter fun b => !mrk (C.set a.toNat (some x, true)) b).map fun y => [.int .i64 y]) ∧ (∀ i, i ∈ slIds y.2 → σ.next ≤ i) ∧
            Fr σ s' (foot id (.own cid ver 5 0 C.length) fs) (foot id (.own cid ver 5 0 C.length) fs))
          (0, .own vid vver 1 0 pre.length) ⟨by simp, hT1, .inr ⟨vid, vver, [.int .i64 a] :: ves, by simp, by rw [hv1]; simp⟩, hfr, hF1⟩ ?_ ?_
        · try simp only [S, argList, aPut, aFill, ↓reduceIte, Nat.reduceEqDiff, Nat.reduceAdd, Nat.reduceLeDiff, reduceCtorEq, ints]
          repeat ((with_reducible first | refine AWP_seq ?_ | refine AWP_block ?_ | refine AWP_scope ?_ | refine AWP_reg ?_ | refine AWP_draw ?_ | refine AWP_skip ?_ | refine AWP_ret ?_ | refine AWP_exit ?_ | (refine AWP_cond_true ?_ ?_; · simp only [S, argList, aPut, aFill, ↓reduceIte, Nat.reduceEqDiff, Nat.reduceAdd, Nat.reduceLeDiff, reduceCtorEq, ints]) | (refine AWP_cond_false ?_ ?_; · simp only [S, argList, aPut, aFill, ↓reduceIte, Nat.reduceEqDiff, Nat.reduceAdd, Nat.reduceLeDiff, reduceCtorEq, ints])); try simp only [S, argList, aPut, aFill, ↓reduceIte, Nat.reduceEqDiff, Nat.reduceAdd, Nat.reduceLeDiff, reduceCtorEq, ints])
          rfl
        · rintro ⟨k, w⟩ s2 ⟨hk, hT2, hS2, hfr2, hF2⟩
          simp only at hk hS2 hfr2
          by_cases hkl : k < x.l.length
          · obtain ⟨b, hbk⟩ : ∃ b, x.l[k]? = some b := ⟨_, List.getElem?_eq_getElem hkl⟩
            have hbm : b ∈ x.l := List.mem_of_getElem? hbk
            have hvb : (nodeAt H.cells b).isSome = true := Good.ptrs hG a x hx b hbm
            obtain ⟨xb, hxb⟩ := Option.isSome_iff_exists.mp hvb
            have hxb' : nodeAt (C.set a.toNat (some x, true)) b = some xb := by rw [nodeAt_same (hM.push hcell (Good.ptrs hG)).same]; exact hxb
            obtain ⟨hb0, mb, hcb⟩ := nodeAt_cell hxb'
            obtain ⟨cid2, ver2, es2, e2, hg2, hes2, hlt2⟩ := hT2.cell (H := { H with cells := C.set a.toNat (some x, true) }) hcb
            simp only [AV.own.injEq] at e2
            obtain ⟨rfl, rfl, -, -, e2⟩ := e2
            simp only at hlt2
            have hlb : b < (C.length : Int) := by simp at hlt2; omega
            have hkl' : (k : Int) < (x.l.length : Int) := by omega
            have hgk : (x.l.map fun y => [AV.int .i64 y])[k]? = some [.int .i64 b] := by simp [hbk]
            have hk1 : IntKind.i64.wrap ((k : Int) + 1) = ((k + 1 : Nat) : Int) := by rw [wrap_of (by omega) (by omega)]; omega
            try simp only [S, argList, aPut, aFill, ↓reduceIte, Nat.reduceEqDiff, Nat.reduceAdd, Nat.reduceLeDiff, reduceCtorEq, hkl', ints, hgk, hT2.hd, hg2, hb0, hlb, hes2, Cl.cells]
            repeat ((with_reducible first | refine AWP_seq ?_ | refine AWP_block ?_ | refine AWP_scope ?_ | refine AWP_reg ?_ | refine AWP_draw ?_ | refine AWP_skip ?_ | refine AWP_ret ?_ | refine AWP_exit ?_ | (refine AWP_cond_true ?_ ?_; · simp only [S, argList, aPut, aFill, ↓reduceIte, Nat.reduceEqDiff, Nat.reduceAdd, Nat.reduceLeDiff, reduceCtorEq, hkl', ints, hgk, hT2.hd, hg2, hb0, hlb, hes2, Cl.cells]) | (refine AWP_cond_false ?_ ?_; · simp only [S, argList, aPut, aFill, ↓reduceIte, Nat.reduceEqDiff, Nat.reduceAdd, Nat.reduceLeDiff, reduceCtorEq, hkl', ints, hgk, hT2.hd, hg2, hb0, hlb, hes2, Cl.cells])); try simp only [S, argList, aPut, aFill, ↓reduceIte, Nat.reduceEqDiff, Nat.reduceAdd, Nat.reduceLeDiff, reduceCtorEq, hkl', ints, hgk, hT2.hd, hg2, hb0, hlb, hes2, Cl.cells])
            have htk : x.l.take (k + 1) = x.l.take k ++ [b] := by rw [List.take_add_one, hbk]; rfl
            have hmb : mrk (C.set a.toNat (some x, true)) b = mb := mk_cell hcb
            cases mb with
            | true =>
              try simp only [S, argList, aPut, aFill, ↓reduceIte, Nat.reduceEqDiff, Nat.reduceAdd, Nat.reduceLeDiff, reduceCtorEq, hk1]
              repeat ((with_reducible first | refine AWP_seq ?_ | refine AWP_block ?_ | refine AWP_scope ?_ | refine AWP_reg ?_ | refine AWP_draw ?_ | refine AWP_skip ?_ | refine AWP_ret ?_ | refine AWP_exit ?_ | (refine AWP_cond_true ?_ ?_; · simp only [S, argList, aPut, aFill, ↓reduceIte, Nat.reduceEqDiff, Nat.reduceAdd, Nat.reduceLeDiff, reduceCtorEq, hk1]) | (refine AWP_cond_false ?_ ?_; · simp only [S, argList, aPut, aFill, ↓reduceIte, Nat.reduceEqDiff, Nat.reduceAdd, Nat.reduceLeDiff, reduceCtorEq, hk1])); try simp only [S, argList, aPut, aFill, ↓reduceIte, Nat.reduceEqDiff, Nat.reduceAdd, Nat.reduceLeDiff, reduceCtorEq, hk1])
              exact ⟨(k + 1, w), rfl, ⟨by simp only; omega, hT2, by simp only [htk, List.filter_append]; simpa [hmb] using hS2, hfr2, hF2⟩, by simp only; omega⟩
            | false =>
              try simp only [S, argList, aPut, aFill, ↓reduceIte, Nat.reduceEqDiff, Nat.reduceAdd, Nat.reduceLeDiff, reduceCtorEq]
              repeat ((with_reducible first | refine AWP_seq ?_ | refine AWP_block ?_ | refine AWP_scope ?_ | refine AWP_reg ?_ | refine AWP_draw ?_ | refine AWP_skip ?_ | refine AWP_ret ?_ | refine AWP_exit ?_ | (refine AWP_cond_true ?_ ?_; · simp only [S, argList, aPut, aFill, ↓reduceIte, Nat.reduceEqDiff, Nat.reduceAdd, Nat.reduceLeDiff, reduceCtorEq]) | (refine AWP_cond_false ?_ ?_; · simp only [S, argList, aPut, aFill, ↓reduceIte, Nat.reduceEqDiff, Nat.reduceAdd, Nat.reduceLeDiff, reduceCtorEq])); try simp only [S, argList, aPut, aFill, ↓reduceIte, Nat.reduceEqDiff, Nat.reduceAdd, Nat.reduceLeDiff, reduceCtorEq])
              have hfl : (((x.l.take k).filter fun b => !mrk (C.set a.toNat (some x, true)) b)).length ≤ x.l.length := Nat.le_trans (List.length_filter_le _ _) (by simp; omega)
              have := weight_set hcell
              refine ok_app hS2 (by simp) (by simp; omega) (by simp [maxLen]; omega) ?_
              intro v3 s3 hS3 hF3
              try simp only [S, argList, aPut, aFill, ↓reduceIte, Nat.reduceEqDiff, Nat.reduceAdd, Nat.reduceLeDiff, reduceCtorEq, hk1]
              repeat ((with_reducible first | refine AWP_seq ?_ | refine AWP_block ?_ | refine AWP_scope ?_ | refine AWP_reg ?_ | refine AWP_draw ?_ | refine AWP_skip ?_ | refine AWP_ret ?_ | refine AWP_exit ?_ | (refine AWP_cond_true ?_ ?_; · simp only [S, argList, aPut, aFill, ↓reduceIte, Nat.reduceEqDiff, Nat.reduceAdd, Nat.reduceLeDiff, reduceCtorEq, hk1]) | (refine AWP_cond_false ?_ ?_; · simp only [S, argList, aPut, aFill, ↓reduceIte, Nat.reduceEqDiff, Nat.reduceAdd, Nat.reduceLeDiff, reduceCtorEq, hk1])); try simp only [S, argList, aPut, aFill, ↓reduceIte, Nat.reduceEqDiff, Nat.reduceAdd, Nat.reduceLeDiff, reduceCtorEq, hk1])
              have hd3 : ∀ i, i ∈ foot id (.own cid ver 5 0 C.length) fs → s3.get i = s2.get i := fun i hi => hF3.keep i (hT2.lt hi) fun h => by
                have := hfr2 i h
                have := hH.lt hi
                omega
              refine ⟨(k + 1, v3), rfl, ⟨by simp only; omega, hT2.keep hd3, ?_, ?_, ?_⟩, by simp only; omega⟩
              · simp only [htk, List.filter_append]
                simpa [hmb] using hS3
              · intro i hi
                rcases hF3.fresh i hi with h | h
                · exact hfr2 i h
                · have := hF2.next; omega
              · refine ⟨Nat.le_trans hF2.next hF3.next, fun j hj hn => ?_, fun i hi => .inl hi⟩
                rw [hF3.keep j (by have := hF2.next; omega) (fun h => by have := hfr2 j h; omega), hF2.keep j hj hn]
          · have hke : k = x.l.length := by omega
            subst hke
            try simp only [S, argList, aPut, aFill, ↓reduceIte, Nat.reduceEqDiff, Nat.reduceAdd, Nat.reduceLeDiff, reduceCtorEq, Int.lt_irrefl]
            repeat ((with_reducible first | refine AWP_seq ?_ | refine AWP_block ?_ | refine AWP_scope ?_ | refine AWP_reg ?_ | refine AWP_draw ?_ | refine AWP_skip ?_ | refine AWP_ret ?_ | refine AWP_exit ?_ | (refine AWP_cond_true ?_ ?_; · simp only [S, argList, aPut, aFill, ↓reduceIte, Nat.reduceEqDiff, Nat.reduceAdd, Nat.reduceLeDiff, reduceCtorEq, Int.lt_irrefl]) | (refine AWP_cond_false ?_ ?_; · simp only [S, argList, aPut, aFill, ↓reduceIte, Nat.reduceEqDiff, Nat.reduceAdd, Nat.reduceLeDiff, reduceCtorEq, Int.lt_irrefl])); try simp only [S, argList, aPut, aFill, ↓reduceIte, Nat.reduceEqDiff, Nat.reduceAdd, Nat.reduceLeDiff, reduceCtorEq, Int.lt_irrefl])
            have hM1 := hM.push hcell (Good.ptrs hG)
            have hw1 := weight_set hcell
            have hfl : (x.l.filter fun b => !mrk (C.set a.toNat (some x, true)) b).length ≤ x.l.length := List.length_filter_le _ _
            refine ⟨⟨pre ++ x.l.filter fun b => !mrk (C.set a.toNat (some x, true)) b, C.set a.toNat (some x, true), w⟩, rfl, ⟨hT2, by simpa using hS2, hfr2, hF2, hM1, ?_⟩, ?_⟩
            · simp only [List.length_append]; omega
            · simp only [List.length_append]; omega
end Go.Proofs.Ytoejjhehpbmgbaa
