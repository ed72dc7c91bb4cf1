/- The heap's sweep and Collect: what is not marked is free. -/
import Derived.Test.YtoejjhehpbmgbaaAHd
set_option linter.unusedVariables false
set_option linter.unusedSimpArgs false
namespace Go.AL
/-- A cell behind the sweep. -/
def swc (c : Cl) : Cl := (if c.2 then c.1 else none, false)
def sweepN (C : List Cl) : Nat := C.countP fun c => c.1.isSome && !c.2
def swept (C : List Cl) (k : Nat) : List Cl := C.take k ++ (C.drop k).map swc
/-- The free cells from a place on, from the greatest down. -/
def freeFrom (C : List Cl) (k : Nat) : List Int := (((List.range' k (C.length - k)).filter fun i => ((C[i]?).bind (·.1)).isNone).reverse).map fun (i : Nat) => (i : Int)
/-- An arena behind the sweep. -/
def Hp.sweep (H : Hp) (C : List Cl) : Hp := { H with cells := C.map swc, free := freeOf (C.map swc), live := H.live - sweepN C }
theorem freeFrom_zero (C : List Cl) : freeFrom C 0 = freeOf C := by simp [freeFrom, freeOf, List.range_eq_range']
theorem freeFrom_end (C : List Cl) : freeFrom C C.length = [] := by simp [freeFrom]
theorem freeFrom_succ {C : List Cl} {i : Nat} {c : Cl} (h : C[i]? = some c) : freeFrom C i = freeFrom C (i + 1) ++ (if c.1.isSome then [] else [(i : Int)]) := by
  have hi : i < C.length := (List.getElem?_eq_some_iff.mp h).1
  have e : C.length - i = (C.length - (i + 1)) + 1 := by omega
  unfold freeFrom
  rw [e, List.range'_succ, List.filter_cons, h]
  cases hc : c.1 with
  | none => simp [hc]
  | some x => simp [hc]
theorem swept_length (C : List Cl) (k : Nat) : (swept C k).length = C.length := by simp [swept]; omega
theorem swept_zero (C : List Cl) : swept C 0 = C.map swc := by simp [swept]
theorem swept_end (C : List Cl) : swept C C.length = C := by simp [swept]
theorem swept_get {C : List Cl} {i : Nat} {c : Cl} (h : C[i]? = some c) : (swept C (i + 1))[i]? = some c := by
  have hi : i < C.length := (List.getElem?_eq_some_iff.mp h).1
  rw [swept, List.getElem?_append_left (by simp; omega)]
  simp [List.getElem?_take, h]
theorem swept_set {C : List Cl} {i : Nat} {c : Cl} (h : C[i]? = some c) : (swept C (i + 1)).set i (swc c) = swept C i := by
  have hi : i < C.length := (List.getElem?_eq_some_iff.mp h).1
  apply List.ext_getElem?
  intro j
  have key : ∀ k j, (swept C k)[j]? = (C[j]?).map fun c => if j < k then c else swc c := by
    intro k j
    unfold swept
    by_cases hj : j < k
    · by_cases hjl : j < C.length
      · rw [List.getElem?_append_left (by simp; omega)]
        simp [List.getElem?_take, hj, hjl]
      · have e1 : C[j]? = none := List.getElem?_eq_none (by omega)
        rw [e1, List.getElem?_eq_none (by simp; omega)]; rfl
    · by_cases hjl : j < C.length
      · rw [List.getElem?_append_right (by simp; omega)]
        simp only [List.length_take, List.getElem?_map, List.getElem?_drop]
        rw [show k + (j - min k C.length) = j by omega]
        simp [hj]
      · have e1 : C[j]? = none := List.getElem?_eq_none (by omega)
        rw [e1, List.getElem?_eq_none (by simp; omega)]; rfl
  rw [List.getElem?_set, swept_length]
  by_cases hij : i = j
  · subst hij; rw [if_pos rfl, if_pos hi, key, h, Option.map_some, if_neg (by omega)]
  · rw [if_neg hij, key, key]
    have : (j < i + 1) = (j < i) := by simp; omega
    simp [this]
theorem sweepN_drop {C : List Cl} {i : Nat} {c : Cl} (h : C[i]? = some c) : sweepN (C.drop i) = sweepN (C.drop (i + 1)) + (if c.1.isSome && !c.2 then 1 else 0) := by
  have hi : i < C.length := (List.getElem?_eq_some_iff.mp h).1
  rw [List.drop_eq_getElem_cons hi]
  have : C[i] = c := by rw [List.getElem?_eq_getElem hi] at h; exact Option.some.inj h
  rw [this, sweepN, List.countP_cons]; rfl
end Go.AL
namespace Go.Proofs.Ytoejjhehpbmgbaa
open Go.AL

theorem sweep_ok {id : Nat} {σ : Store} {cs fs : AV} {H : Hp} (hH : HeapAt σ id cs fs H) (hl : H.cells.length ≤ 16777216) (hv : 0 ≤ H.live ∧ H.live ≤ 16777216) :
    ACalls Try.prog 41 [.ptr id 0 0 0] σ fun r σ' => r = .int .i64 (sweepN H.cells) ∧ HeapTo σ id (foot id cs fs) { H with cells := H.cells.map swc, free := freeOf (H.cells.map swc), live := H.live - sweepN H.cells } σ' := by
  refine in41 (by simp) ?_
  unfold c41
  try simp only [S, argList, aPut, aFill, ↓reduceIte, Nat.reduceEqDiff, Nat.reduceAdd, Nat.reduceLeDiff, reduceCtorEq, hH.hd, hH.cs.len]
  repeat ((with_reducible first | refine AWP_seq ?_ | refine AWP_block ?_ | refine AWP_scope ?_ | refine AWP_reg ?_ | refine AWP_draw ?_ | refine AWP_skip ?_ | refine AWP_ret ?_ | refine AWP_exit ?_ | (refine AWP_cond_true ?_ ?_; · simp only [S, argList, aPut, aFill, ↓reduceIte, Nat.reduceEqDiff, Nat.reduceAdd, Nat.reduceLeDiff, reduceCtorEq, hH.hd, hH.cs.len]) | (refine AWP_cond_false ?_ ?_; · simp only [S, argList, aPut, aFill, ↓reduceIte, Nat.reduceEqDiff, Nat.reduceAdd, Nat.reduceLeDiff, reduceCtorEq, hH.hd, hH.cs.len])); try simp only [S, argList, aPut, aFill, ↓reduceIte, Nat.reduceEqDiff, Nat.reduceAdd, Nat.reduceLeDiff, reduceCtorEq, hH.hd, hH.cs.len])
  have hw0 : IntKind.i64.wrap ((H.cells.length : Int) - 1) = (H.cells.length : Int) - 1 := wrap_of (by omega) (by omega)
  refine AWP_while [0, 3, 4, 5] (fun y : Nat × AV => y.1) (fun y => [.ptr id 0 0 0, .int .i64 (sweepN (H.cells.drop y.1)), y.2, .int .i64 ((y.1 : Int) - 1)])
    (fun y s => y.1 ≤ H.cells.length ∧ HeapAt s id cs fs { H with cells := swept H.cells y.1 } ∧ SliceAt s y.2 3 1 ((freeFrom (H.cells.map swc) y.1).map fun z => [.int .i64 z]) ∧ (∀ i, i ∈ slIds y.2 → σ.next ≤ i) ∧ Fr σ s (foot id cs fs) (foot id cs fs))
    (H.cells.length, .nils) ⟨by simp, by simpa [swept_end] using hH, ?_, by simp [slIds], Fr.refl _ _⟩ ?_ ?_
  · have : freeFrom (H.cells.map swc) H.cells.length = [] := by have := freeFrom_end (H.cells.map swc); simpa using this
    simp only [this]; exact .nil _ _ _
  · try simp only [S, argList, aPut, aFill, ↓reduceIte, Nat.reduceEqDiff, Nat.reduceAdd, Nat.reduceLeDiff, reduceCtorEq, hw0]
    repeat ((with_reducible first | refine AWP_seq ?_ | refine AWP_block ?_ | refine AWP_scope ?_ | refine AWP_reg ?_ | refine AWP_draw ?_ | refine AWP_skip ?_ | refine AWP_ret ?_ | refine AWP_exit ?_ | (refine AWP_cond_true ?_ ?_; · simp only [S, argList, aPut, aFill, ↓reduceIte, Nat.reduceEqDiff, Nat.reduceAdd, Nat.reduceLeDiff, reduceCtorEq, hw0]) | (refine AWP_cond_false ?_ ?_; · simp only [S, argList, aPut, aFill, ↓reduceIte, Nat.reduceEqDiff, Nat.reduceAdd, Nat.reduceLeDiff, reduceCtorEq, hw0])); try simp only [S, argList, aPut, aFill, ↓reduceIte, Nat.reduceEqDiff, Nat.reduceAdd, Nat.reduceLeDiff, reduceCtorEq, hw0])
    simp [sweepN]
  · rintro ⟨k, v⟩ s ⟨hk, hT, hS, hfr, hF⟩
    simp only at hk hT hS hfr
    cases k with
    | zero =>
      have h0 : ¬ (0 : Int) ≤ ((0 : Nat) : Int) - 1 := by omega
      try simp only [S, argList, aPut, aFill, ↓reduceIte, Nat.reduceEqDiff, Nat.reduceAdd, Nat.reduceLeDiff, reduceCtorEq, h0]
      repeat ((with_reducible first | refine AWP_seq ?_ | refine AWP_block ?_ | refine AWP_scope ?_ | refine AWP_reg ?_ | refine AWP_draw ?_ | refine AWP_skip ?_ | refine AWP_ret ?_ | refine AWP_exit ?_ | (refine AWP_cond_true ?_ ?_; · simp only [S, argList, aPut, aFill, ↓reduceIte, Nat.reduceEqDiff, Nat.reduceAdd, Nat.reduceLeDiff, reduceCtorEq, h0]) | (refine AWP_cond_false ?_ ?_; · simp only [S, argList, aPut, aFill, ↓reduceIte, Nat.reduceEqDiff, Nat.reduceAdd, Nat.reduceLeDiff, reduceCtorEq, h0])); try simp only [S, argList, aPut, aFill, ↓reduceIte, Nat.reduceEqDiff, Nat.reduceAdd, Nat.reduceLeDiff, reduceCtorEq, h0])
      have hidlt := s.lt hT.hd
      try simp only [S, argList, aPut, aFill, ↓reduceIte, Nat.reduceEqDiff, Nat.reduceAdd, Nat.reduceLeDiff, reduceCtorEq, hT.hd, Store.get_upd_self _ _ hidlt, hS.co]
      repeat ((with_reducible first | refine AWP_seq ?_ | refine AWP_block ?_ | refine AWP_scope ?_ | refine AWP_reg ?_ | refine AWP_draw ?_ | refine AWP_skip ?_ | refine AWP_ret ?_ | refine AWP_exit ?_ | (refine AWP_cond_true ?_ ?_; · simp only [S, argList, aPut, aFill, ↓reduceIte, Nat.reduceEqDiff, Nat.reduceAdd, Nat.reduceLeDiff, reduceCtorEq, hT.hd, Store.get_upd_self _ _ hidlt, hS.co]) | (refine AWP_cond_false ?_ ?_; · simp only [S, argList, aPut, aFill, ↓reduceIte, Nat.reduceEqDiff, Nat.reduceAdd, Nat.reduceLeDiff, reduceCtorEq, hT.hd, Store.get_upd_self _ _ hidlt, hS.co])); try simp only [S, argList, aPut, aFill, ↓reduceIte, Nat.reduceEqDiff, Nat.reduceAdd, Nat.reduceLeDiff, reduceCtorEq, hT.hd, Store.get_upd_self _ _ hidlt, hS.co])
      have hnl : sweepN H.cells ≤ H.cells.length := List.countP_le_length
      have hw1 : IntKind.i64.wrap (H.live - (sweepN H.cells : Int)) = H.live - (sweepN H.cells : Int) := wrap_of (by omega) (by omega)
      simp only [hw1]
      rw [swept_zero] at hT
      rw [freeFrom_zero] at hS
      have hk : ∀ o j, j ≠ id → (s.upd id o).get j = s.get j := fun o j hj => Store.get_upd_ne _ _ hj
      refine ⟨cs, v, hT.setHd (H' := { H with cells := H.cells.map swc, free := freeOf (H.cells.map swc), live := H.live - sweepN H.cells }) (Store.get_upd_self _ _ hidlt) (fun j _ hj => hk _ j hj) hT.cs hS, ?_⟩
      refine ⟨hF.next, fun j hj hn => ?_, fun j hj => ?_⟩
      · rw [hk _ j (by simp [foot] at hn; exact hn.1)]; exact hF.keep j hj hn
      · simp only [foot, List.mem_cons, List.mem_append] at hj ⊢
        rcases hj with h | h | h
        · exact .inl (.inl h)
        · exact .inl (.inr (.inl h))
        · exact .inr (hfr j h)
    | succ i =>
      obtain ⟨c, hc⟩ : ∃ c, H.cells[i]? = some c := ⟨_, List.getElem?_eq_getElem (by omega)⟩
      obtain ⟨cid, ver, es', rfl, hg, hes, hlt⟩ := hT.cell (H := { H with cells := swept H.cells (i + 1) }) (swept_get hc)
      simp only [swept_length] at hlt hT hH hF ⊢
      have hI : ((i + 1 : Nat) : Int) - 1 = (i : Int) := by omega
      have h1 : (i : Int) < (H.cells.length : Int) := by omega
      have hw2 : IntKind.i64.wrap ((i : Int) - 1) = (i : Int) - 1 := by rw [wrap_of (by omega) (by omega)]
      have hcl := s.lt hg
      have hle : i < es'.length := (List.getElem?_eq_some_iff.mp hes).1
      have hset : ∀ y, (es'.set i y)[i]? = some y := fun y => by rw [List.getElem?_set]; simp [hle]
      have hnl : sweepN (H.cells.drop (i + 1)) ≤ H.cells.length := Nat.le_trans List.countP_le_length (by simp)
      have hwn : IntKind.i64.wrap ((sweepN (H.cells.drop (i + 1)) : Int) + 1) = ((sweepN (H.cells.drop (i + 1)) + 1 : Nat) : Int) := by rw [wrap_of (by omega) (by omega)]; rfl
      have hup : HeapAt (s.upd cid (.cells 95 ver 5 (es'.set i (Cl.cells (swc c))))) id (.own cid ver 5 0 H.cells.length) fs { H with cells := swept H.cells i } := by
        have := hT.setCell (τ := s.upd cid (.cells 95 ver 5 (es'.set i (Cl.cells (swc c))))) hg (by simpa only [swept_length] using hlt) (swc c) (Store.get_upd_self _ _ hcl) (fun j hj hn => Store.get_upd_ne _ _ hn)
        simpa [swept_set hc] using this
      have hcσ : cid < σ.next := hH.cs.lt (by simp [slIds])
      have hFu : ∀ o, Fr σ (s.upd cid o) (foot id (.own cid ver 5 0 H.cells.length) fs) (foot id (.own cid ver 5 0 H.cells.length) fs) := fun o =>
        hF.trans ⟨Nat.le_refl _, fun j hj hn => by rw [Store.get_upd_ne]; simp [foot, slIds] at hn; exact hn.2.1, fun i hi => .inl hi⟩
      have hSu : ∀ o, SliceAt (s.upd cid o) v 3 1 ((freeFrom (H.cells.map swc) (i + 1)).map fun z => [.int .i64 z]) := fun o => hS.keep fun j hj => Store.get_upd_ne _ _ (by have := hfr j hj; omega)
      have hcm : (H.cells.map swc)[i]? = some (swc c) := by simp [hc]
      have hff := freeFrom_succ hcm
      have hsn := sweepN_drop hc
      have hfl : (freeFrom (H.cells.map swc) (i + 1)).length ≤ H.cells.length := by
        simp only [freeFrom, List.length_map, List.length_reverse]
        exact Nat.le_trans (List.length_filter_le _ _) (by simp)
      have fin : ∀ (v3 : AV) (s3 : Store), SliceAt s3 v3 3 1 ((freeFrom (H.cells.map swc) (i + 1)).map (fun z => [AV.int .i64 z]) ++ [[.int .i64 i]]) → Fr (s.upd cid (.cells 95 ver 5 (es'.set i (Cl.cells (swc c))))) s3 (slIds v) (slIds v3) → (swc c).1.isSome = false →
          HeapAt s3 id (.own cid ver 5 0 H.cells.length) fs { H with cells := swept H.cells i } ∧ SliceAt s3 v3 3 1 ((freeFrom (H.cells.map swc) i).map fun z => [.int .i64 z]) ∧ (∀ i, i ∈ slIds v3 → σ.next ≤ i) ∧ Fr σ s3 (foot id (.own cid ver 5 0 H.cells.length) fs) (foot id (.own cid ver 5 0 H.cells.length) fs) := by
        intro v3 s3 hS3 hF3 hno
        have hu := hup
        have hsn : σ.next ≤ s.next := hF.next
        refine ⟨hu.keep fun j hj => hF3.keep j (hu.lt hj) fun h => ?_, ?_, ?_, ?_⟩
        · have := hfr j h; have := hH.lt hj; omega
        · rw [hff]; simpa [hno] using hS3
        · intro j hj
          rcases hF3.fresh j hj with h | h
          · exact hfr j h
          · simp only [Store.upd_next] at h; omega
        · have hFx := hFu (.cells 95 ver 5 (es'.set i (Cl.cells (swc c))))
          refine ⟨Nat.le_trans hFx.next hF3.next, fun j hj hn => ?_, fun i hi => .inl hi⟩
          rw [hF3.keep j (by simp only [Store.upd_next]; omega) (fun h => by have := hfr j h; omega), hFx.keep j hj hn]
      rcases c with ⟨_ | x, m⟩
      · have hsw : swc (none, m) = (none, false) := by cases m <;> rfl
        try simp only [S, argList, aPut, aFill, ↓reduceIte, Nat.reduceEqDiff, Nat.reduceAdd, Nat.reduceLeDiff, reduceCtorEq, hI, h1, hT.hd, hg, hes, Cl.cells, Store.get_upd_self _ _ hcl, hset, List.set_set]
        repeat ((with_reducible first | refine AWP_seq ?_ | refine AWP_block ?_ | refine AWP_scope ?_ | refine AWP_reg ?_ | refine AWP_draw ?_ | refine AWP_skip ?_ | refine AWP_ret ?_ | refine AWP_exit ?_ | (refine AWP_cond_true ?_ ?_; · simp only [S, argList, aPut, aFill, ↓reduceIte, Nat.reduceEqDiff, Nat.reduceAdd, Nat.reduceLeDiff, reduceCtorEq, hI, h1, hT.hd, hg, hes, Cl.cells, Store.get_upd_self _ _ hcl, hset, List.set_set]) | (refine AWP_cond_false ?_ ?_; · simp only [S, argList, aPut, aFill, ↓reduceIte, Nat.reduceEqDiff, Nat.reduceAdd, Nat.reduceLeDiff, reduceCtorEq, hI, h1, hT.hd, hg, hes, Cl.cells, Store.get_upd_self _ _ hcl, hset, List.set_set])); try simp only [S, argList, aPut, aFill, ↓reduceIte, Nat.reduceEqDiff, Nat.reduceAdd, Nat.reduceLeDiff, reduceCtorEq, hI, h1, hT.hd, hg, hes, Cl.cells, Store.get_upd_self _ _ hcl, hset, List.set_set])
        refine ok_app (hSu _) (by simp) (by simp; omega) (by simp [maxLen]; omega) ?_
        intro v3 s3 hS3 hF3
        try simp only [S, argList, aPut, aFill, ↓reduceIte, Nat.reduceEqDiff, Nat.reduceAdd, Nat.reduceLeDiff, reduceCtorEq, hI, hw2]
        repeat ((with_reducible first | refine AWP_seq ?_ | refine AWP_block ?_ | refine AWP_scope ?_ | refine AWP_reg ?_ | refine AWP_draw ?_ | refine AWP_skip ?_ | refine AWP_ret ?_ | refine AWP_exit ?_ | (refine AWP_cond_true ?_ ?_; · simp only [S, argList, aPut, aFill, ↓reduceIte, Nat.reduceEqDiff, Nat.reduceAdd, Nat.reduceLeDiff, reduceCtorEq, hI, hw2]) | (refine AWP_cond_false ?_ ?_; · simp only [S, argList, aPut, aFill, ↓reduceIte, Nat.reduceEqDiff, Nat.reduceAdd, Nat.reduceLeDiff, reduceCtorEq, hI, hw2])); try simp only [S, argList, aPut, aFill, ↓reduceIte, Nat.reduceEqDiff, Nat.reduceAdd, Nat.reduceLeDiff, reduceCtorEq, hI, hw2])
        exact ⟨(i, v3), by simp [hsn], ⟨by simp only; omega, fin v3 s3 hS3 (by rw [hsw]; exact hF3) (by rw [hsw]; rfl)⟩, by simp⟩
      · cases m with
        | true =>
          try simp only [S, argList, aPut, aFill, ↓reduceIte, Nat.reduceEqDiff, Nat.reduceAdd, Nat.reduceLeDiff, reduceCtorEq, hI, h1, hT.hd, hg, hes, Cl.cells, Store.get_upd_self _ _ hcl, hset, List.set_set, hw2]
          repeat ((with_reducible first | refine AWP_seq ?_ | refine AWP_block ?_ | refine AWP_scope ?_ | refine AWP_reg ?_ | refine AWP_draw ?_ | refine AWP_skip ?_ | refine AWP_ret ?_ | refine AWP_exit ?_ | (refine AWP_cond_true ?_ ?_; · simp only [S, argList, aPut, aFill, ↓reduceIte, Nat.reduceEqDiff, Nat.reduceAdd, Nat.reduceLeDiff, reduceCtorEq, hI, h1, hT.hd, hg, hes, Cl.cells, Store.get_upd_self _ _ hcl, hset, List.set_set, hw2]) | (refine AWP_cond_false ?_ ?_; · simp only [S, argList, aPut, aFill, ↓reduceIte, Nat.reduceEqDiff, Nat.reduceAdd, Nat.reduceLeDiff, reduceCtorEq, hI, h1, hT.hd, hg, hes, Cl.cells, Store.get_upd_self _ _ hcl, hset, List.set_set, hw2])); try simp only [S, argList, aPut, aFill, ↓reduceIte, Nat.reduceEqDiff, Nat.reduceAdd, Nat.reduceLeDiff, reduceCtorEq, hI, h1, hT.hd, hg, hes, Cl.cells, Store.get_upd_self _ _ hcl, hset, List.set_set, hw2])
          exact ⟨(i, v), by simp [hsn], ⟨by simp only; omega, hup, by simp only [hff]; simpa [swc] using hSu _, hfr, hFu _⟩, by simp⟩
        | false =>
          try simp only [S, argList, aPut, aFill, ↓reduceIte, Nat.reduceEqDiff, Nat.reduceAdd, Nat.reduceLeDiff, reduceCtorEq, hI, h1, hT.hd, hg, hes, Cl.cells, Store.get_upd_self _ _ hcl, hset, List.set_set, hwn]
          repeat ((with_reducible first | refine AWP_seq ?_ | refine AWP_block ?_ | refine AWP_scope ?_ | refine AWP_reg ?_ | refine AWP_draw ?_ | refine AWP_skip ?_ | refine AWP_ret ?_ | refine AWP_exit ?_ | (refine AWP_cond_true ?_ ?_; · simp only [S, argList, aPut, aFill, ↓reduceIte, Nat.reduceEqDiff, Nat.reduceAdd, Nat.reduceLeDiff, reduceCtorEq, hI, h1, hT.hd, hg, hes, Cl.cells, Store.get_upd_self _ _ hcl, hset, List.set_set, hwn]) | (refine AWP_cond_false ?_ ?_; · simp only [S, argList, aPut, aFill, ↓reduceIte, Nat.reduceEqDiff, Nat.reduceAdd, Nat.reduceLeDiff, reduceCtorEq, hI, h1, hT.hd, hg, hes, Cl.cells, Store.get_upd_self _ _ hcl, hset, List.set_set, hwn])); try simp only [S, argList, aPut, aFill, ↓reduceIte, Nat.reduceEqDiff, Nat.reduceAdd, Nat.reduceLeDiff, reduceCtorEq, hI, h1, hT.hd, hg, hes, Cl.cells, Store.get_upd_self _ _ hcl, hset, List.set_set, hwn])
          refine ok_app (hSu _) (by simp) (by simp; omega) (by simp [maxLen]; omega) ?_
          intro v3 s3 hS3 hF3
          try simp only [S, argList, aPut, aFill, ↓reduceIte, Nat.reduceEqDiff, Nat.reduceAdd, Nat.reduceLeDiff, reduceCtorEq, hI, hw2]
          repeat ((with_reducible first | refine AWP_seq ?_ | refine AWP_block ?_ | refine AWP_scope ?_ | refine AWP_reg ?_ | refine AWP_draw ?_ | refine AWP_skip ?_ | refine AWP_ret ?_ | refine AWP_exit ?_ | (refine AWP_cond_true ?_ ?_; · simp only [S, argList, aPut, aFill, ↓reduceIte, Nat.reduceEqDiff, Nat.reduceAdd, Nat.reduceLeDiff, reduceCtorEq, hI, hw2]) | (refine AWP_cond_false ?_ ?_; · simp only [S, argList, aPut, aFill, ↓reduceIte, Nat.reduceEqDiff, Nat.reduceAdd, Nat.reduceLeDiff, reduceCtorEq, hI, hw2])); try simp only [S, argList, aPut, aFill, ↓reduceIte, Nat.reduceEqDiff, Nat.reduceAdd, Nat.reduceLeDiff, reduceCtorEq, hI, hw2])
          exact ⟨(i, v3), by simp [hsn], ⟨by simp only; omega, fin v3 s3 hS3 hF3 rfl⟩, by simp⟩

theorem collect_ok {id : Nat} {σ : Store} {cs fs : AV} {H : Hp} (hH : HeapAt σ id cs fs H) (hG : H.Good) (roots : List Int) (hb : weight H.cells + roots.length ≤ 1099511627776) :
    ACalls Try.prog 15 [.ptr id 0 0 0, ints roots] σ fun r σ' =>
      if H.all roots = true then ∃ C, MI H.cells roots C [] ∧ r = .tuple [.int .i64 (sweepN C), .int .i64 0] ∧ HeapTo σ id (foot id cs fs) (H.sweep C) σ'
      else r = .tuple [.int .i64 0, .int .i64 161] ∧ σ' = σ := by
  have hc : 0 < H.cap := by have := hG.cap; omega
  refine in15 (by simp) ?_
  unfold c15
  try simp only [S, argList, aPut, aFill, ↓reduceIte, Nat.reduceEqDiff, Nat.reduceAdd, Nat.reduceLeDiff, reduceCtorEq]
  repeat ((with_reducible first | refine AWP_seq ?_ | refine AWP_block ?_ | refine AWP_scope ?_ | refine AWP_reg ?_ | refine AWP_draw ?_ | refine AWP_skip ?_ | refine AWP_ret ?_ | refine AWP_exit ?_ | (refine AWP_cond_true ?_ ?_; · simp only [S, argList, aPut, aFill, ↓reduceIte, Nat.reduceEqDiff, Nat.reduceAdd, Nat.reduceLeDiff, reduceCtorEq]) | (refine AWP_cond_false ?_ ?_; · simp only [S, argList, aPut, aFill, ↓reduceIte, Nat.reduceEqDiff, Nat.reduceAdd, Nat.reduceLeDiff, reduceCtorEq])); try simp only [S, argList, aPut, aFill, ↓reduceIte, Nat.reduceEqDiff, Nat.reduceAdd, Nat.reduceLeDiff, reduceCtorEq])
  refine (made_ok hH).mono ?_
  rintro r s ⟨rfl, rfl⟩
  simp only [S, argList, aPut, aFill, ↓reduceIte, Nat.reduceEqDiff, Nat.reduceAdd, Nat.reduceLeDiff, reduceCtorEq]
  try simp only [S, argList, aPut, aFill, ↓reduceIte, Nat.reduceEqDiff, Nat.reduceAdd, Nat.reduceLeDiff, reduceCtorEq, hc]
  repeat ((with_reducible first | refine AWP_seq ?_ | refine AWP_block ?_ | refine AWP_scope ?_ | refine AWP_reg ?_ | refine AWP_draw ?_ | refine AWP_skip ?_ | refine AWP_ret ?_ | refine AWP_exit ?_ | (refine AWP_cond_true ?_ ?_; · simp only [S, argList, aPut, aFill, ↓reduceIte, Nat.reduceEqDiff, Nat.reduceAdd, Nat.reduceLeDiff, reduceCtorEq, hc]) | (refine AWP_cond_false ?_ ?_; · simp only [S, argList, aPut, aFill, ↓reduceIte, Nat.reduceEqDiff, Nat.reduceAdd, Nat.reduceLeDiff, reduceCtorEq, hc])); try simp only [S, argList, aPut, aFill, ↓reduceIte, Nat.reduceEqDiff, Nat.reduceAdd, Nat.reduceLeDiff, reduceCtorEq, hc])
  refine (all_ok hH roots).mono ?_
  rintro r s ⟨rfl, rfl⟩
  simp only [S, argList, aPut, aFill, ↓reduceIte, Nat.reduceEqDiff, Nat.reduceAdd, Nat.reduceLeDiff, reduceCtorEq]
  cases hr : H.all roots with
  | false =>
    try simp only [S, argList, aPut, aFill, ↓reduceIte, Nat.reduceEqDiff, Nat.reduceAdd, Nat.reduceLeDiff, reduceCtorEq]
    repeat ((with_reducible first | refine AWP_seq ?_ | refine AWP_block ?_ | refine AWP_scope ?_ | refine AWP_reg ?_ | refine AWP_draw ?_ | refine AWP_skip ?_ | refine AWP_ret ?_ | refine AWP_exit ?_ | (refine AWP_cond_true ?_ ?_; · simp only [S, argList, aPut, aFill, ↓reduceIte, Nat.reduceEqDiff, Nat.reduceAdd, Nat.reduceLeDiff, reduceCtorEq]) | (refine AWP_cond_false ?_ ?_; · simp only [S, argList, aPut, aFill, ↓reduceIte, Nat.reduceEqDiff, Nat.reduceAdd, Nat.reduceLeDiff, reduceCtorEq])); try simp only [S, argList, aPut, aFill, ↓reduceIte, Nat.reduceEqDiff, Nat.reduceAdd, Nat.reduceLeDiff, reduceCtorEq])
  | true =>
    try simp only [S, argList, aPut, aFill, ↓reduceIte, Nat.reduceEqDiff, Nat.reduceAdd, Nat.reduceLeDiff, reduceCtorEq]
    repeat ((with_reducible first | refine AWP_seq ?_ | refine AWP_block ?_ | refine AWP_scope ?_ | refine AWP_reg ?_ | refine AWP_draw ?_ | refine AWP_skip ?_ | refine AWP_ret ?_ | refine AWP_exit ?_ | (refine AWP_cond_true ?_ ?_; · simp only [S, argList, aPut, aFill, ↓reduceIte, Nat.reduceEqDiff, Nat.reduceAdd, Nat.reduceLeDiff, reduceCtorEq]) | (refine AWP_cond_false ?_ ?_; · simp only [S, argList, aPut, aFill, ↓reduceIte, Nat.reduceEqDiff, Nat.reduceAdd, Nat.reduceLeDiff, reduceCtorEq])); try simp only [S, argList, aPut, aFill, ↓reduceIte, Nat.reduceEqDiff, Nat.reduceAdd, Nat.reduceLeDiff, reduceCtorEq])
    refine (mark_ok hH hG roots hr hb).mono ?_
    rintro r s ⟨rfl, C, hM, hH2, hF2⟩
    try simp only [S, argList, aPut, aFill, ↓reduceIte, Nat.reduceEqDiff, Nat.reduceAdd, Nat.reduceLeDiff, reduceCtorEq]
    repeat ((with_reducible first | refine AWP_seq ?_ | refine AWP_block ?_ | refine AWP_scope ?_ | refine AWP_reg ?_ | refine AWP_draw ?_ | refine AWP_skip ?_ | refine AWP_ret ?_ | refine AWP_exit ?_ | (refine AWP_cond_true ?_ ?_; · simp only [S, argList, aPut, aFill, ↓reduceIte, Nat.reduceEqDiff, Nat.reduceAdd, Nat.reduceLeDiff, reduceCtorEq]) | (refine AWP_cond_false ?_ ?_; · simp only [S, argList, aPut, aFill, ↓reduceIte, Nat.reduceEqDiff, Nat.reduceAdd, Nat.reduceLeDiff, reduceCtorEq])); try simp only [S, argList, aPut, aFill, ↓reduceIte, Nat.reduceEqDiff, Nat.reduceAdd, Nat.reduceLeDiff, reduceCtorEq])
    have hl := hG.len
    have hcp := hG.cap
    have hlv := hG.live
    have hle : H.cells.countP (fun c => c.1.isSome) ≤ H.cells.length := List.countP_le_length
    have hCl : C.length = H.cells.length := by have := congrArg List.length hM.same; simpa using this
    refine (sweep_ok hH2 (by simp only; omega) (by simp only; omega)).mono ?_
    rintro r s3 ⟨rfl, cs3, fs3, hH3, hF3⟩
    try simp only [S, argList, aPut, aFill, ↓reduceIte, Nat.reduceEqDiff, Nat.reduceAdd, Nat.reduceLeDiff, reduceCtorEq]
    repeat ((with_reducible first | refine AWP_seq ?_ | refine AWP_block ?_ | refine AWP_scope ?_ | refine AWP_reg ?_ | refine AWP_draw ?_ | refine AWP_skip ?_ | refine AWP_ret ?_ | refine AWP_exit ?_ | (refine AWP_cond_true ?_ ?_; · simp only [S, argList, aPut, aFill, ↓reduceIte, Nat.reduceEqDiff, Nat.reduceAdd, Nat.reduceLeDiff, reduceCtorEq]) | (refine AWP_cond_false ?_ ?_; · simp only [S, argList, aPut, aFill, ↓reduceIte, Nat.reduceEqDiff, Nat.reduceAdd, Nat.reduceLeDiff, reduceCtorEq])); try simp only [S, argList, aPut, aFill, ↓reduceIte, Nat.reduceEqDiff, Nat.reduceAdd, Nat.reduceLeDiff, reduceCtorEq])
    exact ⟨C, hM, rfl, cs3, fs3, hH3, hF2.trans hF3⟩
end Go.Proofs.Ytoejjhehpbmgbaa
