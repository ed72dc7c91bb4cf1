/- The heap's New, Set and Alloc: what they answer and what they make of an arena. -/
import Derived.Test.YtoejjhehpbmgbaaAHa
set_option linter.unusedVariables false
set_option linter.unusedSimpArgs false
namespace Go.AL
/-- Behind a step an arena stands in a store; only its own objects were changed. -/
def HeapTo (σ : Store) (id : Nat) (old : List Nat) (H : Hp) (σ' : Store) : Prop := ∃ cs fs, HeapAt σ' id cs fs H ∧ Fr σ σ' old (foot id cs fs)
/-- No cell is marked. -/
def Hp.clean (H : Hp) : Prop := ∀ c, c ∈ H.cells → c.2 = false
/-- Set. -/
def Hp.set (H : Hp) (a : Int) (x : Nd) : Hp × Int :=
  if H.has a = true ∧ H.all x.l = true then ({ H with cells := H.cells.set a.toNat (some x, false) }, 0) else (H, 161)
/-- The numbers of the free cells, from the greatest down. -/
def freeOf (l : List Cl) : List Int := (((List.range l.length).filter fun i => ((l[i]?).bind (·.1)).isNone).reverse).map fun (i : Nat) => (i : Int)
/-- What holds of every arena that the program's calls make. -/
structure Hp.Good (H : Hp) : Prop where
  cap : 1 ≤ H.cap ∧ H.cap ≤ 16777216
  live : H.live = (H.cells.countP fun c => c.1.isSome : Nat)
  free : H.free = freeOf H.cells
  clean : H.clean
  len : (H.cells.length : Int) ≤ H.cap
  ptr : ∀ c, c ∈ H.cells → ∀ x, c.1 = some x → H.all x.l = true
theorem Hp.Good.inFree {H : Hp} (h : H.Good) {a : Int} (ha : a ∈ H.free) : 0 ≤ a ∧ a.toNat < H.cells.length ∧ ∃ m, H.cells[a.toNat]? = some (none, m) := by
  rw [h.free] at ha
  simp only [freeOf, List.mem_map, List.mem_reverse, List.mem_filter, List.mem_range] at ha
  obtain ⟨i, ⟨hi, hn⟩, rfl⟩ := ha
  refine ⟨by omega, by simpa using hi, ?_⟩
  simp only [Int.toNat_natCast]
  rw [List.getElem?_eq_getElem hi] at hn ⊢
  rcases hc : H.cells[i] with ⟨_ | x, m⟩
  · exact ⟨m, rfl⟩
  · rw [hc] at hn; simp at hn
theorem freeOf_nil {l : List Cl} (h : freeOf l = []) : l.countP (fun c => c.1.isSome) = l.length := by
  rw [List.countP_eq_length]
  intro c hc
  obtain ⟨i, hi, rfl⟩ := List.mem_iff_getElem.mp hc
  simp only [freeOf, List.map_eq_nil_iff, List.reverse_eq_nil_iff, List.filter_eq_nil_iff, List.mem_range] at h
  have := h i hi
  rw [List.getElem?_eq_getElem hi] at this
  cases hc : l[i].1 with
  | none => simp [hc] at this
  | some x => rfl
/-- Alloc. -/
def Hp.alloc (H : Hp) (x : Nd) : Hp × Int × Int :=
  if H.all x.l = true then
    if H.cap ≤ H.live then (H, 0, 160)
    else
      match H.free.getLast? with
      | some a => ({ H with live := H.live + 1, allocs := IntKind.i64.wrap (H.allocs + 1), cells := H.cells.set a.toNat (some x, false), free := H.free.dropLast }, a, 0)
      | none => ({ H with live := H.live + 1, allocs := IntKind.i64.wrap (H.allocs + 1), cells := H.cells ++ [(some x, false)] }, H.cells.length, 0)
  else (H, 0, 161)
theorem set_mid {α : Type} {a b : List α} {i : Nat} (h : i < a.length) (x : α) : (a ++ b).set i x = a.set i x ++ b := by
  rw [List.set_append, if_pos h]
end Go.AL
namespace Go.Proofs.Ytoejjhehpbmgbaa
open Go.AL

theorem set_ok {id : Nat} {σ : Store} {cs fs : AV} {H : Hp} (hH : HeapAt σ id cs fs H) (hc : 0 < H.cap) (hm : H.clean) (a : Int) (x : Nd) (hb : x.l.length * 8 ≤ 140737488355328) :
    ACalls Try.prog 27 [.ptr id 0 0 0, .int .i64 a, .agg x.cells] σ fun r σ' => r = .int .i64 (H.set a x).2 ∧ HeapTo σ id (foot id cs fs) (H.set a x).1 σ' := by
  refine in27 (by simp) ?_
  unfold c27
  try simp only [S, argList, aPut, aFill, ↓reduceIte, Nat.reduceEqDiff, Nat.reduceAdd, Nat.reduceLeDiff, reduceCtorEq, Nd.cells]
  repeat ((with_reducible first | refine AWP_seq ?_ | refine AWP_block ?_ | refine AWP_scope ?_ | refine AWP_reg ?_ | refine AWP_draw ?_ | refine AWP_skip ?_ | refine AWP_ret ?_ | refine AWP_exit ?_ | (refine AWP_cond_true ?_ ?_; · simp only [S, argList, aPut, aFill, ↓reduceIte, Nat.reduceEqDiff, Nat.reduceAdd, Nat.reduceLeDiff, reduceCtorEq, Nd.cells]) | (refine AWP_cond_false ?_ ?_; · simp only [S, argList, aPut, aFill, ↓reduceIte, Nat.reduceEqDiff, Nat.reduceAdd, Nat.reduceLeDiff, reduceCtorEq, Nd.cells])); try simp only [S, argList, aPut, aFill, ↓reduceIte, Nat.reduceEqDiff, Nat.reduceAdd, Nat.reduceLeDiff, reduceCtorEq, Nd.cells])
  refine (made_ok (hH.push _)).mono ?_
  rintro r s ⟨rfl, rfl⟩
  simp only [S, argList, aPut, aFill, ↓reduceIte, Nat.reduceEqDiff, Nat.reduceAdd, Nat.reduceLeDiff, reduceCtorEq]
  try simp only [S, argList, aPut, aFill, ↓reduceIte, Nat.reduceEqDiff, Nat.reduceAdd, Nat.reduceLeDiff, reduceCtorEq, hc]
  repeat ((with_reducible first | refine AWP_seq ?_ | refine AWP_block ?_ | refine AWP_scope ?_ | refine AWP_reg ?_ | refine AWP_draw ?_ | refine AWP_skip ?_ | refine AWP_ret ?_ | refine AWP_exit ?_ | (refine AWP_cond_true ?_ ?_; · simp only [S, argList, aPut, aFill, ↓reduceIte, Nat.reduceEqDiff, Nat.reduceAdd, Nat.reduceLeDiff, reduceCtorEq, hc]) | (refine AWP_cond_false ?_ ?_; · simp only [S, argList, aPut, aFill, ↓reduceIte, Nat.reduceEqDiff, Nat.reduceAdd, Nat.reduceLeDiff, reduceCtorEq, hc])); try simp only [S, argList, aPut, aFill, ↓reduceIte, Nat.reduceEqDiff, Nat.reduceAdd, Nat.reduceLeDiff, reduceCtorEq, hc])
  refine (has_ok (hH.push _) a).mono ?_
  rintro r s ⟨rfl, rfl⟩
  simp only [S, argList, aPut, aFill, ↓reduceIte, Nat.reduceEqDiff, Nat.reduceAdd, Nat.reduceLeDiff, reduceCtorEq]
  cases hx : H.has a with
  | false =>
    try simp only [S, argList, aPut, aFill, ↓reduceIte, Nat.reduceEqDiff, Nat.reduceAdd, Nat.reduceLeDiff, reduceCtorEq]
    repeat ((with_reducible first | refine AWP_seq ?_ | refine AWP_block ?_ | refine AWP_scope ?_ | refine AWP_reg ?_ | refine AWP_draw ?_ | refine AWP_skip ?_ | refine AWP_ret ?_ | refine AWP_exit ?_ | (refine AWP_cond_true ?_ ?_; · simp only [S, argList, aPut, aFill, ↓reduceIte, Nat.reduceEqDiff, Nat.reduceAdd, Nat.reduceLeDiff, reduceCtorEq]) | (refine AWP_cond_false ?_ ?_; · simp only [S, argList, aPut, aFill, ↓reduceIte, Nat.reduceEqDiff, Nat.reduceAdd, Nat.reduceLeDiff, reduceCtorEq])); try simp only [S, argList, aPut, aFill, ↓reduceIte, Nat.reduceEqDiff, Nat.reduceAdd, Nat.reduceLeDiff, reduceCtorEq])
    have e : H.set a x = (H, 161) := by simp [Hp.set, hx]
    rw [e]
    refine ⟨rfl, cs, fs, hH.push _, ⟨by simp only [Store.push_next]; omega, fun i hi hn => by rw [Store.push_get, if_neg (by omega)], fun i hi => .inl hi⟩⟩
  | true =>
    try simp only [S, argList, aPut, aFill, ↓reduceIte, Nat.reduceEqDiff, Nat.reduceAdd, Nat.reduceLeDiff, reduceCtorEq, Nd.cells]
    repeat ((with_reducible first | refine AWP_seq ?_ | refine AWP_block ?_ | refine AWP_scope ?_ | refine AWP_reg ?_ | refine AWP_draw ?_ | refine AWP_skip ?_ | refine AWP_ret ?_ | refine AWP_exit ?_ | (refine AWP_cond_true ?_ ?_; · simp only [S, argList, aPut, aFill, ↓reduceIte, Nat.reduceEqDiff, Nat.reduceAdd, Nat.reduceLeDiff, reduceCtorEq, Nd.cells]) | (refine AWP_cond_false ?_ ?_; · simp only [S, argList, aPut, aFill, ↓reduceIte, Nat.reduceEqDiff, Nat.reduceAdd, Nat.reduceLeDiff, reduceCtorEq, Nd.cells])); try simp only [S, argList, aPut, aFill, ↓reduceIte, Nat.reduceEqDiff, Nat.reduceAdd, Nat.reduceLeDiff, reduceCtorEq, Nd.cells])
    refine (all_ok (hH.push _) x.l).mono ?_
    rintro r s ⟨rfl, rfl⟩
    simp only [S, argList, aPut, aFill, ↓reduceIte, Nat.reduceEqDiff, Nat.reduceAdd, Nat.reduceLeDiff, reduceCtorEq]
    cases hal : H.all x.l with
    | false =>
      try simp only [S, argList, aPut, aFill, ↓reduceIte, Nat.reduceEqDiff, Nat.reduceAdd, Nat.reduceLeDiff, reduceCtorEq]
      repeat ((with_reducible first | refine AWP_seq ?_ | refine AWP_block ?_ | refine AWP_scope ?_ | refine AWP_reg ?_ | refine AWP_draw ?_ | refine AWP_skip ?_ | refine AWP_ret ?_ | refine AWP_exit ?_ | (refine AWP_cond_true ?_ ?_; · simp only [S, argList, aPut, aFill, ↓reduceIte, Nat.reduceEqDiff, Nat.reduceAdd, Nat.reduceLeDiff, reduceCtorEq]) | (refine AWP_cond_false ?_ ?_; · simp only [S, argList, aPut, aFill, ↓reduceIte, Nat.reduceEqDiff, Nat.reduceAdd, Nat.reduceLeDiff, reduceCtorEq])); try simp only [S, argList, aPut, aFill, ↓reduceIte, Nat.reduceEqDiff, Nat.reduceAdd, Nat.reduceLeDiff, reduceCtorEq])
      have e : H.set a x = (H, 161) := by simp [Hp.set, hx, hal]
      rw [e]
      refine ⟨rfl, cs, fs, hH.push _, ⟨by simp only [Store.push_next]; omega, fun i hi hn => by rw [Store.push_get, if_neg (by omega)], fun i hi => .inl hi⟩⟩
    | true =>
      obtain ⟨y, hat, h0, m, hcell⟩ := Hp.has_at hx
      obtain ⟨cid, ver, es', hcs, hg, hes, hlt⟩ := hH.cell hcell
      subst hcs
      have hlt' : a < H.cells.length := by omega
      try simp only [S, argList, aPut, aFill, ↓reduceIte, Nat.reduceEqDiff, Nat.reduceAdd, Nat.reduceLeDiff, reduceCtorEq, h0, hlt', hg, hes, hH.hd, hH.ne, Cl.cells, lt_ne (σ.lt hg)]
      repeat ((with_reducible first | refine AWP_seq ?_ | refine AWP_block ?_ | refine AWP_scope ?_ | refine AWP_reg ?_ | refine AWP_draw ?_ | refine AWP_skip ?_ | refine AWP_ret ?_ | refine AWP_exit ?_ | (refine AWP_cond_true ?_ ?_; · simp only [S, argList, aPut, aFill, ↓reduceIte, Nat.reduceEqDiff, Nat.reduceAdd, Nat.reduceLeDiff, reduceCtorEq, h0, hlt', hg, hes, hH.hd, hH.ne, Cl.cells, lt_ne (σ.lt hg)]) | (refine AWP_cond_false ?_ ?_; · simp only [S, argList, aPut, aFill, ↓reduceIte, Nat.reduceEqDiff, Nat.reduceAdd, Nat.reduceLeDiff, reduceCtorEq, h0, hlt', hg, hes, hH.hd, hH.ne, Cl.cells, lt_ne (σ.lt hg)])); try simp only [S, argList, aPut, aFill, ↓reduceIte, Nat.reduceEqDiff, Nat.reduceAdd, Nat.reduceLeDiff, reduceCtorEq, h0, hlt', hg, hes, hH.hd, hH.ne, Cl.cells, lt_ne (σ.lt hg)])
      refine (own_ok _ x hb).mono ?_
      rintro r s ⟨rfl, rfl⟩
      simp only [S, argList, aPut, aFill, ↓reduceIte, Nat.reduceEqDiff, Nat.reduceAdd, Nat.reduceLeDiff, reduceCtorEq]
      have l1 : ∀ o, cid < (σ.push o).next := fun o => by have := σ.lt hg; simp only [Store.push_next]; omega
      try simp only [S, argList, aPut, aFill, ↓reduceIte, Nat.reduceEqDiff, Nat.reduceAdd, Nat.reduceLeDiff, reduceCtorEq, h0, hlt', hg, hes, hH.hd, hH.ne, Cl.cells, Nd.cells, lt_ne (σ.lt hg)]
      repeat ((with_reducible first | refine AWP_seq ?_ | refine AWP_block ?_ | refine AWP_scope ?_ | refine AWP_reg ?_ | refine AWP_draw ?_ | refine AWP_skip ?_ | refine AWP_ret ?_ | refine AWP_exit ?_ | (refine AWP_cond_true ?_ ?_; · simp only [S, argList, aPut, aFill, ↓reduceIte, Nat.reduceEqDiff, Nat.reduceAdd, Nat.reduceLeDiff, reduceCtorEq, h0, hlt', hg, hes, hH.hd, hH.ne, Cl.cells, Nd.cells, lt_ne (σ.lt hg)]) | (refine AWP_cond_false ?_ ?_; · simp only [S, argList, aPut, aFill, ↓reduceIte, Nat.reduceEqDiff, Nat.reduceAdd, Nat.reduceLeDiff, reduceCtorEq, h0, hlt', hg, hes, hH.hd, hH.ne, Cl.cells, Nd.cells, lt_ne (σ.lt hg)])); try simp only [S, argList, aPut, aFill, ↓reduceIte, Nat.reduceEqDiff, Nat.reduceAdd, Nat.reduceLeDiff, reduceCtorEq, h0, hlt', hg, hes, hH.hd, hH.ne, Cl.cells, Nd.cells, lt_ne (σ.lt hg)])
      have hm' : m = false := hm _ (List.mem_of_getElem? hcell)
      subst hm'
      have e : H.set a x = ({ H with cells := H.cells.set a.toNat (some x, false) }, 0) := by simp [Hp.set, hx, hal]
      rw [e]
      have hk : ∀ (o o' : AObj) (j : Nat), j < σ.next → j ≠ cid → ((σ.push o).upd cid o').get j = σ.get j := fun o o' j hj hne => by
        rw [Store.get_upd_ne _ _ hne, Store.push_get, if_neg (by omega)]
      refine ⟨rfl, _, fs, hH.setCell hg hlt (some x, false) ?_ (hk _ _), ⟨by simp only [Store.upd_next, Store.push_next]; omega, fun j hj hn => hk _ _ j hj ?_, fun j hj => .inl hj⟩⟩
      · rw [Store.get_upd_self _ _ (l1 _)]; rfl
      · rintro rfl; exact hn (by simp [foot, slIds])
theorem new_ok (σ : Store) (cap : Int) (hc : 1 ≤ cap ∧ cap ≤ 16777216) :
    ACalls Try.prog 13 [.int .i64 cap] σ fun r σ' => r = .tuple [.ptr σ.next 0 0 0, .int .i64 0] ∧ HeapTo σ σ.next [] ⟨cap, [], [], 0, 0⟩ σ' := by
  refine in13 (by simp) ?_
  unfold c13
  have h1 : ¬ cap < 1 := by omega
  have h2 : ¬ 16777216 < cap := by omega
  try simp only [S, argList, aPut, aFill, ↓reduceIte, Nat.reduceEqDiff, Nat.reduceAdd, Nat.reduceLeDiff, reduceCtorEq, h1, h2]
  repeat ((with_reducible first | refine AWP_seq ?_ | refine AWP_block ?_ | refine AWP_scope ?_ | refine AWP_reg ?_ | refine AWP_draw ?_ | refine AWP_skip ?_ | refine AWP_ret ?_ | refine AWP_exit ?_ | (refine AWP_cond_true ?_ ?_; · simp only [S, argList, aPut, aFill, ↓reduceIte, Nat.reduceEqDiff, Nat.reduceAdd, Nat.reduceLeDiff, reduceCtorEq, h1, h2]) | (refine AWP_cond_false ?_ ?_; · simp only [S, argList, aPut, aFill, ↓reduceIte, Nat.reduceEqDiff, Nat.reduceAdd, Nat.reduceLeDiff, reduceCtorEq, h1, h2])); try simp only [S, argList, aPut, aFill, ↓reduceIte, Nat.reduceEqDiff, Nat.reduceAdd, Nat.reduceLeDiff, reduceCtorEq, h1, h2])
  refine ⟨.nils, .nils, ⟨by simp [Store.push_get], .nil _ _ _, .nil _ _ _⟩, ⟨by simp only [Store.push_next]; omega, fun i hi hn => by rw [Store.push_get, if_neg (by omega)], fun i hi => ?_⟩⟩
  simp [foot, slIds] at hi
  right; omega
theorem new_bad (σ : Store) (cap : Int) (hc : ¬ (1 ≤ cap ∧ cap ≤ 16777216)) :
    ACalls Try.prog 13 [.int .i64 cap] σ fun r σ' => r = .tuple [.nilp, .int .i64 1] ∧ σ' = σ := by
  refine in13 (by simp) ?_
  unfold c13
  by_cases h1 : cap < 1
  · try simp only [S, argList, aPut, aFill, ↓reduceIte, Nat.reduceEqDiff, Nat.reduceAdd, Nat.reduceLeDiff, reduceCtorEq, h1]
    repeat ((with_reducible first | refine AWP_seq ?_ | refine AWP_block ?_ | refine AWP_scope ?_ | refine AWP_reg ?_ | refine AWP_draw ?_ | refine AWP_skip ?_ | refine AWP_ret ?_ | refine AWP_exit ?_ | (refine AWP_cond_true ?_ ?_; · simp only [S, argList, aPut, aFill, ↓reduceIte, Nat.reduceEqDiff, Nat.reduceAdd, Nat.reduceLeDiff, reduceCtorEq, h1]) | (refine AWP_cond_false ?_ ?_; · simp only [S, argList, aPut, aFill, ↓reduceIte, Nat.reduceEqDiff, Nat.reduceAdd, Nat.reduceLeDiff, reduceCtorEq, h1])); try simp only [S, argList, aPut, aFill, ↓reduceIte, Nat.reduceEqDiff, Nat.reduceAdd, Nat.reduceLeDiff, reduceCtorEq, h1])
  · have h2 : 16777216 < cap := by omega
    try simp only [S, argList, aPut, aFill, ↓reduceIte, Nat.reduceEqDiff, Nat.reduceAdd, Nat.reduceLeDiff, reduceCtorEq, h1, h2]
    repeat ((with_reducible first | refine AWP_seq ?_ | refine AWP_block ?_ | refine AWP_scope ?_ | refine AWP_reg ?_ | refine AWP_draw ?_ | refine AWP_skip ?_ | refine AWP_ret ?_ | refine AWP_exit ?_ | (refine AWP_cond_true ?_ ?_; · simp only [S, argList, aPut, aFill, ↓reduceIte, Nat.reduceEqDiff, Nat.reduceAdd, Nat.reduceLeDiff, reduceCtorEq, h1, h2]) | (refine AWP_cond_false ?_ ?_; · simp only [S, argList, aPut, aFill, ↓reduceIte, Nat.reduceEqDiff, Nat.reduceAdd, Nat.reduceLeDiff, reduceCtorEq, h1, h2])); try simp only [S, argList, aPut, aFill, ↓reduceIte, Nat.reduceEqDiff, Nat.reduceAdd, Nat.reduceLeDiff, reduceCtorEq, h1, h2])

theorem alloc_ok {id : Nat} {σ : Store} {cs fs : AV} {H : Hp} (hH : HeapAt σ id cs fs H) (hG : H.Good) (x : Nd) (hb : x.l.length * 8 ≤ 140737488355328) :
    ACalls Try.prog 14 [.ptr id 0 0 0, .agg x.cells] σ fun r σ' => r = .tuple [.int .i64 (H.alloc x).2.1, .int .i64 (H.alloc x).2.2] ∧ HeapTo σ id (foot id cs fs) (H.alloc x).1 σ' := by
  have hc : 0 < H.cap := by have := hG.cap; omega
  refine in14 (by simp) ?_
  unfold c14
  have same : ∀ o : AObj, HeapTo σ id (foot id cs fs) H (σ.push o) := fun o => ⟨cs, fs, hH.push _, ⟨by simp only [Store.push_next]; omega, fun i hi hn => by rw [Store.push_get, if_neg (by omega)], fun i hi => .inl hi⟩⟩
  try simp only [S, argList, aPut, aFill, ↓reduceIte, Nat.reduceEqDiff, Nat.reduceAdd, Nat.reduceLeDiff, reduceCtorEq, Nd.cells]
  repeat ((with_reducible first | refine AWP_seq ?_ | refine AWP_block ?_ | refine AWP_scope ?_ | refine AWP_reg ?_ | refine AWP_draw ?_ | refine AWP_skip ?_ | refine AWP_ret ?_ | refine AWP_exit ?_ | (refine AWP_cond_true ?_ ?_; · simp only [S, argList, aPut, aFill, ↓reduceIte, Nat.reduceEqDiff, Nat.reduceAdd, Nat.reduceLeDiff, reduceCtorEq, Nd.cells]) | (refine AWP_cond_false ?_ ?_; · simp only [S, argList, aPut, aFill, ↓reduceIte, Nat.reduceEqDiff, Nat.reduceAdd, Nat.reduceLeDiff, reduceCtorEq, Nd.cells])); try simp only [S, argList, aPut, aFill, ↓reduceIte, Nat.reduceEqDiff, Nat.reduceAdd, Nat.reduceLeDiff, reduceCtorEq, Nd.cells])
  refine (made_ok (hH.push _)).mono ?_
  rintro r s ⟨rfl, rfl⟩
  simp only [S, argList, aPut, aFill, ↓reduceIte, Nat.reduceEqDiff, Nat.reduceAdd, Nat.reduceLeDiff, reduceCtorEq]
  try simp only [S, argList, aPut, aFill, ↓reduceIte, Nat.reduceEqDiff, Nat.reduceAdd, Nat.reduceLeDiff, reduceCtorEq, hc, Nd.cells]
  repeat ((with_reducible first | refine AWP_seq ?_ | refine AWP_block ?_ | refine AWP_scope ?_ | refine AWP_reg ?_ | refine AWP_draw ?_ | refine AWP_skip ?_ | refine AWP_ret ?_ | refine AWP_exit ?_ | (refine AWP_cond_true ?_ ?_; · simp only [S, argList, aPut, aFill, ↓reduceIte, Nat.reduceEqDiff, Nat.reduceAdd, Nat.reduceLeDiff, reduceCtorEq, hc, Nd.cells]) | (refine AWP_cond_false ?_ ?_; · simp only [S, argList, aPut, aFill, ↓reduceIte, Nat.reduceEqDiff, Nat.reduceAdd, Nat.reduceLeDiff, reduceCtorEq, hc, Nd.cells])); try simp only [S, argList, aPut, aFill, ↓reduceIte, Nat.reduceEqDiff, Nat.reduceAdd, Nat.reduceLeDiff, reduceCtorEq, hc, Nd.cells])
  refine (all_ok (hH.push _) x.l).mono ?_
  rintro r s ⟨rfl, rfl⟩
  simp only [S, argList, aPut, aFill, ↓reduceIte, Nat.reduceEqDiff, Nat.reduceAdd, Nat.reduceLeDiff, reduceCtorEq]
  cases hal : H.all x.l with
  | false =>
    try simp only [S, argList, aPut, aFill, ↓reduceIte, Nat.reduceEqDiff, Nat.reduceAdd, Nat.reduceLeDiff, reduceCtorEq]
    repeat ((with_reducible first | refine AWP_seq ?_ | refine AWP_block ?_ | refine AWP_scope ?_ | refine AWP_reg ?_ | refine AWP_draw ?_ | refine AWP_skip ?_ | refine AWP_ret ?_ | refine AWP_exit ?_ | (refine AWP_cond_true ?_ ?_; · simp only [S, argList, aPut, aFill, ↓reduceIte, Nat.reduceEqDiff, Nat.reduceAdd, Nat.reduceLeDiff, reduceCtorEq]) | (refine AWP_cond_false ?_ ?_; · simp only [S, argList, aPut, aFill, ↓reduceIte, Nat.reduceEqDiff, Nat.reduceAdd, Nat.reduceLeDiff, reduceCtorEq])); try simp only [S, argList, aPut, aFill, ↓reduceIte, Nat.reduceEqDiff, Nat.reduceAdd, Nat.reduceLeDiff, reduceCtorEq])
    have e : H.alloc x = (H, 0, 161) := by simp [Hp.alloc, hal]
    rw [e]
    exact ⟨rfl, same _⟩
  | true =>
    by_cases hfull : H.cap ≤ H.live
    · try simp only [S, argList, aPut, aFill, ↓reduceIte, Nat.reduceEqDiff, Nat.reduceAdd, Nat.reduceLeDiff, reduceCtorEq, hH.hd, hH.ne, hfull]
      repeat ((with_reducible first | refine AWP_seq ?_ | refine AWP_block ?_ | refine AWP_scope ?_ | refine AWP_reg ?_ | refine AWP_draw ?_ | refine AWP_skip ?_ | refine AWP_ret ?_ | refine AWP_exit ?_ | (refine AWP_cond_true ?_ ?_; · simp only [S, argList, aPut, aFill, ↓reduceIte, Nat.reduceEqDiff, Nat.reduceAdd, Nat.reduceLeDiff, reduceCtorEq, hH.hd, hH.ne, hfull]) | (refine AWP_cond_false ?_ ?_; · simp only [S, argList, aPut, aFill, ↓reduceIte, Nat.reduceEqDiff, Nat.reduceAdd, Nat.reduceLeDiff, reduceCtorEq, hH.hd, hH.ne, hfull])); try simp only [S, argList, aPut, aFill, ↓reduceIte, Nat.reduceEqDiff, Nat.reduceAdd, Nat.reduceLeDiff, reduceCtorEq, hH.hd, hH.ne, hfull])
      have e : H.alloc x = (H, 0, 160) := by simp [Hp.alloc, hal, hfull]
      rw [e]
      exact ⟨rfl, same _⟩
    · have l1 : ∀ o, id < (σ.push o).next := fun o => by have := σ.lt hH.hd; simp only [Store.push_next]; omega
      have hgu : ∀ o o' j, ((σ.push o).upd id o').get j = if j = id then some o' else (σ.push o).get j := fun o o' j => Store.get_upd _ _ (l1 o) j
      have hne : (σ.next = id) = False := by have := hH.ne; simp only [eq_comm] at this ⊢; exact this
      try simp only [S, argList, aPut, aFill, ↓reduceIte, Nat.reduceEqDiff, Nat.reduceAdd, Nat.reduceLeDiff, reduceCtorEq, hH.hd, hH.ne, hfull, hgu, hne]
      repeat ((with_reducible first | refine AWP_seq ?_ | refine AWP_block ?_ | refine AWP_scope ?_ | refine AWP_reg ?_ | refine AWP_draw ?_ | refine AWP_skip ?_ | refine AWP_ret ?_ | refine AWP_exit ?_ | (refine AWP_cond_true ?_ ?_; · simp only [S, argList, aPut, aFill, ↓reduceIte, Nat.reduceEqDiff, Nat.reduceAdd, Nat.reduceLeDiff, reduceCtorEq, hH.hd, hH.ne, hfull, hgu, hne]) | (refine AWP_cond_false ?_ ?_; · simp only [S, argList, aPut, aFill, ↓reduceIte, Nat.reduceEqDiff, Nat.reduceAdd, Nat.reduceLeDiff, reduceCtorEq, hH.hd, hH.ne, hfull, hgu, hne])); try simp only [S, argList, aPut, aFill, ↓reduceIte, Nat.reduceEqDiff, Nat.reduceAdd, Nat.reduceLeDiff, reduceCtorEq, hH.hd, hH.ne, hfull, hgu, hne])
      generalize hτ : Store.upd _ _ _ = τ
      have hlv := hG.live
      have hcp := hG.cap
      have hT : HeapAt τ id cs fs { H with live := H.live + 1, allocs := IntKind.i64.wrap (H.allocs + 1) } := by
        refine hH.setHd ?_ (fun j hj hn => by rw [← hτ, hgu, if_neg hn, Store.push_get, if_neg (by omega)]) hH.cs hH.fs
        rw [← hτ, hgu, if_pos rfl, wrap_of (x := H.live + 1) (by omega) (by omega)]
      have hF : Fr σ τ [id] [id] := ⟨by rw [← hτ]; simp only [Store.upd_next, Store.push_next]; omega, fun j hj hn => by rw [← hτ, hgu, if_neg (by simpa using hn), Store.push_get, if_neg (by omega)], fun i hi => .inl hi⟩
      clear hτ
      refine (own_ok τ x hb).mono ?_
      rintro r s ⟨rfl, rfl⟩
      simp only [S, argList, aPut, aFill, ↓reduceIte, Nat.reduceEqDiff, Nat.reduceAdd, Nat.reduceLeDiff, reduceCtorEq]
      try simp only [S, argList, aPut, aFill, ↓reduceIte, Nat.reduceEqDiff, Nat.reduceAdd, Nat.reduceLeDiff, reduceCtorEq, Nd.cells, hT.hd, hT.ne, hT.fs.len]
      repeat ((with_reducible first | refine AWP_seq ?_ | refine AWP_block ?_ | refine AWP_scope ?_ | refine AWP_reg ?_ | refine AWP_draw ?_ | refine AWP_skip ?_ | refine AWP_ret ?_ | refine AWP_exit ?_ | (refine AWP_cond_true ?_ ?_; · simp only [S, argList, aPut, aFill, ↓reduceIte, Nat.reduceEqDiff, Nat.reduceAdd, Nat.reduceLeDiff, reduceCtorEq, Nd.cells, hT.hd, hT.ne, hT.fs.len]) | (refine AWP_cond_false ?_ ?_; · simp only [S, argList, aPut, aFill, ↓reduceIte, Nat.reduceEqDiff, Nat.reduceAdd, Nat.reduceLeDiff, reduceCtorEq, Nd.cells, hT.hd, hT.ne, hT.fs.len])); try simp only [S, argList, aPut, aFill, ↓reduceIte, Nat.reduceEqDiff, Nat.reduceAdd, Nat.reduceLeDiff, reduceCtorEq, Nd.cells, hT.hd, hT.ne, hT.fs.len])
      generalize hs2 : s.push _ = s2
      have hN2 : s2.next = s.next + 1 := by rw [← hs2]; rfl
      have hT2 := hT.push (.cells 95 0 5 [[.int .i64 x.tag, .int .i64 x.n, ints x.l, .bool true, .bool false]])
      have hbox : s2.get s.next = some (.cells 95 0 5 [[.int .i64 x.tag, .int .i64 x.n, ints x.l, .bool true, .bool false]]) := by rw [← hs2]; simp [Store.push_get]
      rw [hs2] at hT2
      have hF2 : Fr s s2 [] [] := ⟨by omega, fun j hj _ => by rw [← hs2, Store.push_get, if_neg (by omega)], by simp⟩
      clear hs2
      have hlen := hG.len
      rcases List.eq_nil_or_concat H.free with hfree | ⟨pre, a, hfree⟩
      · have hfz : H.free.length = 0 := by simp [hfree]
        have hcl : H.cells.length < 16777216 := by
          have := freeOf_nil (l := H.cells) (by rw [← hG.free]; exact hfree)
          omega
        try simp only [S, argList, aPut, aFill, ↓reduceIte, Nat.reduceEqDiff, Nat.reduceAdd, Nat.reduceLeDiff, reduceCtorEq, hT2.hd, hfz, hbox, Int.lt_irrefl, Int.ofNat_zero]
        repeat ((with_reducible first | refine AWP_seq ?_ | refine AWP_block ?_ | refine AWP_scope ?_ | refine AWP_reg ?_ | refine AWP_draw ?_ | refine AWP_skip ?_ | refine AWP_ret ?_ | refine AWP_exit ?_ | (refine AWP_cond_true ?_ ?_; · simp only [S, argList, aPut, aFill, ↓reduceIte, Nat.reduceEqDiff, Nat.reduceAdd, Nat.reduceLeDiff, reduceCtorEq, hT2.hd, hfz, hbox, Int.lt_irrefl, Int.ofNat_zero]) | (refine AWP_cond_false ?_ ?_; · simp only [S, argList, aPut, aFill, ↓reduceIte, Nat.reduceEqDiff, Nat.reduceAdd, Nat.reduceLeDiff, reduceCtorEq, hT2.hd, hfz, hbox, Int.lt_irrefl, Int.ofNat_zero])); try simp only [S, argList, aPut, aFill, ↓reduceIte, Nat.reduceEqDiff, Nat.reduceAdd, Nat.reduceLeDiff, reduceCtorEq, hT2.hd, hfz, hbox, Int.lt_irrefl, Int.ofNat_zero])
        refine ok_app hT2.cs (by simp) (by simp; omega) (by simp [maxLen]; omega) ?_
        intro v' s4 hS4 hF4
        have hid2 : id < s2.next := s2.lt hT2.hd
        have hd4 : s4.get id = _ := (hF4.keep id hid2 (fun hi => hT2.ty (.inl hi) rfl)).trans hT2.hd
        have hid4 : id < s4.next := by have := hF4.next; omega
        have hw : IntKind.i64.wrap (((H.cells.length + 1 : Nat) : Int) - 1) = (H.cells.length : Int) := by rw [wrap_of (by omega) (by omega)]; omega
        try simp only [S, argList, aPut, aFill, ↓reduceIte, Nat.reduceEqDiff, Nat.reduceAdd, Nat.reduceLeDiff, reduceCtorEq, hd4, Store.get_upd_self _ _ hid4, hS4.co, hS4.len, List.length_append, hw]
        repeat ((with_reducible first | refine AWP_seq ?_ | refine AWP_block ?_ | refine AWP_scope ?_ | refine AWP_reg ?_ | refine AWP_draw ?_ | refine AWP_skip ?_ | refine AWP_ret ?_ | refine AWP_exit ?_ | (refine AWP_cond_true ?_ ?_; · simp only [S, argList, aPut, aFill, ↓reduceIte, Nat.reduceEqDiff, Nat.reduceAdd, Nat.reduceLeDiff, reduceCtorEq, hd4, Store.get_upd_self _ _ hid4, hS4.co, hS4.len, List.length_append, hw]) | (refine AWP_cond_false ?_ ?_; · simp only [S, argList, aPut, aFill, ↓reduceIte, Nat.reduceEqDiff, Nat.reduceAdd, Nat.reduceLeDiff, reduceCtorEq, hd4, Store.get_upd_self _ _ hid4, hS4.co, hS4.len, List.length_append, hw])); try simp only [S, argList, aPut, aFill, ↓reduceIte, Nat.reduceEqDiff, Nat.reduceAdd, Nat.reduceLeDiff, reduceCtorEq, hd4, Store.get_upd_self _ _ hid4, hS4.co, hS4.len, List.length_append, hw])
        have e : H.alloc x = ({ H with live := H.live + 1, allocs := IntKind.i64.wrap (H.allocs + 1), cells := H.cells ++ [(some x, false)] }, (H.cells.length : Int), 0) := by
          simp [Hp.alloc, hal, hfull, hfree]
        rw [e]
        have hk5 : ∀ o j, j ≠ id → (s4.upd id o).get j = s4.get j := fun o j hj => Store.get_upd_ne _ _ hj
        refine ⟨rfl, v', fs, ⟨Store.get_upd_self _ _ hid4, ?_, ?_⟩, ?_⟩
        · have := hS4.keep (σ' := s4.upd id (.cells 91 0 5 [[.int .i64 H.cap, v', fs, .int .i64 (H.live + 1), .int .i64 (IntKind.i64.wrap (H.allocs + 1))]])) fun i hi => hk5 _ i ?_
          · simpa [Cl.cells] using this
          · rintro rfl; obtain ⟨_, _, e⟩ := hS4.ids hi; rw [hd4] at e; simp at e
        · refine hT2.fs.keep fun i hi => ?_
          rw [hk5 _ i (hT2.ty (.inr hi)), hF4.keep i (hT2.fs.lt hi)]
          intro hi'
          obtain ⟨_, _, e1⟩ := hT2.fs.ids hi
          obtain ⟨_, _, e2⟩ := hT2.cs.ids hi'
          rw [e1] at e2; simp at e2
        · refine ⟨?_, fun j hj hn => ?_, fun i hi => ?_⟩
          · simp only [Store.upd_next]; have := hF.next; have := hF4.next; omega
          · simp [foot] at hn
            rw [hk5 _ j hn.1, hF4.keep j (by have := hF.next; omega) hn.2.1, hF2.keep j (by have := hF.next; omega) (by simp), hF.keep j hj (by simp [hn.1])]
          · simp only [foot, List.mem_cons, List.mem_append] at hi ⊢
            rcases hi with hi | hi | hi
            · exact .inl (.inl hi)
            · rcases hF4.fresh i hi with h | h
              · exact .inl (.inr (.inl h))
              · right; have := hF.next; omega
            · exact .inl (.inr (.inr hi))
      · have hin := hG.inFree (a := a) (by rw [hfree]; simp)
        obtain ⟨h0, hlt, m, hcell⟩ := hin
        obtain ⟨cid, ver, es', hcs, hg, hes, hlt2⟩ := hT2.cell hcell
        obtain ⟨fid, fver, fes, hfs, hfg⟩ := hT2.fs.own (by simp [hfree])
        have hfl : H.free.length = pre.length + 1 := by simp [hfree]
        simp only [List.length_map, hfl] at hfs
        subst hcs
        subst hfs
        have hpl : pre.length < 16777216 := by
          have : H.free.length ≤ H.cells.length := by
            rw [hG.free]; simp only [freeOf, List.length_map, List.length_reverse]
            exact Nat.le_trans (List.length_filter_le _ _) (by simp)
          omega
        have hw : IntKind.i64.wrap (((pre.length + 1 : Nat) : Int) - 1) = (pre.length : Int) := by rw [wrap_of (by omega) (by omega)]; omega
        have hget : (H.free.map (fun x => [AV.int .i64 x]) ++ fes)[pre.length]? = some [.int .i64 a] := by simp [hfree]
        have hp1 : (0 : Int) < ((pre.length + 1 : Nat) : Int) := by omega
        have hp2 : (0 : Int) ≤ (pre.length : Int) := by omega
        have hp3 : (pre.length : Int) < ((pre.length + 1 : Nat) : Int) := by omega
        have hp4 : (pre.length : Int) ≤ ((pre.length + 1 : Nat) : Int) := by omega
        try simp only [S, argList, aPut, aFill, ↓reduceIte, Nat.reduceEqDiff, Nat.reduceAdd, Nat.reduceLeDiff, reduceCtorEq, hT2.hd, hfl, List.length_map, hp1, hw, hfg, hp2, hp3, hp4, Int.toNat_natCast, hget, Int.toNat_zero, Nat.sub_zero, Int.le_refl]
        repeat ((with_reducible first | refine AWP_seq ?_ | refine AWP_block ?_ | refine AWP_scope ?_ | refine AWP_reg ?_ | refine AWP_draw ?_ | refine AWP_skip ?_ | refine AWP_ret ?_ | refine AWP_exit ?_ | (refine AWP_cond_true ?_ ?_; · simp only [S, argList, aPut, aFill, ↓reduceIte, Nat.reduceEqDiff, Nat.reduceAdd, Nat.reduceLeDiff, reduceCtorEq, hT2.hd, hfl, List.length_map, hp1, hw, hfg, hp2, hp3, hp4, Int.toNat_natCast, hget, Int.toNat_zero, Nat.sub_zero, Int.le_refl]) | (refine AWP_cond_false ?_ ?_; · simp only [S, argList, aPut, aFill, ↓reduceIte, Nat.reduceEqDiff, Nat.reduceAdd, Nat.reduceLeDiff, reduceCtorEq, hT2.hd, hfl, List.length_map, hp1, hw, hfg, hp2, hp3, hp4, Int.toNat_natCast, hget, Int.toNat_zero, Nat.sub_zero, Int.le_refl])); try simp only [S, argList, aPut, aFill, ↓reduceIte, Nat.reduceEqDiff, Nat.reduceAdd, Nat.reduceLeDiff, reduceCtorEq, hT2.hd, hfl, List.length_map, hp1, hw, hfg, hp2, hp3, hp4, Int.toNat_natCast, hget, Int.toNat_zero, Nat.sub_zero, Int.le_refl])
        have hidlt : id < s2.next := s2.lt hT2.hd
        generalize hs3 : s2.upd id _ = s3
        have hk3 : ∀ j, j ≠ id → s3.get j = s2.get j := fun j hj => by rw [← hs3, Store.get_upd_ne _ _ hj]
        have hT3 : HeapAt s3 id (.own cid ver 5 0 H.cells.length) (.own fid fver 1 0 pre.length) { H with live := H.live + 1, allocs := IntKind.i64.wrap (H.allocs + 1), free := pre } := by
          refine hT2.setHd ?_ (fun j _ hj => hk3 j hj) hT2.cs (.inr ⟨fid, fver, [.int .i64 a] :: fes, by simp, by simp only [hfg, hfree]; simp⟩)
          rw [← hs3, Store.get_upd_self _ _ hidlt]
        have hb3 : s3.get s.next = _ := (hk3 s.next (by have := s.lt hT.hd; omega)).trans hbox
        have hg3 : s3.get cid = _ := (hk3 cid (hT2.ty (.inl (by simp [slIds])))).trans hg
        have hN3 : s3.next = s2.next := by rw [← hs3]; rfl
        have hF3 : Fr s2 s3 [id] [id] := ⟨by omega, fun j _ hj => hk3 j (by simpa using hj), fun i hi => .inl hi⟩
        clear hs3
        have hlt' : a < H.cells.length := by omega
        try simp only [S, argList, aPut, aFill, ↓reduceIte, Nat.reduceEqDiff, Nat.reduceAdd, Nat.reduceLeDiff, reduceCtorEq, hT3.hd, hb3, hg3, h0, hlt', hes, Cl.cells]
        repeat ((with_reducible first | refine AWP_seq ?_ | refine AWP_block ?_ | refine AWP_scope ?_ | refine AWP_reg ?_ | refine AWP_draw ?_ | refine AWP_skip ?_ | refine AWP_ret ?_ | refine AWP_exit ?_ | (refine AWP_cond_true ?_ ?_; · simp only [S, argList, aPut, aFill, ↓reduceIte, Nat.reduceEqDiff, Nat.reduceAdd, Nat.reduceLeDiff, reduceCtorEq, hT3.hd, hb3, hg3, h0, hlt', hes, Cl.cells]) | (refine AWP_cond_false ?_ ?_; · simp only [S, argList, aPut, aFill, ↓reduceIte, Nat.reduceEqDiff, Nat.reduceAdd, Nat.reduceLeDiff, reduceCtorEq, hT3.hd, hb3, hg3, h0, hlt', hes, Cl.cells])); try simp only [S, argList, aPut, aFill, ↓reduceIte, Nat.reduceEqDiff, Nat.reduceAdd, Nat.reduceLeDiff, reduceCtorEq, hT3.hd, hb3, hg3, h0, hlt', hes, Cl.cells])
        have e : H.alloc x = ({ H with live := H.live + 1, allocs := IntKind.i64.wrap (H.allocs + 1), cells := H.cells.set a.toNat (some x, false), free := pre }, a, 0) := by
          simp [Hp.alloc, hal, hfull, hfree]
        rw [e]
        have hcl := s3.lt hg3
        have hF4 : ∀ o, Fr s3 (s3.upd cid o) [cid] [cid] := fun o => ⟨by simp only [Store.upd_next]; omega, fun j hj hn => Store.get_upd_ne _ _ (by simpa using hn), fun i hi => .inl hi⟩
        refine ⟨rfl, _, _, hT3.setCell hg3 hlt (some x, false) (by rw [Store.get_upd_self _ _ hcl]; rfl) (fun j hj hn => Store.get_upd_ne _ _ hn), ?_⟩
        refine ⟨?_, fun j hj hn => ?_, fun i hi => .inl (by simpa [foot, slIds] using hi)⟩
        · simp only [Store.upd_next]; have := hF.next; omega
        · simp [foot, slIds] at hn
          rw [Store.get_upd_ne _ _ hn.2.1, hk3 j hn.1, hF2.keep j (by have := hF.next; omega) (by simp), hF.keep j hj (by simp [hn.1])]
end Go.Proofs.Ytoejjhehpbmgbaa
