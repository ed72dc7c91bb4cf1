/- The heap's arena as plain data: nodes, cells, arenas; and where they stand in the abstract layer's store. -/
import Derived.Test.YtoejjhehpbmgbaaAHc
set_option linter.unusedVariables false
set_option linter.unusedSimpArgs false
namespace Go.AL

/-- Whole numbers. -/
def ints (l : List Int) : AV := .list (l.map fun x => [.int .i64 x])
/-- A node. -/
structure Nd where
  tag : Int
  n : Int
  l : List Int
def Nd.cells (x : Nd) : List AV := [.int .i64 x.tag, .int .i64 x.n, ints x.l]
def Nd.zero : Nd := ⟨0, 0, []⟩
/-- A cell: its node, and whether it is marked. -/
abbrev Cl := Option Nd × Bool
def Cl.cells : Cl → List AV
  | (some x, m) => [.int .i64 x.tag, .int .i64 x.n, ints x.l, .bool true, .bool m]
  | (none, m) => [.int .i64 0, .int .i64 0, .nils, .bool false, .bool m]
theorem Cl.len (c : Cl) : (Cl.cells c).length = 5 := by
  rcases c with ⟨_ | _, _⟩ <;> rfl
/-- An arena. -/
structure Hp where
  cap : Int
  cells : List Cl
  free : List Int
  live : Int
  allocs : Int
/-- A cell's node. -/
def Hp.at (H : Hp) (a : Int) : Option Nd := if 0 ≤ a then (H.cells[a.toNat]?).bind (·.1) else none
def Hp.has (H : Hp) (a : Int) : Bool := (H.at a).isSome
def Hp.all (H : Hp) (l : List Int) : Bool := l.all H.has

structure HeapAt (σ : Store) (id : Nat) (cs fs : AV) (H : Hp) : Prop where
  hd : σ.get id = some (.cells 91 0 5 [[.int .i64 H.cap, cs, fs, .int .i64 H.live, .int .i64 H.allocs]])
  cs : SliceAt σ cs 95 5 (H.cells.map Cl.cells)
  fs : SliceAt σ fs 3 1 (H.free.map fun x => [.int .i64 x])
def foot (id : Nat) (cs fs : AV) : List Nat := id :: (slIds cs ++ slIds fs)

theorem HeapAt.keep {σ σ' : Store} {id : Nat} {cs fs : AV} {H : Hp} (h : HeapAt σ id cs fs H) (hk : ∀ i, i ∈ foot id cs fs → σ'.get i = σ.get i) : HeapAt σ' id cs fs H :=
  ⟨by rw [hk id (by simp [foot])]; exact h.hd, h.cs.keep fun i hi => hk i (by simp [foot, hi]), h.fs.keep fun i hi => hk i (by simp [foot, hi])⟩
theorem HeapAt.lt {σ : Store} {id : Nat} {cs fs : AV} {H : Hp} (h : HeapAt σ id cs fs H) {i : Nat} (hi : i ∈ foot id cs fs) : i < σ.next := by
  simp [foot] at hi
  rcases hi with rfl | hi | hi
  · exact Nat.lt_of_not_le fun hh => by have := h.hd; rw [σ.wf _ hh] at this; cases this
  · exact h.cs.lt hi
  · exact h.fs.lt hi
theorem HeapAt.grow {σ σ' : Store} {id : Nat} {cs fs : AV} {H : Hp} (h : HeapAt σ id cs fs H) (hk : ∀ i, i < σ.next → σ'.get i = σ.get i) : HeapAt σ' id cs fs H :=
  h.keep fun i hi => hk i (h.lt hi)
theorem HeapAt.push {σ : Store} {id : Nat} {cs fs : AV} {H : Hp} (h : HeapAt σ id cs fs H) (o : AObj) : HeapAt (σ.push o) id cs fs H :=
  h.grow fun i hi => by rw [Store.push_get, if_neg (by omega)]
theorem HeapAt.ne {σ : Store} {id : Nat} {cs fs : AV} {H : Hp} (h : HeapAt σ id cs fs H) : (id = σ.next) = False := lt_ne (σ.lt h.hd)
/-- The cell of an address. -/
theorem HeapAt.cell {σ : Store} {id : Nat} {cs fs : AV} {H : Hp} (h : HeapAt σ id cs fs H) {i : Nat} {c : Cl} (hc : H.cells[i]? = some c) :
    ∃ cid ver es', cs = .own cid ver 5 0 H.cells.length ∧ σ.get cid = some (.cells 95 ver 5 es') ∧ es'[i]? = some (Cl.cells c) ∧ i < H.cells.length := by
  have hi : i < H.cells.length := (List.getElem?_eq_some_iff.mp hc).1
  obtain ⟨cid, ver, es', rfl, hg⟩ := h.cs.own (by intro e; simp at e; simp [e] at hi)
  exact ⟨cid, ver, _, by simp, hg, by rw [List.getElem?_append_left (by simpa using hi)]; simp [hc], hi⟩
theorem HeapAt.setCell {σ τ : Store} {id cid ver : Nat} {fs : AV} {H : Hp} {n : Nat} {es' : List (List AV)} (h : HeapAt σ id (.own cid ver 5 0 n) fs H) (hg : σ.get cid = some (.cells 95 ver 5 es')) {i : Nat} (hi : i < H.cells.length) (c : Cl)
    (hτ : τ.get cid = some (.cells 95 ver 5 (es'.set i (Cl.cells c)))) (hk : ∀ j, j < σ.next → j ≠ cid → τ.get j = σ.get j) : HeapAt τ id (.own cid ver 5 0 n) fs { H with cells := H.cells.set i c } := by
  refine ⟨?_, ?_, ?_⟩
  · rw [hk id (σ.lt h.hd) (fun e => by subst e; rw [h.hd] at hg; simp at hg)]; exact h.hd
  · rcases h.cs with ⟨e, _⟩ | ⟨cid', ver', es'', e, hg'⟩
    · cases e
    · cases e
      rw [hg] at hg'; simp at hg'; subst hg'
      refine .inr ⟨cid, ver, es'', by simp, ?_⟩
      rw [hτ, List.set_append, if_pos (by simpa using hi)]
      simp [List.map_set]
  · refine h.fs.keep fun j hj => hk j (h.fs.lt hj) fun e => ?_
    subst e
    obtain ⟨_, _, hh⟩ := h.fs.ids hj
    rw [hg] at hh; simp at hh
theorem HeapAt.ty {σ : Store} {id : Nat} {cs fs : AV} {H : Hp} (h : HeapAt σ id cs fs H) {i : Nat} (hi : i ∈ slIds cs ∨ i ∈ slIds fs) : i ≠ id := by
  rintro rfl
  rcases hi with hi | hi
  · obtain ⟨_, _, e⟩ := h.cs.ids hi; rw [h.hd] at e; simp at e
  · obtain ⟨_, _, e⟩ := h.fs.ids hi; rw [h.hd] at e; simp at e
/-- Other numbers, and other slices, at the head. -/
theorem HeapAt.setHd {σ τ : Store} {id : Nat} {cs fs cs' fs' : AV} {H H' : Hp} (h : HeapAt σ id cs fs H) (hd : τ.get id = some (.cells 91 0 5 [[.int .i64 H'.cap, cs', fs', .int .i64 H'.live, .int .i64 H'.allocs]])) (hk : ∀ j, j < σ.next → j ≠ id → τ.get j = σ.get j)
    (hcs : SliceAt σ cs' 95 5 (H'.cells.map Cl.cells)) (hfs : SliceAt σ fs' 3 1 (H'.free.map fun x => [.int .i64 x])) : HeapAt τ id cs' fs' H' := by
  refine ⟨hd, hcs.keep fun i hi => hk i (hcs.lt hi) ?_, hfs.keep fun i hi => hk i (hfs.lt hi) ?_⟩
  · rintro rfl; obtain ⟨_, _, e⟩ := hcs.ids hi; rw [h.hd] at e; simp at e
  · rintro rfl; obtain ⟨_, _, e⟩ := hfs.ids hi; rw [h.hd] at e; simp at e
theorem Hp.has_of {H : Hp} {a : Int} (h : 0 ≤ a) {c : Cl} (hc : H.cells[a.toNat]? = some c) : H.has a = c.1.isSome := by simp [Hp.has, Hp.at, h, hc]
theorem Hp.has_at {H : Hp} {a : Int} (h : H.has a = true) : ∃ x, H.at a = some x ∧ 0 ≤ a ∧ ∃ m, H.cells[a.toNat]? = some (some x, m) := by
  unfold Hp.has Hp.at at h
  unfold Hp.at
  by_cases h0 : 0 ≤ a
  · simp only [h0, if_true] at h ⊢
    rcases hc : H.cells[a.toNat]? with _ | ⟨_ | x, m⟩
    · simp [hc] at h
    · simp [hc] at h
    · exact ⟨x, by simp, trivial, m, rfl⟩
  · simp [h0] at h
theorem Hp.not_has {H : Hp} {a : Int} (h : H.has a = false) : H.at a = none := by
  unfold Hp.has at h
  simpa using h

end Go.AL
