/- Marking as plain data: what is reached, what a marking keeps, what it comes to. -/
import Derived.Test.YtoejjhehpbmgbaaAHm
set_option linter.unusedVariables false
set_option linter.unusedSimpArgs false
namespace Go.AL
/-- The node at an address. -/
def nodeAt (C : List Cl) (a : Int) : Option Nd := if 0 ≤ a then (C[a.toNat]?).bind (·.1) else none
theorem Hp.at_node (H : Hp) (a : Int) : H.at a = nodeAt H.cells a := rfl
/-- To what one is led from some addresses. -/
inductive Reach (C : List Cl) (roots : List Int) : Int → Prop
  | root {a : Int} : a ∈ roots → Reach C roots a
  | step {a b : Int} {x : Nd} : Reach C roots a → nodeAt C a = some x → b ∈ x.l → Reach C roots b
/-- Is the cell marked? -/
def mrk (C : List Cl) (a : Int) : Bool := ((C[a.toNat]?).map (·.2)).getD false
/-- What a marking keeps. -/
structure MI (C0 : List Cl) (roots : List Int) (C : List Cl) (st : List Int) : Prop where
  same : C.map (·.1) = C0.map (·.1)
  val : ∀ a, a ∈ st → (nodeAt C0 a).isSome = true
  sound : ∀ a, a ∈ st → Reach C0 roots a
  sound' : ∀ a : Int, 0 ≤ a → mrk C a = true → Reach C0 roots a
  root : ∀ a, a ∈ roots → mrk C a = true ∨ a ∈ st
  clos : ∀ a x, nodeAt C0 a = some x → mrk C a = true → ∀ b, b ∈ x.l → mrk C b = true ∨ b ∈ st

/-- How much is yet to be marked. -/
def weight : List Cl → Nat
  | [] => 0
  | (nd, m) :: r => (if m then 0 else (match nd with | some x => x.l.length | none => 0) + 1) + weight r
theorem weight_set {C : List Cl} {i : Nat} {x : Nd} (h : C[i]? = some (some x, false)) : weight (C.set i (some x, true)) + (x.l.length + 1) = weight C := by
  induction C generalizing i with
  | nil => simp at h
  | cons c C ih =>
    cases i with
    | zero => simp at h; subst h; simp [weight]; omega
    | succ i => simp at h; have := ih h; obtain ⟨n, m⟩ := c; simp only [List.set_cons_succ, weight]; omega
theorem nodeAt_same {C C0 : List Cl} (h : C.map (·.1) = C0.map (·.1)) (a : Int) : nodeAt C a = nodeAt C0 a := by
  have key : ∀ i : Nat, (C[i]?).bind (·.1) = (C0[i]?).bind (·.1) := by
    intro i
    have := congrArg (·[i]?) h
    simp only [List.getElem?_map] at this
    cases h1 : C[i]? <;> cases h2 : C0[i]? <;> simp_all
  unfold nodeAt
  split
  · exact key _
  · rfl
theorem mk_set {C : List Cl} {i : Nat} {x : Nd} (hi : i < C.length) (b : Int) : mrk (C.set i (some x, true)) b = (mrk C b || decide (b.toNat = i)) := by
  unfold mrk
  rw [List.getElem?_set]
  by_cases h : i = b.toNat
  · subst h; simp [hi]
  · have : ¬ b.toNat = i := fun e => h e.symm
    simp [h, this]
theorem nodeAt_cell {C : List Cl} {a : Int} {x : Nd} (h : nodeAt C a = some x) : 0 ≤ a ∧ ∃ m, C[a.toNat]? = some (some x, m) := by
  unfold nodeAt at h
  split at h
  · rename_i h0
    rcases hc : C[a.toNat]? with _ | ⟨y, m⟩
    · simp [hc] at h
    · simp [hc] at h; subst h; exact ⟨h0, m, rfl⟩
  · cases h
theorem mk_cell {C : List Cl} {a : Int} {x : Option Nd} {m : Bool} (h : C[a.toNat]? = some (x, m)) : mrk C a = m := by simp [mrk, h]
theorem mk_nodeAt {C : List Cl} {a : Int} (h0 : 0 ≤ a) (h : mrk C a = true) : a.toNat < C.length := by
  unfold mrk at h
  rcases hc : C[a.toNat]? with _ | c
  · simp [hc] at h
  · exact (List.getElem?_eq_some_iff.mp hc).1

section
variable {C0 C : List Cl} {roots st pre : List Int} {a : Int}
theorem MI.pop (h : MI C0 roots C (pre ++ [a])) (hm : mrk C a = true) : MI C0 roots C pre := by
  refine ⟨h.same, fun b hb => h.val b (by simp [hb]), fun b hb => h.sound b (by simp [hb]), h.sound', fun b hb => ?_, fun b x hx hb c hc => ?_⟩
  · rcases h.root b hb with h | h
    · exact .inl h
    · simp at h; rcases h with h | rfl
      · exact .inr h
      · exact .inl hm
  · rcases h.clos b x hx hb c hc with h | h
    · exact .inl h
    · simp at h; rcases h with h | rfl
      · exact .inr h
      · exact .inl hm
/-- A cell is marked, and its pointers that are not marked are put on the stack. -/
theorem MI.push (h : MI C0 roots C (pre ++ [a])) {x : Nd} (hx : C[a.toNat]? = some (some x, false)) (hG : ∀ b y, nodeAt C0 b = some y → ∀ c, c ∈ y.l → (nodeAt C0 c).isSome = true) :
    MI C0 roots (C.set a.toNat (some x, true)) (pre ++ x.l.filter fun b => !mrk (C.set a.toNat (some x, true)) b) := by
  have hlen : a.toNat < C.length := (List.getElem?_eq_some_iff.mp hx).1
  have ha0 : 0 ≤ a := by
    have := h.val a (by simp)
    unfold nodeAt at this; split at this
    · assumption
    · simp at this
  have hxa : nodeAt C0 a = some x := by
    rw [← nodeAt_same h.same]; simp [nodeAt, ha0, hx]
  have hra : Reach C0 roots a := h.sound a (by simp)
  have hms := fun b => mk_set (x := x) hlen b
  have hmem : ∀ b, b ∈ x.l → mrk (C.set a.toNat (some x, true)) b = true ∨ b ∈ pre ++ x.l.filter fun b => !mrk (C.set a.toNat (some x, true)) b := by
    intro b hb
    cases hm : mrk (C.set a.toNat (some x, true)) b with
    | true => exact .inl rfl
    | false => exact .inr (by simp [hb, hm])
  refine ⟨?_, ?_, ?_, ?_, ?_, ?_⟩
  · rw [← h.same, List.map_set]
    apply List.ext_getElem?
    intro i
    rw [List.getElem?_set]
    split
    · rename_i hi; subst hi
      rw [List.getElem?_map, hx, if_pos (by simpa using hlen)]; rfl
    · rfl
  · intro b hb
    simp at hb
    rcases hb with hb | hb
    · exact h.val b (by simp [hb])
    · exact hG a x hxa b hb.1
  · intro b hb
    simp at hb
    rcases hb with hb | hb
    · exact h.sound b (by simp [hb])
    · exact .step hra hxa hb.1
  · intro b hb0 hb
    rw [hms] at hb
    simp at hb
    rcases hb with hb | hb
    · exact h.sound' b hb0 hb
    · have : b = a := by omega
      subst this; exact hra
  · intro b hb
    rcases h.root b hb with h1 | h1
    · exact .inl (by rw [hms, h1]; rfl)
    · simp at h1
      rcases h1 with h1 | rfl
      · exact .inr (by simp [h1])
      · exact .inl (by rw [hms]; simp)
  · intro b y hy hb c hc
    rw [hms] at hb
    simp at hb
    rcases hb with hb | hb
    · rcases h.clos b y hy hb c hc with h1 | h1
      · exact .inl (by rw [hms, h1]; rfl)
      · simp at h1
        rcases h1 with h1 | rfl
        · exact .inr (by simp [h1])
        · exact .inl (by rw [hms]; simp)
    · have h0 := (nodeAt_cell hy).1
      have : b = a := by omega
      subst this
      rw [hxa] at hy; cases hy
      exact hmem c hc
/-- What the marking comes to. -/
theorem MI.done (h : MI C0 roots C []) {a : Int} (h0 : 0 ≤ a) : mrk C a = true ↔ Reach C0 roots a := by
  refine ⟨h.sound' a h0, fun hr => ?_⟩
  clear h0
  induction hr with
  | root hr => exact (h.root _ hr).elim id (by simp)
  | step hr hx hb ih => exact (h.clos _ _ hx ih _ hb).elim id (by simp)
end
theorem MI.start {C0 : List Cl} {roots : List Int} (hc : ∀ c, c ∈ C0 → c.2 = false) (hr : ∀ a, a ∈ roots → (nodeAt C0 a).isSome = true) : MI C0 roots C0 roots := by
  have hm : ∀ a, mrk C0 a = false := by
    intro a
    unfold mrk
    rcases h : C0[a.toNat]? with _ | c
    · rfl
    · simpa using hc c (List.mem_of_getElem? h)
  exact ⟨rfl, hr, fun a h => .root h, fun a _ h => (by rw [hm] at h; cases h), fun a h => .inr h, fun a x _ h => (by rw [hm] at h; cases h)⟩
end Go.AL
