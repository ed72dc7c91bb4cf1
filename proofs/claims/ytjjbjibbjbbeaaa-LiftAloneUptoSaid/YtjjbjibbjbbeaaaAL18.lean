/- The abstract layer, part 18: arguments taken apart by their types. -/
import Derived.Test.YtjjbjibbjbbeaaaAL17
set_option linter.unusedVariables false
set_option linter.unusedSimpArgs false
namespace Go.AL
section
variable {H : Type} {P : Program} {t : TypeId} {cs : List AV} {d : DataW H}
theorem avd_int {k : IntKind} (hu : P.underlying t = some (.int k)) (h : AVD P t cs d) : ∃ n, cs = [.int k n] ∧ (Lit.int k n).wf = true := by
  cases h with
  | int h hw => rw [hu] at h; cases h; exact ⟨_, rfl, hw⟩
  | bool h => rw [hu] at h; cases h
  | str h _ => rw [hu] at h; cases h
  | nilp h => rw [hu] at h; cases h
  | ptr h _ => rw [hu] at h; cases h
  | nils h => rw [hu] at h; cases h
  | list h _ _ _ => rw [hu] at h; cases h
  | struct h _ _ _ => rw [hu] at h; cases h
  | other h => simp [okType, hu] at h
theorem avd_slice {e : TypeId} (hu : P.underlying t = some (.slice e)) (hc : 0 < P.cellsOf e) (h : AVD P t cs d) : ∃ es, cs = [.list es] ∧ es.length ≤ maxLen ∧ ∀ c, c ∈ es → ∃ d' : DataW H, AVD P e c d' := by
  cases h with
  | int h hw => rw [hu] at h; cases h
  | bool h => rw [hu] at h; cases h
  | str h _ => rw [hu] at h; cases h
  | nilp h => rw [hu] at h; cases h
  | ptr h _ => rw [hu] at h; cases h
  | nils h => exact ⟨[], rfl, by simp, by simp⟩
  | list h h1 h2 h3 =>
    rw [hu] at h; cases h
    refine ⟨_, rfl, h2, fun c hc => ?_⟩
    obtain ⟨i, hi⟩ := List.mem_iff_getElem?.mp hc
    have hlt := (List.getElem?_eq_some_iff.mp hi).1
    exact ⟨_, h3 i c _ hi (List.getElem?_eq_getElem (by omega))⟩
  | struct h _ _ _ => rw [hu] at h; cases h
  | other h => simp [okType, hu, hc] at h
theorem avd_struct {fs : Array Field} (hu : P.underlying t = some (.struct fs)) (h : AVD P t cs d) : cs.length = P.cellsOf t ∧ ∀ (i : Nat) (f : Field), fs[i]? = some f → ∃ d' : DataW H, AVD P f.type ((cs.drop f.offset).take (P.cellsOf f.type)) d' := by
  cases h with
  | int h hw => rw [hu] at h; cases h
  | bool h => rw [hu] at h; cases h
  | str h _ => rw [hu] at h; cases h
  | nilp h => rw [hu] at h; cases h
  | ptr h _ => rw [hu] at h; cases h
  | nils h => rw [hu] at h; cases h
  | list h _ _ _ => rw [hu] at h; cases h
  | struct h h1 h2 h3 =>
    rw [hu] at h; cases h
    refine ⟨h1, fun i f hf => ?_⟩
    have hlt := (Array.getElem?_eq_some_iff.mp hf).1
    exact ⟨_, h3 i f _ hf (List.getElem?_eq_getElem (by omega))⟩
  | other h => simp [okType, hu] at h
end
theorem map_of {α β : Type} {f : α → β} : ∀ {l : List β}, (∀ c, c ∈ l → ∃ x, c = f x) → ∃ m : List α, l = m.map f
  | [], _ => ⟨[], rfl⟩
  | c :: l, h => by
    obtain ⟨x, hx⟩ := h c (by simp)
    obtain ⟨m, hm⟩ := map_of (f := f) (l := l) fun c hc => h c (by simp [hc])
    exact ⟨x :: m, by simp [hx, hm]⟩
end Go.AL
