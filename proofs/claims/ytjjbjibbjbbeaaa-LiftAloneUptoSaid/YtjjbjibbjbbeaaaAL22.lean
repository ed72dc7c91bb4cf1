/- The abstract layer, part 22: arguments taken apart by their types: texts, and what is of a type that leads to itself. -/
import Derived.Test.YtjjbjibbjbbeaaaAL18
set_option linter.unusedVariables false
set_option linter.unusedSimpArgs false
namespace Go.AL
section
variable {H : Type} {P : Program} {t : TypeId} {cs : List AV} {d : DataW H}
theorem avd_str (hu : P.underlying t = some .string) (h : AVD P t cs d) : ∃ s, cs = [.str s] ∧ s.size ≤ maxLen := by
  cases h with
  | int h hw => rw [hu] at h; cases h
  | bool h => rw [hu] at h; cases h
  | str h hs => exact ⟨_, rfl, hs⟩
  | nilp h => rw [hu] at h; cases h
  | ptr h _ => rw [hu] at h; cases h
  | nils h => rw [hu] at h; cases h
  | list h _ _ _ => rw [hu] at h; cases h
  | struct h _ _ _ => rw [hu] at h; cases h
  | other h => simp [okType, hu] at h
theorem avd_slice' {e : TypeId} (hu : P.underlying t = some (.slice e)) (hc : 0 < P.cellsOf e) (h : AVD P t cs d) : ∃ es, cs = [.list es] ∧ es.length ≤ maxLen ∧ ∀ c, c ∈ es → ∃ d' : DataW H, SizeOf.sizeOf d' < SizeOf.sizeOf d ∧ AVD P e c d' := by
  cases h with
  | int h hw => rw [hu] at h; cases h
  | bool h => rw [hu] at h; cases h
  | str h _ => rw [hu] at h; cases h
  | nilp h => rw [hu] at h; cases h
  | ptr h _ => rw [hu] at h; cases h
  | nils h => exact ⟨[], rfl, by simp, by simp⟩
  | list h h1 h2 h3 =>
    rw [hu] at h; cases h
    refine ⟨_, rfl, h2, fun c hc => ?_⟩
    obtain ⟨i, hi⟩ := List.mem_iff_getElem?.mp hc
    have hlt := (List.getElem?_eq_some_iff.mp hi).1
    rename_i ds rest
    have hd : ds[i]? = some (ds[i]'(by omega)) := List.getElem?_eq_getElem (by omega)
    refine ⟨_, ?_, h3 i c _ hi hd⟩
    have := List.sizeOf_lt_of_mem (List.mem_of_getElem? hd)
    simp only [DataW.slice.sizeOf_spec]; omega
  | struct h _ _ _ => rw [hu] at h; cases h
  | other h => simp [okType, hu, hc] at h
theorem avd_struct' {fs : Array Field} (hu : P.underlying t = some (.struct fs)) (h : AVD P t cs d) : cs.length = P.cellsOf t ∧ ∀ (i : Nat) (f : Field), fs[i]? = some f → ∃ d' : DataW H, SizeOf.sizeOf d' < SizeOf.sizeOf d ∧ AVD P f.type ((cs.drop f.offset).take (P.cellsOf f.type)) d' := by
  cases h with
  | int h hw => rw [hu] at h; cases h
  | bool h => rw [hu] at h; cases h
  | str h _ => rw [hu] at h; cases h
  | nilp h => rw [hu] at h; cases h
  | ptr h _ => rw [hu] at h; cases h
  | nils h => rw [hu] at h; cases h
  | list h _ _ _ => rw [hu] at h; cases h
  | struct h h1 h2 h3 =>
    rw [hu] at h; cases h
    refine ⟨h1, fun i f hf => ?_⟩
    have hlt := (Array.getElem?_eq_some_iff.mp hf).1
    rename_i ds
    have hd : ds[i]? = some (ds[i]'(by omega)) := List.getElem?_eq_getElem (by omega)
    refine ⟨_, ?_, h3 i f _ hf hd⟩
    have := List.sizeOf_lt_of_mem (List.mem_of_getElem? hd)
    simp only [DataW.agg.sizeOf_spec]; omega
  | other h => simp [okType, hu] at h
end
theorem len2 {α : Type} : ∀ {l : List α}, l.length = 2 → ∃ a b, l = [a, b]
  | [a, b], _ => ⟨a, b, rfl⟩
theorem len4 {α : Type} : ∀ {l : List α}, l.length = 4 → ∃ a b c d, l = [a, b, c, d]
  | [a, b, c, d], _ => ⟨a, b, c, d, rfl⟩
theorem len5' {α : Type} : ∀ {l : List α}, l.length = 5 → ∃ a b c d e, l = [a, b, c, d, e]
  | [a, b, c, d, e], _ => ⟨a, b, c, d, e, rfl⟩
end Go.AL
