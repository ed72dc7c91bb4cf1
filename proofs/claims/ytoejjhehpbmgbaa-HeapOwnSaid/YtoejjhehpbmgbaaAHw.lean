/- Nodes, lists of numbers and lists of calls as arguments. -/
import Derived.Test.YtoejjhehpbmgbaaAHh
import Derived.Test.YtoejjhehpbmgbaaAL18
set_option linter.unusedVariables false
namespace Go.Proofs.Ytoejjhehpbmgbaa
open Go.AL
theorem len3 {α : Type} : ∀ {l : List α}, l.length = 3 → ∃ a b c, l = [a, b, c]
  | [a, b, c], _ => ⟨a, b, c, rfl⟩
theorem len5 {α : Type} : ∀ {l : List α}, l.length = 5 → ∃ a b c d e, l = [a, b, c, d, e]
  | [a, b, c, d, e], _ => ⟨a, b, c, d, e, rfl⟩
section
variable {H : Type}
theorem int_of3 {cs : List AV} {d : DataW H} (h : AVD Try.prog 3 cs d) : ∃ n, cs = [.int .i64 n] := by
  obtain ⟨n, h, _⟩ := avd_int Try.underlying3 h; exact ⟨n, h⟩
theorem int_of2 {cs : List AV} {d : DataW H} (h : AVD Try.prog 2 cs d) : ∃ n, cs = [.int .i64 n] := by
  obtain ⟨n, h, _⟩ := avd_int Try.underlying2 h; exact ⟨n, h⟩
theorem cells3 : Try.prog.cellsOf 3 = 1 := by kernel_rfl
theorem cells2 : Try.prog.cellsOf 2 = 1 := by kernel_rfl
theorem cells29 : Try.prog.cellsOf 29 = 1 := by kernel_rfl
theorem cells31 : Try.prog.cellsOf 31 = 3 := by kernel_rfl
theorem ints_of {cs : List AV} {d : DataW H} (h : AVD Try.prog 29 cs d) : ∃ l, cs = [ints l] := by
  obtain ⟨es, rfl, _, he⟩ := avd_slice Try.underlying29 (by rw [cells3]; decide) h
  obtain ⟨l, rfl⟩ := map_of (f := fun x : Int => [AV.int .i64 x]) fun c hc => by
    obtain ⟨d', hd⟩ := he c hc
    exact int_of3 hd
  exact ⟨l, rfl⟩
theorem nd_of {cs : List AV} {d : DataW H} (h : AVD Try.prog 31 cs d) : ∃ x : Nd, cs = x.cells := by
  obtain ⟨hl, hf⟩ := avd_struct Try.underlying31 h
  rw [cells31] at hl
  obtain ⟨a, b, c, rfl⟩ := len3 hl
  · obtain ⟨d0, h0⟩ := hf 0 _ rfl
    obtain ⟨d1, h1⟩ := hf 1 _ rfl
    obtain ⟨d2, h2⟩ := hf 2 _ rfl
    change AVD Try.prog 3 (List.take (Try.prog.cellsOf 3) (List.drop 0 [a, b, c])) d0 at h0
    change AVD Try.prog 2 (List.take (Try.prog.cellsOf 2) (List.drop 1 [a, b, c])) d1 at h1
    change AVD Try.prog 29 (List.take (Try.prog.cellsOf 29) (List.drop 2 [a, b, c])) d2 at h2
    simp only [cells3, cells2, cells29, List.drop_zero, List.drop_succ_cons, List.take_succ_cons, List.take_zero] at h0 h1 h2
    obtain ⟨n0, e0⟩ := int_of3 h0
    obtain ⟨n1, e1⟩ := int_of2 h1
    obtain ⟨l, e2⟩ := ints_of h2
    simp at e0 e1 e2
    subst e0; subst e1; subst e2
    exact ⟨⟨n0, n1, l⟩, rfl⟩
theorem cells47 : Try.prog.cellsOf 47 = 5 := by kernel_rfl
theorem op_of {cs : List AV} {d : DataW H} (h : AVD Try.prog 47 cs d) : ∃ x : OpM, cs = x.cells := by
  obtain ⟨hl, hf⟩ := avd_struct Try.underlying47 h
  rw [cells47] at hl
  obtain ⟨a, b, c, d, e, rfl⟩ := len5 hl
  · obtain ⟨d0, h0⟩ := hf 0 _ rfl
    obtain ⟨d1, h1⟩ := hf 1 _ rfl
    obtain ⟨d2, h2⟩ := hf 2 _ rfl
    change AVD Try.prog 3 (List.take (Try.prog.cellsOf 3) (List.drop 0 [a, b, c, d, e])) d0 at h0
    change AVD Try.prog 3 (List.take (Try.prog.cellsOf 3) (List.drop 1 [a, b, c, d, e])) d1 at h1
    change AVD Try.prog 31 (List.take (Try.prog.cellsOf 31) (List.drop 2 [a, b, c, d, e])) d2 at h2
    simp only [cells3, cells31, List.drop_zero, List.drop_succ_cons, List.take_succ_cons, List.take_zero] at h0 h1 h2
    obtain ⟨n0, e0⟩ := int_of3 h0
    obtain ⟨n1, e1⟩ := int_of3 h1
    obtain ⟨x, e2⟩ := nd_of h2
    simp [Nd.cells] at e0 e1 e2
    obtain ⟨e2, e3, e4⟩ := e2
    subst e0; subst e1; subst e2; subst e3; subst e4
    exact ⟨⟨n0, n1, x⟩, rfl⟩
theorem ops_of {cs : List AV} {d : DataW H} (h : AVD Try.prog 36 cs d) : ∃ l, cs = [opsV l] := by
  obtain ⟨es, rfl, _, he⟩ := avd_slice Try.underlying36 (by rw [cells47]; decide) h
  obtain ⟨l, rfl⟩ := map_of (f := OpM.cells) fun c hc => by
    obtain ⟨d', hd⟩ := he c hc
    exact op_of hd
  exact ⟨l, rfl⟩
end
end Go.Proofs.Ytoejjhehpbmgbaa
