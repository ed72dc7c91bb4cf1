/- Types, declarations as arguments. -/
import Derived.Test.YtoejjhehpbmgbaaAD3
import Derived.Test.YtoejjhehpbmgbaaAL22
set_option linter.unusedVariables false
namespace Go.Proofs.Ytoejjhehpbmgbaa
open Go.AL
section
variable {H : Type}
theorem dint {cs : List AV} {d : DataW H} (h : AVD Try.prog 3 cs d) : ∃ n, cs = [.int .i64 n] := by
  obtain ⟨n, h, _⟩ := avd_int Try.underlying3 h; exact ⟨n, h⟩
theorem dstr {cs : List AV} {d : DataW H} (h : AVD Try.prog 9 cs d) : ∃ s, cs = [.str s] := by
  obtain ⟨n, h, _⟩ := avd_str Try.underlying9 h; exact ⟨n, h⟩
theorem k3 : Try.prog.cellsOf 3 = 1 := by kernel_rfl
theorem k9 : Try.prog.cellsOf 9 = 1 := by kernel_rfl
theorem k60 : Try.prog.cellsOf 60 = 1 := by kernel_rfl
theorem k61 : Try.prog.cellsOf 61 = 1 := by kernel_rfl
theorem k63 : Try.prog.cellsOf 63 = 2 := by kernel_rfl
theorem k65 : Try.prog.cellsOf 65 = 5 := by kernel_rfl
theorem k76 : Try.prog.cellsOf 76 = 1 := by kernel_rfl
theorem k85 : Try.prog.cellsOf 85 = 4 := by kernel_rfl
theorem k105 : Try.prog.cellsOf 105 = 4 := by kernel_rfl
theorem dtexts {cs : List AV} {d : DataW H} (h : AVD Try.prog 60 cs d) : ∃ l, cs = [strs l] := by
  obtain ⟨es, rfl, _, he⟩ := avd_slice Try.underlying60 (by rw [k9]; decide) h
  obtain ⟨l, rfl⟩ := map_of (f := fun x : ByteArray => [AV.str x]) fun c hc => by
    obtain ⟨d', hd⟩ := he c hc
    exact dstr hd
  exact ⟨l, rfl⟩
theorem dty : ∀ (n : Nat) {cs : List AV} {d : DataW H}, SizeOf.sizeOf d < n → AVD Try.prog 85 cs d → ∃ x : Ty, cs = x.cells
  | 0, _, _, hn, _ => by omega
  | n + 1, cs, d, hn, h => by
    obtain ⟨hl, hf⟩ := avd_struct' Try.underlying85 h
    rw [k85] at hl
    obtain ⟨a, b, c, e, rfl⟩ := len4 hl
    obtain ⟨d0, _, h0⟩ := hf 0 _ rfl
    obtain ⟨d1, _, h1⟩ := hf 1 _ rfl
    obtain ⟨d2, _, h2⟩ := hf 2 _ rfl
    obtain ⟨d3, s3, h3⟩ := hf 3 _ rfl
    change AVD Try.prog 3 (List.take (Try.prog.cellsOf 3) (List.drop 0 [a, b, c, e])) d0 at h0
    change AVD Try.prog 3 (List.take (Try.prog.cellsOf 3) (List.drop 1 [a, b, c, e])) d1 at h1
    change AVD Try.prog 9 (List.take (Try.prog.cellsOf 9) (List.drop 2 [a, b, c, e])) d2 at h2
    change AVD Try.prog 76 (List.take (Try.prog.cellsOf 76) (List.drop 3 [a, b, c, e])) d3 at h3
    simp only [k3, k9, k76, List.drop_zero, List.drop_succ_cons, List.take_succ_cons, List.take_zero] at h0 h1 h2 h3
    obtain ⟨k, e0⟩ := dint h0
    obtain ⟨m, e1⟩ := dint h1
    obtain ⟨s, e2⟩ := dstr h2
    obtain ⟨es, e3, _, he⟩ := avd_slice' Try.underlying76 (by rw [k85]; decide) h3
    obtain ⟨l, rfl⟩ := map_of (f := Ty.cells) fun c hc => by
      obtain ⟨d', hs, hd⟩ := he c hc
      exact dty n (by omega) hd
    simp at e0 e1 e2 e3
    subst e0; subst e1; subst e2; subst e3
    exact ⟨.mk k m s l, by rw [Ty.cells_eq]⟩
theorem dtys {cs : List AV} {d : DataW H} (h : AVD Try.prog 76 cs d) : ∃ l : List Ty, cs = [.list (l.map Ty.cells)] := by
  obtain ⟨es, rfl, _, he⟩ := avd_slice Try.underlying76 (by rw [k85]; decide) h
  obtain ⟨l, rfl⟩ := map_of (f := Ty.cells) fun c hc => by
    obtain ⟨d', hd⟩ := he c hc
    exact dty _ (Nat.lt_succ_self _) hd
  exact ⟨l, rfl⟩
theorem dpos {cs : List AV} {d : DataW H} (h : AVD Try.prog 63 cs d) : ∃ a b, cs = [.int .i64 a, .int .i64 b] := by
  obtain ⟨hl, hf⟩ := avd_struct Try.underlying63 h
  rw [k63] at hl
  obtain ⟨a, b, rfl⟩ := len2 hl
  obtain ⟨d0, h0⟩ := hf 0 _ rfl
  obtain ⟨d1, h1⟩ := hf 1 _ rfl
  change AVD Try.prog 3 (List.take (Try.prog.cellsOf 3) (List.drop 0 [a, b])) d0 at h0
  change AVD Try.prog 3 (List.take (Try.prog.cellsOf 3) (List.drop 1 [a, b])) d1 at h1
  simp only [k3, List.drop_zero, List.drop_succ_cons, List.take_succ_cons, List.take_zero] at h0 h1
  obtain ⟨k, e0⟩ := dint h0
  obtain ⟨m, e1⟩ := dint h1
  simp at e0 e1
  subst e0; subst e1
  exact ⟨k, m, rfl⟩
theorem dconstr {cs : List AV} {d : DataW H} (h : AVD Try.prog 105 cs d) : ∃ c : CDM, cs = c.cells := by
  obtain ⟨hl, hf⟩ := avd_struct Try.underlying105 h
  rw [k105] at hl
  obtain ⟨a, b, c, e, rfl⟩ := len4 hl
  obtain ⟨d0, h0⟩ := hf 0 _ rfl
  obtain ⟨d1, h1⟩ := hf 1 _ rfl
  obtain ⟨d2, h2⟩ := hf 2 _ rfl
  change AVD Try.prog 9 (List.take (Try.prog.cellsOf 9) (List.drop 0 [a, b, c, e])) d0 at h0
  change AVD Try.prog 76 (List.take (Try.prog.cellsOf 76) (List.drop 1 [a, b, c, e])) d1 at h1
  change AVD Try.prog 63 (List.take (Try.prog.cellsOf 63) (List.drop 2 [a, b, c, e])) d2 at h2
  simp only [k9, k76, k63, List.drop_zero, List.drop_succ_cons, List.take_succ_cons, List.take_zero] at h0 h1 h2
  obtain ⟨s, e0⟩ := dstr h0
  obtain ⟨l, e1⟩ := dtys h1
  obtain ⟨x, y, e2⟩ := dpos h2
  simp at e0 e1 e2
  obtain ⟨e2, e3⟩ := e2
  subst e0; subst e1; subst e2; subst e3
  exact ⟨⟨s, l, x, y⟩, rfl⟩
theorem ddata {cs : List AV} {d : DataW H} (h : AVD Try.prog 65 cs d) : ∃ c : DDM, cs = c.cells := by
  obtain ⟨hl, hf⟩ := avd_struct Try.underlying65 h
  rw [k65] at hl
  obtain ⟨a, b, c, e, f, rfl⟩ := len5' hl
  obtain ⟨d0, h0⟩ := hf 0 _ rfl
  obtain ⟨d1, h1⟩ := hf 1 _ rfl
  obtain ⟨d2, h2⟩ := hf 2 _ rfl
  obtain ⟨d3, h3⟩ := hf 3 _ rfl
  change AVD Try.prog 9 (List.take (Try.prog.cellsOf 9) (List.drop 0 [a, b, c, e, f])) d0 at h0
  change AVD Try.prog 60 (List.take (Try.prog.cellsOf 60) (List.drop 1 [a, b, c, e, f])) d1 at h1
  change AVD Try.prog 61 (List.take (Try.prog.cellsOf 61) (List.drop 2 [a, b, c, e, f])) d2 at h2
  change AVD Try.prog 63 (List.take (Try.prog.cellsOf 63) (List.drop 3 [a, b, c, e, f])) d3 at h3
  simp only [k9, k60, k61, k63, List.drop_zero, List.drop_succ_cons, List.take_succ_cons, List.take_zero] at h0 h1 h2 h3
  obtain ⟨s, e0⟩ := dstr h0
  obtain ⟨ps, e1⟩ := dtexts h1
  obtain ⟨es, e2, _, he⟩ := avd_slice Try.underlying61 (by rw [k105]; decide) h2
  obtain ⟨l, rfl⟩ := map_of (f := CDM.cells) fun c hc => by
    obtain ⟨d', hd⟩ := he c hc
    exact dconstr hd
  obtain ⟨x, y, e3⟩ := dpos h3
  simp at e0 e1 e2 e3
  obtain ⟨e3, e4⟩ := e3
  subst e0; subst e1; subst e2; subst e3; subst e4
  exact ⟨⟨s, ps, l, x, y⟩, rfl⟩
theorem ddatas {cs : List AV} {d : DataW H} (h : AVD Try.prog 59 cs d) : ∃ l : List DDM, cs = [.list (l.map DDM.cells)] := by
  obtain ⟨es, rfl, _, he⟩ := avd_slice Try.underlying59 (by rw [k65]; decide) h
  obtain ⟨l, rfl⟩ := map_of (f := DDM.cells) fun c hc => by
    obtain ⟨d', hd⟩ := he c hc
    exact ddata hd
  exact ⟨l, rfl⟩
end
end Go.Proofs.Ytoejjhehpbmgbaa
