/- DeclNil: the row. -/
import Derived.Test.YtoejjhehpbmgbaaAD11
import Derived.Test.YtoejjhehpbmgbaaADw
import Derived.Test.YtoejjhehpbmgbaaRows
set_option linter.unusedVariables false
namespace Go.Proofs.Ytoejjhehpbmgbaa.declNil
open Go.ChangeShapes Go.WideShapes Go.ChangeAt Go.RowKit Go.AL

theorem own : ownKnob Try.prog.godebug = none := by kernel_rfl
theorem laidOut : laidOutB Try.prog = true := by kernel_rfl

set_option maxRecDepth 100000 in
theorem lifted (os : Os) (started : os.Started) (H : Type) (enc : TypeId × Value → H) :
    ReturnsInHanded {} Try.checked os 11 .any (Rows.declNilSpec.pre6 enc Try.prog Try.f11 Rows.declNilRow.domain false) (Rows.declNilSpec.post enc Try.prog Try.f11 false true false false) := by
  refine returnsInHanded_of_change (C := Try.checked) own started (by kernel_rfl) Try.func11
    (ChangeSpec.witness6 (enc := enc) (C := Try.checked) false ⟨#[], #[.string ⟨#[]⟩, .slice none 0 0], []⟩ 8 (by kernel_rfl) (by kernel_rfl) (by kernel_rfl) (by kernel_rfl)) ?_
  intro W base args ds gs before hval0 hW hcnd _
  have hval : ∀ (j : Nat) t v, Try.f11.params[j]? = some t → args[j]? = some v → Value.okWide Try.prog W .any base t v := hval0
  have hW' : DataW.Whole enc Try.prog Try.f11.params.toList Rows.declNilSpec.vars false W args.toList ds gs before := hW
  obtain ⟨p, q, hA0, hV, rfl, hfz, hnd⟩ := hW
  have hA : DataW.TrodAll enc Try.prog W 0 (fun _ => true) true Try.f11.params.toList args.toList ds p := hA0
  rw [Try.params11] at hA hval
  obtain ⟨v0, v1, d0, d1, p0, p1, rfl, rfl, rfl, h0, h1⟩ := trodAll_two hA
  obtain ⟨rfl, rfl⟩ := trodVars_none hV
  obtain ⟨a, r0, e0⟩ := (arg_av (W := W) laidOut (of_decide_eq_true (by kernel_rfl)) (hval 0 9 v0 rfl rfl) h0).2 (by kernel_rfl)
  obtain ⟨b, r1, e1⟩ := (arg_av (W := W) laidOut (of_decide_eq_true (by kernel_rfl)) (hval 1 59 v1 rfl rfl) h1).2 (by kernel_rfl)
  obtain ⟨k, e0⟩ := dstr e0
  obtain ⟨l, e1⟩ := ddatas e1
  simp only [List.cons.injEq, and_true] at e0 e1
  subst e0; subst e1
  refine (calls_of Try.func11 (by kernel_rfl) (by kernel_rfl) (law11 Store.empty k l) rfl ?_).mono fun e W' ⟨v, r, σ', g', he, hr, hrel, hb⟩ => ?_
  · intro j c hj
    match j, hj with
    | 0, hj => simp at hj; subst hj; exact r0
    | 1, hj => simp at hj; subst hj; exact r1
  subst hr
  cases hrel
  exact ⟨_, he, post_true (tb := 4) laidOut hW' hb (by kernel_rfl) rfl rfl (by kernel_rfl) (by kernel_rfl)⟩

theorem holds : Rows.DeclNilSaid :=
  OpenClaim.holds_of_wide 11 Try.f11 rfl rfl rfl rfl rfl rfl rfl ⟨rfl, rfl, rfl, rfl, rfl⟩ rfl rfl rfl rfl rfl (by kernel_rfl) Try.func11 (by kernel_rfl)
    (of_decide_eq_true (by kernel_rfl)) (by unfold Func.isWrapper; first | (rw [if_pos (by decide +kernel)]; kernel_rfl) | (rw [if_neg (by decide +kernel)]; exact ⟨rfl, rfl⟩))
    (fun os started H enc _ => lifted os started H enc)
end Go.Proofs.Ytoejjhehpbmgbaa.declNil
