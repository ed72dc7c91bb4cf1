/- DeclFinds: the row. -/
import Derived.Test.YtoejjhehpbmgbaaAD9
import Derived.Test.YtoejjhehpbmgbaaADw
import Derived.Test.YtoejjhehpbmgbaaRows
set_option linter.unusedVariables false
namespace Go.Proofs.Ytoejjhehpbmgbaa.declFinds
open Go.ChangeShapes Go.WideShapes Go.ChangeAt Go.RowKit Go.AL

theorem own : ownKnob Try.prog.godebug = none := by kernel_rfl
theorem laidOut : laidOutB Try.prog = true := by kernel_rfl

set_option maxRecDepth 100000 in
theorem lifted (os : Os) (started : os.Started) (H : Type) (enc : TypeId × Value → H) :
    ReturnsInHanded {} Try.checked os 10 .any (Rows.declFindsSpec.pre6 enc Try.prog Try.f10 Rows.declFindsRow.domain false) (Rows.declFindsSpec.post enc Try.prog Try.f10 false true false false) := by
  refine returnsInHanded_of_change (C := Try.checked) own started (by kernel_rfl) Try.func10
    (ChangeSpec.witness6 (enc := enc) (C := Try.checked) false ⟨#[], #[.slice none 0 0], []⟩ 8 (by kernel_rfl) (by kernel_rfl) (by kernel_rfl) (by kernel_rfl)) ?_
  intro W base args ds gs before hval0 hW hcnd _
  have hval : ∀ (j : Nat) t v, Try.f10.params[j]? = some t → args[j]? = some v → Value.okWide Try.prog W .any base t v := hval0
  have hW' : DataW.Whole enc Try.prog Try.f10.params.toList Rows.declFindsSpec.vars false W args.toList ds gs before := hW
  obtain ⟨p, q, hA0, hV, rfl, hfz, hnd⟩ := hW
  have hA : DataW.TrodAll enc Try.prog W 0 (fun _ => true) true Try.f10.params.toList args.toList ds p := hA0
  rw [Try.params10] at hA hval
  obtain ⟨v0, d0, rfl, rfl, h0⟩ := trodAll_one hA
  obtain ⟨rfl, rfl⟩ := trodVars_none hV
  obtain ⟨a, r0, e0⟩ := (arg_av (W := W) laidOut (of_decide_eq_true (by kernel_rfl)) (hval 0 59 v0 rfl rfl) h0).2 (by kernel_rfl)
  obtain ⟨l, e0⟩ := ddatas e0
  simp only [List.cons.injEq, and_true] at e0
  subst e0
  refine (calls_of Try.func10 (by kernel_rfl) (by kernel_rfl) (law10 Store.empty l) rfl ?_).mono fun e W' ⟨v, r, σ', g', he, hr, hrel, hb⟩ => ?_
  · intro j c hj
    match j, hj with
    | 0, hj => simp at hj; subst hj; exact r0
  subst hr
  cases hrel
  exact ⟨_, he, post_true (tb := 4) laidOut hW' hb (by kernel_rfl) rfl rfl (by kernel_rfl) (by kernel_rfl)⟩

theorem holds : Rows.DeclFindsSaid :=
  OpenClaim.holds_of_wide 10 Try.f10 rfl rfl rfl rfl rfl rfl rfl ⟨rfl, rfl, rfl, rfl, rfl⟩ rfl rfl rfl rfl rfl (by kernel_rfl) Try.func10 (by kernel_rfl)
    (of_decide_eq_true (by kernel_rfl)) (by unfold Func.isWrapper; first | (rw [if_pos (by decide +kernel)]; kernel_rfl) | (rw [if_neg (by decide +kernel)]; exact ⟨rfl, rfl⟩))
    (fun os started H enc _ => lifted os started H enc)
end Go.Proofs.Ytoejjhehpbmgbaa.declFinds
