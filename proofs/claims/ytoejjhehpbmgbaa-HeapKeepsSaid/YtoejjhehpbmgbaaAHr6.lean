/- HeapKeeps: the row. -/
import Derived.Test.YtoejjhehpbmgbaaAHl6
import Derived.Test.YtoejjhehpbmgbaaAHw
import Derived.Test.YtoejjhehpbmgbaaRows
set_option linter.unusedVariables false
namespace Go.Proofs.Ytoejjhehpbmgbaa.heapKeeps
open Go.ChangeShapes Go.WideShapes Go.ChangeAt Go.RowKit Go.AL

theorem own : ownKnob Try.prog.godebug = none := by kernel_rfl
theorem laidOut : laidOutB Try.prog = true := by kernel_rfl

set_option maxRecDepth 100000 in
theorem lifted (os : Os) (started : os.Started) (H : Type) (enc : TypeId × Value → H) :
    ReturnsInHanded {} Try.checked os 6 .any (Rows.heapKeepsSpec.pre6 enc Try.prog Try.f6 Rows.heapKeepsRow.domain false) (Rows.heapKeepsSpec.post enc Try.prog Try.f6 false true false false) := by
  refine returnsInHanded_of_change (C := Try.checked) own started (by kernel_rfl) Try.func6
    (ChangeSpec.witness6 (enc := enc) (C := Try.checked) false ⟨#[], #[.int .i64 0, .slice none 0 0, .int .i64 0], []⟩ 8 (by kernel_rfl) (by kernel_rfl) (by kernel_rfl) (by kernel_rfl)) ?_
  intro W base args ds gs before hval0 hW hcnd _
  have hval : ∀ (j : Nat) t v, Try.f6.params[j]? = some t → args[j]? = some v → Value.okWide Try.prog W .any base t v := hval0
  have hW' : DataW.Whole enc Try.prog Try.f6.params.toList Rows.heapKeepsSpec.vars false W args.toList ds gs before := hW
  obtain ⟨p, q, hA0, hV, rfl, hfz, hnd⟩ := hW
  have hA : DataW.TrodAll enc Try.prog W 0 (fun _ => true) true Try.f6.params.toList args.toList ds p := hA0
  rw [Try.params6] at hA hval
  obtain ⟨v0, v1, v2, d0, d1, d2, p0, p1, p2, rfl, rfl, rfl, h0, h1, h2⟩ := trodAll_three hA
  obtain ⟨rfl, rfl⟩ := trodVars_none hV
  obtain ⟨a, r0, e0⟩ := (arg_av (W := W) laidOut (of_decide_eq_true (by kernel_rfl)) (hval 0 3 v0 rfl rfl) h0).2 (by kernel_rfl)
  obtain ⟨b, r1, e1⟩ := (arg_av (W := W) laidOut (of_decide_eq_true (by kernel_rfl)) (hval 1 36 v1 rfl rfl) h1).2 (by kernel_rfl)
  obtain ⟨c, r2, e2⟩ := (arg_av (W := W) laidOut (of_decide_eq_true (by kernel_rfl)) (hval 2 3 v2 rfl rfl) h2).2 (by kernel_rfl)
  obtain ⟨n, e0⟩ := int_of3 e0
  obtain ⟨m, e2⟩ := int_of3 e2
  obtain ⟨l, e1⟩ := ops_of e1
  simp only [List.cons.injEq, and_true] at e0 e1 e2
  subst e0; subst e1; subst e2
  refine (calls_of Try.func6 (by kernel_rfl) (by kernel_rfl) (law6 Store.empty n l m) rfl ?_).mono fun e W' ⟨v, r, σ', g', he, hr, hrel, hb⟩ => ?_
  · intro j c hj
    match j, hj with
    | 0, hj => simp at hj; subst hj; exact r0
    | 1, hj => simp at hj; subst hj; exact r1
    | 2, hj => simp at hj; subst hj; exact r2
  subst hr
  cases hrel
  exact ⟨_, he, post_true (tb := 4) laidOut hW' hb (by kernel_rfl) rfl rfl (by kernel_rfl) (by kernel_rfl)⟩

theorem holds : Rows.HeapKeepsSaid :=
  OpenClaim.holds_of_wide 6 Try.f6 rfl rfl rfl rfl rfl rfl rfl ⟨rfl, rfl, rfl, rfl, rfl⟩ rfl rfl rfl rfl rfl (by kernel_rfl) Try.func6 (by kernel_rfl)
    (of_decide_eq_true (by kernel_rfl)) (by unfold Func.isWrapper; first | (rw [if_pos (by decide +kernel)]; kernel_rfl) | (rw [if_neg (by decide +kernel)]; exact ⟨rfl, rfl⟩))
    (fun os started H enc _ => lifted os started H enc)
end Go.Proofs.Ytoejjhehpbmgbaa.heapKeeps
