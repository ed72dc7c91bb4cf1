/- A part of the proof of the claim (no condition of its own). -/
import Derived.Test.YtgjcnkcepdoedaaGreatV3
import Derived.Test.YtgjcnkcepdoedaaGreatProg
import Derived.Laws.Externs
import Derived.Lib.Builder
import Derived.KernelRfl
namespace Go.Proofs.YtgjcnkcepdoedaaGreat
open Go.AL
noncomputable def etab : ETab := etabAt 273 sameN (etabL tabL)
noncomputable def p0 : Pure := fun _ => .no
noncomputable def p1 : Pure := puAt 258 (.goB (apart etab p0 100 0 258)) <| puAt 220 (.goA (apart etab p0 100 2 220)) p0
noncomputable def p2 : Pure := puAt 160 (.goA (apart etab p1 100 2 160)) <| puAt 28 (.goA (apart etab p1 1000 2 28)) <| puAt 50 (.goB (apart etab p1 1000 0 50)) p1
set_option maxRecDepth 1000000 in
theorem known_run : isR (.bool true) (apart etab p2 3000 2 7 []) = true := by kernel_rfl
end Go.Proofs.YtgjcnkcepdoedaaGreat
/- known() is true. -/
set_option linter.unusedVariables false
namespace Go.Proofs.YtgjcnkcepdoedaaGreat
open Go.AL
theorem etab_ok : ETabOK Tryz.prog etab := etabAt_ok (sameN_ok fun v w => by
 rw [run_callFunc_extern (f := 273) (e := Extern.AbiNoEscape.same) Tryz.func273 (by kernel_rfl) (by kernel_rfl) (by kernel_rfl) (by kernel_rfl) #[v] w, Lib.run_noEscape]; rfl) (etabL_ok ents_ok)
theorem p1_ok : PuOK Tryz.prog p1 := puOK_b (puOK_a (puOK_no _) (ra_apart etab_ok (puOK_no _) 100 220)) (rb_apart etab_ok (puOK_no _) 100 258)
theorem p2_ok : PuOK Tryz.prog p2 := puOK_a (puOK_a (puOK_b p1_ok (rb_apart etab_ok p1_ok 1000 50)) (ra_apart etab_ok p1_ok 1000 28)) (ra_apart etab_ok p1_ok 100 160)
theorem known_ok : ∀ σ : Store, ACalls Tryz.prog 7 [] σ fun r σ' => r = .bool true ∧ σ' = σ := fun σ => (ra_apart etab_ok p2_ok 3000 7) [] _ (isR_val known_run) .nil σ
end Go.Proofs.YtgjcnkcepdoedaaGreat
