/- A part of the proof of the claim: the abstract layer, the contracts of the functions, the law (no condition of its own). -/
import Derived.Test.YtojfdejpoideaaaGreatR1
import Derived.Test.YtojfdejpoideaaaGreatR2
import Derived.Test.YtojfdejpoideaaaGreatR3
import Derived.Test.YtojfdejpoideaaaGreatR4
import Derived.Test.YtojfdejpoideaaaGreatRows
import Derived.JoinedOf
import Derived.KernelRfl
/- GmNil: the row. -/
set_option linter.unusedVariables false
namespace Go.Proofs.YtojfdejpoideaaaGreat.gmNil
open Go.ChangeShapes Go.WideShapes Go.ChangeAt Go.RowKit Go.AL
theorem closed : joinedFacts Tryz.checked.prog 3 Tryz.f3 Rows.gmNilSpec Rows.gmNilRow = true := by
  unfold joinedFacts
  rw [z1, z2, z3, z4, z5, z6]
  kernel_rfl
theorem holds : Rows.GmNilSaid :=
  OpenClaim.holds_of_wide 3 Tryz.f3 rfl rfl rfl rfl rfl rfl rfl ⟨rfl, rfl, rfl, rfl, rfl⟩ rfl rfl rfl rfl rfl z0 Tryz.func3 closed
    (of_decide_eq_true (by kernel_rfl)) (by unfold Func.isWrapper; first | (rw [if_pos (by decide +kernel)]; kernel_rfl) | (rw [if_neg (by decide +kernel)]; exact ⟨rfl, rfl⟩))
    (fun os started H enc _ => lifted os started H enc)
end Go.Proofs.YtojfdejpoideaaaGreat.gmNil
