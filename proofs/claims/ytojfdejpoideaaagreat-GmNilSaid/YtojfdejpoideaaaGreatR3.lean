/- A part of the proof of the claim: the abstract layer, the contracts of the functions, the law (no condition of its own). -/
import Derived.Test.YtojfdejpoideaaaGreatRows
import Derived.JoinedOf
import Derived.KernelRfl
/- GmNil: closed facts of the row (2). -/
set_option linter.unusedVariables false
namespace Go.Proofs.YtojfdejpoideaaaGreat.gmNil
theorem z3 : (Rows.gmNilRow.recurses == Tryz.checked.prog.recurses 3) = true := by kernel_rfl
theorem z4 : (Rows.gmNilRow.named == Tryz.checked.prog.varsNamed 3) = true := by kernel_rfl
end Go.Proofs.YtojfdejpoideaaaGreat.gmNil
