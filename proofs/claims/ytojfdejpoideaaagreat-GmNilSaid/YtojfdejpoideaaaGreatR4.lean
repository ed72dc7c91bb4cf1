/- A part of the proof of the claim: the abstract layer, the contracts of the functions, the law (no condition of its own). -/
import Derived.Test.YtojfdejpoideaaaGreatRows
import Derived.JoinedOf
import Derived.KernelRfl
/- GmNil: closed facts of the row (3). -/
set_option linter.unusedVariables false
namespace Go.Proofs.YtojfdejpoideaaaGreat.gmNil
theorem z5 : laidOutB Tryz.checked.prog = true := by kernel_rfl
theorem z6 : mapsRowed Tryz.checked.prog = true := by kernel_rfl
theorem z0 : Tryz.checked.prog.funcNamed Rows.gmNilRow.func = some 3 := by kernel_rfl
end Go.Proofs.YtojfdejpoideaaaGreat.gmNil
