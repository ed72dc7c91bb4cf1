/- A part of the proof of the claim: the abstract layer, the contracts of the functions, the law (no condition of its own). -/
import Derived.Test.YtojfdejpoideaaaGreatRows
import Derived.JoinedOf
import Derived.KernelRfl
/- GmNil: closed facts of the row (1). -/
set_option linter.unusedVariables false
namespace Go.Proofs.YtojfdejpoideaaaGreat.gmNil
theorem z1 : (Rows.gmNilRow.inPlace == Tryz.checked.prog.inPlace 3) = true := by kernel_rfl
theorem z2 : (Rows.gmNilRow.unfollowed == Tryz.checked.prog.unfollowed 3) = true := by kernel_rfl
end Go.Proofs.YtojfdejpoideaaaGreat.gmNil
