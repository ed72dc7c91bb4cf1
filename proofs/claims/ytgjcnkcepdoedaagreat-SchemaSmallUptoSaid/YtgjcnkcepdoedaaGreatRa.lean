/- A part of the proof of the claim (no condition of its own). -/
import Derived.Test.YtgjcnkcepdoedaaGreatRows
import Derived.JoinedOf
import Derived.KernelRfl
set_option linter.unusedVariables false
namespace Go.Proofs.YtgjcnkcepdoedaaGreat.schemaSmall
theorem z1 : (Rows.schemaSmallUptoRow.inPlace == Tryz.checked.prog.inPlace 3) = true := by kernel_rfl
theorem z2 : (Rows.schemaSmallUptoRow.unfollowed == Tryz.checked.prog.unfollowed 3) = true := by kernel_rfl
end Go.Proofs.YtgjcnkcepdoedaaGreat.schemaSmall
