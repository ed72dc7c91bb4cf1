/- A part of the proof of the claim (no condition of its own). -/
import Derived.Test.YtgjcnkcepdoedaaGreatRows
import Derived.JoinedOf
import Derived.KernelRfl
set_option linter.unusedVariables false
namespace Go.Proofs.YtgjcnkcepdoedaaGreat.schemaSmall
theorem z3 : (Rows.schemaSmallUptoRow.recurses == Tryz.checked.prog.recurses 3) = true := by kernel_rfl
theorem z4 : (Rows.schemaSmallUptoRow.named == Tryz.checked.prog.varsNamed 3) = true := by kernel_rfl
theorem z0 : Tryz.checked.prog.funcNamed Rows.schemaSmallUptoRow.func = some 3 := by kernel_rfl
end Go.Proofs.YtgjcnkcepdoedaaGreat.schemaSmall
