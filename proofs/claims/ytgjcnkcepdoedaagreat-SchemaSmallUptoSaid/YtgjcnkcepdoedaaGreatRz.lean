/- A part of the proof of the claim (no condition of its own). -/
import Derived.Test.YtgjcnkcepdoedaaGreatRows
import Derived.JoinedOf
import Derived.KernelRfl
set_option linter.unusedVariables false
namespace Go.Proofs.YtgjcnkcepdoedaaGreat
theorem z5 : laidOutB Tryz.checked.prog = true := by kernel_rfl
theorem z6 : mapsRowed Tryz.checked.prog = true := by kernel_rfl
end Go.Proofs.YtgjcnkcepdoedaaGreat
