/- A part of the proof of the claim: the abstract layer, the contracts of the functions, the law (no condition of its own). -/
import Derived.Test.YtojfdejpoideaaaGreatFd
import Derived.Test.YtojfdejpoideaaaGreatV4
import Derived.KernelRfl
/- A call that is known. -/

set_option linter.unusedVariables false
namespace Go.Proofs.YtojfdejpoideaaaGreat
open Go.AL
set_option maxRecDepth 1000000 in
theorem fact3_run : factF ⟨(trE tabL).get, []⟩ 3000 fact3 [] = (true, []) := by kernel_rfl
theorem fact3_ok : FactOK Tryz.prog fact3 := fact_ok0 (treeTab_ok (trE_ok ents_ok) (fun F hF => by simp at hF)) rfl fact3_run
end Go.Proofs.YtojfdejpoideaaaGreat
