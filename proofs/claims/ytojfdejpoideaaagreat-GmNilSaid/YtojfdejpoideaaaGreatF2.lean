/- A part of the proof of the claim: the abstract layer, the contracts of the functions, the law (no condition of its own). -/
import Derived.Test.YtojfdejpoideaaaGreatFd
import Derived.Test.YtojfdejpoideaaaGreatV4
import Derived.Test.YtojfdejpoideaaaGreatF1
import Derived.KernelRfl
/- A call that is known. -/
set_option linter.unusedVariables false
namespace Go.Proofs.YtojfdejpoideaaaGreat
open Go.AL
set_option maxRecDepth 1000000 in
theorem fact2_run : factF ⟨(trE tabL).get, [fact1]⟩ 3000 fact2 [] = (true, []) := by kernel_rfl
theorem fact2_ok : FactOK Tryz.prog fact2 := fact_ok0 (treeTab_ok (trE_ok ents_ok) (fun F hF => by
 simp only [List.mem_cons, List.not_mem_nil, or_false] at hF
 subst hF; exact fact1_ok)) rfl fact2_run
end Go.Proofs.YtojfdejpoideaaaGreat
