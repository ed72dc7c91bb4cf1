/- A part of the proof of the claim: the abstract layer, the contracts of the functions, the law (no condition of its own). -/
import Derived.Test.YtojfdejpoideaaaGreatFd
import Derived.Test.YtojfdejpoideaaaGreatV4
import Derived.Test.YtojfdejpoideaaaGreatF11
import Derived.KernelRfl
/- A call that is known. -/
set_option linter.unusedVariables false
namespace Go.Proofs.YtojfdejpoideaaaGreat
open Go.AL
set_option maxRecDepth 1000000 in
theorem fact12_run : factF ⟨(trE tabL).get, [fact11]⟩ 3000 fact12 [] = (true, []) := by kernel_rfl
theorem fact12_ok : FactOK Tryz.prog fact12 := fact_ok0 (treeTab_ok (trE_ok ents_ok) (fun F hF => by
 simp only [List.mem_cons, List.not_mem_nil, or_false] at hF
 subst hF; exact fact11_ok)) rfl fact12_run
end Go.Proofs.YtojfdejpoideaaaGreat
