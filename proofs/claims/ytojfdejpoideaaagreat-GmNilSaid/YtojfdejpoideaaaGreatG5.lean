/- A part of the proof of the claim: the abstract layer, the contracts of the functions, the law (no condition of its own). -/
import Derived.Test.YtojfdejpoideaaaGreatGd
import Derived.Test.YtojfdejpoideaaaGreatV4
import Derived.Test.YtojfdejpoideaaaGreatK3
import Derived.KernelRfl
/- A call that is known. -/

set_option linter.unusedVariables false
namespace Go.Proofs.YtojfdejpoideaaaGreat
open Go.AL
set_option maxRecDepth 1000000 in
theorem lfact5_run (o0 o1 : AObj) : factF ⟨(trE tabL).get, []⟩ 3000 lfact5 [o0, o1] = (true, [o0, o1].map some) := by kernel_rfl
theorem lfact5_ok : FactOK Tryz.prog lfact5 := fact_ok (treeTab_ok (fs := []) (trE_ok ents_ok) (fun F hF => by simp at hF)) fun os hos => by
 obtain ⟨o0, o1, rfl⟩ := len_2 hos
 exact lfact5_run o0 o1
end Go.Proofs.YtojfdejpoideaaaGreat
