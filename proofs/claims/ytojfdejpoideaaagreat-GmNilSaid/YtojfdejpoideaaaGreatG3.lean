/- A part of the proof of the claim: the abstract layer, the contracts of the functions, the law (no condition of its own). -/
import Derived.Test.YtojfdejpoideaaaGreatGd
import Derived.Test.YtojfdejpoideaaaGreatV4
import Derived.Test.YtojfdejpoideaaaGreatK3
import Derived.KernelRfl
/- A call that is known. -/

set_option linter.unusedVariables false
namespace Go.Proofs.YtojfdejpoideaaaGreat
open Go.AL
set_option maxRecDepth 1000000 in
theorem lfact3_run (o0 o1 o2 : AObj) : factF ⟨(trE tabL).get, []⟩ 3000 lfact3 [o0, o1, o2] = (true, [o0, o1, o2].map some) := by kernel_rfl
theorem lfact3_ok : FactOK Tryz.prog lfact3 := fact_ok (treeTab_ok (fs := []) (trE_ok ents_ok) (fun F hF => by simp at hF)) fun os hos => by
 obtain ⟨o0, o1, o2, rfl⟩ := len_3 hos
 exact lfact3_run o0 o1 o2
end Go.Proofs.YtojfdejpoideaaaGreat
