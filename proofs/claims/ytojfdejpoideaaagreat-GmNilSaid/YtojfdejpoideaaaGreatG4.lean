/- A part of the proof of the claim: the abstract layer, the contracts of the functions, the law (no condition of its own). -/
import Derived.Test.YtojfdejpoideaaaGreatGd
import Derived.Test.YtojfdejpoideaaaGreatV4
import Derived.Test.YtojfdejpoideaaaGreatK3
import Derived.Test.YtojfdejpoideaaaGreatG0
import Derived.Test.YtojfdejpoideaaaGreatG2
import Derived.Test.YtojfdejpoideaaaGreatG3
import Derived.KernelRfl
/- A call that is known. -/
set_option linter.unusedVariables false
namespace Go.Proofs.YtojfdejpoideaaaGreat
open Go.AL
set_option maxRecDepth 1000000 in
theorem lfact4_run (o0 o1 o2 : AObj) : factF ⟨(trE tabL).get, [lfact0, lfact2, lfact3]⟩ 3000 lfact4 [o0, o1, o2] = (true, [o0, o1, o2].map some) := by kernel_rfl
theorem lfact4_ok : FactOK Tryz.prog lfact4 := fact_ok (treeTab_ok (fs := [lfact0, lfact2, lfact3]) (trE_ok ents_ok) (fun F hF => by
 simp only [List.mem_cons, List.not_mem_nil, or_false] at hF
 rcases hF with rfl | rfl | rfl
 · exact lfact0_ok
 · exact lfact2_ok
 · exact lfact3_ok)) fun os hos => by
 obtain ⟨o0, o1, o2, rfl⟩ := len_3 hos
 exact lfact4_run o0 o1 o2
end Go.Proofs.YtojfdejpoideaaaGreat
