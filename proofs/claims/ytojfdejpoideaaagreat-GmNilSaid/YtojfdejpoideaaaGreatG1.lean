/- A part of the proof of the claim: the abstract layer, the contracts of the functions, the law (no condition of its own). -/
import Derived.Test.YtojfdejpoideaaaGreatGd
import Derived.Test.YtojfdejpoideaaaGreatV4
import Derived.Test.YtojfdejpoideaaaGreatK3
import Derived.KernelRfl
/- A call that is known. -/

set_option linter.unusedVariables false
namespace Go.Proofs.YtojfdejpoideaaaGreat
open Go.AL
set_option maxRecDepth 1000000 in
theorem lfact1_run (o0 o1 o2 : AObj) : allF (tabOf tabL) 3000 300 ⟨45, v264, [.slot 2, .slot 3]⟩ lfact1 [o0, o1, o2] = (true, List.replicate 24 ([o0, o1, o2].map some)) := by kernel_rfl
theorem lfact1_ok : FactOK Tryz.prog lfact1 := allF_ok (tab_ok) (fuel := 3000) (k := 300) ent264 rfl rfl 24 (fun os hos => by
 obtain ⟨o0, o1, o2, rfl⟩ := len_3 hos
 exact lfact1_run o0 o1 o2)
end Go.Proofs.YtojfdejpoideaaaGreat
