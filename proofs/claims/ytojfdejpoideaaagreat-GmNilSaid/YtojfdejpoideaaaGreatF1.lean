/- A part of the proof of the claim: the abstract layer, the contracts of the functions, the law (no condition of its own). -/
import Derived.Test.YtojfdejpoideaaaGreatFd
import Derived.Test.YtojfdejpoideaaaGreatV4
import Derived.Test.YtojfdejpoideaaaGreatK3
import Derived.KernelRfl
/- A call that is known: in whatever order. -/
set_option linter.unusedVariables false
namespace Go.Proofs.YtojfdejpoideaaaGreat
open Go.AL
set_option maxRecDepth 1000000 in
theorem fact1_run : allF (tabOf tabL) 3000 300 ⟨45, v264, [.slot 2, .slot 3]⟩ fact1 [] = (true, List.replicate 24 ([].map some)) := by kernel_rfl
theorem fact1_ok : FactOK Tryz.prog fact1 := allF_ok (tab_ok) (fuel := 3000) (k := 300) ent264 rfl rfl 24 (fun os hos => by
 have : os = [] := List.eq_nil_of_length_eq_zero hos
 subst this
 exact fact1_run)
end Go.Proofs.YtojfdejpoideaaaGreat
