/- A part of the proof of the claim: the abstract layer, the contracts of the functions, the law (no condition of its own). -/
import Derived.Test.YtojfdejpoideaaaGreatF0
import Derived.Test.YtojfdejpoideaaaGreatF2
import Derived.Test.YtojfdejpoideaaaGreatF3
import Derived.Test.YtojfdejpoideaaaGreatF4
import Derived.Test.YtojfdejpoideaaaGreatF5
import Derived.Test.YtojfdejpoideaaaGreatF7
import Derived.Test.YtojfdejpoideaaaGreatF8
import Derived.Test.YtojfdejpoideaaaGreatF9
import Derived.Test.YtojfdejpoideaaaGreatF10
import Derived.Test.YtojfdejpoideaaaGreatF12
import Derived.Test.YtojfdejpoideaaaGreatF13
import Derived.Test.YtojfdejpoideaaaGreatF14
import Derived.Test.YtojfdejpoideaaaGreatF15
import Derived.Test.YtojfdejpoideaaaGreatF17
import Derived.Test.YtojfdejpoideaaaGreatF18
import Derived.Test.YtojfdejpoideaaaGreatF19
import Derived.Test.YtojfdejpoideaaaGreatK3
import Derived.KernelRfl
/- The four programs of known() come to what they should. -/
set_option linter.unusedVariables false
namespace Go.Proofs.YtojfdejpoideaaaGreat
open Go.AL
noncomputable def facts : List Fact := [fact0, fact2, fact3, fact4, fact5, fact7, fact8, fact9, fact10, fact12, fact13, fact14, fact15, fact17, fact18, fact19]
theorem facts_ok : ∀ F, F ∈ facts → FactOK Tryz.prog F := by
 intro F hF
 simp only [facts, List.mem_cons, List.not_mem_nil, or_false] at hF
 rcases hF with rfl | rfl | rfl | rfl | rfl | rfl | rfl | rfl | rfl | rfl | rfl | rfl | rfl | rfl | rfl | rfl
 · exact fact0_ok
 · exact fact2_ok
 · exact fact3_ok
 · exact fact4_ok
 · exact fact5_ok
 · exact fact7_ok
 · exact fact8_ok
 · exact fact9_ok
 · exact fact10_ok
 · exact fact12_ok
 · exact fact13_ok
 · exact fact14_ok
 · exact fact15_ok
 · exact fact17_ok
 · exact fact18_ok
 · exact fact19_ok
noncomputable def tabK : FTab := ⟨(trE tabL).get, facts⟩
theorem tabK_ok : tabK.OK Tryz.prog := treeTab_ok (trE_ok ents_ok) facts_ok
set_option maxRecDepth 1000000 in
theorem known_run : saysF true (callF tabK (runF tabK 3000) 15 [] 0 .nil) = true := by kernel_rfl
theorem known_ok (σ : Store) : ACalls Tryz.prog 15 [] σ fun r σ' => r = .bool true ∧ σ' = σ := ACalls_shut (ACalls_says tabK_ok known_run) σ
end Go.Proofs.YtojfdejpoideaaaGreat
