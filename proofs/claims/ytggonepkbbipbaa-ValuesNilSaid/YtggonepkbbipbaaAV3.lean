/- ValuesNil is run as a whole: its arguments are never looked at. -/
import Derived.Test.YtggonepkbbipbaaAVc
set_option linter.unusedVariables false
namespace Go.Proofs.Ytggonepkbbipbaa
open Go.AL
set_option maxRecDepth 1000000 in
theorem all_run (es : List (List AV)) (b : Int) : saysF true (callF (tabOf tabL) (runF (tabOf tabL) 300) 3 [.list es, .int .i64 b] 0 .nil) = true := by kernel_rfl
theorem law3 (es : List (List AV)) (b : Int) : ACalls Try.prog 3 [.list es, .int .i64 b] Store.empty fun r σ' => r = .bool true := ACalls_says tab_ok (all_run es b)
end Go.Proofs.Ytggonepkbbipbaa
