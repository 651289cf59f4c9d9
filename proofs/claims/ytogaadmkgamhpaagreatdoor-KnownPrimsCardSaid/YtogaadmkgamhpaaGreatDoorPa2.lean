/- Law 42's KnownPrims on some of its paths, as the evaluator finds them, part 2: the answer is true. Conditions: those that each line lists as facts. -/
import Derived.Test.YtogaadmkgamhpaaGreatDoorAwk
namespace Go.Proofs.YtogaadmkgamhpaaGreatDoor
open Go Go.Ev
set_option maxRecDepth 100000
theorem ev_p2 : isTrue (lawE [] 2 (.sx (.var 1))) = true := by kernel_rfl
theorem ev_p3z : isTrue (lawE [] 3 (.int .i64 0)) = true := by kernel_rfl
end Go.Proofs.YtogaadmkgamhpaaGreatDoor
