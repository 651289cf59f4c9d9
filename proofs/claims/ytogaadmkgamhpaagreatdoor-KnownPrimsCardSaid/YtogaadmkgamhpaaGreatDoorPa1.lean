/- Law 42's KnownPrims on some of its paths, as the evaluator finds them, part 1: the answer is true. Conditions: those that each line lists as facts. -/
import Derived.Test.YtogaadmkgamhpaaGreatDoorAwk
namespace Go.Proofs.YtogaadmkgamhpaaGreatDoor
open Go Go.Ev
set_option maxRecDepth 100000
theorem ev_p0 : isTrue (lawE [] 0 (.sx (.var 1))) = true := by kernel_rfl
theorem ev_p1 : isTrue (lawE [] 1 (.sx (.var 1))) = true := by kernel_rfl
end Go.Proofs.YtogaadmkgamhpaaGreatDoor
