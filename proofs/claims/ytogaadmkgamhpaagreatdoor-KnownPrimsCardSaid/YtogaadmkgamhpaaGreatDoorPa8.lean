/- Law 42's KnownPrims on some of its paths, as the evaluator finds them, part 8: the answer is true. Conditions: those that each line lists as facts. -/
import Derived.Test.YtogaadmkgamhpaaGreatDoorAwk
namespace Go.Proofs.YtogaadmkgamhpaaGreatDoor
open Go Go.Ev
set_option maxRecDepth 100000
theorem ev_p7f : isTrue (lawE [(.eql, .var 0, .var 1, false)] 7 (.sx (.var 1))) = true := by kernel_rfl
end Go.Proofs.YtogaadmkgamhpaaGreatDoor
