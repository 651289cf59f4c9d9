/- Law 42's KnownPrims on some of its paths, as the evaluator finds them, part 5: the answer is true. Conditions: those that each line lists as facts. -/
import Derived.Test.YtogaadmkgamhpaaGreatDoorAwk
namespace Go.Proofs.YtogaadmkgamhpaaGreatDoor
open Go Go.Ev
set_option maxRecDepth 100000
theorem ev_p4 : isTrue (lawE [(.eql, .var 1, .lit 0, false), (.eql, .var 1, .lit (-1), false)] 4 (.sx (.var 1))) = true := by kernel_rfl
theorem ev_p5t : isTrue (lawE [(.lss, .var 0, .var 1, true)] 5 (.sx (.var 1))) = true := by kernel_rfl
end Go.Proofs.YtogaadmkgamhpaaGreatDoor
