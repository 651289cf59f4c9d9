/- Law 42's KnownPrims on some of its paths, as the evaluator finds them, part 3: the answer is true. Conditions: those that each line lists as facts. -/
import Derived.Test.YtogaadmkgamhpaaGreatDoorAwk
namespace Go.Proofs.YtogaadmkgamhpaaGreatDoor
open Go Go.Ev
set_option maxRecDepth 100000
theorem ev_p3m : isTrue (lawE [(.eql, .lit (-1), .lit 0, false), (.eql, .bin .quo (.var 0) (.lit (-1)), .bin .sub (.lit 0) (.var 0), true)] 3 (.int .i64 (-1))) = true := by kernel_rfl
theorem ev_p3 : isTrue (lawE [(.eql, .var 1, .lit 0, false), (.eql, .var 1, .lit (-1), false)] 3 (.sx (.var 1))) = true := by kernel_rfl
end Go.Proofs.YtogaadmkgamhpaaGreatDoor
