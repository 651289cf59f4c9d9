/- Law 42's KnownPrims on some of its paths, as the evaluator finds them, part 4: the answer is true. Conditions: those that each line lists as facts. -/
import Derived.Test.YtogaadmkgamhpaaGreatDoorAwk
namespace Go.Proofs.YtogaadmkgamhpaaGreatDoor
open Go Go.Ev
set_option maxRecDepth 100000
theorem ev_p4z : isTrue (lawE [] 4 (.int .i64 0)) = true := by kernel_rfl
theorem ev_p4m : isTrue (lawE [(.eql, .lit (-1), .lit 0, false), (.eql, .bin .rem (.var 0) (.lit (-1)), .lit 0, true)] 4 (.int .i64 (-1))) = true := by kernel_rfl
end Go.Proofs.YtogaadmkgamhpaaGreatDoor
