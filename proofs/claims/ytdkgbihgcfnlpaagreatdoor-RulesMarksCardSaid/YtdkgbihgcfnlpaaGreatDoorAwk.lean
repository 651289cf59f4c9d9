/- The evaluator finds that the call awake() of law 34 returns true. Its start: global 0 holds Go's table of powers of ten; nothing else is known of the heap. -/
import Derived.Test.YtdkgbihgcfnlpaaGreatDoorEnv
namespace Go.Proofs.YtdkgbihgcfnlpaaGreatDoor
open Go Go.Ev
set_option maxRecDepth 100000
noncomputable def S0 (t : TypeId) : St := ⟨.node (some (.cells (T.ofList .nil 0 [.int .u64 1, .int .u64 10, .int .u64 100, .int .u64 1000, .int .u64 10000, .int .u64 100000, .int .u64 1000000, .int .u64 10000000, .int .u64 100000000, .int .u64 1000000000, .int .u64 10000000000, .int .u64 100000000000, .int .u64 1000000000000, .int .u64 10000000000000, .int .u64 100000000000000, .int .u64 1000000000000000, .int .u64 10000000000000000, .int .u64 100000000000000000, .int .u64 1000000000000000000, .int .u64 10000000000000000000]) 20 t true 0 0 false)) .nil .nil, 1, .nil, []⟩
def isTrue : R Out → Bool
  | .ok ⟨.ret (.bool true), _, _⟩ => true
  | _ => false
theorem awake_ev (t : TypeId) : isTrue (callA env 60 4 [] (S0 t)) = true := by kernel_rfl
end Go.Proofs.YtdkgbihgcfnlpaaGreatDoor
