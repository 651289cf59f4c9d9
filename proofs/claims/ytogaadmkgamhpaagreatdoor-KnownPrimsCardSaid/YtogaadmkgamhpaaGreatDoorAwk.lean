/- The call awake() of law 42 returns true and leaves the heap as it was, whatever the tape: what the evaluator finds. Conditions: none. -/
import Derived.Test.YtogaadmkgamhpaaGreatDoorEnv
namespace Go.Proofs.YtogaadmkgamhpaaGreatDoor
open Go Go.Ev
set_option maxRecDepth 100000
noncomputable def S0 : St := ⟨T.nil.set 5 (.cells (T.ofList .nil 0 [.int .u64 1, .int .u64 10, .int .u64 100, .int .u64 1000, .int .u64 10000, .int .u64 100000, .int .u64 1000000, .int .u64 10000000, .int .u64 100000000, .int .u64 1000000000, .int .u64 10000000000, .int .u64 100000000000, .int .u64 1000000000000, .int .u64 10000000000000, .int .u64 100000000000000, .int .u64 1000000000000000, .int .u64 10000000000000000, .int .u64 100000000000000000, .int .u64 1000000000000000000, .int .u64 10000000000000000000]) 20 0 true 5 0 false), 6, .nil, []⟩
noncomputable def awkO : Out := ⟨.ret (.bool true), .run, S0⟩
theorem awake_ev : isOut (callA env 60 4 [] S0) awkO = true := by kernel_rfl
noncomputable def kA : Known := ⟨4, [], S0, awkO⟩
noncomputable def envF (facts : List (BinOp × SX × SX × Bool)) : Env := ⟨typesT, funcsT, facts, 6⟩
noncomputable def lawE (facts : List (BinOp × SX × SX × Bool)) (k : Nat) (b : AV) : R Out := callK [kA] (envF facts) 60 3 [.byte 7 k, .sx (.var 0), b] S0
def isTrue : R Out → Bool
  | .ok ⟨.ret (.bool true), _, _⟩ => true
  | _ => false
end Go.Proofs.YtogaadmkgamhpaaGreatDoor
