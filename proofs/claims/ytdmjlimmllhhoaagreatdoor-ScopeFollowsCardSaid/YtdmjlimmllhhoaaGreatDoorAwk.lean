/- The call awake() of law 25 returns true and leaves the heap as it was, whatever the tape: what the evaluator finds. Conditions: none. -/
import Derived.Test.YtdmjlimmllhhoaaGreatDoorEnv
namespace Go.Proofs.YtdmjlimmllhhoaaGreatDoor
open Go Go.Ev
set_option maxRecDepth 100000
noncomputable def S0 : St := ⟨.nil, 0, .nil, []⟩
noncomputable def awkO : Out := ⟨.ret (.bool true), .run, S0⟩
theorem awake_ev : isOut (callA env 60 5 [] S0) awkO = true := by kernel_rfl

def rho0 : Rho := ⟨fun _ => none, fun _ => 0⟩

theorem S0_none {b : Nat} {o : AObj} (e : S0.heap.get b = some o) : False := by
  have e' : T.get (T.nil : T AObj) b = some o := e
  rw [T.get_nil] at e'
  cases e'

theorem startHR (W : World) : HR rho0 S0 W.heap :=
  ⟨fun b o e => (S0_none e).elim, fun b b' o o' L L' e => (S0_none e).elim, fun _ _ => rfl, fun _ _ e => (by cases e),
   fun b b' o o' g _ e => (S0_none e).elim, fun b o g e => (S0_none e).elim⟩

theorem awake_true (W : World) : Calls Tryz.prog 5 #[] W fun e W' => e = .returned (.bool true) ∧ Go.RowKit.Below W.heap.size W W' := by
  refine (calls_of_eval (isOut_eq awake_ev) envOK (ρ := rho0) (cargs := #[]) (fun g hg => absurd hg (Nat.not_lt_zero g)) (startHR W) (FactsOK.none rfl) .nil).mono fun e W' ⟨ρ', c, he, hv, hx, hs⟩ => ?_
  cases hv
  refine ⟨he, hs.os, hs.tape, hs.output, hx.size, fun k hk => hx.keep k hk ?_⟩
  rintro ⟨b, o, L, q1, _⟩
  exact S0_none q1
end Go.Proofs.YtdmjlimmllhhoaaGreatDoor
