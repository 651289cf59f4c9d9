/- The walks of law 34's RulesMarks: awake() from the evaluator's word, the rest by the kit's steps. -/
import Derived.Test.YtdkgbihgcfnlpaaGreatDoorAwk
import Derived.Handy
namespace Go.Proofs.YtdkgbihgcfnlpaaGreatDoor
open Go Go.Ev Go.RowKit
set_option maxRecDepth 100000

def powC : Array Value := #[.int .u64 1, .int .u64 10, .int .u64 100, .int .u64 1000, .int .u64 10000, .int .u64 100000, .int .u64 1000000, .int .u64 10000000, .int .u64 100000000, .int .u64 1000000000, .int .u64 10000000000, .int .u64 100000000000, .int .u64 1000000000000, .int .u64 10000000000000, .int .u64 100000000000000, .int .u64 1000000000000000, .int .u64 10000000000000000, .int .u64 100000000000000000, .int .u64 1000000000000000000, .int .u64 10000000000000000000]
def powV : List AV := [.int .u64 1, .int .u64 10, .int .u64 100, .int .u64 1000, .int .u64 10000, .int .u64 100000, .int .u64 1000000, .int .u64 10000000, .int .u64 100000000, .int .u64 1000000000, .int .u64 10000000000, .int .u64 100000000000, .int .u64 1000000000000, .int .u64 10000000000000, .int .u64 100000000000000, .int .u64 1000000000000000, .int .u64 10000000000000000, .int .u64 100000000000000000, .int .u64 1000000000000000000, .int .u64 10000000000000000000]
def rho0 : Rho := ⟨fun b => if b = 0 then some ⟨0, 0, 20⟩ else none, fun _ => 0⟩

theorem powR : VRs rho0 powV powC.toList := by
  repeat (first | exact VRs.nil | refine VRs.cons VR.int ?_)

theorem S0_get {t : TypeId} {b : Nat} {o : AObj} (h : (S0 t).heap.get b = some o) : b = 0 ∧ o = .cells (T.ofList .nil 0 powV) 20 t true 0 0 false := by
  have e : (S0 t).heap = (T.nil.set 0 (.cells (T.ofList .nil 0 powV) 20 t true 0 0 false)) := rfl
  rw [e] at h
  by_cases hb : b = 0
  · subst hb
    rw [T.get_set] at h
    exact ⟨rfl, (Option.some.inj h).symm⟩
  · rw [T.get_set_ne _ _ _ _ hb, T.get_nil] at h; cases h

theorem startHR {W : World} {t : TypeId} (h : W.heap[0]? = some (.cells powC t (0, 0))) : HR rho0 (S0 t) W.heap := by
  have hlt : 0 < W.heap.size := by
    rcases Nat.eq_zero_or_pos W.heap.size with e | e
    · rw [Array.getElem?_eq_none (by omega)] at h; cases h
    · exact e
  refine ⟨?_, ?_, ?_, ?_, ?_, ?_⟩
  · intro b o e
    obtain ⟨rfl, rfl⟩ := S0_get e
    refine ⟨⟨0, 0, 20⟩, rfl, .cells (c := powC) (f := (0, 0)) h rfl (Nat.le_refl _) ?_ ⟨fun j _ b => absurd b (Nat.not_lt_zero _), fun e => (by cases e), fun e => absurd e (Nat.lt_irrefl _)⟩⟩
    intro i v hi
    rw [T.get_ofList, T.get_nil] at hi
    split at hi
    · rename_i q
      have q2 : i < 20 := by have : powV.length = 20 := rfl; omega
      rw [Nat.sub_zero] at hi
      obtain ⟨x, hx, hv⟩ := powR.get hi
      refine ⟨q2, x, ?_, hv⟩
      rw [Array.getElem?_toList] at hx
      rw [Nat.zero_add]; exact hx
    · cases hi
  · intro b b' o o' L L' e e' _ _ _
    exact .inl ((S0_get e).1.trans (S0_get e').1.symm)
  · intro b hb
    have : (S0 t).next = 1 := rfl
    show (if b = 0 then _ else _) = _
    rw [if_neg (by omega)]
  · intro b L e
    have e' : (if b = 0 then some ⟨0, 0, 20⟩ else none) = some L := e
    split at e'
    · cases e'; exact hlt
    · cases e'
  · intro b b' o o' g hne e e'
    exact absurd ((S0_get e).1.trans (S0_get e').1.symm) hne
  · intro b o g e hg
    obtain ⟨rfl, rfl⟩ := S0_get e
    have : some 0 = some g := hg
    cases this
    exact Nat.zero_lt_one

theorem awake_out (t : TypeId) : ∃ u S', callA env 60 4 [] (S0 t) = .ok ⟨.ret (.bool true), u, S'⟩ := by
  have h := awake_ev t
  generalize callA env 60 4 [] (S0 t) = r at h
  unfold isTrue at h
  split at h
  · exact ⟨_, _, rfl⟩
  · cases h

theorem awake_true {t : TypeId} (W : World) (h : W.heap[0]? = some (.cells powC t (0, 0))) : Calls Tryz.prog 4 #[] W fun e W' => e = .returned (.bool true) ∧ Below W.heap.size W W' := by
  obtain ⟨u, S', hc⟩ := awake_out t
  refine (calls_of_eval hc envOK (ρ := rho0) (cargs := #[]) (fun g hg => ?_) (startHR h) (FactsOK.none rfl) .nil).mono fun e W' ⟨ρ', c, he, hv, hx, hs⟩ => ?_
  · have hg' : g < 1 := hg
    obtain rfl : g = 0 := by omega
    exact ⟨20, rfl⟩
  · cases hv
    refine ⟨he, hs.os, hs.tape, hs.output, hx.size, fun k hk => hx.keep k hk ?_⟩
    rintro ⟨b, o, L, q1, q2, _⟩
    obtain ⟨rfl, rfl⟩ := S0_get q1
    cases q2

end Go.Proofs.YtdkgbihgcfnlpaaGreatDoor
