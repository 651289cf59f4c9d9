/- The walks of law 42's KnownPrims: the whole call from the evaluator's word, path by path. -/
import Derived.Test.YtogaadmkgamhpaaGreatDoorPa1
import Derived.Test.YtogaadmkgamhpaaGreatDoorPa2
import Derived.Test.YtogaadmkgamhpaaGreatDoorPa3
import Derived.Test.YtogaadmkgamhpaaGreatDoorPa4
import Derived.Test.YtogaadmkgamhpaaGreatDoorPa5
import Derived.Test.YtogaadmkgamhpaaGreatDoorPa6
import Derived.Test.YtogaadmkgamhpaaGreatDoorPa7
import Derived.Test.YtogaadmkgamhpaaGreatDoorPa8
import Derived.Handy
namespace Go.Proofs.YtogaadmkgamhpaaGreatDoor
open Go Go.Ev Go.RowKit
set_option maxRecDepth 100000

def powC : Array Value := #[.int .u64 1, .int .u64 10, .int .u64 100, .int .u64 1000, .int .u64 10000, .int .u64 100000, .int .u64 1000000, .int .u64 10000000, .int .u64 100000000, .int .u64 1000000000, .int .u64 10000000000, .int .u64 100000000000, .int .u64 1000000000000, .int .u64 10000000000000, .int .u64 100000000000000, .int .u64 1000000000000000, .int .u64 10000000000000000, .int .u64 100000000000000000, .int .u64 1000000000000000000, .int .u64 10000000000000000000]
def powV : List AV := [.int .u64 1, .int .u64 10, .int .u64 100, .int .u64 1000, .int .u64 10000, .int .u64 100000, .int .u64 1000000, .int .u64 10000000, .int .u64 100000000, .int .u64 1000000000, .int .u64 10000000000, .int .u64 100000000000, .int .u64 1000000000000, .int .u64 10000000000000, .int .u64 100000000000000, .int .u64 1000000000000000, .int .u64 10000000000000000, .int .u64 100000000000000000, .int .u64 1000000000000000000, .int .u64 10000000000000000000]
def rho0 (a b : Int) : Rho := ⟨fun k => if k < 6 then some ⟨k, 0, 20⟩ else none, fun i => match i with | 0 => a | _ => b⟩

theorem powR (a b : Int) : VRs (rho0 a b) powV powC.toList := by
  repeat (first | exact VRs.nil | refine VRs.cons VR.int ?_)

theorem S0_get {b : Nat} {o : AObj} (h : S0.heap.get b = some o) : b = 5 ∧ o = .cells (T.ofList .nil 0 powV) 20 0 true 5 0 false := by
  have e : S0.heap = (T.nil.set 5 (.cells (T.ofList .nil 0 powV) 20 0 true 5 0 false)) := rfl
  rw [e] at h
  by_cases hb : b = 5
  · subst hb
    rw [T.get_set] at h
    exact ⟨rfl, (Option.some.inj h).symm⟩
  · rw [T.get_set_ne _ _ _ _ hb, T.get_nil] at h; cases h

theorem rho0_loc {x y : Int} {k : Nat} (h : k < 6) : (rho0 x y).loc k = some ⟨k, 0, 20⟩ := by
  show (if k < 6 then _ else _) = _
  rw [if_pos h]

theorem rho0_some {x y : Int} {k : Nat} {L : Ev.Loc} (e : (rho0 x y).loc k = some L) : k < 6 ∧ L = ⟨k, 0, 20⟩ := by
  have e' : (if k < 6 then some ⟨k, 0, 20⟩ else none) = some L := e
  split at e'
  · rename_i h; cases e'; exact ⟨h, rfl⟩
  · cases e'

theorem startHR {W : World} {t : TypeId} (h : W.heap[5]? = some (.cells powC t (0, 0))) (x y : Int) : HR (rho0 x y) S0 W.heap := by
  have hlt : 5 < W.heap.size := by
    rcases Nat.lt_or_ge 5 W.heap.size with e | e
    · exact e
    · rw [Array.getElem?_eq_none (by omega)] at h; cases h
  refine ⟨?_, ?_, ?_, ?_, ?_, ?_⟩
  · intro b o e
    obtain ⟨rfl, rfl⟩ := S0_get e
    refine ⟨⟨5, 0, 20⟩, rho0_loc (by omega), .table (c := powC) (f := (0, 0)) h rfl (Nat.le_refl _) ?_⟩
    intro i v hi
    rw [T.get_ofList, T.get_nil] at hi
    split at hi
    · rename_i q
      have q2 : i < 20 := by have : powV.length = 20 := rfl; omega
      rw [Nat.sub_zero] at hi
      obtain ⟨x, hx, hv⟩ := (powR x y).get hi
      refine ⟨q2, x, ?_, hv⟩
      rw [Array.getElem?_toList] at hx
      rw [Nat.zero_add]; exact hx
    · cases hi
  · intro b b' o o' L L' e e' _ _ _
    exact .inl ((S0_get e).1.trans (S0_get e').1.symm)
  · intro b hb
    have h6 : S0.next = 6 := rfl
    show (if b < 6 then _ else _) = _
    rw [if_neg (by omega)]
  · intro b L e
    obtain ⟨h1, rfl⟩ := rho0_some e
    show b < W.heap.size
    omega
  · intro b b' o o' g hne e e'
    exact absurd ((S0_get e).1.trans (S0_get e').1.symm) hne
  · intro b o g e hg
    obtain ⟨rfl, rfl⟩ := S0_get e
    have : some 5 = some g := hg
    cases this
    show 5 < 6
    omega

theorem envF_ok (facts : List (BinOp × SX × SX × Bool)) : EnvOK Tryz.prog (envF facts) := ⟨envOK.types, envOK.funcs, envOK.mixed⟩

theorem callA_eq (E : Env) (n : Nat) (f : FuncId) (args : List AV) (S : St) : callA E n f args S = (nest E n).call f args .normal .run S := rfl

theorem kA_ok (facts : List (BinOp × SX × SX × Bool)) : ∀ k ∈ [kA], KnownOK Tryz.prog (envF facts) k := by
  intro k hk
  rw [List.mem_singleton] at hk
  subst hk
  have h : (nest env 60).call 4 [] .normal .run S0 = .ok awkO := (callA_eq env 60 4 [] S0).symm.trans (isOut_eq awake_ev)
  exact KnownOK.of_nest (E := envF facts) (E0 := env) (N := nest env 60) (k := ⟨4, [], S0, awkO⟩) (nest_sound 60) envOK rfl (fun σ _ => FactsOK.none rfl) rfl h

theorem law_of {facts : List (BinOp × SX × SX × Bool)} {k : Nat} {bv : AV} (hev : isTrue (lawE facts k bv) = true) {op a b : Int} (hop : op.tmod 8 = (k : Int)) (hb : VR (rho0 a b) bv (.int .i64 b)) (hF : FactsOK (envF facts) (rho0 a b).sig)
    {t : TypeId} (W : World) (h : W.heap[5]? = some (.cells powC t (0, 0))) : Calls Tryz.prog 3 #[.int .u8 op, .int .i64 a, .int .i64 b] W fun e W' => e = .returned (.bool true) ∧ Below W.heap.size W W' := by
  have hc : ∃ u S', (nestK [kA] (envF facts) 60).call 3 [.byte 7 k, .sx (.var 0), bv] .normal .run S0 = .ok ⟨.ret (.bool true), u, S'⟩ := by
    have hev' : isTrue ((nestK [kA] (envF facts) 60).call 3 [.byte 7 k, .sx (.var 0), bv] .normal .run S0) = true := hev
    generalize (nestK [kA] (envF facts) 60).call 3 [.byte 7 k, .sx (.var 0), bv] .normal .run S0 = r at hev'
    unfold isTrue at hev'
    split at hev'
    · exact ⟨_, _, rfl⟩
    · cases hev'
  obtain ⟨u, S', hc⟩ := hc
  have ha : VRs (rho0 a b) [.byte 7 k, .sx (.var 0), bv] [.int .u8 op, .int .i64 a, .int .i64 b] := .cons (.byte hop) (.cons (.sx (e := .var 0)) (.cons hb .nil))
  refine (calls_of_nest (nestK_sound (kA_ok facts) 60) hc (envF_ok facts) (ρ := rho0 a b) (cargs := #[.int .u8 op, .int .i64 a, .int .i64 b]) (fun g hg => ⟨20, rho0_loc hg⟩) (startHR h a b) hF ha).mono fun e W' ⟨ρ', c, he, hv, hx, hs⟩ => ?_
  cases hv
  refine ⟨he, hs.os, hs.tape, hs.output, hx.size, fun k hk => hx.keep k hk ?_⟩
  rintro ⟨b, o, L, q1, q2, _⟩
  obtain ⟨rfl, rfl⟩ := S0_get q1
  cases q2

theorem sxB {a b : Int} : VR (rho0 a b) (.sx (.var 1)) (.int .i64 b) := .sx (e := .var 1)

theorem noFacts {a b : Int} : FactsOK (envF []) (rho0 a b).sig := FactsOK.none rfl

theorem one {a b : Int} {f : BinOp × SX × SX × Bool} (h : isCmp f.1 = true ∧ cmpOf f.1 (f.2.1.eval (rho0 a b).sig) (f.2.2.1.eval (rho0 a b).sig) = f.2.2.2) : FactsOK (envF [f]) (rho0 a b).sig := by
  intro g hg
  obtain rfl := List.mem_singleton.1 hg
  exact h

theorem two {a b : Int} {f f' : BinOp × SX × SX × Bool} (h : isCmp f.1 = true ∧ cmpOf f.1 (f.2.1.eval (rho0 a b).sig) (f.2.2.1.eval (rho0 a b).sig) = f.2.2.2)
    (h' : isCmp f'.1 = true ∧ cmpOf f'.1 (f'.2.1.eval (rho0 a b).sig) (f'.2.2.1.eval (rho0 a b).sig) = f'.2.2.2) : FactsOK (envF [f, f']) (rho0 a b).sig := by
  intro g hg
  rcases List.mem_cons.1 hg with e | e
  · subst e; exact h
  · obtain rfl := List.mem_singleton.1 e
    exact h'

theorem general {a b : Int} (h0 : b ≠ 0) (h1 : b ≠ -1) : FactsOK (envF [(.eql, .var 1, .lit 0, false), (.eql, .var 1, .lit (-1), false)]) (rho0 a b).sig :=
  two ⟨rfl, show (b == 0) = false by simpa using h0⟩ ⟨rfl, show (b == -1) = false by simpa using h1⟩

theorem quoM {a b : Int} : FactsOK (envF [(.eql, .lit (-1), .lit 0, false), (.eql, .bin .quo (.var 0) (.lit (-1)), .bin .sub (.lit 0) (.var 0), true)]) (rho0 a b).sig := by
  refine two ⟨rfl, rfl⟩ ⟨rfl, ?_⟩
  show (IntKind.wrap .i64 (a.tdiv (-1)) == IntKind.wrap .i64 (0 - a)) = true
  rw [beq_iff_eq, Int.tdiv_neg, Int.tdiv_one, Int.zero_sub]

theorem remM {a b : Int} : FactsOK (envF [(.eql, .lit (-1), .lit 0, false), (.eql, .bin .rem (.var 0) (.lit (-1)), .lit 0, true)]) (rho0 a b).sig := by
  refine two ⟨rfl, rfl⟩ ⟨rfl, ?_⟩
  show (a.tmod (-1) == 0) = true
  rw [beq_iff_eq, Int.tmod_neg, Int.tmod_one]

theorem law_true (op a b : Int) (h0 : 0 ≤ op) {t : TypeId} (W : World) (h : W.heap[5]? = some (.cells powC t (0, 0))) :
    Calls Tryz.prog 3 #[.int .u8 op, .int .i64 a, .int .i64 b] W fun e W' => e = .returned (.bool true) ∧ Below W.heap.size W W' := by
  have e0 := Int.tmod_nonneg 8 h0
  have e1 := Int.tmod_lt_of_pos op (show (0 : Int) < 8 by decide)
  have hk : op.tmod 8 = 0 ∨ op.tmod 8 = 1 ∨ op.tmod 8 = 2 ∨ op.tmod 8 = 3 ∨ op.tmod 8 = 4 ∨ op.tmod 8 = 5 ∨ op.tmod 8 = 6 ∨ op.tmod 8 = 7 := by omega
  rcases hk with k | k | k | k | k | k | k | k
  · exact law_of ev_p0 (k := 0) k sxB noFacts W h
  · exact law_of ev_p1 (k := 1) k sxB noFacts W h
  · exact law_of ev_p2 (k := 2) k sxB noFacts W h
  · by_cases c0 : b = 0
    · subst c0; exact law_of ev_p3z (k := 3) k .int noFacts W h
    · by_cases c1 : b = -1
      · subst c1; exact law_of ev_p3m (k := 3) k .int quoM W h
      · exact law_of ev_p3 (k := 3) k sxB (general c0 c1) W h
  · by_cases c0 : b = 0
    · subst c0; exact law_of ev_p4z (k := 4) k .int noFacts W h
    · by_cases c1 : b = -1
      · subst c1; exact law_of ev_p4m (k := 4) k .int remM W h
      · exact law_of ev_p4 (k := 4) k sxB (general c0 c1) W h
  · by_cases c : a < b
    · exact law_of ev_p5t (k := 5) k sxB (one ⟨rfl, show decide (a < b) = true by simpa using c⟩) W h
    · exact law_of ev_p5f (k := 5) k sxB (one ⟨rfl, show decide (a < b) = false by simpa using c⟩) W h
  · by_cases c : a ≤ b
    · exact law_of ev_p6t (k := 6) k sxB (one ⟨rfl, show decide (a ≤ b) = true by simpa using c⟩) W h
    · exact law_of ev_p6f (k := 6) k sxB (one ⟨rfl, show decide (a ≤ b) = false by simpa using c⟩) W h
  · by_cases c : a = b
    · exact law_of ev_p7t (k := 7) k sxB (one ⟨rfl, show (a == b) = true by simpa using c⟩) W h
    · exact law_of ev_p7f (k := 7) k sxB (one ⟨rfl, show (a == b) = false by simpa using c⟩) W h

end Go.Proofs.YtogaadmkgamhpaaGreatDoor
