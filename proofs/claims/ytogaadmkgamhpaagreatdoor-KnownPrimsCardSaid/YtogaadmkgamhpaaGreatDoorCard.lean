/- PROVED: the tied card of cellarerlaw42.KnownPrims: for every operation and every two numbers the law returns true, and its arguments read afterwards as before. Conditions: the package-level variables that the row lists start as the program's text lays them (the card ties them); nothing else is asked. -/
import Derived.Test.YtogaadmkgamhpaaGreatDoorProofs
import Derived.Test.YtogaadmkgamhpaaGreatDoorTie
import Derived.Test.YtogaadmkgamhpaaGreatDoorCards
import Derived.SevenTiedAt
namespace Go.Proofs.YtogaadmkgamhpaaGreatDoor
open Go

theorem knownPrimsCard_holds : Rows.KnownPrimsCardSaid :=
  Claim7.holds_tied_plain_at .later [] [.data, .data, .data, .data, .sentinel, .sentinel, .pinned] true (true, "e814c500ac21cb2c5ca4ec9e4f0369191d7448e67def97ea728483d7dc4869e3") true
    knownPrims_holds (fun _ h => by cases h) (by kernel_rfl) (fun _ h => by cases h) knownPrims_row_tie rfl ⟨rfl, rfl⟩ (by kernel_rfl) rfl
    (fun f fn hf hfn => by
      obtain rfl : f = 3 := Option.some.inj ((show Tryz.prog.funcNamed "cellarer/cellarerlaw42.KnownPrims" = some 3 by kernel_rfl).symm.trans hf) |>.symm
      obtain rfl : fn = Tryz.f3 := (Option.some.inj (Tryz.func3.symm.trans hfn)).symm
      exact ⟨by kernel_rfl, fun j t ht => by
        rw [Tryz.params3] at ht
        have h3 : t = 5 ∨ t = 2 := by
          rcases j with _ | _ | _ | j
          · left; simpa using ht.symm
          · right; simpa using ht.symm
          · right; simpa using ht.symm
          · simp at ht
        rcases h3 with rfl | rfl
        · exact (show Tryz.prog.wantsStandIn 5 = false by kernel_rfl)
        · exact (show Tryz.prog.wantsStandIn 2 = false by kernel_rfl)⟩)
    (by kernel_rfl)
#print axioms knownPrimsCard_holds
end Go.Proofs.YtogaadmkgamhpaaGreatDoor
