/- PROVED: the tied card of cellarerlaw25.ScopeFollows: for every list of tables the law returns true, and its argument reads afterwards as before. Conditions: the package-level variables that the row lists start as the program's text lays them (the card ties them); nothing else is asked. -/
import Derived.Test.YtdmjlimmllhhoaaGreatDoorProofsF
import Derived.Test.YtdmjlimmllhhoaaGreatDoorTie
import Derived.Test.YtdmjlimmllhhoaaGreatDoorCards
import Derived.SevenTiedAt
namespace Go.Proofs.YtdmjlimmllhhoaaGreatDoor
open Go

theorem scopeFollowsCard_holds : Rows.ScopeFollowsCardSaid :=
  Claim7.holds_tied_plain_at .later [] [.data, .data, .data, .sentinel, .sentinel] true (true, "606e16e3e5840170674a04c83898772441e63a9bb8da3d0e5e0e620b6c55024c") true
    scopeFollows_holds (fun _ h => by cases h) (by kernel_rfl) (fun _ h => by cases h) scopeFollows_row_tie rfl ⟨rfl, rfl⟩ (by kernel_rfl) rfl
    (fun f fn hf hfn => by
      obtain rfl : f = 4 := Option.some.inj ((show Tryz.prog.funcNamed "cellarer/cellarerlaw25.ScopeFollows" = some 4 by kernel_rfl).symm.trans hf) |>.symm
      obtain rfl : fn = Tryz.f4 := (Option.some.inj (Tryz.func4.symm.trans hfn)).symm
      exact ⟨by kernel_rfl, fun j t ht => by
        rw [Tryz.params4] at ht
        have h3 : t = 22 := by
          rcases j with _ | j
          · simpa using ht.symm
          · simp at ht
        subst h3
        exact (show Tryz.prog.wantsStandIn 22 = false by kernel_rfl)⟩)
    (by kernel_rfl)
#print axioms scopeFollowsCard_holds
end Go.Proofs.YtdmjlimmllhhoaaGreatDoor
