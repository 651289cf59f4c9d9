/- PROVED: the tied card of cellarerlaw34.RulesMarks: for every node, rule and mark the law returns true, and its arguments read afterwards as before. Conditions: the package-level variables that the row lists start as the program's text lays them (the card ties them); nothing else is asked. -/
import Derived.Test.YtdkgbihgcfnlpaaGreatDoorProofs
import Derived.Test.YtdkgbihgcfnlpaaGreatDoorTie
import Derived.Test.YtdkgbihgcfnlpaaGreatDoorCards
import Derived.SevenTiedAt
namespace Go.Proofs.YtdkgbihgcfnlpaaGreatDoor
open Go

theorem rulesMarksCard_holds : Rows.RulesMarksCardSaid :=
  Claim7.holds_tied_plain_at .later [] [.data, .data, .data, .data, .pinned] true (true, "177c017b95dd19947f0d6c7f679f69b891417fed9045f07bd3bc7444fb6c9acf") false
    rulesMarks_holds (fun _ h => by cases h) (by kernel_rfl) (fun _ h => by cases h) rulesMarks_row_tie rfl ⟨rfl, rfl⟩ (by kernel_rfl) rfl
    (fun f fn hf hfn => by
      obtain rfl : f = 3 := Option.some.inj ((show Tryz.prog.funcNamed "cellarer/cellarerlaw34.RulesMarks" = some 3 by kernel_rfl).symm.trans hf) |>.symm
      obtain rfl : fn = Tryz.f3 := (Option.some.inj (Tryz.func3.symm.trans hfn)).symm
      exact ⟨by kernel_rfl, fun j t ht => by
        rw [Tryz.params3] at ht
        have h3 : t = 21 := by
          rcases j with _ | _ | _ | j
          · simpa using ht.symm
          · simpa using ht.symm
          · simpa using ht.symm
          · simp at ht
        subst h3
        exact (show Tryz.prog.wantsStandIn 21 = false by kernel_rfl)⟩)
    (by kernel_rfl)
#print axioms rulesMarksCard_holds
end Go.Proofs.YtdkgbihgcfnlpaaGreatDoor
