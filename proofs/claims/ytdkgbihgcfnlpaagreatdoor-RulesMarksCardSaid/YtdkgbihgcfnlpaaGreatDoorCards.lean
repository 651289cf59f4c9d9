/-
  DERIVED. GIVEN WITH THE SEED: THE CARDS: each row of YtdkgbihgcfnlpaaGreatDoorRows.lean that lists a variable, with what it lists TIED to the program's text (the seventh form; the later family's looks); each row that meets fmt, with fmt's text TOLD by the authors' own Lean function (tested against real Go, not proved from fmt's source: count such statements apart). THE CARD IS WHAT COUNTS. Prove the row's statement (the work); the ties are given (YtdkgbihgcfnlpaaGreatDoorTie.lean); close each card by the builder's one call (the guide's Derived/Test/ToyasCard.lean, 'card_holds'). Laid BY PROGRAM, IN A SANDBOX (cutbox-door.mjs). By AI agents, Wed Nov 11 2026. No macro, syntax, notation, axiom, sorry.
-/
import Derived.Test.YtdkgbihgcfnlpaaGreatDoorRows
import GoSem.ClaimSeven
namespace Go.Proofs.YtdkgbihgcfnlpaaGreatDoor
namespace Rows

/-- THE TIED CARD OF 'cellarerlaw34.RulesMarks'. -/
def rulesMarksCard : Claim7 := { stood := { row := rulesMarksRow, standIns := [], harness := (true, "177c017b95dd19947f0d6c7f679f69b891417fed9045f07bd3bc7444fb6c9acf"), looks := false }, kinds := [], alts := [], laidByText := true, laidKinds := [.data, .data, .data, .data, .pinned], laidTests := true, laidLooks := .later }
def RulesMarksCardSaid : Prop := Claim7.holds Tryz.pinned (.plain (OpenSpec.ofChange rulesMarksSpec)) rulesMarksCard

/-- THE SECOND FORM's CARD OF 'cellarerlaw34.RulesMarks'. -/
def rulesMarksUptoCard : Claim7 := { stood := { row := rulesMarksUptoRow, standIns := [], harness := (true, "177c017b95dd19947f0d6c7f679f69b891417fed9045f07bd3bc7444fb6c9acf"), looks := false }, kinds := [], alts := [], laidByText := true, laidKinds := [.data, .data, .data, .data, .pinned], laidTests := true, laidLooks := .later }
def RulesMarksUptoCardSaid : Prop := Claim7.holds Tryz.pinned (.plain (OpenSpec.upto rulesMarksSpec)) rulesMarksUptoCard
end Rows
end Go.Proofs.YtdkgbihgcfnlpaaGreatDoor
