/-
  DERIVED. GIVEN WITH THE SEED: THE CARDS: each row of YtogaadmkgamhpaaGreatDoorRows.lean that lists a variable, with what it lists TIED to the program's text (the seventh form; the later family's looks); each row that meets fmt, with fmt's text TOLD by the authors' own Lean function (tested against real Go, not proved from fmt's source: count such statements apart). THE CARD IS WHAT COUNTS. Prove the row's statement (the work); the ties are given (YtogaadmkgamhpaaGreatDoorTie.lean); close each card by the builder's one call (the guide's Derived/Test/ToyasCard.lean, 'card_holds'). Laid BY PROGRAM, IN A SANDBOX (cutbox-door.mjs). By AI agents, Wed Nov 11 2026. No macro, syntax, notation, axiom, sorry.
-/
import Derived.Test.YtogaadmkgamhpaaGreatDoorRows
import GoSem.ClaimSeven
namespace Go.Proofs.YtogaadmkgamhpaaGreatDoor
namespace Rows

/-- THE TIED CARD OF 'cellarerlaw42.KnownPrims'. -/
def knownPrimsCard : Claim7 := { stood := { row := knownPrimsRow, standIns := [], harness := (true, "e814c500ac21cb2c5ca4ec9e4f0369191d7448e67def97ea728483d7dc4869e3"), looks := true }, kinds := [], alts := [], laidByText := true, laidKinds := [.data, .data, .data, .data, .sentinel, .sentinel, .pinned], laidTests := true, laidLooks := .later }
def KnownPrimsCardSaid : Prop := Claim7.holds Tryz.pinned (.plain (OpenSpec.ofChange knownPrimsSpec)) knownPrimsCard

/-- THE SECOND FORM's CARD OF 'cellarerlaw42.KnownPrims'. -/
def knownPrimsUptoCard : Claim7 := { stood := { row := knownPrimsUptoRow, standIns := [], harness := (true, "e814c500ac21cb2c5ca4ec9e4f0369191d7448e67def97ea728483d7dc4869e3"), looks := true }, kinds := [], alts := [], laidByText := true, laidKinds := [.data, .data, .data, .data, .sentinel, .sentinel, .pinned], laidTests := true, laidLooks := .later }
def KnownPrimsUptoCardSaid : Prop := Claim7.holds Tryz.pinned (.plain (OpenSpec.upto knownPrimsSpec)) knownPrimsUptoCard
end Rows
end Go.Proofs.YtogaadmkgamhpaaGreatDoor
