/-
  DERIVED. GIVEN WITH THE SEED: THE CARDS: each row of YtdmjlimmllhhoaaGreatDoorRows.lean that lists a variable, with what it lists TIED to the program's text (the seventh form; the later family's looks); each row that meets fmt, with fmt's text TOLD by the authors' own Lean function (tested against real Go, not proved from fmt's source: count such statements apart). THE CARD IS WHAT COUNTS. Prove the row's statement (the work); the ties are given (YtdmjlimmllhhoaaGreatDoorTie.lean); close each card by the builder's one call (the guide's Derived/Test/ToyasCard.lean, 'card_holds'). Laid BY PROGRAM, IN A SANDBOX (cutbox-door.mjs). By AI agents, Wed Nov 11 2026. No macro, syntax, notation, axiom, sorry.
-/
import Derived.Test.YtdmjlimmllhhoaaGreatDoorRows
import GoSem.ClaimSeven
namespace Go.Proofs.YtdmjlimmllhhoaaGreatDoor
namespace Rows

/-- THE TIED CARD OF 'cellarerlaw25.ScopeOrders'. -/
def scopeOrdersCard : Claim7 := { stood := { row := scopeOrdersRow, standIns := [], harness := (true, "606e16e3e5840170674a04c83898772441e63a9bb8da3d0e5e0e620b6c55024c"), looks := true }, kinds := [], alts := [], laidByText := true, laidKinds := [.data, .data, .data, .sentinel, .sentinel], laidTests := true, laidLooks := .later }
def ScopeOrdersCardSaid : Prop := Claim7.holds Tryz.pinned (.plain (OpenSpec.ofChange scopeOrdersSpec)) scopeOrdersCard

/-- THE TIED CARD OF 'cellarerlaw25.ScopeFollows'. -/
def scopeFollowsCard : Claim7 := { stood := { row := scopeFollowsRow, standIns := [], harness := (true, "606e16e3e5840170674a04c83898772441e63a9bb8da3d0e5e0e620b6c55024c"), looks := true }, kinds := [], alts := [], laidByText := true, laidKinds := [.data, .data, .data, .sentinel, .sentinel], laidTests := true, laidLooks := .later }
def ScopeFollowsCardSaid : Prop := Claim7.holds Tryz.pinned (.plain (OpenSpec.ofChange scopeFollowsSpec)) scopeFollowsCard

/-- THE SECOND FORM's CARD OF 'cellarerlaw25.ScopeOrders'. -/
def scopeOrdersUptoCard : Claim7 := { stood := { row := scopeOrdersUptoRow, standIns := [], harness := (true, "606e16e3e5840170674a04c83898772441e63a9bb8da3d0e5e0e620b6c55024c"), looks := true }, kinds := [], alts := [], laidByText := true, laidKinds := [.data, .data, .data, .sentinel, .sentinel], laidTests := true, laidLooks := .later }
def ScopeOrdersUptoCardSaid : Prop := Claim7.holds Tryz.pinned (.plain (OpenSpec.upto scopeOrdersSpec)) scopeOrdersUptoCard

/-- THE SECOND FORM's CARD OF 'cellarerlaw25.ScopeFollows'. -/
def scopeFollowsUptoCard : Claim7 := { stood := { row := scopeFollowsUptoRow, standIns := [], harness := (true, "606e16e3e5840170674a04c83898772441e63a9bb8da3d0e5e0e620b6c55024c"), looks := true }, kinds := [], alts := [], laidByText := true, laidKinds := [.data, .data, .data, .sentinel, .sentinel], laidTests := true, laidLooks := .later }
def ScopeFollowsUptoCardSaid : Prop := Claim7.holds Tryz.pinned (.plain (OpenSpec.upto scopeFollowsSpec)) scopeFollowsUptoCard
end Rows
end Go.Proofs.YtdmjlimmllhhoaaGreatDoor
