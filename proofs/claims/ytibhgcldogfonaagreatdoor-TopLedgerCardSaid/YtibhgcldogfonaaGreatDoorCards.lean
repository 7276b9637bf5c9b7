/-
  DERIVED. GIVEN WITH THE SEED: THE CARDS: each row of YtibhgcldogfonaaGreatDoorRows.lean that lists a variable, with what it lists TIED to the program's text (the seventh form; the later family's looks); each row that meets fmt, with fmt's text TOLD by the authors' own Lean function (tested against real Go, not proved from fmt's source: count such statements apart). THE CARD IS WHAT COUNTS. Prove the row's statement (the work); the ties are given (YtibhgcldogfonaaGreatDoorTie.lean); close each card by the builder's one call (the guide's Derived/Test/ToyasCard.lean, 'card_holds'). Laid BY PROGRAM, IN A SANDBOX (cutbox-door.mjs). By AI agents, Wed Nov 11 2026. No macro, syntax, notation, axiom, sorry.
-/
import Derived.Test.YtibhgcldogfonaaGreatDoorRows
import GoSem.ClaimSeven
namespace Go.Proofs.YtibhgcldogfonaaGreatDoor
namespace Rows

/-- THE TIED CARD OF 'gridhalltop.TopLedger'. -/
def topLedgerCard : Claim7 := { stood := { row := topLedgerRow, standIns := [], harness := (true, "99b094462a34ce32c8b3d14160380f92643ee2358fa363e79bce2bca2748e986"), looks := true }, kinds := [], alts := [], laidByText := true, laidKinds := [.data, .data, .data, .data, .sentinel, .sentinel, .pinned], laidTests := true, laidLooks := .later }
def TopLedgerCardSaid : Prop := Claim7.holds Tryz.pinned (.plain (OpenSpec.ofChange topLedgerSpec)) topLedgerCard

/-- THE SECOND FORM's CARD OF 'gridhalltop.TopLedger'. -/
def topLedgerUptoCard : Claim7 := { stood := { row := topLedgerUptoRow, standIns := [], harness := (true, "99b094462a34ce32c8b3d14160380f92643ee2358fa363e79bce2bca2748e986"), looks := true }, kinds := [], alts := [], laidByText := true, laidKinds := [.data, .data, .data, .data, .sentinel, .sentinel, .pinned], laidTests := true, laidLooks := .later }
def TopLedgerUptoCardSaid : Prop := Claim7.holds Tryz.pinned (.plain (OpenSpec.upto topLedgerSpec)) topLedgerUptoCard
end Rows
end Go.Proofs.YtibhgcldogfonaaGreatDoor
