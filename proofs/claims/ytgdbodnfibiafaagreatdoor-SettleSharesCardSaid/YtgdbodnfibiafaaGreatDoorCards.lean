/-
  DERIVED. GIVEN WITH THE SEED: THE CARDS: each row of YtgdbodnfibiafaaGreatDoorRows.lean that lists a variable, with what it lists TIED to the program's text (the seventh form; the later family's looks); each row that meets fmt, with fmt's text TOLD by the authors' own Lean function (tested against real Go, not proved from fmt's source: count such statements apart). THE CARD IS WHAT COUNTS. Prove the row's statement (the work); the ties are given (YtgdbodnfibiafaaGreatDoorTie.lean); close each card by the builder's one call (the guide's Derived/Test/ToyasCard.lean, 'card_holds'). Laid BY PROGRAM, IN A SANDBOX (cutbox-door.mjs). By AI agents, Wed Nov 11 2026. No macro, syntax, notation, axiom, sorry.
-/
import Derived.Test.YtgdbodnfibiafaaGreatDoorRows
import GoSem.ClaimSeven
namespace Go.Proofs.YtgdbodnfibiafaaGreatDoor
namespace Rows

/-- THE TIED CARD OF 'gridhallkeep3.SettleKept'. -/
def settleKeptCard : Claim7 := { stood := { row := settleKeptRow, standIns := [], harness := (true, "ab884554a5c42f7a185d9a15b30773de8e4b6fb29f0c550cbf9d40aff3e24882"), looks := true }, kinds := [], alts := [], laidByText := true, laidKinds := [.data, .data, .data, .sentinel, .sentinel], laidTests := true, laidLooks := .later }
def SettleKeptCardSaid : Prop := Claim7.holds Tryz.pinned (.plain (OpenSpec.ofChange settleKeptSpec)) settleKeptCard

/-- THE TIED CARD OF 'gridhallkeep3.SettleShares'. -/
def settleSharesCard : Claim7 := { stood := { row := settleSharesRow, standIns := [], harness := (true, "ab884554a5c42f7a185d9a15b30773de8e4b6fb29f0c550cbf9d40aff3e24882"), looks := true }, kinds := [], alts := [], laidByText := true, laidKinds := [.data, .data, .data, .sentinel, .sentinel], laidTests := true, laidLooks := .later }
def SettleSharesCardSaid : Prop := Claim7.holds Tryz.pinned (.plain (OpenSpec.ofChange settleSharesSpec)) settleSharesCard

/-- THE SECOND FORM's CARD OF 'gridhallkeep3.SettleKept'. -/
def settleKeptUptoCard : Claim7 := { stood := { row := settleKeptUptoRow, standIns := [], harness := (true, "ab884554a5c42f7a185d9a15b30773de8e4b6fb29f0c550cbf9d40aff3e24882"), looks := true }, kinds := [], alts := [], laidByText := true, laidKinds := [.data, .data, .data, .sentinel, .sentinel], laidTests := true, laidLooks := .later }
def SettleKeptUptoCardSaid : Prop := Claim7.holds Tryz.pinned (.plain (OpenSpec.upto settleKeptSpec)) settleKeptUptoCard

/-- THE SECOND FORM's CARD OF 'gridhallkeep3.SettleShares'. -/
def settleSharesUptoCard : Claim7 := { stood := { row := settleSharesUptoRow, standIns := [], harness := (true, "ab884554a5c42f7a185d9a15b30773de8e4b6fb29f0c550cbf9d40aff3e24882"), looks := true }, kinds := [], alts := [], laidByText := true, laidKinds := [.data, .data, .data, .sentinel, .sentinel], laidTests := true, laidLooks := .later }
def SettleSharesUptoCardSaid : Prop := Claim7.holds Tryz.pinned (.plain (OpenSpec.upto settleSharesSpec)) settleSharesUptoCard
end Rows
end Go.Proofs.YtgdbodnfibiafaaGreatDoor
