/-
  DERIVED. GIVEN WITH THE SEED: THE CARDS: each row of YtflfbbdapbjaaaaDoorRows.lean that lists a variable, with what it lists TIED to the program's text (the seventh form; the later family's looks); each row that meets fmt, with fmt's text TOLD by the authors' own Lean function (tested against real Go, not proved from fmt's source: count such statements apart). THE CARD IS WHAT COUNTS. Prove the row's statement (the work); the ties are given (YtflfbbdapbjaaaaDoorTie.lean); close each card by the builder's one call (the guide's Derived/Test/ToyasCard.lean, 'card_holds'). Laid BY PROGRAM, IN A SANDBOX (cutbox-door.mjs). By AI agents, Wed Nov 11 2026. No macro, syntax, notation, axiom, sorry.
-/
import Derived.Test.YtflfbbdapbjaaaaDoorRows
import GoSem.ClaimSeven
namespace Go.Proofs.YtflfbbdapbjaaaaDoor
namespace Rows

/-- THE TIED CARD OF 'gridhallkeep3.PriceParts'. -/
def pricePartsCard : Claim7 := { stood := { row := pricePartsRow, standIns := [], harness := (true, "73a06e69f20e3615896a43d12e1e93edf12fba14b38a51ae2c437cc54c122729"), looks := true }, kinds := [], alts := [], laidByText := true, laidKinds := [.data, .data, .data, .sentinel, .sentinel], laidTests := true, laidLooks := .later }
def PricePartsCardSaid : Prop := Claim7.holds Tryd.pinned (.plain (OpenSpec.ofChange pricePartsSpec)) pricePartsCard

/-- THE SECOND FORM's CARD OF 'gridhallkeep3.PriceParts'. -/
def pricePartsUptoCard : Claim7 := { stood := { row := pricePartsUptoRow, standIns := [], harness := (true, "73a06e69f20e3615896a43d12e1e93edf12fba14b38a51ae2c437cc54c122729"), looks := true }, kinds := [], alts := [], laidByText := true, laidKinds := [.data, .data, .data, .sentinel, .sentinel], laidTests := true, laidLooks := .later }
def PricePartsUptoCardSaid : Prop := Claim7.holds Tryd.pinned (.plain (OpenSpec.upto pricePartsSpec)) pricePartsUptoCard
end Rows
end Go.Proofs.YtflfbbdapbjaaaaDoor
