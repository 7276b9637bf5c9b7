/-
  DERIVED. GIVEN WITH THE SEED: THE CARDS: each row of YtnnfkfimicmboaaDoorRows.lean that lists a variable, with what it lists TIED to the program's text (the seventh form; the later family's looks); each row that meets fmt, with fmt's text TOLD by the authors' own Lean function (tested against real Go, not proved from fmt's source: count such statements apart). THE CARD IS WHAT COUNTS. Prove the row's statement (the work); the ties are given (YtnnfkfimicmboaaDoorTie.lean); close each card by the builder's one call (the guide's Derived/Test/ToyasCard.lean, 'card_holds'). Laid BY PROGRAM, IN A SANDBOX (cutbox-door.mjs). By AI agents, Wed Nov 11 2026. No macro, syntax, notation, axiom, sorry.
-/
import Derived.Test.YtnnfkfimicmboaaDoorRows
import GoSem.ClaimSeven
namespace Go.Proofs.YtnnfkfimicmboaaDoor
namespace Rows

/-- THE TIED CARD OF 'gridhallkeep3.LedgerBack'. -/
def ledgerBackCard : Claim7 := { stood := { row := ledgerBackRow, standIns := [], harness := (true, "0c50d55ef649a67dd9344a814e62bec130e08807e4fed8a7803baddc73db3d38"), looks := true }, kinds := [], alts := [], laidByText := true, laidKinds := [.data, .data, .data, .data, .sentinel, .sentinel, .pinned], laidTests := true, laidLooks := .later }
def LedgerBackCardSaid : Prop := Claim7.holds Tryd.pinned (.plain (OpenSpec.ofChange ledgerBackSpec)) ledgerBackCard

/-- THE TIED CARD OF 'gridhallkeep3.LedgerTorn'. -/
def ledgerTornCard : Claim7 := { stood := { row := ledgerTornRow, standIns := [], harness := (true, "0c50d55ef649a67dd9344a814e62bec130e08807e4fed8a7803baddc73db3d38"), looks := true }, kinds := [], alts := [], laidByText := true, laidKinds := [.data, .data, .data, .data, .sentinel, .sentinel, .pinned], laidTests := true, laidLooks := .later }
def LedgerTornCardSaid : Prop := Claim7.holds Tryd.pinned (.plain (OpenSpec.ofChange ledgerTornSpec)) ledgerTornCard

/-- THE TIED CARD OF 'gridhallkeep3.LedgerZero'. -/
def ledgerZeroCard : Claim7 := { stood := { row := ledgerZeroRow, standIns := [], harness := (true, "0c50d55ef649a67dd9344a814e62bec130e08807e4fed8a7803baddc73db3d38"), looks := true }, kinds := [], alts := [], laidByText := true, laidKinds := [.data, .data, .data, .data, .sentinel, .sentinel, .pinned], laidTests := true, laidLooks := .later }
def LedgerZeroCardSaid : Prop := Claim7.holds Tryd.pinned (.plain (OpenSpec.ofChange ledgerZeroSpec)) ledgerZeroCard

/-- THE TIED CARD OF 'gridhallkeep3.LedgerLimit'. -/
def ledgerLimitCard : Claim7 := { stood := { row := ledgerLimitRow, standIns := [], harness := (true, "0c50d55ef649a67dd9344a814e62bec130e08807e4fed8a7803baddc73db3d38"), looks := true }, kinds := [], alts := [], laidByText := true, laidKinds := [.data, .data, .data, .data, .sentinel, .sentinel, .pinned], laidTests := true, laidLooks := .later }
def LedgerLimitCardSaid : Prop := Claim7.holds Tryd.pinned (.plain (OpenSpec.ofChange ledgerLimitSpec)) ledgerLimitCard

/-- THE SECOND FORM's CARD OF 'gridhallkeep3.LedgerBack'. -/
def ledgerBackUptoCard : Claim7 := { stood := { row := ledgerBackUptoRow, standIns := [], harness := (true, "0c50d55ef649a67dd9344a814e62bec130e08807e4fed8a7803baddc73db3d38"), looks := true }, kinds := [], alts := [], laidByText := true, laidKinds := [.data, .data, .data, .data, .sentinel, .sentinel, .pinned], laidTests := true, laidLooks := .later }
def LedgerBackUptoCardSaid : Prop := Claim7.holds Tryd.pinned (.plain (OpenSpec.upto ledgerBackSpec)) ledgerBackUptoCard

/-- THE SECOND FORM's CARD OF 'gridhallkeep3.LedgerTorn'. -/
def ledgerTornUptoCard : Claim7 := { stood := { row := ledgerTornUptoRow, standIns := [], harness := (true, "0c50d55ef649a67dd9344a814e62bec130e08807e4fed8a7803baddc73db3d38"), looks := true }, kinds := [], alts := [], laidByText := true, laidKinds := [.data, .data, .data, .data, .sentinel, .sentinel, .pinned], laidTests := true, laidLooks := .later }
def LedgerTornUptoCardSaid : Prop := Claim7.holds Tryd.pinned (.plain (OpenSpec.upto ledgerTornSpec)) ledgerTornUptoCard

/-- THE SECOND FORM's CARD OF 'gridhallkeep3.LedgerZero'. -/
def ledgerZeroUptoCard : Claim7 := { stood := { row := ledgerZeroUptoRow, standIns := [], harness := (true, "0c50d55ef649a67dd9344a814e62bec130e08807e4fed8a7803baddc73db3d38"), looks := true }, kinds := [], alts := [], laidByText := true, laidKinds := [.data, .data, .data, .data, .sentinel, .sentinel, .pinned], laidTests := true, laidLooks := .later }
def LedgerZeroUptoCardSaid : Prop := Claim7.holds Tryd.pinned (.plain (OpenSpec.upto ledgerZeroSpec)) ledgerZeroUptoCard

/-- THE SECOND FORM's CARD OF 'gridhallkeep3.LedgerLimit'. -/
def ledgerLimitUptoCard : Claim7 := { stood := { row := ledgerLimitUptoRow, standIns := [], harness := (true, "0c50d55ef649a67dd9344a814e62bec130e08807e4fed8a7803baddc73db3d38"), looks := true }, kinds := [], alts := [], laidByText := true, laidKinds := [.data, .data, .data, .data, .sentinel, .sentinel, .pinned], laidTests := true, laidLooks := .later }
def LedgerLimitUptoCardSaid : Prop := Claim7.holds Tryd.pinned (.plain (OpenSpec.upto ledgerLimitSpec)) ledgerLimitUptoCard
end Rows
end Go.Proofs.YtnnfkfimicmboaaDoor
