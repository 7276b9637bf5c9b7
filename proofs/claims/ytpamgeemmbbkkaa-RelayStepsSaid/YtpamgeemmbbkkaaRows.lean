/-
  No cell of these rows narrows 'for every input' (looked for: loops, veiled, ifaces, maps, wideKeys, modest, calm, conditions, laid).
  DERIVED. THE GIVEN ROWS OF THIS SEAT. 4 by the template 'for every input the law returns true; each argument reads behind the call as it read before'; 0 by the template 'total and deterministic' (their statements: YtpamgeemmbbkkaaTotals.lean).
  GIVEN WITH THE SEED: the statements are not yours to turn. If you find one false, say at which input.
  Laid BY PROGRAM, IN A SANDBOX (cutbox-rows.mjs): the forced cells as the released guide's own fill.sh prints them over the translation 1d9365a948f1a556… (all of the seat's roots in one cut). By AI agents, Wed Nov 11 2026. No macro, syntax, notation, axiom, sorry.
-/
import Derived.Test.YtpamgeemmbbkkaaChecked
import GoSem.Claim
import GoSem.ClaimJoined
import GoSem.ClaimMapViews
import Derived.JoinedTies
import Derived.KernelRfl
namespace Go.Proofs.Ytpamgeemmbbkkaa
/- THE CELL 'sum', in the pinned program and in every row, IS THE sha256 OF THE DUMP (.gsa) THAT YtpamgeemmbbkkaaProg.lean LOADS. Nothing in Lean hashes anything: it is a label: what it is worth is what the hold of that sum in a sandbox is worth. -/
noncomputable def Try.pinned : Pinned := { name := "ytpamgeemmbbkkaa", sum := "1d9365a948f1a556e86222a1e8df8f39cfab9b9ddf227b37716c76ef0b88551b", checked := Try.checked }
namespace Rows
def none {H : Type} : Left H := { results := [], args := [] }

/-- 'gridhalllaw2.ZoneDistances': WHATEVER THE INPUT: true; the input reads as it did. -/
def zoneDistancesSpec : ChangeSpec := { name := "zoneDistances", fn := fun _ => fun
  | [d1, d2, d3] => { results := [.lit (.bool true)], args := [d1, d2, d3] }
  | _ => none }
def zoneDistancesRow : OpenClaim := { program := "ytpamgeemmbbkkaa", sum := "1d9365a948f1a556e86222a1e8df8f39cfab9b9ddf227b37716c76ef0b88551b", func := "gridhall/gridhalllaw2.ZoneDistances", spec := "zoneDistances", unfollowed := true, recurses := true, plainKeys := false, apart := false }
def ZoneDistancesSaid : Prop := zoneDistancesRow.holds Try.pinned (OpenSpec.ofChange zoneDistancesSpec)

/-- ITS FALSE NEIGHBOUR: 'it returns false'. Refute it at one input. -/
def zoneDistancesWrong : ChangeSpec := { name := "zoneDistances", fn := fun _ => fun
  | [d1, d2, d3] => { results := [.lit (.bool false)], args := [d1, d2, d3] }
  | _ => none }
def ZoneDistancesWrongFalsely : Prop := zoneDistancesRow.holds Try.pinned (OpenSpec.ofChange zoneDistancesWrong)

/-- 'gridhalllaw2.ChooseLeast': WHATEVER THE INPUT: true; the input reads as it did. -/
def chooseLeastSpec : ChangeSpec := { name := "chooseLeast", fn := fun _ => fun
  | [d1, d2] => { results := [.lit (.bool true)], args := [d1, d2] }
  | _ => none }
def chooseLeastRow : OpenClaim := { program := "ytpamgeemmbbkkaa", sum := "1d9365a948f1a556e86222a1e8df8f39cfab9b9ddf227b37716c76ef0b88551b", func := "gridhall/gridhalllaw2.ChooseLeast", spec := "chooseLeast", unfollowed := true, recurses := true, plainKeys := false, apart := false }
def ChooseLeastSaid : Prop := chooseLeastRow.holds Try.pinned (OpenSpec.ofChange chooseLeastSpec)

/-- ITS FALSE NEIGHBOUR: 'it returns false'. Refute it at one input. -/
def chooseLeastWrong : ChangeSpec := { name := "chooseLeast", fn := fun _ => fun
  | [d1, d2] => { results := [.lit (.bool false)], args := [d1, d2] }
  | _ => none }
def ChooseLeastWrongFalsely : Prop := chooseLeastRow.holds Try.pinned (OpenSpec.ofChange chooseLeastWrong)

/-- 'gridhalllaw2.ChooseIsolated': WHATEVER THE INPUT: true; the input reads as it did. -/
def chooseIsolatedSpec : ChangeSpec := { name := "chooseIsolated", fn := fun _ => fun
  | [d1, d2, d3] => { results := [.lit (.bool true)], args := [d1, d2, d3] }
  | _ => none }
def chooseIsolatedRow : OpenClaim := { program := "ytpamgeemmbbkkaa", sum := "1d9365a948f1a556e86222a1e8df8f39cfab9b9ddf227b37716c76ef0b88551b", func := "gridhall/gridhalllaw2.ChooseIsolated", spec := "chooseIsolated", unfollowed := true, recurses := true, plainKeys := false, apart := false }
def ChooseIsolatedSaid : Prop := chooseIsolatedRow.holds Try.pinned (OpenSpec.ofChange chooseIsolatedSpec)

/-- ITS FALSE NEIGHBOUR: 'it returns false'. Refute it at one input. -/
def chooseIsolatedWrong : ChangeSpec := { name := "chooseIsolated", fn := fun _ => fun
  | [d1, d2, d3] => { results := [.lit (.bool false)], args := [d1, d2, d3] }
  | _ => none }
def ChooseIsolatedWrongFalsely : Prop := chooseIsolatedRow.holds Try.pinned (OpenSpec.ofChange chooseIsolatedWrong)

/-- 'gridhalllaw2.RelaySteps': WHATEVER THE INPUT: true; the input reads as it did. -/
def relayStepsSpec : ChangeSpec := { name := "relaySteps", fn := fun _ => fun
  | [d1, d2, d3] => { results := [.lit (.bool true)], args := [d1, d2, d3] }
  | _ => none }
def relayStepsRow : OpenClaim := { program := "ytpamgeemmbbkkaa", sum := "1d9365a948f1a556e86222a1e8df8f39cfab9b9ddf227b37716c76ef0b88551b", func := "gridhall/gridhalllaw2.RelaySteps", spec := "relaySteps", unfollowed := true, recurses := true, plainKeys := false, apart := false }
def RelayStepsSaid : Prop := relayStepsRow.holds Try.pinned (OpenSpec.ofChange relayStepsSpec)

/-- ITS FALSE NEIGHBOUR: 'it returns false'. Refute it at one input. -/
def relayStepsWrong : ChangeSpec := { name := "relaySteps", fn := fun _ => fun
  | [d1, d2, d3] => { results := [.lit (.bool false)], args := [d1, d2, d3] }
  | _ => none }
def RelayStepsWrongFalsely : Prop := relayStepsRow.holds Try.pinned (OpenSpec.ofChange relayStepsWrong)

/- THE SECOND FORM. 'bulk': how many values and letters a reading holds, each counted each time it is reached (what is shared counts as often as it is met; a slice's spare places count too). A statement '..UptoSaid' is the law's where the arguments, and the package variables that the reading takes, are together of bulk at most 1048576: NARROWER than '..Said'. Prove '..Said' where nothing that the law and all that it calls make is longer than what came in: it says more and counts as full. Else prove '..UptoSaid'. A law counts once. -/
mutual
def uptoBulk {H : Type} : DataW H → Nat
  | .lit (.string bytes) => bytes.length + 1
  | .lit _ => 1
  | .nil => 1
  | .ptr d => uptoBulk d + 1
  | .slice elems spare => uptoBulkAll elems + uptoBulkAll spare + 1
  | .agg parts => uptoBulkAll parts + 1
  | .iface _ d => uptoBulk d + 1
  | .map entries => uptoBulkEntries entries + 1
  | .held _ => 1
def uptoBulkAll {H : Type} : List (DataW H) → Nat
  | [] => 0
  | d :: r => uptoBulk d + uptoBulkAll r
def uptoBulkEntries {H : Type} : List (Lit × DataW H) → Nat
  | [] => 0
  | x :: r => uptoBulkEntry x + uptoBulkEntries r
def uptoBulkEntry {H : Type} : Lit × DataW H → Nat
  | (.string bytes, d) => bytes.length + uptoBulk d + 1
  | (_, d) => uptoBulk d + 1
 end
def uptoSmall : (H : Type) → List (DataW H) → Bool := fun _ ds => decide (uptoBulkAll ds ≤ 1048576)
def OpenSpec.upto (s : _root_.Go.ChangeSpec) : _root_.Go.OpenSpec := { _root_.Go.OpenSpec.ofChange s with cond := some uptoSmall }

/-- 'gridhalllaw2.ZoneDistances', WHERE WHAT IT READS IS OF BULK AT MOST 1048576: true; the input reads as it did. -/
def zoneDistancesUptoRow : OpenClaim := { program := "ytpamgeemmbbkkaa", sum := "1d9365a948f1a556e86222a1e8df8f39cfab9b9ddf227b37716c76ef0b88551b", func := "gridhall/gridhalllaw2.ZoneDistances", spec := "zoneDistances", unfollowed := true, recurses := true, plainKeys := false, apart := false, narrowed := true }
def ZoneDistancesUptoSaid : Prop := zoneDistancesUptoRow.holds Try.pinned (OpenSpec.upto zoneDistancesSpec)

/-- 'gridhalllaw2.ChooseLeast', WHERE WHAT IT READS IS OF BULK AT MOST 1048576: true; the input reads as it did. -/
def chooseLeastUptoRow : OpenClaim := { program := "ytpamgeemmbbkkaa", sum := "1d9365a948f1a556e86222a1e8df8f39cfab9b9ddf227b37716c76ef0b88551b", func := "gridhall/gridhalllaw2.ChooseLeast", spec := "chooseLeast", unfollowed := true, recurses := true, plainKeys := false, apart := false, narrowed := true }
def ChooseLeastUptoSaid : Prop := chooseLeastUptoRow.holds Try.pinned (OpenSpec.upto chooseLeastSpec)

/-- 'gridhalllaw2.ChooseIsolated', WHERE WHAT IT READS IS OF BULK AT MOST 1048576: true; the input reads as it did. -/
def chooseIsolatedUptoRow : OpenClaim := { program := "ytpamgeemmbbkkaa", sum := "1d9365a948f1a556e86222a1e8df8f39cfab9b9ddf227b37716c76ef0b88551b", func := "gridhall/gridhalllaw2.ChooseIsolated", spec := "chooseIsolated", unfollowed := true, recurses := true, plainKeys := false, apart := false, narrowed := true }
def ChooseIsolatedUptoSaid : Prop := chooseIsolatedUptoRow.holds Try.pinned (OpenSpec.upto chooseIsolatedSpec)

/-- 'gridhalllaw2.RelaySteps', WHERE WHAT IT READS IS OF BULK AT MOST 1048576: true; the input reads as it did. -/
def relayStepsUptoRow : OpenClaim := { program := "ytpamgeemmbbkkaa", sum := "1d9365a948f1a556e86222a1e8df8f39cfab9b9ddf227b37716c76ef0b88551b", func := "gridhall/gridhalllaw2.RelaySteps", spec := "relaySteps", unfollowed := true, recurses := true, plainKeys := false, apart := false, narrowed := true }
def RelayStepsUptoSaid : Prop := relayStepsUptoRow.holds Try.pinned (OpenSpec.upto relayStepsSpec)

end Rows
end Go.Proofs.Ytpamgeemmbbkkaa
