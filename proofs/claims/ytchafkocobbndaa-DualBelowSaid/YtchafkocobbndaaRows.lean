/-
  No cell of these rows narrows 'for every input' (looked for: loops, veiled, ifaces, maps, wideKeys, modest, calm, conditions, laid).
  DERIVED. THE GIVEN ROWS OF THIS SEAT. 6 by the template 'for every input the law returns true; each argument reads behind the call as it read before'; 0 by the template 'total and deterministic' (their statements: YtchafkocobbndaaTotals.lean).
  GIVEN WITH THE SEED: the statements are not yours to turn. If you find one false, say at which input.
  Laid BY PROGRAM, IN A SANDBOX (cutbox-rows.mjs): the forced cells as the released guide's own fill.sh prints them over the translation 4c5b8faa9c3cd9af… (all of the seat's roots in one cut). By AI agents, Wed Nov 11 2026. No macro, syntax, notation, axiom, sorry.
-/
import Derived.Test.YtchafkocobbndaaChecked
import GoSem.Claim
import GoSem.ClaimJoined
import GoSem.ClaimMapViews
import Derived.JoinedTies
import Derived.KernelRfl
namespace Go.Proofs.Ytchafkocobbndaa
/- THE CELL 'sum', in the pinned program and in every row, IS THE sha256 OF THE DUMP (.gsa) THAT YtchafkocobbndaaProg.lean LOADS. Nothing in Lean hashes anything: it is a label: what it is worth is what the hold of that sum in a sandbox is worth. -/
noncomputable def Try.pinned : Pinned := { name := "ytchafkocobbndaa", sum := "4c5b8faa9c3cd9afb7837da8319b3dcfa78e9859d7f9b1655d7355d3254eb622", checked := Try.checked }
namespace Rows
def none {H : Type} : Left H := { results := [], args := [] }

/-- 'gridhallkeep3.DualSteps': WHATEVER THE INPUT: true; the input reads as it did. -/
def dualStepsSpec : ChangeSpec := { name := "dualSteps", fn := fun _ => fun
  | [d1, d2, d3, d4] => { results := [.lit (.bool true)], args := [d1, d2, d3, d4] }
  | _ => none }
def dualStepsRow : OpenClaim := { program := "ytchafkocobbndaa", sum := "4c5b8faa9c3cd9afb7837da8319b3dcfa78e9859d7f9b1655d7355d3254eb622", func := "gridhall/gridhallkeep3.DualSteps", spec := "dualSteps", unfollowed := true, recurses := true, plainKeys := false, apart := false }
def DualStepsSaid : Prop := dualStepsRow.holds Try.pinned (OpenSpec.ofChange dualStepsSpec)

/-- ITS FALSE NEIGHBOUR: 'it returns false'. Refute it at one input. -/
def dualStepsWrong : ChangeSpec := { name := "dualSteps", fn := fun _ => fun
  | [d1, d2, d3, d4] => { results := [.lit (.bool false)], args := [d1, d2, d3, d4] }
  | _ => none }
def DualStepsWrongFalsely : Prop := dualStepsRow.holds Try.pinned (OpenSpec.ofChange dualStepsWrong)

/-- 'gridhallkeep3.CommitMore': WHATEVER THE INPUT: true; the input reads as it did. -/
def commitMoreSpec : ChangeSpec := { name := "commitMore", fn := fun _ => fun
  | [d1, d2] => { results := [.lit (.bool true)], args := [d1, d2] }
  | _ => none }
def commitMoreRow : OpenClaim := { program := "ytchafkocobbndaa", sum := "4c5b8faa9c3cd9afb7837da8319b3dcfa78e9859d7f9b1655d7355d3254eb622", func := "gridhall/gridhallkeep3.CommitMore", spec := "commitMore", unfollowed := true, recurses := true, plainKeys := false, apart := false }
def CommitMoreSaid : Prop := commitMoreRow.holds Try.pinned (OpenSpec.ofChange commitMoreSpec)

/-- ITS FALSE NEIGHBOUR: 'it returns false'. Refute it at one input. -/
def commitMoreWrong : ChangeSpec := { name := "commitMore", fn := fun _ => fun
  | [d1, d2] => { results := [.lit (.bool false)], args := [d1, d2] }
  | _ => none }
def CommitMoreWrongFalsely : Prop := commitMoreRow.holds Try.pinned (OpenSpec.ofChange commitMoreWrong)

/-- 'gridhallkeep3.CommitKept': WHATEVER THE INPUT: true; the input reads as it did. -/
def commitKeptSpec : ChangeSpec := { name := "commitKept", fn := fun _ => fun
  | [d1, d2, d3] => { results := [.lit (.bool true)], args := [d1, d2, d3] }
  | _ => none }
def commitKeptRow : OpenClaim := { program := "ytchafkocobbndaa", sum := "4c5b8faa9c3cd9afb7837da8319b3dcfa78e9859d7f9b1655d7355d3254eb622", func := "gridhall/gridhallkeep3.CommitKept", spec := "commitKept", unfollowed := true, recurses := true, plainKeys := false, apart := false }
def CommitKeptSaid : Prop := commitKeptRow.holds Try.pinned (OpenSpec.ofChange commitKeptSpec)

/-- ITS FALSE NEIGHBOUR: 'it returns false'. Refute it at one input. -/
def commitKeptWrong : ChangeSpec := { name := "commitKept", fn := fun _ => fun
  | [d1, d2, d3] => { results := [.lit (.bool false)], args := [d1, d2, d3] }
  | _ => none }
def CommitKeptWrongFalsely : Prop := commitKeptRow.holds Try.pinned (OpenSpec.ofChange commitKeptWrong)

/-- 'gridhallkeep3.DualBelow': WHATEVER THE INPUT: true; the input reads as it did. -/
def dualBelowSpec : ChangeSpec := { name := "dualBelow", fn := fun _ => fun
  | [d1, d2, d3, d4] => { results := [.lit (.bool true)], args := [d1, d2, d3, d4] }
  | _ => none }
def dualBelowRow : OpenClaim := { program := "ytchafkocobbndaa", sum := "4c5b8faa9c3cd9afb7837da8319b3dcfa78e9859d7f9b1655d7355d3254eb622", func := "gridhall/gridhallkeep3.DualBelow", spec := "dualBelow", unfollowed := true, recurses := true, plainKeys := false, apart := false }
def DualBelowSaid : Prop := dualBelowRow.holds Try.pinned (OpenSpec.ofChange dualBelowSpec)

/-- ITS FALSE NEIGHBOUR: 'it returns false'. Refute it at one input. -/
def dualBelowWrong : ChangeSpec := { name := "dualBelow", fn := fun _ => fun
  | [d1, d2, d3, d4] => { results := [.lit (.bool false)], args := [d1, d2, d3, d4] }
  | _ => none }
def DualBelowWrongFalsely : Prop := dualBelowRow.holds Try.pinned (OpenSpec.ofChange dualBelowWrong)

/-- 'gridhallkeep3.RampKept': WHATEVER THE INPUT: true; the input reads as it did. -/
def rampKeptSpec : ChangeSpec := { name := "rampKept", fn := fun _ => fun
  | [d1, d2, d3, d4, d5, d6] => { results := [.lit (.bool true)], args := [d1, d2, d3, d4, d5, d6] }
  | _ => none }
def rampKeptRow : OpenClaim := { program := "ytchafkocobbndaa", sum := "4c5b8faa9c3cd9afb7837da8319b3dcfa78e9859d7f9b1655d7355d3254eb622", func := "gridhall/gridhallkeep3.RampKept", spec := "rampKept", unfollowed := true, recurses := true, plainKeys := false, apart := false }
def RampKeptSaid : Prop := rampKeptRow.holds Try.pinned (OpenSpec.ofChange rampKeptSpec)

/-- ITS FALSE NEIGHBOUR: 'it returns false'. Refute it at one input. -/
def rampKeptWrong : ChangeSpec := { name := "rampKept", fn := fun _ => fun
  | [d1, d2, d3, d4, d5, d6] => { results := [.lit (.bool false)], args := [d1, d2, d3, d4, d5, d6] }
  | _ => none }
def RampKeptWrongFalsely : Prop := rampKeptRow.holds Try.pinned (OpenSpec.ofChange rampKeptWrong)

/-- 'gridhallkeep3.RampWithin': WHATEVER THE INPUT: true; the input reads as it did. -/
def rampWithinSpec : ChangeSpec := { name := "rampWithin", fn := fun _ => fun
  | [d1, d2, d3, d4, d5] => { results := [.lit (.bool true)], args := [d1, d2, d3, d4, d5] }
  | _ => none }
def rampWithinRow : OpenClaim := { program := "ytchafkocobbndaa", sum := "4c5b8faa9c3cd9afb7837da8319b3dcfa78e9859d7f9b1655d7355d3254eb622", func := "gridhall/gridhallkeep3.RampWithin", spec := "rampWithin", unfollowed := true, recurses := true, plainKeys := false, apart := false }
def RampWithinSaid : Prop := rampWithinRow.holds Try.pinned (OpenSpec.ofChange rampWithinSpec)

/-- ITS FALSE NEIGHBOUR: 'it returns false'. Refute it at one input. -/
def rampWithinWrong : ChangeSpec := { name := "rampWithin", fn := fun _ => fun
  | [d1, d2, d3, d4, d5] => { results := [.lit (.bool false)], args := [d1, d2, d3, d4, d5] }
  | _ => none }
def RampWithinWrongFalsely : Prop := rampWithinRow.holds Try.pinned (OpenSpec.ofChange rampWithinWrong)

/- THE SECOND FORM. 'bulk': how many values and letters a reading holds, each counted each time it is reached (what is shared counts as often as it is met; a slice's spare places count too). A statement '..UptoSaid' is the law's where the arguments, and the package variables that the reading takes, are together of bulk at most 1048576: NARROWER than '..Said'. Prove '..Said' where nothing that the law and all that it calls make is longer than what came in: it says more and counts as full. Else prove '..UptoSaid'. A law counts once. -/
mutual
def uptoBulk {H : Type} : DataW H → Nat
  | .lit (.string bytes) => bytes.length + 1
  | .lit _ => 1
  | .nil => 1
  | .ptr d => uptoBulk d + 1
  | .slice elems spare => uptoBulkAll elems + uptoBulkAll spare + 1
  | .agg parts => uptoBulkAll parts + 1
  | .iface _ d => uptoBulk d + 1
  | .map entries => uptoBulkEntries entries + 1
  | .held _ => 1
def uptoBulkAll {H : Type} : List (DataW H) → Nat
  | [] => 0
  | d :: r => uptoBulk d + uptoBulkAll r
def uptoBulkEntries {H : Type} : List (Lit × DataW H) → Nat
  | [] => 0
  | x :: r => uptoBulkEntry x + uptoBulkEntries r
def uptoBulkEntry {H : Type} : Lit × DataW H → Nat
  | (.string bytes, d) => bytes.length + uptoBulk d + 1
  | (_, d) => uptoBulk d + 1
 end
def uptoSmall : (H : Type) → List (DataW H) → Bool := fun _ ds => decide (uptoBulkAll ds ≤ 1048576)
def OpenSpec.upto (s : _root_.Go.ChangeSpec) : _root_.Go.OpenSpec := { _root_.Go.OpenSpec.ofChange s with cond := some uptoSmall }

/-- 'gridhallkeep3.DualSteps', WHERE WHAT IT READS IS OF BULK AT MOST 1048576: true; the input reads as it did. -/
def dualStepsUptoRow : OpenClaim := { program := "ytchafkocobbndaa", sum := "4c5b8faa9c3cd9afb7837da8319b3dcfa78e9859d7f9b1655d7355d3254eb622", func := "gridhall/gridhallkeep3.DualSteps", spec := "dualSteps", unfollowed := true, recurses := true, plainKeys := false, apart := false, narrowed := true }
def DualStepsUptoSaid : Prop := dualStepsUptoRow.holds Try.pinned (OpenSpec.upto dualStepsSpec)

/-- 'gridhallkeep3.CommitMore', WHERE WHAT IT READS IS OF BULK AT MOST 1048576: true; the input reads as it did. -/
def commitMoreUptoRow : OpenClaim := { program := "ytchafkocobbndaa", sum := "4c5b8faa9c3cd9afb7837da8319b3dcfa78e9859d7f9b1655d7355d3254eb622", func := "gridhall/gridhallkeep3.CommitMore", spec := "commitMore", unfollowed := true, recurses := true, plainKeys := false, apart := false, narrowed := true }
def CommitMoreUptoSaid : Prop := commitMoreUptoRow.holds Try.pinned (OpenSpec.upto commitMoreSpec)

/-- 'gridhallkeep3.CommitKept', WHERE WHAT IT READS IS OF BULK AT MOST 1048576: true; the input reads as it did. -/
def commitKeptUptoRow : OpenClaim := { program := "ytchafkocobbndaa", sum := "4c5b8faa9c3cd9afb7837da8319b3dcfa78e9859d7f9b1655d7355d3254eb622", func := "gridhall/gridhallkeep3.CommitKept", spec := "commitKept", unfollowed := true, recurses := true, plainKeys := false, apart := false, narrowed := true }
def CommitKeptUptoSaid : Prop := commitKeptUptoRow.holds Try.pinned (OpenSpec.upto commitKeptSpec)

/-- 'gridhallkeep3.DualBelow', WHERE WHAT IT READS IS OF BULK AT MOST 1048576: true; the input reads as it did. -/
def dualBelowUptoRow : OpenClaim := { program := "ytchafkocobbndaa", sum := "4c5b8faa9c3cd9afb7837da8319b3dcfa78e9859d7f9b1655d7355d3254eb622", func := "gridhall/gridhallkeep3.DualBelow", spec := "dualBelow", unfollowed := true, recurses := true, plainKeys := false, apart := false, narrowed := true }
def DualBelowUptoSaid : Prop := dualBelowUptoRow.holds Try.pinned (OpenSpec.upto dualBelowSpec)

/-- 'gridhallkeep3.RampKept', WHERE WHAT IT READS IS OF BULK AT MOST 1048576: true; the input reads as it did. -/
def rampKeptUptoRow : OpenClaim := { program := "ytchafkocobbndaa", sum := "4c5b8faa9c3cd9afb7837da8319b3dcfa78e9859d7f9b1655d7355d3254eb622", func := "gridhall/gridhallkeep3.RampKept", spec := "rampKept", unfollowed := true, recurses := true, plainKeys := false, apart := false, narrowed := true }
def RampKeptUptoSaid : Prop := rampKeptUptoRow.holds Try.pinned (OpenSpec.upto rampKeptSpec)

/-- 'gridhallkeep3.RampWithin', WHERE WHAT IT READS IS OF BULK AT MOST 1048576: true; the input reads as it did. -/
def rampWithinUptoRow : OpenClaim := { program := "ytchafkocobbndaa", sum := "4c5b8faa9c3cd9afb7837da8319b3dcfa78e9859d7f9b1655d7355d3254eb622", func := "gridhall/gridhallkeep3.RampWithin", spec := "rampWithin", unfollowed := true, recurses := true, plainKeys := false, apart := false, narrowed := true }
def RampWithinUptoSaid : Prop := rampWithinUptoRow.holds Try.pinned (OpenSpec.upto rampWithinSpec)

end Rows
end Go.Proofs.Ytchafkocobbndaa
