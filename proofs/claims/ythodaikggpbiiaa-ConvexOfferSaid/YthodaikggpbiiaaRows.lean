/-
  No cell of these rows narrows 'for every input' (looked for: loops, veiled, ifaces, maps, wideKeys, modest, calm, conditions, laid).
  DERIVED. THE GIVEN ROWS OF THIS SEAT. 12 by the template 'for every input the law returns true; each argument reads behind the call as it read before'; 0 by the template 'total and deterministic' (their statements: YthodaikggpbiiaaTotals.lean).
  GIVEN WITH THE SEED: the statements are not yours to turn. If you find one false, say at which input.
  Laid BY PROGRAM, IN A SANDBOX (cutbox-rows.mjs): the forced cells as the released guide's own fill.sh prints them over the translation c80fa403a870c7d9… (all of the seat's roots in one cut). By AI agents, Wed Nov 11 2026. No macro, syntax, notation, axiom, sorry.
-/
import Derived.Test.YthodaikggpbiiaaChecked
import GoSem.Claim
import GoSem.ClaimJoined
import GoSem.ClaimMapViews
import Derived.JoinedTies
import Derived.KernelRfl
namespace Go.Proofs.Ythodaikggpbiiaa
/- THE CELL 'sum', in the pinned program and in every row, IS THE sha256 OF THE DUMP (.gsa) THAT YthodaikggpbiiaaProg.lean LOADS. Nothing in Lean hashes anything: it is a label: what it is worth is what the hold of that sum in a sandbox is worth. -/
noncomputable def Try.pinned : Pinned := { name := "ythodaikggpbiiaa", sum := "c80fa403a870c7d944c986a7f1388cce2c2a385b1c56790b48d8f0de71cf0df9", checked := Try.checked }
namespace Rows
def none {H : Type} : Left H := { results := [], args := [] }

/-- 'gridhallkeep3.HoursErrors': WHATEVER THE INPUT: true; the input reads as it did. -/
def hoursErrorsSpec : ChangeSpec := { name := "hoursErrors", fn := fun _ => fun
  | [d1, d2] => { results := [.lit (.bool true)], args := [d1, d2] }
  | _ => none }
def hoursErrorsRow : OpenClaim := { program := "ythodaikggpbiiaa", sum := "c80fa403a870c7d944c986a7f1388cce2c2a385b1c56790b48d8f0de71cf0df9", func := "gridhall/gridhallkeep3.HoursErrors", spec := "hoursErrors", unfollowed := true, recurses := true, apart := false }
def HoursErrorsSaid : Prop := hoursErrorsRow.holds Try.pinned (OpenSpec.ofChange hoursErrorsSpec)

/-- ITS FALSE NEIGHBOUR: 'it returns false'. Refute it at one input. -/
def hoursErrorsWrong : ChangeSpec := { name := "hoursErrors", fn := fun _ => fun
  | [d1, d2] => { results := [.lit (.bool false)], args := [d1, d2] }
  | _ => none }
def HoursErrorsWrongFalsely : Prop := hoursErrorsRow.holds Try.pinned (OpenSpec.ofChange hoursErrorsWrong)

/-- 'gridhallkeep3.ConvexLeast': WHATEVER THE INPUT: true; the input reads as it did. -/
def convexLeastSpec : ChangeSpec := { name := "convexLeast", fn := fun _ => fun
  | [d1, d2] => { results := [.lit (.bool true)], args := [d1, d2] }
  | _ => none }
def convexLeastRow : OpenClaim := { program := "ythodaikggpbiiaa", sum := "c80fa403a870c7d944c986a7f1388cce2c2a385b1c56790b48d8f0de71cf0df9", func := "gridhall/gridhallkeep3.ConvexLeast", spec := "convexLeast", apart := false }
def ConvexLeastSaid : Prop := convexLeastRow.holds Try.pinned (OpenSpec.ofChange convexLeastSpec)

/-- ITS FALSE NEIGHBOUR: 'it returns false'. Refute it at one input. -/
def convexLeastWrong : ChangeSpec := { name := "convexLeast", fn := fun _ => fun
  | [d1, d2] => { results := [.lit (.bool false)], args := [d1, d2] }
  | _ => none }
def ConvexLeastWrongFalsely : Prop := convexLeastRow.holds Try.pinned (OpenSpec.ofChange convexLeastWrong)

/-- 'gridhallkeep3.UnitValid': WHATEVER THE INPUT: true; the input reads as it did. -/
def unitValidSpec : ChangeSpec := { name := "unitValid", fn := fun _ => fun
  | [d1, d2, d3] => { results := [.lit (.bool true)], args := [d1, d2, d3] }
  | _ => none }
def unitValidRow : OpenClaim := { program := "ythodaikggpbiiaa", sum := "c80fa403a870c7d944c986a7f1388cce2c2a385b1c56790b48d8f0de71cf0df9", func := "gridhall/gridhallkeep3.UnitValid", spec := "unitValid", apart := false }
def UnitValidSaid : Prop := unitValidRow.holds Try.pinned (OpenSpec.ofChange unitValidSpec)

/-- ITS FALSE NEIGHBOUR: 'it returns false'. Refute it at one input. -/
def unitValidWrong : ChangeSpec := { name := "unitValid", fn := fun _ => fun
  | [d1, d2, d3] => { results := [.lit (.bool false)], args := [d1, d2, d3] }
  | _ => none }
def UnitValidWrongFalsely : Prop := unitValidRow.holds Try.pinned (OpenSpec.ofChange unitValidWrong)

/-- 'gridhallkeep3.UnitStays': WHATEVER THE INPUT: true; the input reads as it did. -/
def unitStaysSpec : ChangeSpec := { name := "unitStays", fn := fun _ => fun
  | [d1, d2, d3] => { results := [.lit (.bool true)], args := [d1, d2, d3] }
  | _ => none }
def unitStaysRow : OpenClaim := { program := "ythodaikggpbiiaa", sum := "c80fa403a870c7d944c986a7f1388cce2c2a385b1c56790b48d8f0de71cf0df9", func := "gridhall/gridhallkeep3.UnitStays", spec := "unitStays", apart := false }
def UnitStaysSaid : Prop := unitStaysRow.holds Try.pinned (OpenSpec.ofChange unitStaysSpec)

/-- ITS FALSE NEIGHBOUR: 'it returns false'. Refute it at one input. -/
def unitStaysWrong : ChangeSpec := { name := "unitStays", fn := fun _ => fun
  | [d1, d2, d3] => { results := [.lit (.bool false)], args := [d1, d2, d3] }
  | _ => none }
def UnitStaysWrongFalsely : Prop := unitStaysRow.holds Try.pinned (OpenSpec.ofChange unitStaysWrong)

/-- 'gridhallkeep3.UnitStarts': WHATEVER THE INPUT: true; the input reads as it did. -/
def unitStartsSpec : ChangeSpec := { name := "unitStarts", fn := fun _ => fun
  | [d1, d2, d3] => { results := [.lit (.bool true)], args := [d1, d2, d3] }
  | _ => none }
def unitStartsRow : OpenClaim := { program := "ythodaikggpbiiaa", sum := "c80fa403a870c7d944c986a7f1388cce2c2a385b1c56790b48d8f0de71cf0df9", func := "gridhall/gridhallkeep3.UnitStarts", spec := "unitStarts", apart := false }
def UnitStartsSaid : Prop := unitStartsRow.holds Try.pinned (OpenSpec.ofChange unitStartsSpec)

/-- ITS FALSE NEIGHBOUR: 'it returns false'. Refute it at one input. -/
def unitStartsWrong : ChangeSpec := { name := "unitStarts", fn := fun _ => fun
  | [d1, d2, d3] => { results := [.lit (.bool false)], args := [d1, d2, d3] }
  | _ => none }
def UnitStartsWrongFalsely : Prop := unitStartsRow.holds Try.pinned (OpenSpec.ofChange unitStartsWrong)

/-- 'gridhallkeep3.OfferRises': WHATEVER THE INPUT: true; the input reads as it did. -/
def offerRisesSpec : ChangeSpec := { name := "offerRises", fn := fun _ => fun
  | [d1, d2, d3] => { results := [.lit (.bool true)], args := [d1, d2, d3] }
  | _ => none }
def offerRisesRow : OpenClaim := { program := "ythodaikggpbiiaa", sum := "c80fa403a870c7d944c986a7f1388cce2c2a385b1c56790b48d8f0de71cf0df9", func := "gridhall/gridhallkeep3.OfferRises", spec := "offerRises", unfollowed := true, recurses := true, apart := false }
def OfferRisesSaid : Prop := offerRisesRow.holds Try.pinned (OpenSpec.ofChange offerRisesSpec)

/-- ITS FALSE NEIGHBOUR: 'it returns false'. Refute it at one input. -/
def offerRisesWrong : ChangeSpec := { name := "offerRises", fn := fun _ => fun
  | [d1, d2, d3] => { results := [.lit (.bool false)], args := [d1, d2, d3] }
  | _ => none }
def OfferRisesWrongFalsely : Prop := offerRisesRow.holds Try.pinned (OpenSpec.ofChange offerRisesWrong)

/-- 'gridhallkeep3.OfferConvex': WHATEVER THE INPUT: true; the input reads as it did. -/
def offerConvexSpec : ChangeSpec := { name := "offerConvex", fn := fun _ => fun
  | [d1, d2] => { results := [.lit (.bool true)], args := [d1, d2] }
  | _ => none }
def offerConvexRow : OpenClaim := { program := "ythodaikggpbiiaa", sum := "c80fa403a870c7d944c986a7f1388cce2c2a385b1c56790b48d8f0de71cf0df9", func := "gridhall/gridhallkeep3.OfferConvex", spec := "offerConvex", unfollowed := true, recurses := true, apart := false }
def OfferConvexSaid : Prop := offerConvexRow.holds Try.pinned (OpenSpec.ofChange offerConvexSpec)

/-- ITS FALSE NEIGHBOUR: 'it returns false'. Refute it at one input. -/
def offerConvexWrong : ChangeSpec := { name := "offerConvex", fn := fun _ => fun
  | [d1, d2] => { results := [.lit (.bool false)], args := [d1, d2] }
  | _ => none }
def OfferConvexWrongFalsely : Prop := offerConvexRow.holds Try.pinned (OpenSpec.ofChange offerConvexWrong)

/-- 'gridhallkeep3.UnitParts': WHATEVER THE INPUT: true; the input reads as it did. -/
def unitPartsSpec : ChangeSpec := { name := "unitParts", fn := fun _ => fun
  | [d1, d2, d3, d4] => { results := [.lit (.bool true)], args := [d1, d2, d3, d4] }
  | _ => none }
def unitPartsRow : OpenClaim := { program := "ythodaikggpbiiaa", sum := "c80fa403a870c7d944c986a7f1388cce2c2a385b1c56790b48d8f0de71cf0df9", func := "gridhall/gridhallkeep3.UnitParts", spec := "unitParts", apart := false }
def UnitPartsSaid : Prop := unitPartsRow.holds Try.pinned (OpenSpec.ofChange unitPartsSpec)

/-- ITS FALSE NEIGHBOUR: 'it returns false'. Refute it at one input. -/
def unitPartsWrong : ChangeSpec := { name := "unitParts", fn := fun _ => fun
  | [d1, d2, d3, d4] => { results := [.lit (.bool false)], args := [d1, d2, d3, d4] }
  | _ => none }
def UnitPartsWrongFalsely : Prop := unitPartsRow.holds Try.pinned (OpenSpec.ofChange unitPartsWrong)

/-- 'gridhallkeep3.ConvexTurns': WHATEVER THE INPUT: true; the input reads as it did. -/
def convexTurnsSpec : ChangeSpec := { name := "convexTurns", fn := fun _ => fun
  | [d1, d2, d3] => { results := [.lit (.bool true)], args := [d1, d2, d3] }
  | _ => none }
def convexTurnsRow : OpenClaim := { program := "ythodaikggpbiiaa", sum := "c80fa403a870c7d944c986a7f1388cce2c2a385b1c56790b48d8f0de71cf0df9", func := "gridhall/gridhallkeep3.ConvexTurns", spec := "convexTurns", unfollowed := true, recurses := true, apart := false }
def ConvexTurnsSaid : Prop := convexTurnsRow.holds Try.pinned (OpenSpec.ofChange convexTurnsSpec)

/-- ITS FALSE NEIGHBOUR: 'it returns false'. Refute it at one input. -/
def convexTurnsWrong : ChangeSpec := { name := "convexTurns", fn := fun _ => fun
  | [d1, d2, d3] => { results := [.lit (.bool false)], args := [d1, d2, d3] }
  | _ => none }
def ConvexTurnsWrongFalsely : Prop := convexTurnsRow.holds Try.pinned (OpenSpec.ofChange convexTurnsWrong)

/-- 'gridhallkeep3.ConvexParts': WHATEVER THE INPUT: true; the input reads as it did. -/
def convexPartsSpec : ChangeSpec := { name := "convexParts", fn := fun _ => fun
  | [d1, d2, d3] => { results := [.lit (.bool true)], args := [d1, d2, d3] }
  | _ => none }
def convexPartsRow : OpenClaim := { program := "ythodaikggpbiiaa", sum := "c80fa403a870c7d944c986a7f1388cce2c2a385b1c56790b48d8f0de71cf0df9", func := "gridhall/gridhallkeep3.ConvexParts", spec := "convexParts", unfollowed := true, recurses := true, apart := false }
def ConvexPartsSaid : Prop := convexPartsRow.holds Try.pinned (OpenSpec.ofChange convexPartsSpec)

/-- ITS FALSE NEIGHBOUR: 'it returns false'. Refute it at one input. -/
def convexPartsWrong : ChangeSpec := { name := "convexParts", fn := fun _ => fun
  | [d1, d2, d3] => { results := [.lit (.bool false)], args := [d1, d2, d3] }
  | _ => none }
def ConvexPartsWrongFalsely : Prop := convexPartsRow.holds Try.pinned (OpenSpec.ofChange convexPartsWrong)

/-- 'gridhallkeep3.OfferBest': WHATEVER THE INPUT: true; the input reads as it did. -/
def offerBestSpec : ChangeSpec := { name := "offerBest", fn := fun _ => fun
  | [d1, d2, d3] => { results := [.lit (.bool true)], args := [d1, d2, d3] }
  | _ => none }
def offerBestRow : OpenClaim := { program := "ythodaikggpbiiaa", sum := "c80fa403a870c7d944c986a7f1388cce2c2a385b1c56790b48d8f0de71cf0df9", func := "gridhall/gridhallkeep3.OfferBest", spec := "offerBest", unfollowed := true, recurses := true, apart := false }
def OfferBestSaid : Prop := offerBestRow.holds Try.pinned (OpenSpec.ofChange offerBestSpec)

/-- ITS FALSE NEIGHBOUR: 'it returns false'. Refute it at one input. -/
def offerBestWrong : ChangeSpec := { name := "offerBest", fn := fun _ => fun
  | [d1, d2, d3] => { results := [.lit (.bool false)], args := [d1, d2, d3] }
  | _ => none }
def OfferBestWrongFalsely : Prop := offerBestRow.holds Try.pinned (OpenSpec.ofChange offerBestWrong)

/-- 'gridhallkeep3.ConvexOffer': WHATEVER THE INPUT: true; the input reads as it did. -/
def convexOfferSpec : ChangeSpec := { name := "convexOffer", fn := fun _ => fun
  | [d1, d2] => { results := [.lit (.bool true)], args := [d1, d2] }
  | _ => none }
def convexOfferRow : OpenClaim := { program := "ythodaikggpbiiaa", sum := "c80fa403a870c7d944c986a7f1388cce2c2a385b1c56790b48d8f0de71cf0df9", func := "gridhall/gridhallkeep3.ConvexOffer", spec := "convexOffer", apart := false }
def ConvexOfferSaid : Prop := convexOfferRow.holds Try.pinned (OpenSpec.ofChange convexOfferSpec)

/-- ITS FALSE NEIGHBOUR: 'it returns false'. Refute it at one input. -/
def convexOfferWrong : ChangeSpec := { name := "convexOffer", fn := fun _ => fun
  | [d1, d2] => { results := [.lit (.bool false)], args := [d1, d2] }
  | _ => none }
def ConvexOfferWrongFalsely : Prop := convexOfferRow.holds Try.pinned (OpenSpec.ofChange convexOfferWrong)

/- THE SECOND FORM. 'bulk': how many values and letters a reading holds, each counted each time it is reached (what is shared counts as often as it is met; a slice's spare places count too). A statement '..UptoSaid' is the law's where the arguments, and the package variables that the reading takes, are together of bulk at most 1048576: NARROWER than '..Said'. Prove '..Said' where nothing that the law and all that it calls make is longer than what came in: it says more and counts as full. Else prove '..UptoSaid'. A law counts once. -/
mutual
def uptoBulk {H : Type} : DataW H → Nat
  | .lit (.string bytes) => bytes.length + 1
  | .lit _ => 1
  | .nil => 1
  | .ptr d => uptoBulk d + 1
  | .slice elems spare => uptoBulkAll elems + uptoBulkAll spare + 1
  | .agg parts => uptoBulkAll parts + 1
  | .iface _ d => uptoBulk d + 1
  | .map entries => uptoBulkEntries entries + 1
  | .held _ => 1
def uptoBulkAll {H : Type} : List (DataW H) → Nat
  | [] => 0
  | d :: r => uptoBulk d + uptoBulkAll r
def uptoBulkEntries {H : Type} : List (Lit × DataW H) → Nat
  | [] => 0
  | x :: r => uptoBulkEntry x + uptoBulkEntries r
def uptoBulkEntry {H : Type} : Lit × DataW H → Nat
  | (.string bytes, d) => bytes.length + uptoBulk d + 1
  | (_, d) => uptoBulk d + 1
 end
def uptoSmall : (H : Type) → List (DataW H) → Bool := fun _ ds => decide (uptoBulkAll ds ≤ 1048576)
def OpenSpec.upto (s : _root_.Go.ChangeSpec) : _root_.Go.OpenSpec := { _root_.Go.OpenSpec.ofChange s with cond := some uptoSmall }

/-- 'gridhallkeep3.HoursErrors', WHERE WHAT IT READS IS OF BULK AT MOST 1048576: true; the input reads as it did. -/
def hoursErrorsUptoRow : OpenClaim := { program := "ythodaikggpbiiaa", sum := "c80fa403a870c7d944c986a7f1388cce2c2a385b1c56790b48d8f0de71cf0df9", func := "gridhall/gridhallkeep3.HoursErrors", spec := "hoursErrors", unfollowed := true, recurses := true, apart := false, narrowed := true }
def HoursErrorsUptoSaid : Prop := hoursErrorsUptoRow.holds Try.pinned (OpenSpec.upto hoursErrorsSpec)

/-- 'gridhallkeep3.ConvexLeast', WHERE WHAT IT READS IS OF BULK AT MOST 1048576: true; the input reads as it did. -/
def convexLeastUptoRow : OpenClaim := { program := "ythodaikggpbiiaa", sum := "c80fa403a870c7d944c986a7f1388cce2c2a385b1c56790b48d8f0de71cf0df9", func := "gridhall/gridhallkeep3.ConvexLeast", spec := "convexLeast", apart := false, narrowed := true }
def ConvexLeastUptoSaid : Prop := convexLeastUptoRow.holds Try.pinned (OpenSpec.upto convexLeastSpec)

/-- 'gridhallkeep3.UnitValid', WHERE WHAT IT READS IS OF BULK AT MOST 1048576: true; the input reads as it did. -/
def unitValidUptoRow : OpenClaim := { program := "ythodaikggpbiiaa", sum := "c80fa403a870c7d944c986a7f1388cce2c2a385b1c56790b48d8f0de71cf0df9", func := "gridhall/gridhallkeep3.UnitValid", spec := "unitValid", apart := false, narrowed := true }
def UnitValidUptoSaid : Prop := unitValidUptoRow.holds Try.pinned (OpenSpec.upto unitValidSpec)

/-- 'gridhallkeep3.UnitStays', WHERE WHAT IT READS IS OF BULK AT MOST 1048576: true; the input reads as it did. -/
def unitStaysUptoRow : OpenClaim := { program := "ythodaikggpbiiaa", sum := "c80fa403a870c7d944c986a7f1388cce2c2a385b1c56790b48d8f0de71cf0df9", func := "gridhall/gridhallkeep3.UnitStays", spec := "unitStays", apart := false, narrowed := true }
def UnitStaysUptoSaid : Prop := unitStaysUptoRow.holds Try.pinned (OpenSpec.upto unitStaysSpec)

/-- 'gridhallkeep3.UnitStarts', WHERE WHAT IT READS IS OF BULK AT MOST 1048576: true; the input reads as it did. -/
def unitStartsUptoRow : OpenClaim := { program := "ythodaikggpbiiaa", sum := "c80fa403a870c7d944c986a7f1388cce2c2a385b1c56790b48d8f0de71cf0df9", func := "gridhall/gridhallkeep3.UnitStarts", spec := "unitStarts", apart := false, narrowed := true }
def UnitStartsUptoSaid : Prop := unitStartsUptoRow.holds Try.pinned (OpenSpec.upto unitStartsSpec)

/-- 'gridhallkeep3.OfferRises', WHERE WHAT IT READS IS OF BULK AT MOST 1048576: true; the input reads as it did. -/
def offerRisesUptoRow : OpenClaim := { program := "ythodaikggpbiiaa", sum := "c80fa403a870c7d944c986a7f1388cce2c2a385b1c56790b48d8f0de71cf0df9", func := "gridhall/gridhallkeep3.OfferRises", spec := "offerRises", unfollowed := true, recurses := true, apart := false, narrowed := true }
def OfferRisesUptoSaid : Prop := offerRisesUptoRow.holds Try.pinned (OpenSpec.upto offerRisesSpec)

/-- 'gridhallkeep3.OfferConvex', WHERE WHAT IT READS IS OF BULK AT MOST 1048576: true; the input reads as it did. -/
def offerConvexUptoRow : OpenClaim := { program := "ythodaikggpbiiaa", sum := "c80fa403a870c7d944c986a7f1388cce2c2a385b1c56790b48d8f0de71cf0df9", func := "gridhall/gridhallkeep3.OfferConvex", spec := "offerConvex", unfollowed := true, recurses := true, apart := false, narrowed := true }
def OfferConvexUptoSaid : Prop := offerConvexUptoRow.holds Try.pinned (OpenSpec.upto offerConvexSpec)

/-- 'gridhallkeep3.UnitParts', WHERE WHAT IT READS IS OF BULK AT MOST 1048576: true; the input reads as it did. -/
def unitPartsUptoRow : OpenClaim := { program := "ythodaikggpbiiaa", sum := "c80fa403a870c7d944c986a7f1388cce2c2a385b1c56790b48d8f0de71cf0df9", func := "gridhall/gridhallkeep3.UnitParts", spec := "unitParts", apart := false, narrowed := true }
def UnitPartsUptoSaid : Prop := unitPartsUptoRow.holds Try.pinned (OpenSpec.upto unitPartsSpec)

/-- 'gridhallkeep3.ConvexTurns', WHERE WHAT IT READS IS OF BULK AT MOST 1048576: true; the input reads as it did. -/
def convexTurnsUptoRow : OpenClaim := { program := "ythodaikggpbiiaa", sum := "c80fa403a870c7d944c986a7f1388cce2c2a385b1c56790b48d8f0de71cf0df9", func := "gridhall/gridhallkeep3.ConvexTurns", spec := "convexTurns", unfollowed := true, recurses := true, apart := false, narrowed := true }
def ConvexTurnsUptoSaid : Prop := convexTurnsUptoRow.holds Try.pinned (OpenSpec.upto convexTurnsSpec)

/-- 'gridhallkeep3.ConvexParts', WHERE WHAT IT READS IS OF BULK AT MOST 1048576: true; the input reads as it did. -/
def convexPartsUptoRow : OpenClaim := { program := "ythodaikggpbiiaa", sum := "c80fa403a870c7d944c986a7f1388cce2c2a385b1c56790b48d8f0de71cf0df9", func := "gridhall/gridhallkeep3.ConvexParts", spec := "convexParts", unfollowed := true, recurses := true, apart := false, narrowed := true }
def ConvexPartsUptoSaid : Prop := convexPartsUptoRow.holds Try.pinned (OpenSpec.upto convexPartsSpec)

/-- 'gridhallkeep3.OfferBest', WHERE WHAT IT READS IS OF BULK AT MOST 1048576: true; the input reads as it did. -/
def offerBestUptoRow : OpenClaim := { program := "ythodaikggpbiiaa", sum := "c80fa403a870c7d944c986a7f1388cce2c2a385b1c56790b48d8f0de71cf0df9", func := "gridhall/gridhallkeep3.OfferBest", spec := "offerBest", unfollowed := true, recurses := true, apart := false, narrowed := true }
def OfferBestUptoSaid : Prop := offerBestUptoRow.holds Try.pinned (OpenSpec.upto offerBestSpec)

/-- 'gridhallkeep3.ConvexOffer', WHERE WHAT IT READS IS OF BULK AT MOST 1048576: true; the input reads as it did. -/
def convexOfferUptoRow : OpenClaim := { program := "ythodaikggpbiiaa", sum := "c80fa403a870c7d944c986a7f1388cce2c2a385b1c56790b48d8f0de71cf0df9", func := "gridhall/gridhallkeep3.ConvexOffer", spec := "convexOffer", apart := false, narrowed := true }
def ConvexOfferUptoSaid : Prop := convexOfferUptoRow.holds Try.pinned (OpenSpec.upto convexOfferSpec)

end Rows
end Go.Proofs.Ythodaikggpbiiaa
