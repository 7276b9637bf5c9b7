/-
  No cell of these rows narrows 'for every input' (looked for: loops, veiled, ifaces, maps, wideKeys, modest, calm, conditions, laid).
  DERIVED. THE GIVEN ROWS OF THIS SEAT. 12 by the template 'for every input the law returns true; each argument reads behind the call as it read before'; 0 by the template 'total and deterministic' (their statements: YtpbomomgjhbljaaTotals.lean).
  GIVEN WITH THE SEED: the statements are not yours to turn. If you find one false, say at which input.
  Laid BY PROGRAM, IN A SANDBOX (cutbox-rows.mjs): the forced cells as the released guide's own fill.sh prints them over the translation 1a273f3c39b272bf… (all of the seat's roots in one cut). By AI agents, Wed Nov 11 2026. No macro, syntax, notation, axiom, sorry.
-/
import Derived.Test.YtpbomomgjhbljaaChecked
import GoSem.Claim
import GoSem.ClaimJoined
import GoSem.ClaimMapViews
import Derived.JoinedTies
import Derived.KernelRfl
namespace Go.Proofs.Ytpbomomgjhbljaa
/- THE CELL 'sum', in the pinned program and in every row, IS THE sha256 OF THE DUMP (.gsa) THAT YtpbomomgjhbljaaProg.lean LOADS. Nothing in Lean hashes anything: it is a label: what it is worth is what the hold of that sum in a sandbox is worth. -/
noncomputable def Try.pinned : Pinned := { name := "ytpbomomgjhbljaa", sum := "1a273f3c39b272bf7adc2383f4afc0b991e2b347ec52322f9ea148516e71ad85", checked := Try.checked }
namespace Rows
def none {H : Type} : Left H := { results := [], args := [] }

/-- 'gridhallkeep3.HoursSums': WHATEVER THE INPUT: true; the input reads as it did. -/
def hoursSumsSpec : ChangeSpec := { name := "hoursSums", fn := fun _ => fun
  | [d1, d2, d3] => { results := [.lit (.bool true)], args := [d1, d2, d3] }
  | _ => none }
def hoursSumsRow : OpenClaim := { program := "ytpbomomgjhbljaa", sum := "1a273f3c39b272bf7adc2383f4afc0b991e2b347ec52322f9ea148516e71ad85", func := "gridhall/gridhallkeep3.HoursSums", spec := "hoursSums", unfollowed := true, recurses := true, apart := false }
def HoursSumsSaid : Prop := hoursSumsRow.holds Try.pinned (OpenSpec.ofChange hoursSumsSpec)

/-- ITS FALSE NEIGHBOUR: 'it returns false'. Refute it at one input. -/
def hoursSumsWrong : ChangeSpec := { name := "hoursSums", fn := fun _ => fun
  | [d1, d2, d3] => { results := [.lit (.bool false)], args := [d1, d2, d3] }
  | _ => none }
def HoursSumsWrongFalsely : Prop := hoursSumsRow.holds Try.pinned (OpenSpec.ofChange hoursSumsWrong)

/-- 'gridhallkeep3.AuctionMore': WHATEVER THE INPUT: true; the input reads as it did. -/
def auctionMoreSpec : ChangeSpec := { name := "auctionMore", fn := fun _ => fun
  | [d1, d2] => { results := [.lit (.bool true)], args := [d1, d2] }
  | _ => none }
def auctionMoreRow : OpenClaim := { program := "ytpbomomgjhbljaa", sum := "1a273f3c39b272bf7adc2383f4afc0b991e2b347ec52322f9ea148516e71ad85", func := "gridhall/gridhallkeep3.AuctionMore", spec := "auctionMore", unfollowed := true, recurses := true, apart := false }
def AuctionMoreSaid : Prop := auctionMoreRow.holds Try.pinned (OpenSpec.ofChange auctionMoreSpec)

/-- ITS FALSE NEIGHBOUR: 'it returns false'. Refute it at one input. -/
def auctionMoreWrong : ChangeSpec := { name := "auctionMore", fn := fun _ => fun
  | [d1, d2] => { results := [.lit (.bool false)], args := [d1, d2] }
  | _ => none }
def AuctionMoreWrongFalsely : Prop := auctionMoreRow.holds Try.pinned (OpenSpec.ofChange auctionMoreWrong)

/-- 'gridhallkeep3.AuctionBest': WHATEVER THE INPUT: true; the input reads as it did. -/
def auctionBestSpec : ChangeSpec := { name := "auctionBest", fn := fun _ => fun
  | [d1, d2, d3] => { results := [.lit (.bool true)], args := [d1, d2, d3] }
  | _ => none }
def auctionBestRow : OpenClaim := { program := "ytpbomomgjhbljaa", sum := "1a273f3c39b272bf7adc2383f4afc0b991e2b347ec52322f9ea148516e71ad85", func := "gridhall/gridhallkeep3.AuctionBest", spec := "auctionBest", unfollowed := true, recurses := true, apart := false }
def AuctionBestSaid : Prop := auctionBestRow.holds Try.pinned (OpenSpec.ofChange auctionBestSpec)

/-- ITS FALSE NEIGHBOUR: 'it returns false'. Refute it at one input. -/
def auctionBestWrong : ChangeSpec := { name := "auctionBest", fn := fun _ => fun
  | [d1, d2, d3] => { results := [.lit (.bool false)], args := [d1, d2, d3] }
  | _ => none }
def AuctionBestWrongFalsely : Prop := auctionBestRow.holds Try.pinned (OpenSpec.ofChange auctionBestWrong)

/-- 'gridhallkeep3.AuctionVerified': WHATEVER THE INPUT: true; the input reads as it did. -/
def auctionVerifiedSpec : ChangeSpec := { name := "auctionVerified", fn := fun _ => fun
  | [d1, d2, d3] => { results := [.lit (.bool true)], args := [d1, d2, d3] }
  | _ => none }
def auctionVerifiedRow : OpenClaim := { program := "ytpbomomgjhbljaa", sum := "1a273f3c39b272bf7adc2383f4afc0b991e2b347ec52322f9ea148516e71ad85", func := "gridhall/gridhallkeep3.AuctionVerified", spec := "auctionVerified", unfollowed := true, recurses := true, apart := false }
def AuctionVerifiedSaid : Prop := auctionVerifiedRow.holds Try.pinned (OpenSpec.ofChange auctionVerifiedSpec)

/-- ITS FALSE NEIGHBOUR: 'it returns false'. Refute it at one input. -/
def auctionVerifiedWrong : ChangeSpec := { name := "auctionVerified", fn := fun _ => fun
  | [d1, d2, d3] => { results := [.lit (.bool false)], args := [d1, d2, d3] }
  | _ => none }
def AuctionVerifiedWrongFalsely : Prop := auctionVerifiedRow.holds Try.pinned (OpenSpec.ofChange auctionVerifiedWrong)

/-- 'gridhallkeep3.DispatchSum': WHATEVER THE INPUT: true; the input reads as it did. -/
def dispatchSumSpec : ChangeSpec := { name := "dispatchSum", fn := fun _ => fun
  | [d1, d2, d3] => { results := [.lit (.bool true)], args := [d1, d2, d3] }
  | _ => none }
def dispatchSumRow : OpenClaim := { program := "ytpbomomgjhbljaa", sum := "1a273f3c39b272bf7adc2383f4afc0b991e2b347ec52322f9ea148516e71ad85", func := "gridhall/gridhallkeep3.DispatchSum", spec := "dispatchSum", unfollowed := true, recurses := true, apart := false }
def DispatchSumSaid : Prop := dispatchSumRow.holds Try.pinned (OpenSpec.ofChange dispatchSumSpec)

/-- ITS FALSE NEIGHBOUR: 'it returns false'. Refute it at one input. -/
def dispatchSumWrong : ChangeSpec := { name := "dispatchSum", fn := fun _ => fun
  | [d1, d2, d3] => { results := [.lit (.bool false)], args := [d1, d2, d3] }
  | _ => none }
def DispatchSumWrongFalsely : Prop := dispatchSumRow.holds Try.pinned (OpenSpec.ofChange dispatchSumWrong)

/-- 'gridhallkeep3.DispatchPrices': WHATEVER THE INPUT: true; the input reads as it did. -/
def dispatchPricesSpec : ChangeSpec := { name := "dispatchPrices", fn := fun _ => fun
  | [d1, d2, d3] => { results := [.lit (.bool true)], args := [d1, d2, d3] }
  | _ => none }
def dispatchPricesRow : OpenClaim := { program := "ytpbomomgjhbljaa", sum := "1a273f3c39b272bf7adc2383f4afc0b991e2b347ec52322f9ea148516e71ad85", func := "gridhall/gridhallkeep3.DispatchPrices", spec := "dispatchPrices", unfollowed := true, recurses := true, apart := false }
def DispatchPricesSaid : Prop := dispatchPricesRow.holds Try.pinned (OpenSpec.ofChange dispatchPricesSpec)

/-- ITS FALSE NEIGHBOUR: 'it returns false'. Refute it at one input. -/
def dispatchPricesWrong : ChangeSpec := { name := "dispatchPrices", fn := fun _ => fun
  | [d1, d2, d3] => { results := [.lit (.bool false)], args := [d1, d2, d3] }
  | _ => none }
def DispatchPricesWrongFalsely : Prop := dispatchPricesRow.holds Try.pinned (OpenSpec.ofChange dispatchPricesWrong)

/-- 'gridhallkeep3.ReserveKept': WHATEVER THE INPUT: true; the input reads as it did. -/
def reserveKeptSpec : ChangeSpec := { name := "reserveKept", fn := fun _ => fun
  | [d1, d2, d3, d4] => { results := [.lit (.bool true)], args := [d1, d2, d3, d4] }
  | _ => none }
def reserveKeptRow : OpenClaim := { program := "ytpbomomgjhbljaa", sum := "1a273f3c39b272bf7adc2383f4afc0b991e2b347ec52322f9ea148516e71ad85", func := "gridhall/gridhallkeep3.ReserveKept", spec := "reserveKept", unfollowed := true, recurses := true, apart := false }
def ReserveKeptSaid : Prop := reserveKeptRow.holds Try.pinned (OpenSpec.ofChange reserveKeptSpec)

/-- ITS FALSE NEIGHBOUR: 'it returns false'. Refute it at one input. -/
def reserveKeptWrong : ChangeSpec := { name := "reserveKept", fn := fun _ => fun
  | [d1, d2, d3, d4] => { results := [.lit (.bool false)], args := [d1, d2, d3, d4] }
  | _ => none }
def ReserveKeptWrongFalsely : Prop := reserveKeptRow.holds Try.pinned (OpenSpec.ofChange reserveKeptWrong)

/-- 'gridhallkeep3.ReserveFree': WHATEVER THE INPUT: true; the input reads as it did. -/
def reserveFreeSpec : ChangeSpec := { name := "reserveFree", fn := fun _ => fun
  | [d1, d2] => { results := [.lit (.bool true)], args := [d1, d2] }
  | _ => none }
def reserveFreeRow : OpenClaim := { program := "ytpbomomgjhbljaa", sum := "1a273f3c39b272bf7adc2383f4afc0b991e2b347ec52322f9ea148516e71ad85", func := "gridhall/gridhallkeep3.ReserveFree", spec := "reserveFree", unfollowed := true, recurses := true, apart := false }
def ReserveFreeSaid : Prop := reserveFreeRow.holds Try.pinned (OpenSpec.ofChange reserveFreeSpec)

/-- ITS FALSE NEIGHBOUR: 'it returns false'. Refute it at one input. -/
def reserveFreeWrong : ChangeSpec := { name := "reserveFree", fn := fun _ => fun
  | [d1, d2] => { results := [.lit (.bool false)], args := [d1, d2] }
  | _ => none }
def ReserveFreeWrongFalsely : Prop := reserveFreeRow.holds Try.pinned (OpenSpec.ofChange reserveFreeWrong)

/-- 'gridhallkeep3.WelfareEnds': WHATEVER THE INPUT: true; the input reads as it did. -/
def welfareEndsSpec : ChangeSpec := { name := "welfareEnds", fn := fun _ => fun
  | [d1, d2] => { results := [.lit (.bool true)], args := [d1, d2] }
  | _ => none }
def welfareEndsRow : OpenClaim := { program := "ytpbomomgjhbljaa", sum := "1a273f3c39b272bf7adc2383f4afc0b991e2b347ec52322f9ea148516e71ad85", func := "gridhall/gridhallkeep3.WelfareEnds", spec := "welfareEnds", unfollowed := true, recurses := true, apart := false }
def WelfareEndsSaid : Prop := welfareEndsRow.holds Try.pinned (OpenSpec.ofChange welfareEndsSpec)

/-- ITS FALSE NEIGHBOUR: 'it returns false'. Refute it at one input. -/
def welfareEndsWrong : ChangeSpec := { name := "welfareEnds", fn := fun _ => fun
  | [d1, d2] => { results := [.lit (.bool false)], args := [d1, d2] }
  | _ => none }
def WelfareEndsWrongFalsely : Prop := welfareEndsRow.holds Try.pinned (OpenSpec.ofChange welfareEndsWrong)

/-- 'gridhallkeep3.WelfareBound': WHATEVER THE INPUT: true; the input reads as it did. -/
def welfareBoundSpec : ChangeSpec := { name := "welfareBound", fn := fun _ => fun
  | [d1, d2, d3, d4] => { results := [.lit (.bool true)], args := [d1, d2, d3, d4] }
  | _ => none }
def welfareBoundRow : OpenClaim := { program := "ytpbomomgjhbljaa", sum := "1a273f3c39b272bf7adc2383f4afc0b991e2b347ec52322f9ea148516e71ad85", func := "gridhall/gridhallkeep3.WelfareBound", spec := "welfareBound", unfollowed := true, recurses := true, apart := false }
def WelfareBoundSaid : Prop := welfareBoundRow.holds Try.pinned (OpenSpec.ofChange welfareBoundSpec)

/-- ITS FALSE NEIGHBOUR: 'it returns false'. Refute it at one input. -/
def welfareBoundWrong : ChangeSpec := { name := "welfareBound", fn := fun _ => fun
  | [d1, d2, d3, d4] => { results := [.lit (.bool false)], args := [d1, d2, d3, d4] }
  | _ => none }
def WelfareBoundWrongFalsely : Prop := welfareBoundRow.holds Try.pinned (OpenSpec.ofChange welfareBoundWrong)

/-- 'gridhallkeep3.HoursFree': WHATEVER THE INPUT: true; the input reads as it did. -/
def hoursFreeSpec : ChangeSpec := { name := "hoursFree", fn := fun _ => fun
  | [d1, d2, d3] => { results := [.lit (.bool true)], args := [d1, d2, d3] }
  | _ => none }
def hoursFreeRow : OpenClaim := { program := "ytpbomomgjhbljaa", sum := "1a273f3c39b272bf7adc2383f4afc0b991e2b347ec52322f9ea148516e71ad85", func := "gridhall/gridhallkeep3.HoursFree", spec := "hoursFree", unfollowed := true, recurses := true, apart := false }
def HoursFreeSaid : Prop := hoursFreeRow.holds Try.pinned (OpenSpec.ofChange hoursFreeSpec)

/-- ITS FALSE NEIGHBOUR: 'it returns false'. Refute it at one input. -/
def hoursFreeWrong : ChangeSpec := { name := "hoursFree", fn := fun _ => fun
  | [d1, d2, d3] => { results := [.lit (.bool false)], args := [d1, d2, d3] }
  | _ => none }
def HoursFreeWrongFalsely : Prop := hoursFreeRow.holds Try.pinned (OpenSpec.ofChange hoursFreeWrong)

/-- 'gridhallkeep3.DispatchConvolves': WHATEVER THE INPUT: true; the input reads as it did. -/
def dispatchConvolvesSpec : ChangeSpec := { name := "dispatchConvolves", fn := fun _ => fun
  | [d1, d2] => { results := [.lit (.bool true)], args := [d1, d2] }
  | _ => none }
def dispatchConvolvesRow : OpenClaim := { program := "ytpbomomgjhbljaa", sum := "1a273f3c39b272bf7adc2383f4afc0b991e2b347ec52322f9ea148516e71ad85", func := "gridhall/gridhallkeep3.DispatchConvolves", spec := "dispatchConvolves", unfollowed := true, recurses := true, apart := false }
def DispatchConvolvesSaid : Prop := dispatchConvolvesRow.holds Try.pinned (OpenSpec.ofChange dispatchConvolvesSpec)

/-- ITS FALSE NEIGHBOUR: 'it returns false'. Refute it at one input. -/
def dispatchConvolvesWrong : ChangeSpec := { name := "dispatchConvolves", fn := fun _ => fun
  | [d1, d2] => { results := [.lit (.bool false)], args := [d1, d2] }
  | _ => none }
def DispatchConvolvesWrongFalsely : Prop := dispatchConvolvesRow.holds Try.pinned (OpenSpec.ofChange dispatchConvolvesWrong)

/- THE SECOND FORM. 'bulk': how many values and letters a reading holds, each counted each time it is reached (what is shared counts as often as it is met; a slice's spare places count too). A statement '..UptoSaid' is the law's where the arguments, and the package variables that the reading takes, are together of bulk at most 1048576: NARROWER than '..Said'. Prove '..Said' where nothing that the law and all that it calls make is longer than what came in: it says more and counts as full. Else prove '..UptoSaid'. A law counts once. -/
mutual
def uptoBulk {H : Type} : DataW H → Nat
  | .lit (.string bytes) => bytes.length + 1
  | .lit _ => 1
  | .nil => 1
  | .ptr d => uptoBulk d + 1
  | .slice elems spare => uptoBulkAll elems + uptoBulkAll spare + 1
  | .agg parts => uptoBulkAll parts + 1
  | .iface _ d => uptoBulk d + 1
  | .map entries => uptoBulkEntries entries + 1
  | .held _ => 1
def uptoBulkAll {H : Type} : List (DataW H) → Nat
  | [] => 0
  | d :: r => uptoBulk d + uptoBulkAll r
def uptoBulkEntries {H : Type} : List (Lit × DataW H) → Nat
  | [] => 0
  | x :: r => uptoBulkEntry x + uptoBulkEntries r
def uptoBulkEntry {H : Type} : Lit × DataW H → Nat
  | (.string bytes, d) => bytes.length + uptoBulk d + 1
  | (_, d) => uptoBulk d + 1
 end
def uptoSmall : (H : Type) → List (DataW H) → Bool := fun _ ds => decide (uptoBulkAll ds ≤ 1048576)
def OpenSpec.upto (s : _root_.Go.ChangeSpec) : _root_.Go.OpenSpec := { _root_.Go.OpenSpec.ofChange s with cond := some uptoSmall }

/-- 'gridhallkeep3.HoursSums', WHERE WHAT IT READS IS OF BULK AT MOST 1048576: true; the input reads as it did. -/
def hoursSumsUptoRow : OpenClaim := { program := "ytpbomomgjhbljaa", sum := "1a273f3c39b272bf7adc2383f4afc0b991e2b347ec52322f9ea148516e71ad85", func := "gridhall/gridhallkeep3.HoursSums", spec := "hoursSums", unfollowed := true, recurses := true, apart := false, narrowed := true }
def HoursSumsUptoSaid : Prop := hoursSumsUptoRow.holds Try.pinned (OpenSpec.upto hoursSumsSpec)

/-- 'gridhallkeep3.AuctionMore', WHERE WHAT IT READS IS OF BULK AT MOST 1048576: true; the input reads as it did. -/
def auctionMoreUptoRow : OpenClaim := { program := "ytpbomomgjhbljaa", sum := "1a273f3c39b272bf7adc2383f4afc0b991e2b347ec52322f9ea148516e71ad85", func := "gridhall/gridhallkeep3.AuctionMore", spec := "auctionMore", unfollowed := true, recurses := true, apart := false, narrowed := true }
def AuctionMoreUptoSaid : Prop := auctionMoreUptoRow.holds Try.pinned (OpenSpec.upto auctionMoreSpec)

/-- 'gridhallkeep3.AuctionBest', WHERE WHAT IT READS IS OF BULK AT MOST 1048576: true; the input reads as it did. -/
def auctionBestUptoRow : OpenClaim := { program := "ytpbomomgjhbljaa", sum := "1a273f3c39b272bf7adc2383f4afc0b991e2b347ec52322f9ea148516e71ad85", func := "gridhall/gridhallkeep3.AuctionBest", spec := "auctionBest", unfollowed := true, recurses := true, apart := false, narrowed := true }
def AuctionBestUptoSaid : Prop := auctionBestUptoRow.holds Try.pinned (OpenSpec.upto auctionBestSpec)

/-- 'gridhallkeep3.AuctionVerified', WHERE WHAT IT READS IS OF BULK AT MOST 1048576: true; the input reads as it did. -/
def auctionVerifiedUptoRow : OpenClaim := { program := "ytpbomomgjhbljaa", sum := "1a273f3c39b272bf7adc2383f4afc0b991e2b347ec52322f9ea148516e71ad85", func := "gridhall/gridhallkeep3.AuctionVerified", spec := "auctionVerified", unfollowed := true, recurses := true, apart := false, narrowed := true }
def AuctionVerifiedUptoSaid : Prop := auctionVerifiedUptoRow.holds Try.pinned (OpenSpec.upto auctionVerifiedSpec)

/-- 'gridhallkeep3.DispatchSum', WHERE WHAT IT READS IS OF BULK AT MOST 1048576: true; the input reads as it did. -/
def dispatchSumUptoRow : OpenClaim := { program := "ytpbomomgjhbljaa", sum := "1a273f3c39b272bf7adc2383f4afc0b991e2b347ec52322f9ea148516e71ad85", func := "gridhall/gridhallkeep3.DispatchSum", spec := "dispatchSum", unfollowed := true, recurses := true, apart := false, narrowed := true }
def DispatchSumUptoSaid : Prop := dispatchSumUptoRow.holds Try.pinned (OpenSpec.upto dispatchSumSpec)

/-- 'gridhallkeep3.DispatchPrices', WHERE WHAT IT READS IS OF BULK AT MOST 1048576: true; the input reads as it did. -/
def dispatchPricesUptoRow : OpenClaim := { program := "ytpbomomgjhbljaa", sum := "1a273f3c39b272bf7adc2383f4afc0b991e2b347ec52322f9ea148516e71ad85", func := "gridhall/gridhallkeep3.DispatchPrices", spec := "dispatchPrices", unfollowed := true, recurses := true, apart := false, narrowed := true }
def DispatchPricesUptoSaid : Prop := dispatchPricesUptoRow.holds Try.pinned (OpenSpec.upto dispatchPricesSpec)

/-- 'gridhallkeep3.ReserveKept', WHERE WHAT IT READS IS OF BULK AT MOST 1048576: true; the input reads as it did. -/
def reserveKeptUptoRow : OpenClaim := { program := "ytpbomomgjhbljaa", sum := "1a273f3c39b272bf7adc2383f4afc0b991e2b347ec52322f9ea148516e71ad85", func := "gridhall/gridhallkeep3.ReserveKept", spec := "reserveKept", unfollowed := true, recurses := true, apart := false, narrowed := true }
def ReserveKeptUptoSaid : Prop := reserveKeptUptoRow.holds Try.pinned (OpenSpec.upto reserveKeptSpec)

/-- 'gridhallkeep3.ReserveFree', WHERE WHAT IT READS IS OF BULK AT MOST 1048576: true; the input reads as it did. -/
def reserveFreeUptoRow : OpenClaim := { program := "ytpbomomgjhbljaa", sum := "1a273f3c39b272bf7adc2383f4afc0b991e2b347ec52322f9ea148516e71ad85", func := "gridhall/gridhallkeep3.ReserveFree", spec := "reserveFree", unfollowed := true, recurses := true, apart := false, narrowed := true }
def ReserveFreeUptoSaid : Prop := reserveFreeUptoRow.holds Try.pinned (OpenSpec.upto reserveFreeSpec)

/-- 'gridhallkeep3.WelfareEnds', WHERE WHAT IT READS IS OF BULK AT MOST 1048576: true; the input reads as it did. -/
def welfareEndsUptoRow : OpenClaim := { program := "ytpbomomgjhbljaa", sum := "1a273f3c39b272bf7adc2383f4afc0b991e2b347ec52322f9ea148516e71ad85", func := "gridhall/gridhallkeep3.WelfareEnds", spec := "welfareEnds", unfollowed := true, recurses := true, apart := false, narrowed := true }
def WelfareEndsUptoSaid : Prop := welfareEndsUptoRow.holds Try.pinned (OpenSpec.upto welfareEndsSpec)

/-- 'gridhallkeep3.WelfareBound', WHERE WHAT IT READS IS OF BULK AT MOST 1048576: true; the input reads as it did. -/
def welfareBoundUptoRow : OpenClaim := { program := "ytpbomomgjhbljaa", sum := "1a273f3c39b272bf7adc2383f4afc0b991e2b347ec52322f9ea148516e71ad85", func := "gridhall/gridhallkeep3.WelfareBound", spec := "welfareBound", unfollowed := true, recurses := true, apart := false, narrowed := true }
def WelfareBoundUptoSaid : Prop := welfareBoundUptoRow.holds Try.pinned (OpenSpec.upto welfareBoundSpec)

/-- 'gridhallkeep3.HoursFree', WHERE WHAT IT READS IS OF BULK AT MOST 1048576: true; the input reads as it did. -/
def hoursFreeUptoRow : OpenClaim := { program := "ytpbomomgjhbljaa", sum := "1a273f3c39b272bf7adc2383f4afc0b991e2b347ec52322f9ea148516e71ad85", func := "gridhall/gridhallkeep3.HoursFree", spec := "hoursFree", unfollowed := true, recurses := true, apart := false, narrowed := true }
def HoursFreeUptoSaid : Prop := hoursFreeUptoRow.holds Try.pinned (OpenSpec.upto hoursFreeSpec)

/-- 'gridhallkeep3.DispatchConvolves', WHERE WHAT IT READS IS OF BULK AT MOST 1048576: true; the input reads as it did. -/
def dispatchConvolvesUptoRow : OpenClaim := { program := "ytpbomomgjhbljaa", sum := "1a273f3c39b272bf7adc2383f4afc0b991e2b347ec52322f9ea148516e71ad85", func := "gridhall/gridhallkeep3.DispatchConvolves", spec := "dispatchConvolves", unfollowed := true, recurses := true, apart := false, narrowed := true }
def DispatchConvolvesUptoSaid : Prop := dispatchConvolvesUptoRow.holds Try.pinned (OpenSpec.upto dispatchConvolvesSpec)

end Rows
end Go.Proofs.Ytpbomomgjhbljaa
