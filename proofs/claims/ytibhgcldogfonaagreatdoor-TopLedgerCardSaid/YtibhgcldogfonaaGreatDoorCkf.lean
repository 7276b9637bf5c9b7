/- auction.checkFills: it gives what its plain function gives. No condition. -/
import Derived.Test.YtibhgcldogfonaaGreatDoorAchkB
import Derived.Test.YtibhgcldogfonaaGreatDoorFit
namespace Go.Proofs.YtibhgcldogfonaaGreatDoor
open Go.RowKit
namespace Pl
def badFill (x : Ord × Int) : Bool := decide (x.2 < 0) || decide (x.1.pow < x.2)
def cfills (l : List Ord) (fs : List Int) : Int := if acheck l ≠ 0 then acheck l else if fs.length ≠ l.length then 3 else if has badFill (l.zip fs) = true then 4 else 0
theorem acheck_len {l : List Ord} (h : acheck l = 0) : l.length ≤ 32 := by
  unfold acheck at h
  split at h
  · cases h
  · omega
end Pl
end Go.Proofs.YtibhgcldogfonaaGreatDoor
