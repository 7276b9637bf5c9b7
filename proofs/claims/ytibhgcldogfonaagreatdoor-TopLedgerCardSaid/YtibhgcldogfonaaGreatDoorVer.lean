/- auction.Verify: it gives what its plain function gives. No condition. -/
import Derived.Test.YtibhgcldogfonaaGreatDoorSur
namespace Go.Proofs.YtibhgcldogfonaaGreatDoor
open Go.RowKit
namespace Pl
def sidep (b : Bool) (x : Ord × Int) : Int := if x.1.buy = b then x.2 else 0
def sideS (b : Bool) (z : List (Ord × Int)) : Int := (z.map (sidep b)).foldl (· + ·) 0
theorem sideS_snoc (b : Bool) (z : List (Ord × Int)) (x : Ord × Int) : sideS b (z ++ [x]) = sideS b z + sidep b x := by unfold sideS; rw [List.map_append, List.foldl_append]; rfl
def verif (p q : Int) (l : List Ord) (fs : List Int) : Int := if cfills l fs ≠ 0 then cfills l fs else if sideS true (l.zip fs) ≠ sideS false (l.zip fs) ∨ sideS true (l.zip fs) ≠ q then 14 else
  if (fit l fs).2 < (fit l fs).1 ∨ (q ≠ 0 ∧ (p < (fit l fs).1 ∨ (fit l fs).2 < p)) then 21 else 0
end Pl
end Go.Proofs.YtibhgcldogfonaaGreatDoor
