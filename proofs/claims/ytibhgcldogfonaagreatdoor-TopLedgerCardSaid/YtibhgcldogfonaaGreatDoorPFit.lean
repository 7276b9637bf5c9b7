/- The prices that fit, plain. No program. -/
import Derived.Test.YtibhgcldogfonaaGreatDoorPOrd
namespace Go.Proofs.YtibhgcldogfonaaGreatDoor.Pl
def fitStep (s : Int × Int) (x : Ord × Int) : Int × Int :=
  (if (!x.1.buy && decide (0 < x.2) || x.1.buy && decide (x.2 < x.1.pow)) then max s.1 x.1.price else s.1,
   if (x.1.buy && decide (0 < x.2) || !x.1.buy && decide (x.2 < x.1.pow)) then min s.2 x.1.price else s.2)
def fitL (z : List (Ord × Int)) : Int × Int := z.foldl fitStep (-1099511627776, 1099511627776)
theorem fitL_snoc (z : List (Ord × Int)) (x : Ord × Int) : fitL (z ++ [x]) = fitStep (fitL z) x := by unfold fitL; rw [List.foldl_append]; rfl
def fit (l : List Ord) (fs : List Int) : Int × Int := fitL (l.zip fs)
end Go.Proofs.YtibhgcldogfonaaGreatDoor.Pl
