/- The contract of the laws' helper within. -/
import Derived.Test.YtoblpcljhblnmaaGreatDoorBase
import Derived.Test.YtoblpcljhblnmaaGreatDoorPUnit
namespace Go.Proofs.YtoblpcljhblnmaaGreatDoor
open Go.RowKit
theorem within_any2 (n lo hi : Int) (w : World) (h1 : lo ≤ hi) (h2 : -1000000000000000 ≤ lo) (h3 : hi ≤ 1000000000000000) :
    Calls Tryz.prog 14 #[.int .i64 n, .int .i64 lo, .int .i64 hi] w fun e w' => e = .returned (.int .i64 (Pl.withinF n lo hi)) ∧ w = w' := by
  obtain ⟨q1, q2⟩ := Pl.tmod_bd n (hi - lo + 1) (by omega)
  obtain ⟨q3, q4⟩ := Pl.emod_bd (n.tmod (hi - lo + 1)) (hi - lo + 1) (by omega)
  unfold Pl.withinF
  go_enter Tryz.func14, Tryz.ntmps14
  go_wp2_with fail
  go_ret
  exact ⟨rfl, rfl⟩
end Go.Proofs.YtoblpcljhblnmaaGreatDoor
