/- The laws' helper stores: it returns true. Condition: what the sort of pieces says. -/
import Derived.Test.YtjdagpmfnmodbaaSBest
import Derived.Test.YtjdagpmfnmodbaaEqInt
namespace Go.Proofs.Ytjdagpmfnmodbaa
open Go.RowKit
theorem best_lit (hsort : SortPOk) (w : World) (A : Option Addr) (h : Reads w w.heap.size 1 A 2 (ints [2, 5])) : Calls Try.prog 36 #[vSt 10 10 10 0 0, .slice A 2 2] w (SchedSaid ([10, -10], -30, 0) w) := by
  have h := sBest_any hsort 10 10 10 0 0 A 2 2 [2, 5] w h
  rw [Pl.sBest_ex] at h
  exact h
set_option maxRecDepth 100000 in
set_option maxHeartbeats 1600000 in
theorem stores_any (hsort : SortPOk) (w : World) : Calls Try.prog 35 #[] w fun e w' => e = .returned (.bool true) ∧ Below w.heap.size w w' := by
  have H := Lib.hid (fun w A h => best_lit hsort w A h)
  unfold SchedSaid vSt at H
  clear hsort
  go_enter Try.func35, Try.ntmps35
  go_wp2_with fail
  refine (H.out _ _ (Reads.lit w #[.int .i64 2, .int .i64 5] 3 2 1 _ rfl rfl)).mono ?_
  rintro e w1 ⟨A1, c1, rfl, hown, hb⟩
  have HB := Lib.hid (((Below.refl w.heap.size w).alloc (Nat.le_refl _) (.cells #[.int .i64 2, .int .i64 5] 3)).trans (hb.mono (by simp)))
  have RD := Lib.hid (Reads.of_own hown)
  clear hown hb
  go_wp2_with fail
  have AL := (Below.refl w1.heap.size w1).alloc (Nat.le_refl _) (.cells #[.int .i64 10, .int .i64 (-10)] 3)
  have HB2 := Lib.hid (HB.out.alloc HB.out.size (.cells #[.int .i64 10, .int .i64 (-10)] 3))
  refine (eqint_any _ _ _ _ _ _ _ _ _ (by simp) (RD.out.go AL) (Reads.lit w1 #[.int .i64 10, .int .i64 (-10)] 3 2 1 _ rfl rfl) rfl).mono ?_
  rintro e w2 ⟨rfl, hb⟩
  have HB3 := Lib.hid (HB2.out.trans (hb.mono HB2.out.size))
  clear hb
  go_wp2_with fail
  go_ret
  exact ⟨rfl, HB3.out⟩
end Go.Proofs.Ytjdagpmfnmodbaa
