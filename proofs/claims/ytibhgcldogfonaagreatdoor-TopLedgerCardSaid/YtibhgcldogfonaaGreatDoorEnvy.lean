/- welfare.Envy where it gives no error. Conditions: the offer and the power are valid. -/
import Derived.Test.YtibhgcldogfonaaGreatDoorPEnvy
import Derived.Test.YtibhgcldogfonaaGreatDoorOfferE
import Derived.Test.YtibhgcldogfonaaGreatDoorOfferP
namespace Go.Proofs.YtibhgcldogfonaaGreatDoor
open Go.RowKit
set_option maxRecDepth 100000 in
theorem envy_good (nm : ByteArray) (A : Option Addr) (n c : Nat) (st : List (Int × Int)) (x P : Int) (w : World) (hs : nm.size ≤ 9223372036854775807) (hr : Reads w w.heap.size 2 A n (pairs st)) (ho : Pl.opcheck nm st x = 0) (h0 : -2000000 ≤ P) (h1 : P ≤ 2000000) :
    Calls Tryz.prog 7 #[vOff nm A n c, .int .i64 x, .int .i64 P] w fun e w' => e = .returned (.tuple #[.int .i64 (Pl.envyV P st x), .int .i64 0]) ∧ Below w.heap.size w w' := by
  obtain ⟨hg, _, x0, x1, hoc⟩ := Pl.opcheck_ok ho
  have HC := Lib.hid (fun w h => oCost_any nm A n c st x w hs h)
  have HP := Lib.hid (fun w h => oProfit_any nm A n c st P w hs h)
  have HX : Hid (Pl.oCost nm st x = (Pl.costR st x, 0)) := by show _ = _; unfold Pl.oCost; rw [if_neg (by simpa using ho), Pl.ocost_eq]
  have HY : Hid (Pl.oProfit nm st P = (Pl.best P st, 0)) := by
    show _ = _
    unfold Pl.oProfit
    have : Pl.opprice nm st P = 0 := by unfold Pl.opprice; rw [if_neg (by simpa using hoc), if_neg (by omega)]
    rw [if_neg (by simpa using this), Pl.profit_eq hg]
  have hs2 := hg.sum
  obtain ⟨c0, c1⟩ := Pl.costR_bd hg x x0 x1
  obtain ⟨b0, b1⟩ := Pl.best_bd hg h1
  obtain ⟨m0, m1⟩ := Pl.mulP_bd h0 h1 x0 (show x ≤ 100000 by omega)
  have HE : Hid (Pl.envyV P st x = Pl.best P st - (P * x - Pl.costR st x)) := rfl
  rw [HX.out] at HC
  rw [HY.out] at HP
  unfold TwoSaid vOff at HC HP
  unfold vOff
  clear ho hoc hg
  rw [HE.out]
  generalize Pl.costR st x = cc at *
  generalize Pl.best P st = bb at *
  go_enter Tryz.func7, Tryz.ntmps7
  go_wp2_with fail
  have HB0 := Lib.hid ((Below.refl w.heap.size w).alloc (Nat.le_refl _) (.cells #[.string nm, .slice A n c] 43))
  have BN0 := Lib.hid (Blk.new_ w w.heap.size 43 #[.string nm, .slice A n c] rfl)
  refine (HC.out _ (hr.go HB0.out)).mono ?_
  rintro e w1 ⟨rfl, hb⟩
  have HB1 := Lib.hid (HB0.out.trans (hb.mono HB0.out.size))
  have BN1 := Lib.hid (BN0.out.go hb)
  have q := BN1.out.cell
  clear hb HB0 BN0
  go_wp2_with fail
  refine (HP.out _ (hr.go HB1.out)).mono ?_
  rintro e w2 ⟨rfl, hb⟩
  have HB2 := Lib.hid (HB1.out.trans (hb.mono HB1.out.size))
  clear hb q
  go_wp2_with fail
  go_ret2
  exact ⟨rfl, HB2.out⟩
end Go.Proofs.YtibhgcldogfonaaGreatDoor
