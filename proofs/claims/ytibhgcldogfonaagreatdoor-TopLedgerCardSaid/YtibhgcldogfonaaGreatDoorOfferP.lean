/- The contract of offer.Profit: it returns what its plain function gives, and leaves old memory as it is. -/
import Derived.Test.YtibhgcldogfonaaGreatDoorOfferE
namespace Go.Proofs.YtibhgcldogfonaaGreatDoor
open Go.RowKit
set_option maxHeartbeats 1600000 in
set_option maxRecDepth 100000 in
theorem oProfit_any (nm : ByteArray) (A : Option Addr) (n c : Nat) (st : List (Int × Int)) (x : Int) (w : World) (hs : nm.size ≤ 9223372036854775807) (hr : Reads w w.heap.size 2 A n (pairs st)) :
    Calls Tryz.prog 24 #[vOff nm A n c, .int .i64 x] w (TwoSaid (Pl.oProfit nm st x) w) := by
  have HC := Lib.hid (fun w h => oSupply_any nm A n c st x w hs h)
  by_cases h1 : Pl.opprice nm st x = 0
  · obtain ⟨hc0, x0, x1⟩ := Pl.opprice_ok h1
    obtain ⟨g, l, _⟩ := Pl.ocheck_ok hc0
    have hlm := Pl.least_most (P := x) (st := st) fun q hq => (g.step q hq).1
    have hsum := g.sum
    have HS := Lib.hid (fun w h => ocost_any nm A n c st (Pl.leastR x st) w h g (by have := hr.pair_len; omega) (by omega) (by omega))
    have HF : Hid (Pl.oProfit nm st x = (x * Pl.leastR x st - Pl.ocost st (Pl.leastR x st), 0)) := by show _ = _; unfold Pl.oProfit; rw [if_neg (by simpa using h1)]
    have HC' : Hid (∀ w, Reads w w.heap.size 2 A n (pairs st) → Calls Tryz.prog 37 #[vOff nm A n c, .int .i64 x] w fun e w' => e = .returned (.tuple #[.int .i64 (Pl.leastR x st), .int .i64 (Pl.mostR x st), .int .i64 0]) ∧ Below w.heap.size w w') := by
      intro w h
      have := HC.out w h
      rw [show Pl.oSupply nm st x = (Pl.leastR x st, Pl.mostR x st, 0) from by unfold Pl.oSupply; rw [if_neg (by simpa using h1)]] at this
      exact this
    obtain ⟨m1, m2, m3, _⟩ := hlm
    have b1 : Pl.leastR x st ≤ 100000 := by omega
    have hbd := Pl.cacc_bd g (Pl.leastR x st) m1 b1 n
    rw [List.take_of_length_le (by have := hr.pair_len; omega)] at hbd
    have hbd1 : -100000000000 ≤ Pl.ocost st (Pl.leastR x st) := by unfold Pl.ocost; omega
    have hbd2 : Pl.ocost st (Pl.leastR x st) ≤ 100000000000 := by unfold Pl.ocost; omega
    have u1 : x * Pl.leastR x st ≤ 2000000 * Pl.leastR x st := Int.mul_le_mul_of_nonneg_right x1 m1
    have u2 : (-2000000) * Pl.leastR x st ≤ x * Pl.leastR x st := Int.mul_le_mul_of_nonneg_right x0 m1
    have u3 : x * Pl.leastR x st ≤ 200000000000 := by omega
    have u4 : -200000000000 ≤ x * Pl.leastR x st := by omega
    clear HC h1 hc0 m2 m3 hsum l hbd u1 u2
    generalize Pl.oProfit nm st x = y at *
    generalize Pl.ocost st (Pl.leastR x st) = oc at *
    generalize Pl.leastR x st = le at *
    generalize Pl.mostR x st = mo at *
    unfold vOff at *
    go_enter Tryz.func24, Tryz.ntmps24
    go_wp2_with fail
    refine (HC'.out _ ?hr1).mono ?_
    case hr1 => exact hr.go ((Below.refl _ _).alloc (Nat.le_refl _) _)
    rintro e w1 ⟨rfl, hb⟩
    have HB := Lib.hid (((Below.refl w.heap.size w).alloc (Nat.le_refl _) _).trans (hb.mono (by simp)))
    have B1 : Hid (Blk w1 w.heap.size _ _) := (Blk.new_ _ _ _ _ rfl).go hb
    have c1 := B1.out.cell
    clear hb
    go_wp2_with fail
    refine (HS.out _ ?hr2).mono ?_
    case hr2 => exact hr.go HB.out
    rintro e w2 ⟨rfl, hb⟩
    have HB2 := Lib.hid (HB.out.trans (hb.mono HB.out.size))
    clear hb c1
    go_wp2_with fail
    go_ret2
    exact ⟨by rw [HF.out]; rfl, HB2.out⟩
  · have HF : Hid (Pl.oProfit nm st x = (0, Pl.opprice nm st x)) := by show _ = _; unfold Pl.oProfit; rw [if_pos h1]
    have HC' : Hid (∀ w, Reads w w.heap.size 2 A n (pairs st) → Calls Tryz.prog 37 #[vOff nm A n c, .int .i64 x] w fun e w' => e = .returned (.tuple #[.int .i64 0, .int .i64 0, .int .i64 (Pl.opprice nm st x)]) ∧ Below w.heap.size w w') := by
      intro w h
      have := HC.out w h
      rw [show Pl.oSupply nm st x = (0, 0, Pl.opprice nm st x) from by unfold Pl.oSupply; rw [if_pos h1]] at this
      exact this
    have h2 : (Pl.opprice nm st x != 0) = true := by simpa using h1
    clear h1 HC
    generalize Pl.oProfit nm st x = y at *
    generalize Pl.opprice nm st x = u at *
    unfold vOff at *
    go_enter Tryz.func24, Tryz.ntmps24
    go_wp2_with fail
    refine (HC'.out _ ?hr3).mono ?_
    case hr3 => exact hr.go ((Below.refl _ _).alloc (Nat.le_refl _) _)
    rintro e w1 ⟨rfl, hb⟩
    go_wp2_with fail
    go_ret2
    exact ⟨by rw [HF.out]; rfl, ((Below.refl w.heap.size w).alloc (Nat.le_refl _) _).trans (hb.mono (by simp))⟩
end Go.Proofs.YtibhgcldogfonaaGreatDoor
