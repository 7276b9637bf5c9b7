/- The law CurveTimes: for every characteristic, pickup and current the call returns true, and old memory is left as it is. No condition. -/
import Derived.Test.YtoagepmbekkmdaaCurveC
namespace Go.Proofs.Ytoagepmbekkmdaa
open Go.RowKit
def vworksSt : List (Int × Int) := [(100, 1000), (200, 500)]
theorem cTime_ex1 : Pl.cTime vworksSt 100 150 = (750, 0) := by decide
theorem cTime_ex2 : Pl.cTime vworksSt 100 99 = (0, 8) := by decide
namespace Pl
theorem vstep_ge (p m : Int) (a b : Int × Int) (hp : 0 < p) (hab : a.1 < b.1) (h2 : b.2 ≤ a.2) (hb : 0 ≤ b.2) (h : m ≤ b.1 * p) : 0 ≤ vstep p m a b := by
  have hD : 0 < p * (b.1 - a.1) := Int.mul_pos hp (by omega)
  have hx : m - a.1 * p ≤ p * (b.1 - a.1) := by rw [Int.mul_sub, Int.mul_comm p b.1, Int.mul_comm p a.1]; omega
  have := Int.ediv_le_of_le_mul hD (Int.mul_le_mul_of_nonneg_left hx (show 0 ≤ a.2 - b.2 by omega))
  unfold vstep
  omega
theorem vtimeR_ge (p m : Int) (hp : 0 < p) (a : Int × Int) (r : List (Int × Int)) (hg : GoodV (a :: r)) : 0 ≤ vtimeR p m a r := by
  induction r generalizing a with
  | nil => exact hg.1.2.2.1
  | cons b r ih =>
    obtain ⟨_, hab, hg2⟩ := hg
    obtain ⟨h1, h2⟩ := hab b rfl
    rw [vtimeR]
    split
    · rename_i h
      exact vstep_ge p m a b hp h1 h2 hg2.1.2.2.1 h
    · exact ih b hg2
theorem vtime_ge (st : List (Int × Int)) (p cur : Int) (hp : 0 < p) (hg : GoodV st) : 0 ≤ (vtime st p cur).1 := by
  cases st with
  | nil => exact Int.le_refl _
  | cons a r =>
    by_cases h : 100 * cur < a.1 * p
    · have e : vtime (a :: r) p cur = (0, false) := if_pos h
      rw [e]; exact Int.le_refl _
    · have e : vtime (a :: r) p cur = (vtimeR p (100 * cur) a r, true) := if_neg h
      rw [e]; exact vtimeR_ge p _ hp a r hg
end Pl
set_option maxHeartbeats 800000 in
set_option maxRecDepth 100000 in
theorem curveWorks_any (w : World) : Calls Try.prog 8 #[] w fun e w' => e = .returned (.bool true) ∧ Below w.heap.size w w' := by
  have H := Lib.hid (fun A c w h => cTime_any A 2 c vworksSt 100 150 w h)
  have H2 := Lib.hid (fun A c w h => cTime_any A 2 c vworksSt 100 99 w h)
  rw [cTime_ex1] at H
  rw [cTime_ex2] at H2
  go_enter Try.func8, Try.ntmps8
  go_wp2_with fail
  have R0 := Lib.hid (Reads.lit w #[.int .i64 100, .int .i64 1000, .int .i64 200, .int .i64 500] 75 2 2 _ rfl rfl)
  have HB0 := Lib.hid ((Below.refl w.heap.size w).alloc (Nat.le_refl _) (.cells #[.int .i64 100, .int .i64 1000, .int .i64 200, .int .i64 500] 75))
  refine (H.out _ _ _ R0.out).mono ?_
  rintro e w1 ⟨rfl, hb⟩
  have HB := Lib.hid (HB0.out.trans (hb.mono HB0.out.size))
  have R1 := Lib.hid (R0.out.go hb)
  clear hb
  go_wp2_with fail
  refine (H2.out _ _ _ R1.out).mono ?_
  rintro e w2 ⟨rfl, hb⟩
  have HB2 := Lib.hid (HB.out.trans (hb.mono HB.out.size))
  clear hb
  go_wp2_with fail
  go_ret
  exact ⟨rfl, HB2.out⟩
set_option maxHeartbeats 1600000 in
set_option maxRecDepth 100000 in
theorem curveTimes_walk (A : Option Addr) (n c : Nat) (st : List (Int × Int)) (p cur : Int) (w : World) (hr : Reads w w.heap.size 2 A n (pairs st)) :
    Calls Try.prog 3 #[.slice A n c, .int .i64 p, .int .i64 cur] w fun e w' => e = .returned (.bool true) ∧ Below w.heap.size w w' := by
  have HT := Lib.hid (fun w h => cTime_any A n c st p cur w h)
  have HC := Lib.hid (fun w h => cvcheck_any A n c st w h)
  have L1 := Lib.hid hr.pair_len
  by_cases h1 : Pl.cvcheck st = 0
  · obtain ⟨g, n1, n2⟩ := Pl.cvcheck_ok h1
    rw [h1] at HC
    have HF : Hid (Pl.cTime st p cur = if (Pl.outB p 1 1000000 || Pl.outB cur 0 1000000) = true then (0, 4) else if (Pl.vtime st p cur).2 = true then ((Pl.vtime st p cur).1, 0) else (0, 8)) := by
      show _ = _; unfold Pl.cTime; rw [if_neg (by simpa using h1)]
    have HS := Lib.hid (fun w h a b c' d => slow_any A n c st p cur w h g (by have := L1.out; omega) (by have := L1.out; omega) a b c' d)
    have HVG := Lib.hid (fun hp => Pl.vtime_ge st p cur hp g)
    clear h1 g n1 n2
    by_cases hp0 : p < 1 ∨ 1000000 < p ∨ cur < 0 ∨ 1000000 < cur
    · have ho : (Pl.outB p 1 1000000 || Pl.outB cur 0 1000000) = true := by
        unfold Pl.outB; simp; omega
      rw [show Pl.cTime st p cur = (0, 4) from by rw [HF.out, ho]; rfl] at HT
      clear ho HF
      go_enter Try.func3, Try.ntmps3
      go_wp2_with fail
      refine (curveWorks_any _).mono ?_
      rintro e w1 ⟨rfl, hb⟩
      have HB := Lib.hid hb
      clear hb
      go_wp2_with fail
      refine (HT.out _ (hr.go HB.out)).mono ?_
      rintro e w2 ⟨rfl, hb⟩
      have HB2 := Lib.hid (HB.out.trans (hb.mono HB.out.size))
      clear hb
      go_wp2_with fail
      refine (HC.out _ (hr.go HB2.out)).mono ?_
      rintro e w3 ⟨rfl, hb⟩
      have HB3 := Lib.hid (HB2.out.trans (hb.mono HB2.out.size))
      clear hb
      go_wp2_with fail
      all_goals
        first
          | (exfalso; omega)
          | (go_ret; exact ⟨rfl, HB3.out⟩)
    · obtain ⟨p0, p1, c0, c1⟩ : 1 ≤ p ∧ p ≤ 1000000 ∧ 0 ≤ cur ∧ cur ≤ 1000000 := by omega
      have ho : (Pl.outB p 1 1000000 || Pl.outB cur 0 1000000) = false := by
        rw [Bool.or_eq_false_iff, Pl.outB_false, Pl.outB_false]; omega
      rw [show Pl.cTime st p cur = if (Pl.vtime st p cur).2 = true then ((Pl.vtime st p cur).1, 0) else (0, 8) from by rw [HF.out, ho]; rfl] at HT
      clear ho HF hp0
      unfold Pl.vslow at HS
      have HP : Hid (0 ≤ (Pl.vtime st p cur).1) := HVG.out (by omega)
      clear HVG
      generalize Pl.vtime st p cur = V at *
      obtain ⟨t, is⟩ := V
      simp only at HS HT HP
      cases is
      · simp only [Bool.false_eq_true, if_false] at HS HT
        go_enter Try.func3, Try.ntmps3
        go_wp2_with fail
        refine (curveWorks_any _).mono ?_
        rintro e w1 ⟨rfl, hb⟩
        have HB := Lib.hid hb
        clear hb
        go_wp2_with fail
        refine (HT.out _ (hr.go HB.out)).mono ?_
        rintro e w2 ⟨rfl, hb⟩
        have HB2 := Lib.hid (HB.out.trans (hb.mono HB.out.size))
        clear hb
        go_wp2_with fail
        refine (HC.out _ (hr.go HB2.out)).mono ?_
        rintro e w3 ⟨rfl, hb⟩
        have HB3 := Lib.hid (HB2.out.trans (hb.mono HB2.out.size))
        clear hb
        go_wp2_with fail
        refine (HS.out _ (hr.go HB3.out) p0 p1 c0 c1).mono ?_
        rintro e w4 ⟨rfl, hb⟩
        have HB4 := Lib.hid (HB3.out.trans (hb.mono HB3.out.size))
        clear hb
        go_wp2_with fail
        go_ret
        exact ⟨rfl, HB4.out⟩
      · simp only [if_true] at HS HT
        have t0 : 0 ≤ t := HP.out
        have t1 : ¬ t < 0 := by omega
        go_enter Try.func3, Try.ntmps3
        go_wp2_with fail
        refine (curveWorks_any _).mono ?_
        rintro e w1 ⟨rfl, hb⟩
        have HB := Lib.hid hb
        clear hb
        go_wp2_with fail
        refine (HT.out _ (hr.go HB.out)).mono ?_
        rintro e w2 ⟨rfl, hb⟩
        have HB2 := Lib.hid (HB.out.trans (hb.mono HB.out.size))
        clear hb
        go_wp2_with fail
        refine (HC.out _ (hr.go HB2.out)).mono ?_
        rintro e w3 ⟨rfl, hb⟩
        have HB3 := Lib.hid (HB2.out.trans (hb.mono HB2.out.size))
        clear hb
        go_wp2_with fail
        refine (HS.out _ (hr.go HB3.out) p0 p1 c0 c1).mono ?_
        rintro e w4 ⟨rfl, hb⟩
        have HB4 := Lib.hid (HB3.out.trans (hb.mono HB3.out.size))
        clear hb
        go_wp2_with fail
        go_ret
        exact ⟨by simp, HB4.out⟩
  · have HF : Hid (Pl.cTime st p cur = (0, Pl.cvcheck st)) := by show _ = _; unfold Pl.cTime; rw [if_pos h1]
    have h2 : (Pl.cvcheck st != 0) = true := by simpa using h1
    rw [HF.out] at HT
    clear h1 HF
    generalize Pl.cvcheck st = u at *
    go_enter Try.func3, Try.ntmps3
    go_wp2_with fail
    refine (curveWorks_any _).mono ?_
    rintro e w1 ⟨rfl, hb⟩
    have HB := Lib.hid hb
    clear hb
    go_wp2_with fail
    refine (HT.out _ (hr.go HB.out)).mono ?_
    rintro e w2 ⟨rfl, hb⟩
    have HB2 := Lib.hid (HB.out.trans (hb.mono HB.out.size))
    clear hb
    go_wp2_with fail
    refine (HC.out _ (hr.go HB2.out)).mono ?_
    rintro e w3 ⟨rfl, hb⟩
    have HB3 := Lib.hid (HB2.out.trans (hb.mono HB2.out.size))
    clear hb
    go_wp2_with fail
    go_ret
    exact ⟨by simp, HB3.out⟩
end Go.Proofs.Ytoagepmbekkmdaa
