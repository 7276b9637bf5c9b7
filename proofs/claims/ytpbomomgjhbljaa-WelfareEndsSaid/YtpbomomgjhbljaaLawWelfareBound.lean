/- The law WelfareBound: for all valid lengths the call returns true, and old memory is left as it is. No condition. -/
import Derived.Test.YtpbomomgjhbljaaWelf
import Derived.Test.YtpbomomgjhbljaaServed
import Derived.Test.YtpbomomgjhbljaaWithin
namespace Go.Proofs.Ytpbomomgjhbljaa
open Go.RowKit
theorem envies_ex : Pl.opcheck ⟨#[65]⟩ twoSt 5 = 0 ∧ Pl.envyV 8 twoSt 5 = 15 := ⟨by kernel_rfl, by kernel_rfl⟩
theorem envies_any (w : World) : Calls Try.prog 39 #[] w fun e w' => e = .returned (.bool true) ∧ Below w.heap.size w w' := by
  have H := Lib.hid (fun w A (h : Reads w w.heap.size 2 A 2 (pairs twoSt)) => envy_good ⟨#[65]⟩ A 2 2 twoSt 5 8 w (by decide) h envies_ex.1 (by decide) (by decide))
  rw [envies_ex.2] at H
  unfold vOff at H
  go_enter Try.func39, Try.ntmps39
  go_wp2_with fail
  refine (two_any _ _).mono ?_
  rintro e w1 ⟨A, rfl, hr, hb⟩
  unfold vOff
  go_wp2_with fail
  refine (H.out _ _ hr).mono ?_
  rintro e w2 ⟨rfl, hb2⟩
  have HB := Lib.hid (hb.trans (hb2.mono hb.size))
  clear hb hb2
  go_wp2_with fail
  go_ret
  exact ⟨rfl, HB.out⟩
namespace Pl
theorem wasteEx : (dCost servedL [12, 8]).2.2 = 0 ∧ costK servedL [12, 8] 2 = 106 ∧ (dfill 2 (powK [12, 8] 2) (isortB (blocksK servedL 2))).2.1 = 100 := ⟨by kernel_rfl, by kernel_rfl, by kernel_rfl⟩
end Pl
theorem waste_ex (A A1 A2 B : Option Addr) (c e' : Nat) (w : World) (hc : 2 ≤ c) (h : Offs w A 2 [⟨⟨#[65]⟩, A1, 2, 2, twoSt⟩, ⟨⟨#[66]⟩, A2, 2, 2, twoSt⟩]) (hp : Reads w w.heap.size 1 B 2 (ints [12, 8])) :
    Calls Try.prog 38 #[.slice A 2 c, .slice B 2 e'] w fun e w' => e = .returned (.tuple #[.int .i64 6, .int .i64 0]) ∧ Below w.heap.size w w' := by
  refine (waste_good A B 2 c e' _ [12, 8] w hc h hp Pl.wasteEx.1).mono ?_
  rintro e w' ⟨ps, cost, p, rfl, _, hx, hb⟩
  have e1 := hx (show (Pl.blocksK Pl.servedL 2).length < 20 from by decide)
  have e2 : cost = 100 := e1.trans Pl.wasteEx.2.2
  have e3 : Pl.costK (plo [⟨⟨#[65]⟩, A1, 2, 2, twoSt⟩, ⟨⟨#[66]⟩, A2, 2, 2, twoSt⟩]) [12, 8] 2 = 106 := Pl.wasteEx.2.1
  exact ⟨by rw [e2, e3]; rfl, hb⟩
set_option maxHeartbeats 6400000 in
set_option maxRecDepth 100000 in
theorem welfareBound_walk (A : Option Addr) (n c : Nat) (l : List MOff) (B : Option Addr) (m e' : Nat) (xs : List Int) (at0 oth : Int) (w : World) (hcap : n ≤ c) (h : Offs w A n l) (hx : Reads w w.heap.size 1 B m (ints xs)) :
    Calls Try.prog 12 #[.slice A n c, .slice B m e', .int .i64 at0, .int .i64 oth] w fun e w' => e = .returned (.bool true) ∧ Below w.heap.size w w' := by
  have L1 := Lib.hid h.len
  have L2 := Lib.hid hx.int_len
  have H := Lib.hid h
  clear h
  go_enter Try.func12, Try.ntmps12
  go_wp2_with fail
  refine (two_any _ _).mono ?_
  rintro e w1 ⟨A1, rfl, h1, hb1⟩
  unfold vOff
  go_wp2_with fail
  refine (two_any _ _).mono ?_
  rintro e w2 ⟨A2, rfl, h2, hb2⟩
  have HB2 := Lib.hid (hb1.trans (hb2.mono hb1.size))
  have H1 := Lib.hid (h1.go hb2)
  have H2 := Lib.hid h2
  clear h1 h2 hb1 hb2
  unfold vOff
  go_wp2_with fail
  have AL := (Below.refl (w2.alloc (.cells #[.string ⟨#[65]⟩, .slice A1 2 2, .string ⟨#[66]⟩, .slice A2 2 2] 57)).heap.size (w2.alloc (.cells #[.string ⟨#[65]⟩, .slice A1 2 2, .string ⟨#[66]⟩, .slice A2 2 2] 57))).alloc (Nat.le_refl _) (.cells #[.int .i64 12, .int .i64 8] 3)
  have HO := Lib.hid ((two_offs H1.out H2.out ⟨#[65]⟩ ⟨#[66]⟩ (by decide) (by decide) _ rfl).go AL)
  have HI := Lib.hid (Reads.lit (w2.alloc (.cells #[.string ⟨#[65]⟩, .slice A1 2 2, .string ⟨#[66]⟩, .slice A2 2 2] 57)) #[.int .i64 12, .int .i64 8] 3 2 1 (w2.heap.size + 1) (by simp) rfl)
  have HB3 := Lib.hid ((HB2.out.alloc HB2.out.size (.cells #[.string ⟨#[65]⟩, .slice A1 2 2, .string ⟨#[66]⟩, .slice A2 2 2] 57)).alloc (by have := HB2.out.size; simp; omega) (.cells #[.int .i64 12, .int .i64 8] 3))
  refine (waste_ex _ _ _ _ _ _ _ (by decide) HO.out HI.out).mono ?_
  rintro e w3 ⟨rfl, hb⟩
  have HB4 := Lib.hid (HB3.out.trans (hb.mono HB3.out.size))
  clear hb HO HI HB3 HB2 H1 H2 AL
  go_wp2_with fail
  refine (envies_any _).mono ?_
  rintro e w4 ⟨rfl, hb⟩
  have HB5 := Lib.hid (HB4.out.trans (hb.mono HB4.out.size))
  clear hb HB4
  go_wp2_with fail
  by_cases h0 : (Pl.dCost (plo l) xs).2.2 = 0
  · obtain ⟨g1, g2, g3, g4⟩ := Pl.dCost_ok h0
    have hm : m = n := by rw [plo_len, L1.out, L2.out] at g2; exact g2
    subst hm
    have HG : Hid (∀ k, k < m → Pl.Good (Pl.steps (plo l) k)) := fun k hk => (Pl.steps_good g1 k (by rw [plo_len, L1.out]; exact hk)).1
    have HX : Hid (∀ k, k < m → 0 ≤ xs.getD k 0 ∧ xs.getD k 0 ≤ Pl.total (Pl.steps (plo l) k)) := fun k hk => g3 k (by rw [plo_len, L1.out]; exact hk)
    have hd := Pl.dcheck_pow h0
    rw [g4] at hd
    rw [plo_len, L1.out] at hd g4
    have HC := Lib.hid (fun w a b => dCost_any A B m c m e' l xs w hcap a b)
    rw [g4] at HC
    unfold ThreeSaid at HC
    have HPR := Lib.hid (fun w hh => price_good A m c l (Pl.powK xs m) w hcap hh hd)
    have HTO := Lib.hid (fun P w ha hb a b => total_good A B m c e' l xs P w hcap ha hb h0 a b)
    have HLE := Lib.hid (fun w ha hb => least_good A B m c e' l xs w hcap ha hb h0)
    refine (waste_good A B m c e' l xs w4 hcap (H.out.go HB5.out) (hx.go HB5.out) h0).mono ?_
    rintro e w5 ⟨ps, c0, p0, rfl, hs0, _, hb⟩
    obtain ⟨wl1, wl2, wl3⟩ := Pl.waste_law HG.out hs0 HX.out rfl
    have HB6 := Lib.hid (HB5.out.trans (hb.mono HB5.out.size))
    have HS0 := Lib.hid hs0
    have HW2 := Lib.hid wl2
    have HW3 := Lib.hid wl3
    clear h0 g1 g2 g3 g4 hd hs0 wl2 wl3 hb HB5
    go_wp2_with fail
    refine (HC.out w5 (H.out.go HB6.out) (hx.go HB6.out)).mono ?_
    rintro e w6 ⟨rfl, hb⟩
    have HB7 := Lib.hid (HB6.out.trans (hb.mono HB6.out.size))
    clear hb HB6 HC
    go_wp2_with fail
    refine (HPR.out w6 (H.out.go HB7.out)).mono ?_
    rintro e w7 ⟨lo, hi, qs, c1, p1, rfl, hs1, hlo, hhi, hb⟩
    have HB8 := Lib.hid (HB7.out.trans (hb.mono HB7.out.size))
    have hle := Pl.prices_le HG.out hs1
    have hbd := Pl.plo_bd (plo l) qs m
    obtain ⟨_, e1, e2⟩ := Pl.served_prices HG.out HS0.out hs1
    rw [← hlo] at hle e1
    rw [← hhi] at hle e2
    rw [← hlo, ← hhi] at hbd
    obtain ⟨bd0, bd1⟩ := hbd
    have HLO := Lib.hid e1
    have HHI := Lib.hid e2
    have HOK := Lib.hid (fun A c w h => fine_any A 2 c [0, 0] w.heap.size w (by omega) h)
    have HOK3 := Lib.hid (fun A c w h => fine_any A 3 c [0, 0, 0] w.heap.size w (by omega) h)
    clear hb HB7 HPR hs1 hlo hhi e1 e2
    go_wp2_with fail
    have HB9 := Lib.hid (HB8.out.alloc HB8.out.size (.cells #[.int .i64 0, .int .i64 0] 23))
    refine (HOK.out _ _ _ (Reads.lit w7 #[.int .i64 0, .int .i64 0] 23 2 1 _ rfl rfl)).mono ?_
    rintro e w8 ⟨rfl, rfl⟩
    rw [show allOk [0, 0] = true from rfl]
    clear HB8 HOK
    generalize w7.alloc (.cells #[.int .i64 0, .int .i64 0] 23) = w8 at *
    obtain ⟨P1a, P1b⟩ := Pl.withinF_bd oth (-2000000) 2000000 (by omega)
    have HI1 := Lib.hid (fun w => within_any2 oth (-2000000) 2000000 w (by omega) (by omega) (by omega))
    generalize Pl.withinF oth (-2000000) 2000000 = P1 at *
    obtain ⟨P2a, P2b⟩ := Pl.withinF_bd at0 lo hi hle
    have HI2 := Lib.hid (fun w => within_any2 at0 lo hi w hle (by omega) (by omega))
    generalize Pl.withinF at0 lo hi = P2 at *
    have P2c : -2000000 ≤ P2 := by omega
    have P2d : P2 ≤ 2000000 := by omega
    have E1 := HW2.out P1
    have E2 := Lib.hid (HW3.out P2 (by rw [HLO.out]; exact P2a) (by rw [HHI.out]; exact P2b))
    go_wp2_with fail
    refine (HI1.out _).mono ?_
    rintro e w9 ⟨rfl, rfl⟩
    go_wp2_with fail
    refine (HTO.out P1 w8 (H.out.go HB9.out) (hx.go HB9.out) P1a P1b).mono ?_
    rintro e w9 ⟨rfl, hb⟩
    have HB10 := Lib.hid (HB9.out.trans (hb.mono HB9.out.size))
    clear hb HB9 HI1
    go_wp2_with fail
    refine (HI2.out _).mono ?_
    rintro e w10 ⟨rfl, rfl⟩
    go_wp2_with fail
    refine (HTO.out P2 w9 (H.out.go HB10.out) (hx.go HB10.out) P2c P2d).mono ?_
    rintro e w10 ⟨rfl, hb⟩
    have HB11 := Lib.hid (HB10.out.trans (hb.mono HB10.out.size))
    rw [E2.out]
    clear hb HB10 HI2 HTO
    go_wp2_with fail
    refine (HLE.out w10 (H.out.go HB11.out) (hx.go HB11.out)).mono ?_
    rintro e w11 ⟨lo3, rs, c3, p3, rfl, hlo3, hs3, hb⟩
    have HB12 := Lib.hid (HB11.out.trans (hb.mono HB11.out.size))
    obtain ⟨_, e1, _⟩ := Pl.served_prices HG.out HS0.out hs3
    have e2 : lo3 = lo := by rw [hlo3, ← e1, HLO.out]
    subst e2
    have E3 := Lib.hid (HW3.out lo3 (by rw [HLO.out]; exact Int.le_refl _) (by rw [HHI.out]; exact hle))
    rw [E3.out]
    clear hb HB11 HLE hlo3 hs3 e1 HS0 HW2 HW3 HLO HHI E2 E3 HG HX
    generalize Pl.envyK (plo l) xs P1 m = EX at *
    generalize Pl.costK (plo l) xs m = ck at *
    go_wp2_with fail
    refine (HOK3.out _ _ _ (Reads.lit w11 #[.int .i64 0, .int .i64 0, .int .i64 0] 23 3 1 _ rfl rfl)).mono ?_
    rintro e w12 ⟨rfl, rfl⟩
    rw [show allOk [0, 0, 0] = true from rfl]
    go_wp2_with fail
    go_ret
    exact ⟨rfl, HB12.out.alloc HB12.out.size _⟩
  · have hne : ((Pl.dCost (plo l) xs).2.2 != 0) = true := by simpa using h0
    refine (waste_bad A B n c m e' l xs w4 hcap (H.out.go HB5.out) (hx.go HB5.out) h0).mono ?_
    rintro e w5 ⟨rfl, hb⟩
    have HB6 := Lib.hid (HB5.out.trans (hb.mono HB5.out.size))
    clear hb h0
    generalize (Pl.dCost (plo l) xs).2.2 = u at *
    go_wp2_with fail
    go_ret
    exact ⟨rfl, HB6.out⟩
end Go.Proofs.Ytpbomomgjhbljaa
