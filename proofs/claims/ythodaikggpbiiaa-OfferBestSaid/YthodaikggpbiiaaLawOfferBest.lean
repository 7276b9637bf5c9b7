/- The law OfferBest: for every offer, price and power the call returns true, and old memory is left as it is. No condition. -/
import Derived.Test.YthodaikggpbiiaaOfferD
import Derived.Test.YthodaikggpbiiaaOfferE
namespace Go.Proofs.Ythodaikggpbiiaa
open Go.RowKit
theorem profit_lit (w : World) (A : Option Addr) (h : Reads w w.heap.size 2 A 2 (pairs twoSt)) : Calls Try.prog 29 #[vOff ⟨#[65]⟩ A 2 2, .int .i64 8] w fun e w' => e = .returned (.tuple #[.int .i64 30, .int .i64 0]) ∧ Below w.heap.size w w' := by
  have h := oProfit_any ⟨#[65]⟩ A 2 2 twoSt 8 w (by decide) h
  rw [show Pl.oProfit ⟨#[65]⟩ twoSt 8 = (30, 0) from by rfl] at h
  exact h
set_option maxRecDepth 100000 in
set_option maxHeartbeats 3200000 in
theorem offerBest_core (nm : ByteArray) (A : Option Addr) (n c : Nat) (st : List (Int × Int)) (x pw : Int) (w : World) (hr : Reads w w.heap.size 2 A n (pairs st)) (nn e lo hi f cc g a h b i : Int)
    (H1 : Hid (∀ w, Reads w w.heap.size 2 A n (pairs st) → Calls Try.prog 29 #[vOff nm A n c, .int .i64 x] w (TwoSaid (nn, e) w)))
    (H2 : Hid (∀ w, Reads w w.heap.size 2 A n (pairs st) → Calls Try.prog 27 #[vOff nm A n c, .int .i64 x] w (ThreeSaid (lo, hi, f) w)))
    (H3 : Hid (∀ w, Reads w w.heap.size 2 A n (pairs st) → Calls Try.prog 32 #[vOff nm A n c, .int .i64 pw] w (TwoSaid (cc, g) w)))
    (H4 : Hid (∀ w, Reads w w.heap.size 2 A n (pairs st) → Calls Try.prog 32 #[vOff nm A n c, .int .i64 lo] w (TwoSaid (a, h) w)))
    (H5 : Hid (∀ w, Reads w w.heap.size 2 A n (pairs st) → Calls Try.prog 32 #[vOff nm A n c, .int .i64 hi] w (TwoSaid (b, i) w)))
    (hbad : allOk [e, f] = false → e = f ∧ nn = 0)
    (hgood : allOk [e, f] = true → allOk [h, i] = true ∧ (-1000000000000 ≤ x * lo ∧ x * lo ≤ 1000000000000) ∧ (-1000000000000 ≤ x * hi ∧ x * hi ≤ 1000000000000) ∧ (-1000000000000 ≤ a ∧ a ≤ 1000000000000) ∧ (-1000000000000 ≤ b ∧ b ≤ 1000000000000) ∧
      x * lo - a = nn ∧ x * hi - b = nn ∧ lo ≤ hi ∧ (g = 0 → (-1000000000000 ≤ x * pw ∧ x * pw ≤ 1000000000000) ∧ (-1000000000000 ≤ cc ∧ cc ≤ 1000000000000) ∧ x * pw - cc ≤ nn ∧ (x * pw - cc = nn ↔ lo ≤ pw ∧ pw ≤ hi))) :
    Calls Try.prog 13 #[vOff nm A n c, .int .i64 x, .int .i64 pw] w fun e w' => e = .returned (.bool true) ∧ Below w.heap.size w w' := by
  have HBAD := Lib.hid hbad
  have HGOOD := Lib.hid hgood
  have HOK := Lib.hid (fun A c w h => fine_any A 2 c [e, f] w.heap.size w (by omega) h)
  have HOK2 := Lib.hid (fun A c w hh => fine_any A 2 c [h, i] w.heap.size w (by omega) hh)
  have HL := Lib.hid profit_lit
  clear hbad hgood
  unfold vOff at *
  cases hok : allOk [e, f]
  all_goals
    rw [hok] at HOK
    have HK := Lib.hid hok
    clear hok
    go_enter Try.func13, Try.ntmps13
    go_wp2_with fail
    refine (two_any _ _).mono ?_
    rintro e w0 ⟨A0, rfl, hr0, hb0⟩
    unfold vOff
    go_wp2_with fail
    refine (HL.out _ _ hr0).mono ?_
    rintro e w1 ⟨rfl, hb1⟩
    have hb := hb0.trans (hb1.mono hb0.size)
    have HB1 := Lib.hid (((Below.refl w.heap.size w).alloc (Nat.le_refl _) _).trans (hb.mono (by simp)))
    have B1 : Hid (Blk w1 w.heap.size _ _) := (Blk.new_ _ _ _ _ rfl).go hb
    clear hb hb0 hb1 hr0
    have c1 := B1.out.cell
    go_wp2_with fail
    refine (H1.out _ (hr.go HB1.out)).mono ?_
    rintro e w2 ⟨rfl, hb⟩
    have HB2 := Lib.hid (HB1.out.trans (hb.mono HB1.out.size))
    have B2 := Lib.hid (B1.out.go hb)
    clear c1 hb
    have c2 := B2.out.cell
    simp only
    go_wp2_with fail
    refine (H2.out _ (hr.go HB2.out)).mono ?_
    rintro e w3 ⟨rfl, hb⟩
    have HB3 := Lib.hid (HB2.out.trans (hb.mono HB2.out.size))
    have B3 := Lib.hid (B2.out.go hb)
    clear c2 hb
    have c3 := B3.out.cell
    simp only
    go_wp2_with fail
    refine (H3.out _ (hr.go HB3.out)).mono ?_
    rintro e w4 ⟨rfl, hb⟩
    have HB4 := Lib.hid (HB3.out.trans (hb.mono HB3.out.size))
    have B4 := Lib.hid (B3.out.go hb)
    clear c3 hb
    have c4 := B4.out.cell
    simp only
    go_wp2_with fail
    refine (H4.out _ (hr.go HB4.out)).mono ?_
    rintro e w5 ⟨rfl, hb⟩
    have HB5 := Lib.hid (HB4.out.trans (hb.mono HB4.out.size))
    have B5 := Lib.hid (B4.out.go hb)
    clear c4 hb
    have c5 := B5.out.cell
    simp only
    go_wp2_with fail
    refine (H5.out _ (hr.go HB5.out)).mono ?_
    rintro e w6 ⟨rfl, hb⟩
    have HB6 := Lib.hid (HB5.out.trans (hb.mono HB5.out.size))
    have B6 := Lib.hid (B5.out.go hb)
    clear c5 hb
    have c6 := B6.out.cell
    simp only
    go_wp2_with fail
    refine (HOK.out _ _ _ ?_).mono ?_
    · exact Reads.lit w6 #[.int .i64 e, .int .i64 f] 23 2 1 _ rfl rfl
    rintro e w' ⟨rfl, rfl⟩
    clear c6
  · obtain ⟨u1, u2⟩ := HBAD.out HK.out
    subst u1 u2
    have u3 : (e == e) = true := by simp
    go_wp2_with fail
    go_ret
    exact ⟨rfl, HB6.out.alloc HB6.out.size _⟩
  · obtain ⟨k1, ⟨u1, u2⟩, ⟨u3, u4⟩, ⟨u5, u6⟩, ⟨u7, u8⟩, u9, u10, u11, u12⟩ := HGOOD.out HK.out
    rw [k1] at HOK2
    have U9 : Hid ((x * lo - a == nn) = true) := by show _ = _; simpa using u9
    have U10 : Hid ((x * hi - b == nn) = true) := by show _ = _; simpa using u10
    have U12 := Lib.hid u12
    clear u9 u10 k1 u12
    go_wp2_with fail
    refine (HOK2.out _ _ _ ?_).mono ?_
    · exact Reads.lit _ #[.int .i64 h, .int .i64 i] 23 2 1 _ (by simp) rfl
    rintro e w' ⟨rfl, rfl⟩
    have v9 := U9.out
    have v10 := U10.out
    by_cases hg0 : g = 0
    · obtain ⟨⟨q1, q2⟩, ⟨q3, q4⟩, q5, q6⟩ := U12.out hg0
      subst hg0
      by_cases hin : lo ≤ pw
      · by_cases hin2 : pw ≤ hi
        · have v11 : (x * pw - cc == nn) = true := by simpa using q6.2 ⟨hin, hin2⟩
          clear q6
          go_wp2_with fail
          go_ret
          exact ⟨rfl, (HB6.out.alloc HB6.out.size _).alloc (by have := HB6.out.size; simp; omega) _⟩
        · have v11 : (x * pw - cc == nn) = false := by
            have : x * pw - cc ≠ nn := fun h => hin2 (q6.1 h).2
            simpa using this
          clear q6
          go_wp2_with fail
          go_ret
          exact ⟨ret_bool (by simp; omega), (HB6.out.alloc HB6.out.size _).alloc (by have := HB6.out.size; simp; omega) _⟩
      · have v11 : (x * pw - cc == nn) = false := by
          have : x * pw - cc ≠ nn := fun h => hin (q6.1 h).1
          simpa using this
        clear q6
        go_wp2_with fail
        go_ret
        exact ⟨rfl, (HB6.out.alloc HB6.out.size _).alloc (by have := HB6.out.size; simp; omega) _⟩
    · have v12 : (g != 0) = true := by simpa using hg0
      clear hg0
      go_wp2_with fail
      go_ret
      exact ⟨rfl, (HB6.out.alloc HB6.out.size _).alloc (by have := HB6.out.size; simp; omega) _⟩
theorem cost_bd2 {st : List (Int × Int)} (h : Pl.Good st) (x : Int) (h0 : 0 ≤ x) (h1 : x ≤ 100000) : -1000000000000 ≤ Pl.ocost st x ∧ Pl.ocost st x ≤ 1000000000000 := by
  have := Pl.cacc_bd h x h0 h1 st.length
  rw [List.take_length] at this
  unfold Pl.ocost
  omega
theorem mul_bd2 {x y : Int} (x0 : -2000000 ≤ x) (x1 : x ≤ 2000000) (y0 : 0 ≤ y) (y1 : y ≤ 100000) : -1000000000000 ≤ x * y ∧ x * y ≤ 1000000000000 := by
  have u1 : x * y ≤ 2000000 * y := Int.mul_le_mul_of_nonneg_right x1 y0
  have u2 : (-2000000) * y ≤ x * y := Int.mul_le_mul_of_nonneg_right x0 y0
  omega
theorem offerBest_walk (nm : ByteArray) (A : Option Addr) (n c : Nat) (st : List (Int × Int)) (x pw : Int) (w : World) (hs : nm.size ≤ 9223372036854775807) (hr : Reads w w.heap.size 2 A n (pairs st)) :
    Calls Try.prog 13 #[vOff nm A n c, .int .i64 x, .int .i64 pw] w fun e w' => e = .returned (.bool true) ∧ Below w.heap.size w w' := by
  refine offerBest_core nm A n c st x pw w hr (Pl.oProfit nm st x).1 (Pl.oProfit nm st x).2 (Pl.oSupply nm st x).1 (Pl.oSupply nm st x).2.1 (Pl.oSupply nm st x).2.2 (Pl.oCost nm st pw).1 (Pl.oCost nm st pw).2
    (Pl.oCost nm st (Pl.oSupply nm st x).1).1 (Pl.oCost nm st (Pl.oSupply nm st x).1).2 (Pl.oCost nm st (Pl.oSupply nm st x).2.1).1 (Pl.oCost nm st (Pl.oSupply nm st x).2.1).2
    (fun w h => oProfit_any nm A n c st x w hs h) (fun w h => oSupply_any nm A n c st x w hs h) (fun w h => oCost_any nm A n c st _ w hs h) (fun w h => oCost_any nm A n c st _ w hs h) (fun w h => oCost_any nm A n c st _ w hs h) ?_ ?_
  · intro hok
    by_cases e1 : Pl.opprice nm st x = 0
    · exfalso
      have : allOk [(Pl.oProfit nm st x).2, (Pl.oSupply nm st x).2.2] = true := by
        rw [allOk_true]
        unfold Pl.oProfit Pl.oSupply
        rw [if_neg (by simpa using e1), if_neg (by simpa using e1)]
        simp
      rw [this] at hok
      cases hok
    · unfold Pl.oProfit Pl.oSupply
      rw [if_pos e1, if_pos e1]
      exact ⟨rfl, rfl⟩
  · intro hok
    rw [allOk_true] at hok
    have k1 := hok _ (List.mem_cons_self)
    have e1 : Pl.opprice nm st x = 0 := by
      by_cases h : Pl.opprice nm st x = 0
      · exact h
      · unfold Pl.oProfit at k1; rw [if_pos h] at k1; exact absurd k1 h
    obtain ⟨hc, x0, x1⟩ := Pl.opprice_ok e1
    obtain ⟨g, _, _⟩ := Pl.ocheck_ok hc
    have hsum := g.sum
    obtain ⟨l1, l2, l3, _⟩ := Pl.least_most (P := x) (st := st) fun q hq => (g.step q hq).1
    have v1 : Pl.oSupply nm st x = (Pl.leastR x st, Pl.mostR x st, 0) := by unfold Pl.oSupply; rw [if_neg (by simpa using e1)]
    have v2 : Pl.oProfit nm st x = (Pl.best x st, 0) := by unfold Pl.oProfit; rw [if_neg (by simpa using e1), Pl.profit_eq g]
    have cost_of : ∀ y, 0 ≤ y → y ≤ Pl.total st → Pl.oCost nm st y = (Pl.ocost st y, 0) := by
      intro y y0 y1
      have : Pl.opcheck nm st y = 0 := by unfold Pl.opcheck; rw [if_neg (by simpa using hc), if_neg (by omega)]
      unfold Pl.oCost; rw [if_neg (by simpa using this)]
    rw [v1, v2]
    simp only
    rw [cost_of _ l1 (by omega), cost_of _ (show 0 ≤ Pl.mostR x st by omega) l3]
    refine ⟨by rw [allOk_true]; simp, mul_bd2 x0 x1 l1 (by omega), mul_bd2 x0 x1 (by omega) (by omega), cost_bd2 g _ l1 (by omega), cost_bd2 g _ (by omega) (by omega), Pl.profit_eq g x, Pl.most_eq g x, l2, fun hg => ?_⟩
    have e3 : Pl.opcheck nm st pw = 0 := by
      by_cases h : Pl.opcheck nm st pw = 0
      · exact h
      · unfold Pl.oCost at hg; rw [if_pos h] at hg; exact absurd hg h
    obtain ⟨_, _, p0, p1, _⟩ := Pl.opcheck_ok e3
    rw [cost_of pw p0 p1]
    have hb := Pl.gain_best g x pw p0 p1
    unfold Pl.gain at hb
    rw [← Pl.ocost_eq] at hb
    exact ⟨mul_bd2 x0 x1 p0 (by omega), cost_bd2 g _ p0 (by omega), hb.1, hb.2⟩
end Go.Proofs.Ythodaikggpbiiaa
