/- The law OfferRises: for every offer, price and rise the call returns true, and old memory is left as it is. No condition. -/
import Derived.Test.YthodaikggpbiiaaOfferD
import Derived.Test.YthodaikggpbiiaaOfferE
import Derived.Test.YthodaikggpbiiaaWithin
namespace Go.Proofs.Ythodaikggpbiiaa
open Go.RowKit
theorem supply_lit (w : World) (A : Option Addr) (h : Reads w w.heap.size 2 A 2 (pairs twoSt)) : Calls Try.prog 27 #[vOff ⟨#[65]⟩ A 2 2, .int .i64 6] w fun e w' => e = .returned (.tuple #[.int .i64 10, .int .i64 10, .int .i64 0]) ∧ Below w.heap.size w w' := by
  have h := oSupply_any ⟨#[65]⟩ A 2 2 twoSt 6 w (by decide) h
  rw [show Pl.oSupply ⟨#[65]⟩ twoSt 6 = (10, 10, 0) from by rfl] at h
  exact h
set_option maxRecDepth 100000 in
set_option maxHeartbeats 1600000 in
theorem offerRises_core (nm : ByteArray) (A : Option Addr) (n c : Nat) (st : List (Int × Int)) (x more mr : Int) (w : World) (hr : Reads w w.heap.size 2 A n (pairs st)) (a b e1 a' b' e2 m e3 m' e4 : Int)
    (H1 : Hid (∀ w, Reads w w.heap.size 2 A n (pairs st) → Calls Try.prog 27 #[vOff nm A n c, .int .i64 x] w (ThreeSaid (a, b, e1) w)))
    (H2 : Hid (∀ w, Reads w w.heap.size 2 A n (pairs st) → Calls Try.prog 27 #[vOff nm A n c, .int .i64 (wrap64 (x + mr))] w (ThreeSaid (a', b', e2) w)))
    (H3 : Hid (∀ w, Reads w w.heap.size 2 A n (pairs st) → Calls Try.prog 29 #[vOff nm A n c, .int .i64 x] w (TwoSaid (m, e3) w)))
    (H4 : Hid (∀ w, Reads w w.heap.size 2 A n (pairs st) → Calls Try.prog 29 #[vOff nm A n c, .int .i64 (wrap64 (x + mr))] w (TwoSaid (m', e4) w)))
    (HW : Hid (∀ w, Calls Try.prog 23 #[.int .i64 more, .int .i64 0, .int .i64 100000] w fun e w' => e = .returned (.int .i64 mr) ∧ w = w'))
    (hfin : allOk [e1, e2, e3, e4] = true → a ≤ a' ∧ b ≤ b' ∧ (mr = 0 ∨ b ≤ a') ∧ m ≤ m') :
    Calls Try.prog 8 #[vOff nm A n c, .int .i64 x, .int .i64 more] w fun e w' => e = .returned (.bool true) ∧ Below w.heap.size w w' := by
  have HFIN := Lib.hid hfin
  have HOK := Lib.hid (fun A c w h => fine_any A 4 c [e1, e2, e3, e4] w.heap.size w (by omega) h)
  have HL := Lib.hid supply_lit
  clear hfin
  unfold vOff at *
  cases hok : allOk [e1, e2, e3, e4]
  all_goals
    rw [hok] at HOK
    have HK := Lib.hid hok
    clear hok
    go_enter Try.func8, Try.ntmps8
    go_wp2_with fail
    refine (two_any _ _).mono ?_
    rintro e w0 ⟨A0, rfl, hr0, hb0⟩
    unfold vOff
    go_wp2_with fail
    refine (HL.out _ _ hr0).mono ?_
    rintro e w1 ⟨rfl, hb1⟩
    have hb := hb0.trans (hb1.mono hb0.size)
    have HB1 := Lib.hid (((Below.refl w.heap.size w).alloc (Nat.le_refl _) _).trans (hb.mono (by simp)))
    have B1 : Hid (Blk w1 w.heap.size _ _) := (Blk.new_ _ _ _ _ rfl).go hb
    clear hb hb0 hb1 hr0
    have c1 := B1.out.cell
    go_wp2_with fail
    refine (HW.out _).mono ?_
    rintro e w' ⟨rfl, rfl⟩
    go_wp2_with fail
    refine (H1.out _ (hr.go HB1.out)).mono ?_
    rintro e w2 ⟨rfl, hb⟩
    have HB2 := Lib.hid (HB1.out.trans (hb.mono HB1.out.size))
    have B2 := Lib.hid (B1.out.go hb)
    clear c1 hb
    have c2 := B2.out.cell
    simp only
    go_wp2_with fail
    refine (H2.out _ (hr.go HB2.out)).mono ?_
    rintro e w3 ⟨rfl, hb⟩
    have HB3 := Lib.hid (HB2.out.trans (hb.mono HB2.out.size))
    have B3 := Lib.hid (B2.out.go hb)
    clear c2 hb
    have c3 := B3.out.cell
    simp only
    go_wp2_with fail
    refine (H3.out _ (hr.go HB3.out)).mono ?_
    rintro e w4 ⟨rfl, hb⟩
    have HB4 := Lib.hid (HB3.out.trans (hb.mono HB3.out.size))
    have B4 := Lib.hid (B3.out.go hb)
    clear c3 hb
    have c4 := B4.out.cell
    simp only
    go_wp2_with fail
    refine (H4.out _ (hr.go HB4.out)).mono ?_
    rintro e w5 ⟨rfl, hb⟩
    have HB5 := Lib.hid (HB4.out.trans (hb.mono HB4.out.size))
    have B5 := Lib.hid (B4.out.go hb)
    clear c4 hb
    have c5 := B5.out.cell
    simp only
    go_wp2_with fail
    refine (HOK.out _ _ _ ?_).mono ?_
    · exact Reads.lit w5 #[.int .i64 e1, .int .i64 e2, .int .i64 e3, .int .i64 e4] 23 4 1 _ rfl rfl
    rintro e w' ⟨rfl, rfl⟩
  · go_wp2_with fail
    go_ret
    exact ⟨rfl, HB5.out.alloc HB5.out.size _⟩
  · obtain ⟨u1, u2, u3, u4⟩ := HFIN.out HK.out
    rcases u3 with u3 | u3
    · have u3' : (mr == 0) = true := by simpa using u3
      clear u3
      go_wp2_with fail
      go_ret
      exact ⟨rfl, HB5.out.alloc HB5.out.size _⟩
    · by_cases hm0 : mr = 0
      · have u3' : (mr == 0) = true := by simpa using hm0
        clear hm0
        go_wp2_with fail
        go_ret
        exact ⟨rfl, HB5.out.alloc HB5.out.size _⟩
      · have u3' : (mr == 0) = false := by simpa using hm0
        clear hm0
        go_wp2_with fail
        go_ret
        exact ⟨rfl, HB5.out.alloc HB5.out.size _⟩
theorem offerRises_walk (nm : ByteArray) (A : Option Addr) (n c : Nat) (st : List (Int × Int)) (x more : Int) (w : World) (hs : nm.size ≤ 9223372036854775807) (hr : Reads w w.heap.size 2 A n (pairs st)) :
    Calls Try.prog 8 #[vOff nm A n c, .int .i64 x, .int .i64 more] w fun e w' => e = .returned (.bool true) ∧ Below w.heap.size w w' := by
  have hmr := Pl.withinF_bd more 0 100000 (by omega)
  refine offerRises_core nm A n c st x more (Pl.withinF more 0 100000) w hr (Pl.oSupply nm st x).1 (Pl.oSupply nm st x).2.1 (Pl.oSupply nm st x).2.2 (Pl.oSupply nm st (wrap64 (x + Pl.withinF more 0 100000))).1 (Pl.oSupply nm st (wrap64 (x + Pl.withinF more 0 100000))).2.1 (Pl.oSupply nm st (wrap64 (x + Pl.withinF more 0 100000))).2.2
    (Pl.oProfit nm st x).1 (Pl.oProfit nm st x).2 (Pl.oProfit nm st (wrap64 (x + Pl.withinF more 0 100000))).1 (Pl.oProfit nm st (wrap64 (x + Pl.withinF more 0 100000))).2
    (fun w h => oSupply_any nm A n c st x w hs h) (fun w h => oSupply_any nm A n c st _ w hs h) (fun w h => oProfit_any nm A n c st x w hs h) (fun w h => oProfit_any nm A n c st _ w hs h) (fun w => within_any2 more 0 100000 w (by omega) (by omega) (by omega)) ?_
  generalize Pl.withinF more 0 100000 = mr at *
  intro hok
  rw [allOk_true] at hok
  have k1 := hok _ (List.mem_cons_self)
  have k2 := hok (Pl.oSupply nm st (wrap64 (x + mr))).2.2 (by simp)
  have e1 : Pl.opprice nm st x = 0 := by
    by_cases h : Pl.opprice nm st x = 0
    · exact h
    · unfold Pl.oSupply at k1; rw [if_pos h] at k1; exact absurd k1 h
  have e2 : Pl.opprice nm st (wrap64 (x + mr)) = 0 := by
    by_cases h : Pl.opprice nm st (wrap64 (x + mr)) = 0
    · exact h
    · unfold Pl.oSupply at k2; rw [if_pos h] at k2; exact absurd k2 h
  obtain ⟨hc, x0, x1⟩ := Pl.opprice_ok e1
  obtain ⟨g, _, _⟩ := Pl.ocheck_ok hc
  have w1 : wrap64 (x + mr) = x + mr := IntWalk.wrap64_in _ ⟨by omega, by omega⟩
  rw [w1] at e2 ⊢
  have v1 : Pl.oSupply nm st x = (Pl.leastR x st, Pl.mostR x st, 0) := by unfold Pl.oSupply; rw [if_neg (by simpa using e1)]
  have v2 : Pl.oSupply nm st (x + mr) = (Pl.leastR (x + mr) st, Pl.mostR (x + mr) st, 0) := by unfold Pl.oSupply; rw [if_neg (by simpa using e2)]
  have v3 : Pl.oProfit nm st x = (Pl.best x st, 0) := by unfold Pl.oProfit; rw [if_neg (by simpa using e1), Pl.profit_eq g]
  have v4 : Pl.oProfit nm st (x + mr) = (Pl.best (x + mr) st, 0) := by unfold Pl.oProfit; rw [if_neg (by simpa using e2), Pl.profit_eq g]
  rw [v1, v2, v3, v4]
  obtain ⟨r1, r2, r3, r4⟩ := Pl.rises (st := st) (fun q hq => (g.step q hq).1) x (x + mr) (by omega)
  refine ⟨r1, r2, ?_, r4⟩
  by_cases h0 : mr = 0
  · exact .inl h0
  · exact .inr (r3 (by omega))
end Go.Proofs.Ythodaikggpbiiaa
