/- The law OfferConvex: for every offer and power the call returns true, and old memory is left as it is. No condition. -/
import Derived.Test.YthodaikggpbiiaaOfferD
import Derived.Test.YthodaikggpbiiaaPOfferC
namespace Go.Proofs.Ythodaikggpbiiaa
open Go.RowKit
set_option maxRecDepth 100000 in
set_option maxHeartbeats 1600000 in
theorem offerConvex_core (nm : ByteArray) (A : Option Addr) (n c : Nat) (st : List (Int × Int)) (x : Int) (w : World) (hr : Reads w w.heap.size 2 A n (pairs st)) (a ea b eb d ed la nx eh : Int)
    (H1 : Hid (∀ w, Reads w w.heap.size 2 A n (pairs st) → Calls Try.prog 32 #[vOff nm A n c, .int .i64 x] w (TwoSaid (a, ea) w)))
    (H2 : Hid (∀ w, Reads w w.heap.size 2 A n (pairs st) → Calls Try.prog 32 #[vOff nm A n c, .int .i64 (wrap64 (x + 1))] w (TwoSaid (b, eb) w)))
    (H3 : Hid (∀ w, Reads w w.heap.size 2 A n (pairs st) → Calls Try.prog 32 #[vOff nm A n c, .int .i64 (wrap64 (x + 2))] w (TwoSaid (d, ed) w)))
    (H4 : Hid (∀ w, Reads w w.heap.size 2 A n (pairs st) → Calls Try.prog 33 #[vOff nm A n c, .int .i64 x] w (ThreeSaid (la, nx, eh) w)))
    (hfin : allOk [ea, eb, ed, eh] = true → (-100000000000 ≤ a ∧ a ≤ 100000000000) ∧ (-100000000000 ≤ b ∧ b ≤ 100000000000) ∧ (-100000000000 ≤ d ∧ d ≤ 100000000000) ∧ b - a = nx ∧ b - a ≤ d - b) :
    Calls Try.prog 9 #[vOff nm A n c, .int .i64 x] w fun e w' => e = .returned (.bool true) ∧ Below w.heap.size w w' := by
  have HFIN := Lib.hid hfin
  have HOK := Lib.hid (fun A c w h => fine_any A 4 c [ea, eb, ed, eh] w.heap.size w (by omega) h)
  clear hfin
  unfold vOff at *
  cases hok : allOk [ea, eb, ed, eh]
  all_goals
    rw [hok] at HOK
    have HK := Lib.hid hok
    clear hok
    go_enter Try.func9, Try.ntmps9
    go_wp2_with fail
    refine (costs_any _).mono ?_
    rintro e w1 ⟨rfl, hb⟩
    have HB1 := Lib.hid (((Below.refl w.heap.size w).alloc (Nat.le_refl _) _).trans (hb.mono (by simp)))
    have B1 : Hid (Blk w1 w.heap.size _ _) := (Blk.new_ _ _ _ _ rfl).go hb
    have c1 := B1.out.cell
    clear hb
    go_wp2_with fail
    refine (H1.out _ (hr.go HB1.out)).mono ?_
    rintro e w2 ⟨rfl, hb⟩
    have HB2 := Lib.hid (HB1.out.trans (hb.mono HB1.out.size))
    have B2 := Lib.hid (B1.out.go hb)
    clear c1 hb
    have c2 := B2.out.cell
    simp only
    go_wp2_with fail
    refine (H2.out _ (hr.go HB2.out)).mono ?_
    rintro e w3 ⟨rfl, hb⟩
    have HB3 := Lib.hid (HB2.out.trans (hb.mono HB2.out.size))
    have B3 := Lib.hid (B2.out.go hb)
    clear c2 hb
    have c3 := B3.out.cell
    simp only
    go_wp2_with fail
    refine (H3.out _ (hr.go HB3.out)).mono ?_
    rintro e w4 ⟨rfl, hb⟩
    have HB4 := Lib.hid (HB3.out.trans (hb.mono HB3.out.size))
    have B4 := Lib.hid (B3.out.go hb)
    clear c3 hb
    have c4 := B4.out.cell
    simp only
    go_wp2_with fail
    refine (H4.out _ (hr.go HB4.out)).mono ?_
    rintro e w5 ⟨rfl, hb⟩
    have HB5 := Lib.hid (HB4.out.trans (hb.mono HB4.out.size))
    clear c4 hb
    simp only
    go_wp2_with fail
    refine (HOK.out _ _ _ ?_).mono ?_
    · exact Reads.lit w5 #[.int .i64 ea, .int .i64 eb, .int .i64 ed, .int .i64 eh] 23 4 1 _ rfl rfl
    rintro e w' ⟨rfl, rfl⟩
  · go_wp2_with fail
    go_ret
    exact ⟨rfl, HB5.out.alloc HB5.out.size _⟩
  · obtain ⟨⟨u1, u2⟩, ⟨u3, u4⟩, ⟨u5, u6⟩, u7, u8⟩ := HFIN.out HK.out
    have u7' : (b - a == nx) = true := by simpa using u7
    clear u7
    go_wp2_with fail
    go_ret
    exact ⟨rfl, HB5.out.alloc HB5.out.size _⟩
theorem cost_bd {st : List (Int × Int)} (h : Pl.Good st) (x : Int) (h0 : 0 ≤ x) (h1 : x ≤ 100000) : -100000000000 ≤ Pl.ocost st x ∧ Pl.ocost st x ≤ 100000000000 := by
  have := Pl.cacc_bd h x h0 h1 st.length
  rw [List.take_length] at this
  unfold Pl.ocost
  omega
theorem offerConvex_walk (nm : ByteArray) (A : Option Addr) (n c : Nat) (st : List (Int × Int)) (x : Int) (w : World) (hs : nm.size ≤ 9223372036854775807) (hr : Reads w w.heap.size 2 A n (pairs st)) :
    Calls Try.prog 9 #[vOff nm A n c, .int .i64 x] w fun e w' => e = .returned (.bool true) ∧ Below w.heap.size w w' := by
  refine offerConvex_core nm A n c st x w hr (Pl.oCost nm st x).1 (Pl.oCost nm st x).2 (Pl.oCost nm st (wrap64 (x + 1))).1 (Pl.oCost nm st (wrap64 (x + 1))).2 (Pl.oCost nm st (wrap64 (x + 2))).1 (Pl.oCost nm st (wrap64 (x + 2))).2
    (Pl.oMarg nm st x).1 (Pl.oMarg nm st x).2.1 (Pl.oMarg nm st x).2.2 (fun w h => oCost_any nm A n c st x w hs h) (fun w h => oCost_any nm A n c st _ w hs h) (fun w h => oCost_any nm A n c st _ w hs h) (fun w h => oMarg_any nm A n c st x w hs h) ?_
  intro hok
  rw [allOk_true] at hok
  have k1 := hok _ (List.mem_cons_self)
  have k3 := hok (Pl.oCost nm st (wrap64 (x + 2))).2 (by simp)
  have e1 : Pl.opcheck nm st x = 0 := by
    by_cases h : Pl.opcheck nm st x = 0
    · exact h
    · unfold Pl.oCost at k1; rw [if_pos h] at k1; exact absurd k1 h
  have e3 : Pl.opcheck nm st (wrap64 (x + 2)) = 0 := by
    by_cases h : Pl.opcheck nm st (wrap64 (x + 2)) = 0
    · exact h
    · unfold Pl.oCost at k3; rw [if_pos h] at k3; exact absurd k3 h
  obtain ⟨g, l, x0, x1, hc⟩ := Pl.opcheck_ok e1
  have hsum := g.sum
  have w1 : wrap64 (x + 1) = x + 1 := IntWalk.wrap64_in _ ⟨by omega, by omega⟩
  have w2 : wrap64 (x + 2) = x + 2 := IntWalk.wrap64_in _ ⟨by omega, by omega⟩
  rw [w2] at e3
  obtain ⟨_, _, y0, y1, _⟩ := Pl.opcheck_ok e3
  have e2 : Pl.opcheck nm st (x + 1) = 0 := by
    unfold Pl.opcheck
    rw [if_neg (by simpa using hc), if_neg (by omega)]
  rw [w1, w2]
  have v1 : Pl.oCost nm st x = (Pl.ocost st x, 0) := by unfold Pl.oCost; rw [if_neg (by simpa using e1)]
  have v2 : Pl.oCost nm st (x + 1) = (Pl.ocost st (x + 1), 0) := by unfold Pl.oCost; rw [if_neg (by simpa using e2)]
  have v3 : Pl.oCost nm st (x + 2) = (Pl.ocost st (x + 2), 0) := by unfold Pl.oCost; rw [if_neg (by simpa using e3)]
  have v4 : (Pl.oMarg nm st x).2.1 = Pl.priceAt st x := by
    unfold Pl.oMarg; rw [if_neg (by simpa using e1)]; simp only; rw [Pl.marg_next, Int.sub_zero]
  rw [v1, v2, v3, v4]
  have s1 := Pl.cost_step g x x0 (by omega)
  have s2 := Pl.cost_step g (x + 1) (by omega) (by omega)
  have s3 := Pl.price_mono g x x0
  rw [show x + 1 + 1 = x + 2 from by omega] at s2
  rw [← Pl.ocost_eq, ← Pl.ocost_eq] at s1 s2
  exact ⟨cost_bd g _ (by omega) (by omega), cost_bd g _ (by omega) (by omega), cost_bd g _ (by omega) (by omega), s1, by simp only; omega⟩
end Go.Proofs.Ythodaikggpbiiaa
