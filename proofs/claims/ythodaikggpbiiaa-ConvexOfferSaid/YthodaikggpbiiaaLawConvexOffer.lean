/- The law ConvexOffer: for every offer and power the call returns true, and old memory is left as it is. No condition. -/
import Derived.Test.YthodaikggpbiiaaOf
import Derived.Test.YthodaikggpbiiaaSame
namespace Go.Proofs.Ythodaikggpbiiaa
open Go.RowKit
theorem cOf_ex : Pl.cOf ⟨#[65]⟩ twoSt = ((0, 0, risesSt), 0) := by rfl
theorem of_lit (w : World) (A : Option Addr) (h : Reads w w.heap.size 2 A 2 (pairs twoSt)) :
    Calls Try.prog 40 #[vOff ⟨#[65]⟩ A 2 2] w fun e w' => ∃ A' c, e = .returned (.tuple #[.agg #[.int .i64 0, .int .i64 0, .slice A' 2 c], .int .i64 0]) ∧ Reads w' w'.heap.size 2 A' 2 (pairs risesSt) ∧ Below w.heap.size w w' := by
  have h := cOf_any ⟨#[65]⟩ A 2 2 twoSt w (by decide) h
  rw [cOf_ex] at h
  exact h.mono fun e w' ⟨A', c, he, ho, hb⟩ => ⟨A', c, he, Reads.of_own ho, hb⟩
namespace Pl
/-- the law in plain words -/
theorem offer_law {nm : ByteArray} {st : List (Int × Int)} (h : (cOf nm st).2 = 0) (x : Int) :
    ∃ l v s, cOf nm st = ((l, v, s), 0) ∧ (oCost nm st x).1 = (cAt l v s x).1 ∧ ((oCost nm st x).2 = 0 ↔ (cAt l v s x).2 = 0) := by
  by_cases h0 : ocheck nm st = 0
  · obtain ⟨g, _, _⟩ := ocheck_ok h0
    have e : cOf nm st = cMade 0 0 st := by unfold cOf; rw [if_neg (by simpa using h0)]
    rw [e] at h ⊢
    have hc : ccheck 0 0 (cjoin st) = 0 := by
      unfold cMade at h
      by_cases hc : ccheck 0 0 (cjoin st) = 0
      · exact hc
      · rw [if_pos hc] at h; simp at h
    refine ⟨0, 0, cjoin st, by unfold cMade; rw [if_neg (by simpa using hc)], ?_⟩
    obtain ⟨k1, k2, k3⟩ := cjoin_keeps fun q hq => (g.step q hq).1
    have e1 : cAt 0 0 (cjoin st) x = if x < 0 ∨ total st < x then (0, 4) else (costR st x, 0) := by
      unfold cAt chigh
      rw [if_neg (by simpa using hc), k2, show 0 + total st = total st by omega]
      by_cases hx : x < 0 ∨ total st < x
      · rw [if_pos hx, if_pos hx]
      · rw [if_neg hx, if_neg hx]
        unfold cvat
        rw [show x - 0 = x by omega, k3 x (by omega), Int.zero_add]
    have e2 : oCost nm st x = if x < 0 ∨ total st < x then (0, 4) else (costR st x, 0) := by
      unfold oCost opcheck
      rw [if_neg (show ¬ ocheck nm st ≠ 0 by simpa using h0)]
      by_cases hx : x < 0 ∨ total st < x
      · rw [if_pos hx, if_pos (by omega), if_pos hx]
      · rw [if_neg hx, if_neg (by omega), if_neg hx, ocost_eq]
    rw [e1, e2]
    exact ⟨rfl, Iff.rfl⟩
  · unfold cOf at h; rw [if_pos h0] at h; exact absurd h h0
end Pl
set_option maxRecDepth 100000 in
set_option maxHeartbeats 1600000 in
theorem convexOffer_core (nm : ByteArray) (A : Option Addr) (n c : Nat) (st : List (Int × Int)) (x : Int) (w : World) (hr : Reads w w.heap.size 2 A n (pairs st))
    (l1 v1 : Int) (s1 : List (Int × Int)) (u g h : Int) (b : Bool) (hg : (g == 0) = b) (hh : (h == 0) = b)
    (H1 : Hid (∀ w, Reads w w.heap.size 2 A n (pairs st) → Calls Try.prog 40 #[vOff nm A n c] w (MadeSaid ((l1, v1, s1), 0) w)))
    (H2 : Hid (∀ w, Reads w w.heap.size 2 A n (pairs st) → Calls Try.prog 32 #[vOff nm A n c, .int .i64 x] w (TwoSaid (u, g) w)))
    (H3 : Hid (∀ A c w, Reads w w.heap.size 2 A s1.length (pairs s1) → Calls Try.prog 20 #[vCx l1 v1 A s1.length c, .int .i64 x] w (TwoSaid (u, h) w))) :
    Calls Try.prog 14 #[vOff nm A n c, .int .i64 x] w fun e w' => e = .returned (.bool true) ∧ Below w.heap.size w w' := by
  have HL := Lib.hid of_lit
  have HS := Lib.hid (fun A B c w h1 h2 => same_any 0 0 A B 2 c 2 risesSt w (by omega) h1 h2)
  have HRI := Lib.hid (fun w => rises_any w)
  unfold MadeSaid TwoSaid at *
  unfold vOff vCx at *
  cases b
  all_goals
    go_enter Try.func14, Try.ntmps14
    go_wp2_with fail
    refine (two_any _ _).mono ?_
    rintro e w0 ⟨A0, rfl, hr0, hb0⟩
    unfold vOff
    go_wp2_with fail
    refine (HL.out _ _ hr0).mono ?_
    rintro e w1 ⟨A1, d1, rfl, hr1, hb1⟩
    have hb := hb0.trans (hb1.mono hb0.size)
    have HB1 := Lib.hid (((Below.refl w.heap.size w).alloc (Nat.le_refl _) _).trans (hb.mono (by simp)))
    have B1 : Hid (Blk w1 w.heap.size _ _) := (Blk.new_ _ _ _ _ rfl).go hb
    have R1 := Lib.hid hr1
    clear hb hb0 hb1 hr0 hr1
    have c1 := B1.out.cell
    have l1' := B1.out.lt
    go_wp2_with fail
    have hcur := Lib.hid (HB1.out.alloc HB1.out.size (.cells #[.int .i64 0, .int .i64 0, .slice A1 2 d1] 34)).drew
    have bcur := Lib.hid (Blk.new_ w1 w1.heap.size 34 #[.int .i64 0, .int .i64 0, .slice A1 2 d1] rfl).drew
    have ocur := Lib.hid (B1.out.alloc (.cells #[.int .i64 0, .int .i64 0, .slice A1 2 d1] 34)).drew
    have rcur := Lib.hid (show Reads (w1.alloc (.cells #[.int .i64 0, .int .i64 0, .slice A1 2 d1] 34)).drew (w1.alloc (.cells #[.int .i64 0, .int .i64 0, .slice A1 2 d1] 34)).drew.heap.size _ _ _ _ from R1.out.go ((Below.refl _ _).alloc (Nat.le_refl _) _).drew)
    clear c1 l1'
    go_region_held3 (fun w' => (∀ j, w'.cell? ⟨w1.heap.size, j, none⟩ = #[.int .i64 0, .int .i64 0, .slice A1 2 d1][j]?) ∧ Below w.heap.size w w')
      (exact ⟨bcur.out.cell, hcur.out⟩)
      (first
        | (go_at_call 18; refine (HRI.out _).mono ?_; rintro e wz ⟨A2, rfl, hr2, hbz⟩; have hcur := Lib.hid (hcur.out.trans (hbz.mono hcur.out.size)); have bcur := Lib.hid (bcur.out.go hbz); have ocur := Lib.hid (ocur.out.go hbz); have rcur := Lib.hid (rcur.out.go hbz); have r2 := Lib.hid hr2; clear hbz hr2)
        | (go_at_call 37; refine (HS.out _ _ _ _ rcur.out r2.out).mono ?_; rintro e wz ⟨rfl, hbz⟩; have hcur := Lib.hid (hcur.out.trans (hbz.mono hcur.out.size)); have bcur := Lib.hid (bcur.out.go hbz); have ocur := Lib.hid (ocur.out.go hbz); have rcur := Lib.hid (rcur.out.go hbz); clear hbz)
        | (go_at_call 19; refine (slopes_any _).mono ?_; rintro e wz ⟨rfl, hbz⟩; have hcur := Lib.hid (hcur.out.trans (hbz.mono hcur.out.size)); have bcur := Lib.hid (bcur.out.go hbz); have ocur := Lib.hid (ocur.out.go hbz); have rcur := Lib.hid (rcur.out.go hbz); clear hbz))
    all_goals
      have c2 := ocur.out.cell
      go_wp2_with fail
      refine (H1.out _ (hr.go hcur.out)).mono ?_
      rintro e w3 ⟨A3, d3, rfl, hown3, hb⟩
      have HB3 := Lib.hid (hcur.out.trans (hb.mono hcur.out.size))
      have B3 := Lib.hid (ocur.out.go hb)
      have R3 := Lib.hid (Reads.of_own hown3)
      clear c2 hb hown3
      have c3 := B3.out.cell
      have l3 := B3.out.lt
      go_wp2_with fail
      have C3 := Lib.hid (HB3.out.alloc HB3.out.size (.cells #[.int .i64 l1, .int .i64 v1, .slice A3 s1.length d3] 34))
      have E3 := Lib.hid (Blk.new_ w3 w3.heap.size 34 #[.int .i64 l1, .int .i64 v1, .slice A3 s1.length d3] rfl)
      have S3 := Lib.hid (R3.out.go ((Below.refl _ _).alloc (Nat.le_refl _) (.cells #[.int .i64 l1, .int .i64 v1, .slice A3 s1.length d3] 34)))
      refine (H2.out _ (hr.go C3.out)).mono ?_
      rintro e w4 ⟨rfl, hb⟩
      have HB4 := Lib.hid (C3.out.trans (hb.mono C3.out.size))
      have E4 := Lib.hid (E3.out.go hb)
      have S4 := Lib.hid (S3.out.go hb)
      clear c3 l3 hb
      have k4 := E4.out.cell
      simp only
      go_wp2_with fail
      refine (H3.out _ _ _ S4.out).mono ?_
      rintro e w5 ⟨rfl, hb⟩
      have HB5 := Lib.hid (HB4.out.trans (hb.mono HB4.out.size))
      clear k4 hb
      simp only
      go_wp2_with fail
      go_ret
      exact ⟨rfl, HB5.out⟩
set_option maxRecDepth 100000 in
set_option maxHeartbeats 1600000 in
theorem convexOffer_bad (nm : ByteArray) (A : Option Addr) (n c : Nat) (st : List (Int × Int)) (x : Int) (w : World) (hr : Reads w w.heap.size 2 A n (pairs st)) (l1 v1 e1 : Int) (he : e1 ≠ 0)
    (H1 : Hid (∀ w, Reads w w.heap.size 2 A n (pairs st) → Calls Try.prog 40 #[vOff nm A n c] w (MadeSaid ((l1, v1, []), e1) w))) :
    Calls Try.prog 14 #[vOff nm A n c, .int .i64 x] w fun e w' => e = .returned (.bool true) ∧ Below w.heap.size w w' := by
  have HL := Lib.hid of_lit
  have HS := Lib.hid (fun A B c w h1 h2 => same_any 0 0 A B 2 c 2 risesSt w (by omega) h1 h2)
  have HRI := Lib.hid (fun w => rises_any w)
  have h2 : (e1 != 0) = true := by simpa using he
  clear he
  unfold MadeSaid at *
  unfold vOff vCx at *
  go_enter Try.func14, Try.ntmps14
  go_wp2_with fail
  refine (two_any _ _).mono ?_
  rintro e w0 ⟨A0, rfl, hr0, hb0⟩
  unfold vOff
  go_wp2_with fail
  refine (HL.out _ _ hr0).mono ?_
  rintro e w1 ⟨A1, d1, rfl, hr1, hb1⟩
  have hb := hb0.trans (hb1.mono hb0.size)
  have HB1 := Lib.hid (((Below.refl w.heap.size w).alloc (Nat.le_refl _) _).trans (hb.mono (by simp)))
  have B1 : Hid (Blk w1 w.heap.size _ _) := (Blk.new_ _ _ _ _ rfl).go hb
  have R1 := Lib.hid hr1
  clear hb hb0 hb1 hr0 hr1
  have c1 := B1.out.cell
  have l1' := B1.out.lt
  go_wp2_with fail
  have hcur := Lib.hid (HB1.out.alloc HB1.out.size (.cells #[.int .i64 0, .int .i64 0, .slice A1 2 d1] 34)).drew
  have bcur := Lib.hid (Blk.new_ w1 w1.heap.size 34 #[.int .i64 0, .int .i64 0, .slice A1 2 d1] rfl).drew
  have ocur := Lib.hid (B1.out.alloc (.cells #[.int .i64 0, .int .i64 0, .slice A1 2 d1] 34)).drew
  have rcur := Lib.hid (show Reads (w1.alloc (.cells #[.int .i64 0, .int .i64 0, .slice A1 2 d1] 34)).drew (w1.alloc (.cells #[.int .i64 0, .int .i64 0, .slice A1 2 d1] 34)).drew.heap.size _ _ _ _ from R1.out.go ((Below.refl _ _).alloc (Nat.le_refl _) _).drew)
  clear c1 l1'
  go_region_held3 (fun w' => (∀ j, w'.cell? ⟨w1.heap.size, j, none⟩ = #[.int .i64 0, .int .i64 0, .slice A1 2 d1][j]?) ∧ Below w.heap.size w w')
    (exact ⟨bcur.out.cell, hcur.out⟩)
    (first
      | (go_at_call 18; refine (HRI.out _).mono ?_; rintro e wz ⟨A2, rfl, hr2, hbz⟩; have hcur := Lib.hid (hcur.out.trans (hbz.mono hcur.out.size)); have bcur := Lib.hid (bcur.out.go hbz); have ocur := Lib.hid (ocur.out.go hbz); have rcur := Lib.hid (rcur.out.go hbz); have r2 := Lib.hid hr2; clear hbz hr2)
      | (go_at_call 37; refine (HS.out _ _ _ _ rcur.out r2.out).mono ?_; rintro e wz ⟨rfl, hbz⟩; have hcur := Lib.hid (hcur.out.trans (hbz.mono hcur.out.size)); have bcur := Lib.hid (bcur.out.go hbz); have ocur := Lib.hid (ocur.out.go hbz); have rcur := Lib.hid (rcur.out.go hbz); clear hbz)
      | (go_at_call 19; refine (slopes_any _).mono ?_; rintro e wz ⟨rfl, hbz⟩; have hcur := Lib.hid (hcur.out.trans (hbz.mono hcur.out.size)); have bcur := Lib.hid (bcur.out.go hbz); have ocur := Lib.hid (ocur.out.go hbz); have rcur := Lib.hid (rcur.out.go hbz); clear hbz))
  all_goals
    have c2 := ocur.out.cell
    go_wp2_with fail
    refine (H1.out _ (hr.go hcur.out)).mono ?_
    rintro e w3 ⟨A3, d3, rfl, hown3, hb⟩
    have HB3 := Lib.hid (hcur.out.trans (hb.mono hcur.out.size))
    clear c2 hb hown3
    go_wp2_with fail
    go_ret
    exact ⟨by simp, HB3.out.alloc HB3.out.size _⟩
theorem convexOffer_walk (nm : ByteArray) (A : Option Addr) (n c : Nat) (st : List (Int × Int)) (x : Int) (w : World) (hs : nm.size ≤ 9223372036854775807) (hr : Reads w w.heap.size 2 A n (pairs st)) :
    Calls Try.prog 14 #[vOff nm A n c, .int .i64 x] w fun e w' => e = .returned (.bool true) ∧ Below w.heap.size w w' := by
  have hO := fun w h => cOf_any nm A n c st w hs h
  by_cases h0 : (Pl.cOf nm st).2 = 0
  · obtain ⟨l, v, s, e1, e2, e3⟩ := Pl.offer_law h0 x
    rw [e1] at hO
    have hA := fun A c w h => cAt_any l v A s.length c s x w h
    have hC := fun w h => oCost_any nm A n c st x w hs h
    rw [show Pl.oCost nm st x = ((Pl.cAt l v s x).1, (Pl.oCost nm st x).2) from by rw [← e2]] at hC
    refine convexOffer_core nm A n c st x w hr l v s (Pl.cAt l v s x).1 (Pl.oCost nm st x).2 (Pl.cAt l v s x).2 _ rfl ?_ hO hC hA
    rw [Bool.eq_iff_iff]; simpa using e3.symm
  · have hb := Pl.cOf_bad h0
    refine convexOffer_bad nm A n c st x w hr (Pl.cOf nm st).1.1 (Pl.cOf nm st).1.2.1 (Pl.cOf nm st).2 h0 ?_
    intro w h
    have := hO w h
    rw [show Pl.cOf nm st = (((Pl.cOf nm st).1.1, (Pl.cOf nm st).1.2.1, []), (Pl.cOf nm st).2) from by rw [← hb]] at this
    exact this
end Go.Proofs.Ythodaikggpbiiaa
