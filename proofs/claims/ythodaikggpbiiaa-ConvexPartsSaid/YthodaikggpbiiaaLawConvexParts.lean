/- The law ConvexParts: for every function and places the call returns true, and old memory is left as it is. No condition. -/
import Derived.Test.YthodaikggpbiiaaRestrict
import Derived.Test.YthodaikggpbiiaaOfferD
import Derived.Test.YthodaikggpbiiaaWithin
namespace Go.Proofs.Ythodaikggpbiiaa
open Go.RowKit
set_option maxRecDepth 100000 in
set_option maxHeartbeats 3200000 in
theorem convexParts_core (lo va : Int) (A : Option Addr) (n c : Nat) (st : List (Int × Int)) (at0 x hi m : Int) (w : World) (hr : Reads w w.heap.size 2 A n (pairs st))
    (l1 v1 : Int) (s1 : List (Int × Int)) (l2 v2 : Int) (s2 : List (Int × Int)) (u i v j z k : Int) (bi bj bk : Bool)
    (i1 : (i == 0) = bi) (i2 : (i != 0) = !bi) (j1 : (j == 0) = bj) (j2 : (j != 0) = !bj) (k1 : (k == 0) = bk) (hb : (bi || bj) = bk) (hu : bi = true → z = u) (hv : bj = true → z = v)
    (HH : Hid (∀ w, Reads w w.heap.size 2 A n (pairs st) → Calls Try.prog 38 #[vCx lo va A n c] w (TwoSaid (hi, 0) w)))
    (HW : Hid (∀ w, Calls Try.prog 23 #[.int .i64 at0, .int .i64 lo, .int .i64 hi] w fun e w' => e = .returned (.int .i64 m) ∧ w = w'))
    (H1 : Hid (∀ w, Reads w w.heap.size 2 A n (pairs st) → Calls Try.prog 39 #[vCx lo va A n c, .int .i64 lo, .int .i64 m] w (MadeSaid ((l1, v1, s1), 0) w)))
    (H2 : Hid (∀ w, Reads w w.heap.size 2 A n (pairs st) → Calls Try.prog 39 #[vCx lo va A n c, .int .i64 m, .int .i64 hi] w (MadeSaid ((l2, v2, s2), 0) w)))
    (H3 : Hid (∀ A c w, Reads w w.heap.size 2 A s1.length (pairs s1) → Calls Try.prog 20 #[vCx l1 v1 A s1.length c, .int .i64 x] w (TwoSaid (u, i) w)))
    (H4 : Hid (∀ A c w, Reads w w.heap.size 2 A s2.length (pairs s2) → Calls Try.prog 20 #[vCx l2 v2 A s2.length c, .int .i64 x] w (TwoSaid (v, j) w)))
    (H5 : Hid (∀ w, Reads w w.heap.size 2 A n (pairs st) → Calls Try.prog 20 #[vCx lo va A n c, .int .i64 x] w (TwoSaid (z, k) w))) :
    Calls Try.prog 12 #[vCx lo va A n c, .int .i64 at0, .int .i64 x] w fun e w' => e = .returned (.bool true) ∧ Below w.heap.size w w' := by
  have HOK := Lib.hid (fun A c w h => fine_any A 2 c [0, 0] w.heap.size w (by omega) h)
  rw [show allOk [0, 0] = true from by rfl] at HOK
  unfold MadeSaid TwoSaid at *
  unfold vCx at *
  subst hb
  cases bi <;> cases bj <;> (try obtain rfl := hu rfl) <;> (try obtain rfl := hv rfl)
  all_goals
    clear hu hv
    simp only [Bool.not_true, Bool.not_false, Bool.or_true, Bool.or_false] at i2 j2 k1
    go_enter Try.func12, Try.ntmps12
    go_wp2_with fail
    refine (slopes_any _).mono ?_
    rintro e w1 ⟨rfl, hb⟩
    have HB1 := Lib.hid (((Below.refl w.heap.size w).alloc (Nat.le_refl _) _).trans (hb.mono (by simp)))
    have B1 : Hid (Blk w1 w.heap.size _ _) := (Blk.new_ _ _ _ _ rfl).go hb
    clear hb
    have c1 := B1.out.cell
    go_wp2_with fail
    refine (HH.out _ (hr.go HB1.out)).mono ?_
    rintro e w2 ⟨rfl, hb⟩
    have HB2 := Lib.hid (HB1.out.trans (hb.mono HB1.out.size))
    have B2 := Lib.hid (B1.out.go hb)
    clear c1 hb
    have c2 := B2.out.cell
    simp only
    go_wp2_with fail
    refine (HW.out _).mono ?_
    rintro e w' ⟨rfl, rfl⟩
    go_wp2_with fail
    refine (H1.out _ (hr.go HB2.out)).mono ?_
    rintro e w3 ⟨A3, d3, rfl, hown3, hb⟩
    have HB3 := Lib.hid (HB2.out.trans (hb.mono HB2.out.size))
    have B3 := Lib.hid (B2.out.go hb)
    have R3 := Lib.hid (Reads.of_own hown3)
    clear c2 hb hown3
    have c3 := B3.out.cell
    have l3 := B3.out.lt
    go_wp2_with fail
    have C3 := Lib.hid (HB3.out.alloc HB3.out.size (.cells #[.int .i64 l1, .int .i64 v1, .slice A3 s1.length d3] 34))
    have E3 := Lib.hid (Blk.new_ w3 w3.heap.size 34 #[.int .i64 l1, .int .i64 v1, .slice A3 s1.length d3] rfl)
    have S3 := Lib.hid (R3.out.go ((Below.refl _ _).alloc (Nat.le_refl _) (.cells #[.int .i64 l1, .int .i64 v1, .slice A3 s1.length d3] 34)))
    refine (H2.out _ (hr.go C3.out)).mono ?_
    rintro e w4 ⟨A4, d4, rfl, hown4, hb⟩
    have HB4 := Lib.hid (C3.out.trans (hb.mono C3.out.size))
    have B4 := Lib.hid ((B3.out.alloc _).go hb)
    have E4 := Lib.hid (E3.out.go hb)
    have S4 := Lib.hid (S3.out.go hb)
    have R4 := Lib.hid (Reads.of_own hown4)
    clear c3 l3 hb hown4
    have c4 := B4.out.cell
    have l4 := B4.out.lt
    have k4 := E4.out.cell
    have m4 := E4.out.lt
    go_wp2_with fail
    have C4 := Lib.hid (HB4.out.alloc HB4.out.size (.cells #[.int .i64 l2, .int .i64 v2, .slice A4 s2.length d4] 34))
    have F4 := Lib.hid (Blk.new_ w4 w4.heap.size 34 #[.int .i64 l2, .int .i64 v2, .slice A4 s2.length d4] rfl)
    have T4 := Lib.hid (R4.out.go ((Below.refl _ _).alloc (Nat.le_refl _) (.cells #[.int .i64 l2, .int .i64 v2, .slice A4 s2.length d4] 34)))
    refine (H3.out _ _ _ (S4.out.go ((Below.refl _ _).alloc (Nat.le_refl _) _))).mono ?_
    rintro e w5 ⟨rfl, hb⟩
    have HB5 := Lib.hid (C4.out.trans (hb.mono C4.out.size))
    have B5 := Lib.hid ((B4.out.alloc _).go hb)
    have F5 := Lib.hid (F4.out.go hb)
    have T5 := Lib.hid (T4.out.go hb)
    clear c4 l4 k4 m4 hb
    have c5 := B5.out.cell
    have k5 := F5.out.cell
    simp only
    go_wp2_with fail
    refine (H4.out _ _ _ T5.out).mono ?_
    rintro e w6 ⟨rfl, hb⟩
    have HB6 := Lib.hid (HB5.out.trans (hb.mono HB5.out.size))
    have B6 := Lib.hid (B5.out.go hb)
    clear c5 k5 hb
    have c6 := B6.out.cell
    simp only
    go_wp2_with fail
    refine (H5.out _ (hr.go HB6.out)).mono ?_
    rintro e w7 ⟨rfl, hb⟩
    have HB7 := Lib.hid (HB6.out.trans (hb.mono HB6.out.size))
    clear c6 hb
    simp only
    go_wp2_with fail
    refine (HOK.out _ _ _ ?_).mono ?_
    · exact Reads.lit w7 #[.int .i64 0, .int .i64 0] 23 2 1 _ rfl rfl
    rintro e w' ⟨rfl, rfl⟩
    go_wp2_with fail
    go_ret
    exact ⟨rfl, HB7.out.alloc HB7.out.size _⟩
set_option maxRecDepth 100000 in
set_option maxHeartbeats 800000 in
theorem convexParts_bad (lo va : Int) (A : Option Addr) (n c : Nat) (st : List (Int × Int)) (at0 x e1 : Int) (w : World) (hr : Reads w w.heap.size 2 A n (pairs st)) (he : e1 ≠ 0)
    (HH : Hid (∀ w, Reads w w.heap.size 2 A n (pairs st) → Calls Try.prog 38 #[vCx lo va A n c] w (TwoSaid (0, e1) w))) :
    Calls Try.prog 12 #[vCx lo va A n c, .int .i64 at0, .int .i64 x] w fun e w' => e = .returned (.bool true) ∧ Below w.heap.size w w' := by
  have h2 : (e1 != 0) = true := by simpa using he
  clear he
  unfold TwoSaid at *
  unfold vCx at *
  go_enter Try.func12, Try.ntmps12
  go_wp2_with fail
  refine (slopes_any _).mono ?_
  rintro e w1 ⟨rfl, hb⟩
  have HB1 := Lib.hid (((Below.refl w.heap.size w).alloc (Nat.le_refl _) _).trans (hb.mono (by simp)))
  have B1 : Hid (Blk w1 w.heap.size _ _) := (Blk.new_ _ _ _ _ rfl).go hb
  clear hb
  have c1 := B1.out.cell
  go_wp2_with fail
  refine (HH.out _ (hr.go HB1.out)).mono ?_
  rintro e w2 ⟨rfl, hb⟩
  have HB2 := Lib.hid (HB1.out.trans (hb.mono HB1.out.size))
  clear c1 hb
  simp only
  go_wp2_with fail
  go_ret
  exact ⟨rfl, HB2.out⟩
theorem convexParts_walk (lo va : Int) (A : Option Addr) (n c : Nat) (st : List (Int × Int)) (at0 x : Int) (w : World) (hr : Reads w w.heap.size 2 A n (pairs st)) :
    Calls Try.prog 12 #[vCx lo va A n c, .int .i64 at0, .int .i64 x] w fun e w' => e = .returned (.bool true) ∧ Below w.heap.size w w' := by
  have hH := fun w h => cHigh_any lo va A n c st w h
  by_cases h0 : Pl.ccheck lo va st = 0
  · obtain ⟨g, _, hlo, _⟩ := Pl.ccheck_ok h0
    have e1 : Pl.cHigh lo va st = (Pl.chigh lo st, 0) := by unfold Pl.cHigh; rw [if_neg (by simpa using h0)]
    have hp := Pl.total_pos g.long
    have hh : Pl.chigh lo st = lo + Pl.total st := rfl
    have hpl := g.place
    have hm := Pl.withinF_bd at0 lo (Pl.chigh lo st) (by omega)
    rw [e1] at hH
    obtain ⟨l1, v1, s1, l2, v2, s2, r1, r2, r3, r4, r5⟩ := Pl.parts_law h0 hm.1 hm.2 x
    have t1 := fun w h => restrict_in lo va A n c st lo (Pl.withinF at0 lo (Pl.chigh lo st)) w h h0 (Int.le_refl _) hm.1 hm.2
    have t2 := fun w h => restrict_in lo va A n c st (Pl.withinF at0 lo (Pl.chigh lo st)) (Pl.chigh lo st) w h h0 hm.1 hm.2 (Int.le_refl _)
    rw [r1] at t1
    rw [r2] at t2
    refine convexParts_core lo va A n c st at0 x (Pl.chigh lo st) (Pl.withinF at0 lo (Pl.chigh lo st)) w hr l1 v1 s1 l2 v2 s2 (Pl.cAt l1 v1 s1 x).1 (Pl.cAt l1 v1 s1 x).2 (Pl.cAt l2 v2 s2 x).1 (Pl.cAt l2 v2 s2 x).2 (Pl.cAt lo va st x).1 (Pl.cAt lo va st x).2 _ _ _ rfl ?_ rfl ?_ rfl ?_ ?_ ?_ hH (fun w => within_any2 at0 lo (Pl.chigh lo st) w (by omega) (by omega) (by omega)) t1 t2
      (fun A c w h => cAt_any l1 v1 A _ c s1 x w h) (fun A c w h => cAt_any l2 v2 A _ c s2 x w h) (fun w h => cAt_any lo va A n c st x w h)
    · rfl
    · rfl
    · rw [Bool.eq_iff_iff]; simpa using r3
    · intro h; exact (r4 (by simpa using h)).symm
    · intro h; exact (r5 (by simpa using h)).symm
  · have e1 : Pl.cHigh lo va st = (0, Pl.ccheck lo va st) := by unfold Pl.cHigh; rw [if_pos h0]
    rw [e1] at hH
    exact convexParts_bad lo va A n c st at0 x _ w hr h0 hH
end Go.Proofs.Ythodaikggpbiiaa
