/- The law ConvexLeast: for every function and argument the call returns true, and old memory is left as it is. No condition. -/
import Derived.Test.YthodaikggpbiiaaConvexC
namespace Go.Proofs.Ythodaikggpbiiaa
open Go.RowKit
theorem least_lit (w : World) (A : Option Addr) (h : Reads w w.heap.size 2 A 2 (pairs risesSt)) : Calls Try.prog 17 #[vCx 0 0 A 2 2] w fun e w' => e = .returned (.tuple #[.int .i64 0, .int .i64 0, .int .i64 0]) ∧ Below w.heap.size w w' := by
  have h := cLeast_any 0 0 A 2 2 risesSt w h
  rw [cLeast_ex] at h
  exact h
set_option maxRecDepth 100000 in
set_option maxHeartbeats 1600000 in
theorem convexLeast_core (lo va : Int) (A : Option Addr) (n c : Nat) (st : List (Int × Int)) (x : Int) (w : World) (hr : Reads w w.heap.size 2 A n (pairs st)) (at_ v e nn g m h : Int)
    (H1 : Hid (∀ w, Reads w w.heap.size 2 A n (pairs st) → Calls Try.prog 17 #[vCx lo va A n c] w (ThreeSaid (at_, v, e) w)))
    (H2 : Hid (∀ w, Reads w w.heap.size 2 A n (pairs st) → Calls Try.prog 20 #[vCx lo va A n c, .int .i64 x] w (TwoSaid (nn, g) w)))
    (H3 : Hid (∀ w, Reads w w.heap.size 2 A n (pairs st) → Calls Try.prog 20 #[vCx lo va A n c, .int .i64 at_] w (TwoSaid (m, h) w)))
    (hbad : e ≠ 0 → at_ = 0 ∧ v = 0) (hfin : e = 0 → h = 0 ∧ m = v ∧ (g ≠ 0 ∨ (v ≤ nn ∧ (v < nn ∨ at_ ≤ x)))) :
    Calls Try.prog 4 #[vCx lo va A n c, .int .i64 x] w fun e w' => e = .returned (.bool true) ∧ Below w.heap.size w w' := by
  have HFIN := Lib.hid hfin
  have HBAD := Lib.hid hbad
  have HL := Lib.hid least_lit
  clear hfin hbad
  unfold vCx at *
  go_enter Try.func4, Try.ntmps4
  go_wp2_with fail
  refine (rises_any _).mono ?_
  rintro e' w0 ⟨A0, rfl, hr0, hb0⟩
  unfold vCx
  go_wp2_with fail
  refine (HL.out _ _ hr0).mono ?_
  rintro e' w1 ⟨rfl, hb1⟩
  have hb := hb0.trans (hb1.mono hb0.size)
  have HB1 := Lib.hid (((Below.refl w.heap.size w).alloc (Nat.le_refl _) _).trans (hb.mono (by simp)))
  have B1 : Hid (Blk w1 w.heap.size _ _) := (Blk.new_ _ _ _ _ rfl).go hb
  clear hb hb0 hb1 hr0
  go_wp2_with fail
  refine (slopes_any _).mono ?_
  rintro e' w2 ⟨rfl, hb⟩
  have HB2 := Lib.hid (HB1.out.trans (hb.mono HB1.out.size))
  have B2 := Lib.hid (B1.out.go hb)
  clear hb
  have c2 := B2.out.cell
  go_wp2_with fail
  refine (H1.out _ (hr.go HB2.out)).mono ?_
  rintro e' w3 ⟨rfl, hb⟩
  have HB3 := Lib.hid (HB2.out.trans (hb.mono HB2.out.size))
  have B3 := Lib.hid (B2.out.go hb)
  clear c2 hb
  have c3 := B3.out.cell
  simp only
  by_cases he : e = 0
  · subst he
    have HX := Lib.hid (HFIN.out rfl)
    go_wp2_with fail
    refine (H2.out _ (hr.go HB3.out)).mono ?_
    rintro e' w4 ⟨rfl, hb⟩
    have HB4 := Lib.hid (HB3.out.trans (hb.mono HB3.out.size))
    have B4 := Lib.hid (B3.out.go hb)
    clear c3 hb
    have c4 := B4.out.cell
    simp only
    go_wp2_with fail
    refine (H3.out _ (hr.go HB4.out)).mono ?_
    rintro e' w5 ⟨rfl, hb⟩
    have HB5 := Lib.hid (HB4.out.trans (hb.mono HB4.out.size))
    clear c4 hb
    simp only
    obtain ⟨u1, u2, u3⟩ := HX.out
    have u1' : (h == 0) = true := by simpa using u1
    have u2' : (m == v) = true := by simpa using u2
    clear u1 u2 HX HFIN HBAD
    by_cases hg : g = 0
    · have hg' : (g != 0) = false := by simpa using hg
      rcases u3 with u3 | ⟨u3, u4⟩
      · exact absurd hg u3
      · clear hg
        by_cases hv : v < nn
        · go_wp2_with fail
          go_ret
          exact ⟨rfl, HB5.out⟩
        · have hx : at_ ≤ x := by omega
          clear u4
          go_wp2_with fail
          go_ret
          exact ⟨rfl, HB5.out⟩
    · have hg' : (g != 0) = true := by simpa using hg
      clear hg u3
      go_wp2_with fail
      go_ret
      exact ⟨rfl, HB5.out⟩
  · have he' : (e != 0) = true := by simpa using he
    obtain ⟨u1, u2⟩ := HBAD.out he
    subst u1 u2
    clear he
    go_wp2_with fail
    go_ret
    exact ⟨rfl, HB3.out⟩
theorem convexLeast_walk (lo va : Int) (A : Option Addr) (n c : Nat) (st : List (Int × Int)) (x : Int) (w : World) (hr : Reads w w.heap.size 2 A n (pairs st)) :
    Calls Try.prog 4 #[vCx lo va A n c, .int .i64 x] w fun e w' => e = .returned (.bool true) ∧ Below w.heap.size w w' := by
  refine convexLeast_core lo va A n c st x w hr (Pl.cLeast lo va st).1 (Pl.cLeast lo va st).2.1 (Pl.cLeast lo va st).2.2 (Pl.cAt lo va st x).1 (Pl.cAt lo va st x).2 (Pl.cAt lo va st (Pl.cLeast lo va st).1).1 (Pl.cAt lo va st (Pl.cLeast lo va st).1).2
    (fun w h => cLeast_any lo va A n c st w h) (fun w h => cAt_any lo va A n c st x w h) (fun w h => cAt_any lo va A n c st _ w h) ?_ ?_
  · intro h
    by_cases h0 : Pl.ccheck lo va st = 0
    · unfold Pl.cLeast at h; rw [if_neg (by simpa using h0)] at h; exact absurd rfl h
    · unfold Pl.cLeast; rw [if_pos h0]; exact ⟨rfl, rfl⟩
  · exact Pl.least_law lo va st x
end Go.Proofs.Ythodaikggpbiiaa
