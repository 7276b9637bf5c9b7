/- Contracts of convexpl.At, High, Least: each returns what its plain function gives, and leaves old memory as it is. -/
import Derived.Test.YtjdagpmfnmodbaaConvexB
import Derived.Test.YtjdagpmfnmodbaaOfferC
import Derived.Test.YtjdagpmfnmodbaaOfferE
import Derived.Test.YtjdagpmfnmodbaaPConvex
namespace Go.Proofs.Ytjdagpmfnmodbaa
open Go.RowKit
set_option maxHeartbeats 800000 in
set_option maxRecDepth 100000 in
theorem cAt_any (lo va : Int) (A : Option Addr) (n c : Nat) (st : List (Int × Int)) (x : Int) (w : World) (hr : Reads w w.heap.size 2 A n (pairs st)) :
    Calls Try.prog 20 #[vCx lo va A n c, .int .i64 x] w (TwoSaid (Pl.cAt lo va st x) w) := by
  have HC := Lib.hid (fun w h => ccheck_any lo va A n c st w h)
  by_cases h1 : Pl.ccheck lo va st = 0
  · obtain ⟨g, l, hlo, hva⟩ := Pl.ccheck_ok h1
    have HF : Hid (Pl.cAt lo va st x = if x < lo ∨ Pl.chigh lo st < x then (0, 4) else (Pl.cvat lo va st x, 0)) := by show _ = _; unfold Pl.cAt; rw [if_neg (by simpa using h1)]
    have hn : n ≤ 64 := by have := hr.pair_len; omega
    have HH := Lib.hid (fun w h => chigh_any lo va A n c st w h g hn hlo)
    have hh1 : Pl.chigh lo st ≤ 1000000 := g.place.2
    have HA := Lib.hid (fun w h h1 h2 => cat_any lo va A n c st x w h g hn hlo hva h1 h2)
    rw [h1] at HC
    clear h1 l g
    generalize Pl.cAt lo va st x = y at *
    generalize Pl.chigh lo st = hi at *
    generalize Pl.cvat lo va st x = vv at *
    unfold vCx at *
    go_enter Try.func20, Try.ntmps20
    go_wp2_with fail
    refine (HC.out _ ?hr1).mono ?_
    case hr1 => exact hr.go ((Below.refl _ _).alloc (Nat.le_refl _) _)
    rintro e w1 ⟨rfl, hb⟩
    have HB := Lib.hid (((Below.refl w.heap.size w).alloc (Nat.le_refl _) _).trans (hb.mono (by simp)))
    have B1 : Hid (Blk w1 w.heap.size _ _) := (Blk.new_ _ _ _ _ rfl).go hb
    have c1 := B1.out.cell
    clear hb
    by_cases hx0 : x < lo
    · have HY := Lib.hid (HF.out.trans (if_pos (Or.inl hx0)))
      go_wp2_with fail
      go_ret2
      exact ⟨by rw [HY.out]; rfl, HB.out⟩
    · go_wp2_with fail
      refine (HH.out _ ?hr2).mono ?_
      case hr2 => exact hr.go HB.out
      rintro e w2 ⟨rfl, hb⟩
      have HB2 := Lib.hid (HB.out.trans (hb.mono HB.out.size))
      have B2 := Lib.hid (B1.out.go hb)
      clear hb c1
      have c2 := B2.out.cell
      by_cases hx1 : hi < x
      · have HY := Lib.hid (HF.out.trans (if_pos (Or.inr hx1)))
        go_wp2_with fail
        go_ret2
        exact ⟨by rw [HY.out]; rfl, HB2.out⟩
      · have HY := Lib.hid (HF.out.trans (if_neg (by omega)))
        go_wp2_with fail
        refine (HA.out _ ?hr3 (by omega) (by omega)).mono ?_
        case hr3 => exact hr.go HB2.out
        rintro e w3 ⟨rfl, hb⟩
        have HB3 := Lib.hid (HB2.out.trans (hb.mono HB2.out.size))
        clear hb c2
        go_wp2_with fail
        go_ret2
        exact ⟨by rw [HY.out]; rfl, HB3.out⟩
  · have HF : Hid (Pl.cAt lo va st x = (0, Pl.ccheck lo va st)) := by show _ = _; unfold Pl.cAt; rw [if_pos h1]
    have h2 : (Pl.ccheck lo va st != 0) = true := by simpa using h1
    clear h1
    generalize Pl.cAt lo va st x = y at *
    generalize Pl.ccheck lo va st = u at *
    unfold vCx at *
    go_enter Try.func20, Try.ntmps20
    go_wp2_with fail
    refine (HC.out _ ?hr3).mono ?_
    case hr3 => exact hr.go ((Below.refl _ _).alloc (Nat.le_refl _) _)
    rintro e w1 ⟨rfl, hb⟩
    go_wp2_with fail
    go_ret2
    exact ⟨by rw [HF.out]; rfl, ((Below.refl w.heap.size w).alloc (Nat.le_refl _) _).trans (hb.mono (by simp))⟩
def risesSt : List (Int × Int) := [(10, 5), (10, 8)]
theorem rises_any (w : World) : Calls Try.prog 29 #[] w fun e w' => ∃ A, e = .returned (vCx 0 0 A 2 2) ∧ Reads w' w'.heap.size 2 A 2 (pairs risesSt) ∧ Below w.heap.size w w' := by
  go_enter Try.func29, Try.ntmps29
  go_wp2_with fail
  refine bodyPost_ret (v := vCx 0 0 (some ⟨w.heap.size + 1, 0, none⟩) 2 2) (by simp [results, Try.results29, go_sem, vCx]) rfl ⟨_, rfl, ?_, ?_⟩
  · exact Reads.lit _ #[.int .i64 10, .int .i64 5, .int .i64 10, .int .i64 8] 73 2 2 _ (by simp) rfl
  · exact ((Below.refl _ _).alloc (Nat.le_refl _) _).alloc (by simp) _
theorem cAt_ex : Pl.cAt 0 0 risesSt 12 = (66, 0) := by rfl
theorem cLeast_ex : Pl.cLeast 0 0 risesSt = (0, 0, 0) := by rfl
theorem slopes_any (w : World) : Calls Try.prog 16 #[] w fun e w' => e = .returned (.bool true) ∧ Below w.heap.size w w' := by
  have H := Lib.hid (fun w A (h : Reads w w.heap.size 2 A 2 (pairs risesSt)) => cAt_any 0 0 A 2 2 risesSt 12 w h)
  rw [cAt_ex] at H
  unfold vCx TwoSaid at H
  go_enter Try.func16, Try.ntmps16
  go_wp2_with fail
  refine (rises_any _).mono ?_
  rintro e w1 ⟨A, rfl, hr, hb⟩
  unfold vCx
  go_wp2_with fail
  refine (H.out _ _ hr).mono ?_
  rintro e w2 ⟨rfl, hb2⟩
  have HB := Lib.hid (hb.trans (hb2.mono hb.size))
  clear hb hb2
  go_wp2_with fail
  go_ret
  exact ⟨rfl, HB.out⟩
theorem info_ConvexPiece : (Try.prog.info? 73).map (fun i => (i.zero, i.size, i.bytes)) = some (some (.agg #[.int .i64 0, .int .i64 0]), 2, 16) := by kernel_rfl
end Go.Proofs.Ytjdagpmfnmodbaa
