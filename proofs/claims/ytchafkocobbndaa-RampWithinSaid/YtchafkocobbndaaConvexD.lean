/- The contracts of convexpl.Least and High. No condition. -/
import Derived.Test.YtchafkocobbndaaConvexC
import Derived.Test.YtchafkocobbndaaConvexL
namespace Go.Proofs.Ytchafkocobbndaa
open Go.RowKit
set_option maxHeartbeats 800000 in
set_option maxRecDepth 100000 in
theorem cLeast_any (lo va : Int) (A : Option Addr) (n c : Nat) (st : List (Int × Int)) (w : World) (hr : Reads w w.heap.size 2 A n (pairs st)) :
    Calls Try.prog 41 #[vCx lo va A n c] w (ThreeSaid (Pl.cLeast lo va st) w) := by
  have HC := Lib.hid (fun w h => ccheck_any lo va A n c st w h)
  by_cases h1 : Pl.ccheck lo va st = 0
  · obtain ⟨g, l, hlo, hva⟩ := Pl.ccheck_ok h1
    have HF : Hid (Pl.cLeast lo va st = (lo + Pl.lowR 0 st, Pl.cvat lo va st (lo + Pl.lowR 0 st), 0)) := by show _ = _; unfold Pl.cLeast; rw [if_neg (by simpa using h1)]
    have hn : n ≤ 64 := by have := hr.pair_len; omega
    have hb := Pl.lowR_bd (s := 0) g.long
    have hp := g.place
    have HH := Lib.hid (fun w h => clowest_any lo va A n c st 0 w h g hn hlo)
    have HA := Lib.hid (fun w h => cat_any lo va A n c st (lo + Pl.lowR 0 st) w h g hn hlo hva (by omega) (by omega))
    rw [h1] at HC
    clear h1 l g hb hp
    generalize Pl.cLeast lo va st = y at *
    generalize lo + Pl.lowR 0 st = z at *
    generalize Pl.cvat lo va st z = vv at *
    unfold vCx at *
    go_enter Try.func41, Try.ntmps41
    go_wp2_with fail
    refine (HC.out _ ?hr1).mono ?_
    case hr1 => exact hr.go ((Below.refl _ _).alloc (Nat.le_refl _) _)
    rintro e w1 ⟨rfl, hb⟩
    have HB := Lib.hid (((Below.refl w.heap.size w).alloc (Nat.le_refl _) _).trans (hb.mono (by simp)))
    have B1 : Hid (Blk w1 w.heap.size _ _) := (Blk.new_ _ _ _ _ rfl).go hb
    have c1 := B1.out.cell
    clear hb
    go_wp2_with fail
    refine (HH.out _ ?hr2).mono ?_
    case hr2 => exact hr.go HB.out
    rintro e w2 ⟨rfl, hb⟩
    have HB2 := Lib.hid (HB.out.trans (hb.mono HB.out.size))
    have B2 := Lib.hid (B1.out.go hb)
    clear hb c1
    have c2 := B2.out.cell
    go_wp2_with fail
    refine (HA.out _ ?hr3).mono ?_
    case hr3 => exact hr.go HB2.out
    rintro e w3 ⟨rfl, hb⟩
    have HB3 := Lib.hid (HB2.out.trans (hb.mono HB2.out.size))
    clear hb c2
    go_wp2_with fail
    go_ret3
    exact ⟨by rw [HF.out]; rfl, HB3.out⟩
  · have HF : Hid (Pl.cLeast lo va st = (0, 0, Pl.ccheck lo va st)) := by show _ = _; unfold Pl.cLeast; rw [if_pos h1]
    have h2 : (Pl.ccheck lo va st != 0) = true := by simpa using h1
    clear h1
    generalize Pl.cLeast lo va st = y at *
    generalize Pl.ccheck lo va st = u at *
    unfold vCx at *
    go_enter Try.func41, Try.ntmps41
    go_wp2_with fail
    refine (HC.out _ ?hr3).mono ?_
    case hr3 => exact hr.go ((Below.refl _ _).alloc (Nat.le_refl _) _)
    rintro e w1 ⟨rfl, hb⟩
    go_wp2_with fail
    go_ret3
    exact ⟨by rw [HF.out]; rfl, ((Below.refl w.heap.size w).alloc (Nat.le_refl _) _).trans (hb.mono (by simp))⟩
end Go.Proofs.Ytchafkocobbndaa
