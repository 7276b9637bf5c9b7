/- The contract of convexpl.Conjugate: it returns what its plain function gives, and leaves old memory as it is. No condition. -/
import Derived.Test.YtjdagpmfnmodbaaConvexC
import Derived.Test.YtjdagpmfnmodbaaConvexL
import Derived.Test.YtjdagpmfnmodbaaPRing
namespace Go.Proofs.Ytjdagpmfnmodbaa
open Go.RowKit
set_option maxHeartbeats 1600000 in
set_option maxRecDepth 100000 in
theorem cConj_any (lo va : Int) (A : Option Addr) (n c : Nat) (st : List (Int × Int)) (s : Int) (w : World) (hr : Reads w w.heap.size 2 A n (pairs st)) :
    Calls Try.prog 28 #[vCx lo va A n c, .int .i64 s] w (TwoSaid (Pl.cConj lo va st s) w) := by
  have HC := Lib.hid (fun w h => ccheck_any lo va A n c st w h)
  have HO := Lib.hid (fun w => cxout_any s 10000000 w (by omega) (by omega))
  by_cases h1 : Pl.ccheck lo va st = 0
  · obtain ⟨g, l, hlo, hva⟩ := Pl.ccheck_ok h1
    have HF : Hid (Pl.cConj lo va st s = if Pl.outm s 10000000 = true then (0, 4) else (s * (lo + Pl.lowR s st) - Pl.cvat lo va st (lo + Pl.lowR s st), 0)) := by show _ = _; unfold Pl.cConj; rw [if_neg (by simpa using h1)]
    have hn : n ≤ 64 := by have := hr.pair_len; omega
    have hb := Pl.lowR_bd (s := s) g.long
    have hp := g.place
    have HH := Lib.hid (fun w h => clowest_any lo va A n c st s w h g hn hlo)
    have HA := Lib.hid (fun w h => cat_any lo va A n c st (lo + Pl.lowR s st) w h g hn hlo hva (by omega) (by omega))
    have hvv := Pl.cvat_bd g (lo + Pl.lowR s st) (by omega) (by unfold Pl.chigh; omega)
    have hz : -1000000 ≤ lo + Pl.lowR s st ∧ lo + Pl.lowR s st ≤ 1000000 := by omega
    rw [h1] at HC
    clear h1 l g hb hp
    generalize Pl.cConj lo va st s = y at *
    generalize lo + Pl.lowR s st = z at *
    generalize Pl.cvat lo va st z = vv at *
    obtain ⟨z0, z1⟩ := hz
    obtain ⟨v0, v1⟩ := hvv
    unfold vCx at *
    go_enter Try.func28, Try.ntmps28
    go_wp2_with fail
    refine (HC.out _ ?hr1).mono ?_
    case hr1 => exact hr.go ((Below.refl _ _).alloc (Nat.le_refl _) _)
    rintro e w1 ⟨rfl, hb⟩
    have HB := Lib.hid (((Below.refl w.heap.size w).alloc (Nat.le_refl _) _).trans (hb.mono (by simp)))
    have B1 : Hid (Blk w1 w.heap.size _ _) := (Blk.new_ _ _ _ _ rfl).go hb
    have c1 := B1.out.cell
    clear hb
    cases ho : Pl.outm s 10000000
    · rw [ho] at HO
      have HY := Lib.hid (HF.out.trans (if_neg (by rw [ho]; simp)))
      obtain ⟨s0, s1⟩ := Pl.outm_false.1 ho
      obtain ⟨m2, m3⟩ := Pl.mulC_bd s0 s1 z0 z1
      clear ho HF
      go_wp2_with fail
      refine (HO.out _).mono ?_
      rintro e w2 ⟨rfl, rfl⟩
      go_wp2_with fail
      refine (HH.out _ ?hr2).mono ?_
      case hr2 => exact hr.go HB.out
      rintro e w2 ⟨rfl, hb⟩
      have HB2 := Lib.hid (HB.out.trans (hb.mono HB.out.size))
      have B2 := Lib.hid (B1.out.go hb)
      clear hb c1
      have c2 := B2.out.cell
      go_wp2_with fail
      refine (HA.out _ ?hr3).mono ?_
      case hr3 => exact hr.go HB2.out
      rintro e w3 ⟨rfl, hb⟩
      have HB3 := Lib.hid (HB2.out.trans (hb.mono HB2.out.size))
      clear hb c2
      go_wp2_with fail
      go_ret2
      exact ⟨by rw [HY.out]; rfl, HB3.out⟩
    · rw [ho] at HO
      have HY := Lib.hid (HF.out.trans (if_pos ho))
      clear ho HF
      go_wp2_with fail
      refine (HO.out _).mono ?_
      rintro e w2 ⟨rfl, rfl⟩
      go_wp2_with fail
      go_ret2
      exact ⟨by rw [HY.out]; rfl, HB.out⟩
  · have HF : Hid (Pl.cConj lo va st s = (0, Pl.ccheck lo va st)) := by show _ = _; unfold Pl.cConj; rw [if_pos h1]
    have h2 : (Pl.ccheck lo va st != 0) = true := by simpa using h1
    clear h1
    generalize Pl.cConj lo va st s = y at *
    generalize Pl.ccheck lo va st = u at *
    unfold vCx at *
    go_enter Try.func28, Try.ntmps28
    go_wp2_with fail
    refine (HC.out _ ?hr3).mono ?_
    case hr3 => exact hr.go ((Below.refl _ _).alloc (Nat.le_refl _) _)
    rintro e w1 ⟨rfl, hb⟩
    go_wp2_with fail
    go_ret2
    exact ⟨by rw [HF.out]; rfl, ((Below.refl w.heap.size w).alloc (Nat.le_refl _) _).trans (hb.mono (by simp))⟩
end Go.Proofs.Ytjdagpmfnmodbaa
