/- Contracts of convexpl.Move, Turn: each returns what its plain function gives, and leaves old memory as it is. -/
import Derived.Test.YthodaikggpbiiaaMade
import Derived.Test.YthodaikggpbiiaaPTurn
import Derived.StillTailTactics
import Derived.Deep.RegionHeld3
import Derived.Outline
namespace Go.Proofs.Ythodaikggpbiiaa
open Go.RowKit
set_option maxHeartbeats 1600000 in
set_option maxRecDepth 100000 in
theorem cMove_any (lo va : Int) (A : Option Addr) (n c : Nat) (st : List (Int × Int)) (x y : Int) (w : World) (hr : Reads w w.heap.size 2 A n (pairs st)) :
    Calls Try.prog 36 #[vCx lo va A n c, .int .i64 x, .int .i64 y] w (MadeSaid (Pl.cMove lo va st x y) w) := by
  have HC := Lib.hid (fun w h => ccheck_any lo va A n c st w h)
  unfold vCx at *
  by_cases h1 : Pl.ccheck lo va st = 0
  · obtain ⟨g, l, ⟨lo0, lo1⟩, va0, va1⟩ := Pl.ccheck_ok h1
    have hn : n ≤ 64 := by have := hr.pair_len; omega
    have HM := Lib.hid (fun w h => made_any (lo + x) (va + y) A n c st w h (fun p hp => ⟨(g.step p hp).1, (g.step p hp).2.1⟩) hn)
    have HF : Hid (Pl.cMove lo va st x y = if (Pl.outm x 2000000 || Pl.outm y 1000000000000000) = true then ((0, 0, []), 4) else Pl.cMade (lo + x) (va + y) st) := by show _ = _; unfold Pl.cMove; rw [if_neg (by simpa using h1)]
    rw [h1] at HC
    clear h1 l g hn
    generalize Pl.cMove lo va st x y = R at *
    go_enter Try.func36, Try.ntmps36
    go_wp2_with fail
    refine (HC.out _ ?hr1).mono ?_
    case hr1 => exact (hr.go ((Below.refl _ _).alloc (Nat.le_refl _) _)).go ((Below.refl _ _).alloc (Nat.le_refl _) _)
    rintro e w1 ⟨rfl, hb⟩
    have HB := Lib.hid ((((Below.refl w.heap.size w).alloc (Nat.le_refl _) _).alloc (by simp) _).trans (hb.mono (by simp; omega)))
    have B3 : Hid (Blk w1 w.heap.size _ _) := (Blk.old_ (by simp) (Blk.new_ _ _ _ _ (by simp))).go hb
    have B6 : Hid (Blk w1 (w.heap.size + 1) _ _) := (Blk.new_ _ _ _ _ (by simp)).go hb
    have c3 := B3.out.cell
    clear hb
    cases ho1 : Pl.outm x 2000000
    · cases ho2 : Pl.outm y 1000000000000000
      · have HO1 := Lib.hid ho1
        have HO2 := Lib.hid ho2
        obtain ⟨x0, x1⟩ := Pl.outm_false.1 ho1
        obtain ⟨y0, y1⟩ := Pl.outm_false.1 ho2
        have HX : Hid (R = Pl.cMade (lo + x) (va + y) st) := by show _ = _; rw [HF.out, ho1, ho2]; rfl
        clear ho1 ho2 HF
        go_wp2_with fail
        refine (cxout_any _ _ _ (by omega) (by omega)).mono ?_; rintro e w' ⟨rfl, rfl⟩
        rw [HO1.out]
        go_wp2_with fail
        refine (cxout_any _ _ _ (by omega) (by omega)).mono ?_; rintro e w' ⟨rfl, rfl⟩
        rw [HO2.out]
        go_wp2_with fail
        refine (HM.out _ (hr.go HB.out)).mono ?_
        unfold MadeSaid vCx
        rintro e w2 ⟨A2, c2, rfl, hrd, hb⟩
        have HB2 := Lib.hid (HB.out.trans (hb.mono HB.out.size))
        have D6 := Lib.hid (B6.out.go hb)
        have HRD := Lib.hid hrd
        clear hb hrd c3
        have c6 := D6.out.cell
        have f6 := D6.out.frozen
        go_wp2_with fail
        have E6 := Lib.hid (((D6.out.set_ 0 (.int .i64 (Pl.cMade (lo + x) (va + y) st).1.1)).set_ 1 (.int .i64 (Pl.cMade (lo + x) (va + y) st).1.2.1)).set_ 2 (.slice A2 (Pl.cMade (lo + x) (va + y) st).1.2.2.length c2))
        have k7 := E6.out.cell
        refine bodyPost_ret (v := .tuple #[vCx (Pl.cMade (lo + x) (va + y) st).1.1 (Pl.cMade (lo + x) (va + y) st).1.2.1 A2 (Pl.cMade (lo + x) (va + y) st).1.2.2.length c2, .int .i64 (Pl.cMade (lo + x) (va + y) st).2]) (by simp [results, Try.results36, go_sem, vCx, k7]) rfl ⟨A2, c2, by rw [HX.out], ?_, ?_⟩
        · rw [HX.out]
          exact own_base (own_far (own_far (own_far HRD.out (by have := B6.out.lt; simpa using this) _) (by have := B6.out.lt; simpa using this) _) (by have := B6.out.lt; simpa using this) _) (Nat.le_of_lt (Nat.lt_of_succ_lt B6.out.lt))
        · exact (((HB2.out.setCell (by simp) _).setCell (by simp) _).setCell (by simp) _)
      · have HO1 := Lib.hid ho1
        have HO2 := Lib.hid ho2
        have HX : Hid (R = ((0, 0, []), 4)) := by show _ = _; rw [HF.out, ho1, ho2]; rfl
        clear ho1 ho2 HF
        have c6 := B6.out.cell
        have f6 := B6.out.frozen
        go_wp2_with fail
        refine (cxout_any _ _ _ (by omega) (by omega)).mono ?_; rintro e w' ⟨rfl, rfl⟩
        rw [HO1.out]
        go_wp2_with fail
        refine (cxout_any _ _ _ (by omega) (by omega)).mono ?_; rintro e w' ⟨rfl, rfl⟩
        rw [HO2.out]
        go_wp2_with fail
        have E6 := Lib.hid (((B6.out.set_ 0 (.int .i64 0)).set_ 1 (.int .i64 0)).set_ 2 (.slice none 0 0))
        have k7 := E6.out.cell
        refine bodyPost_ret (v := .tuple #[vCx 0 0 none 0 0, .int .i64 4]) (by simp [results, Try.results36, go_sem, vCx, k7]) rfl ⟨none, 0, by rw [HX.out]; rfl, by rw [HX.out]; exact World.ownsRow_nil _ _ _ _, ?_⟩
        exact (((HB.out.setCell (by simp) _).setCell (by simp) _).setCell (by simp) _)
    · have HO1 := Lib.hid ho1
      have HX : Hid (R = ((0, 0, []), 4)) := by show _ = _; rw [HF.out, ho1]; rfl
      clear ho1 HF
      have c6 := B6.out.cell
      have f6 := B6.out.frozen
      go_wp2_with fail
      refine (cxout_any _ _ _ (by omega) (by omega)).mono ?_; rintro e w' ⟨rfl, rfl⟩
      rw [HO1.out]
      go_wp2_with fail
      have E6 := Lib.hid (((B6.out.set_ 0 (.int .i64 0)).set_ 1 (.int .i64 0)).set_ 2 (.slice none 0 0))
      have k7 := E6.out.cell
      refine bodyPost_ret (v := .tuple #[vCx 0 0 none 0 0, .int .i64 4]) (by simp [results, Try.results36, go_sem, vCx, k7]) rfl ⟨none, 0, by rw [HX.out]; rfl, by rw [HX.out]; exact World.ownsRow_nil _ _ _ _, ?_⟩
      exact (((HB.out.setCell (by simp) _).setCell (by simp) _).setCell (by simp) _)
  · have HX : Hid (Pl.cMove lo va st x y = ((0, 0, []), Pl.ccheck lo va st)) := by show _ = _; unfold Pl.cMove; rw [if_pos h1]
    have h2 : (Pl.ccheck lo va st != 0) = true := by simpa using h1
    clear h1
    generalize Pl.cMove lo va st x y = R at *
    generalize Pl.ccheck lo va st = u at *
    go_enter Try.func36, Try.ntmps36
    go_wp2_with fail
    refine (HC.out _ ?hr2).mono ?_
    case hr2 => exact (hr.go ((Below.refl _ _).alloc (Nat.le_refl _) _)).go ((Below.refl _ _).alloc (Nat.le_refl _) _)
    rintro e w1 ⟨rfl, hb⟩
    have HB := Lib.hid ((((Below.refl w.heap.size w).alloc (Nat.le_refl _) _).alloc (by simp) _).trans (hb.mono (by simp; omega)))
    have B6 : Hid (Blk w1 (w.heap.size + 1) _ _) := (Blk.new_ _ _ _ _ (by simp)).go hb
    clear hb
    have c6 := B6.out.cell
    have f6 := B6.out.frozen
    go_wp2_with fail
    have E6 := Lib.hid (((B6.out.set_ 0 (.int .i64 0)).set_ 1 (.int .i64 0)).set_ 2 (.slice none 0 0))
    have k7 := E6.out.cell
    refine bodyPost_ret (v := .tuple #[vCx 0 0 none 0 0, .int .i64 u]) (by simp [results, Try.results36, go_sem, vCx, k7]) rfl ⟨none, 0, by rw [HX.out]; rfl, by rw [HX.out]; exact World.ownsRow_nil _ _ _ _, ?_⟩
    exact (((HB.out.setCell (by simp) _).setCell (by simp) _).setCell (by simp) _)
end Go.Proofs.Ythodaikggpbiiaa
