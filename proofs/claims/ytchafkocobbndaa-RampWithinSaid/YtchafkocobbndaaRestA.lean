/- convexpl.Restrict, whatever the function and the limits are: it returns what its plain function gives, and leaves old memory as it is. No condition. -/
import Derived.Test.YtchafkocobbndaaMade
import Derived.Test.YtchafkocobbndaaCut
import Derived.Test.YtchafkocobbndaaPParts
import Derived.Test.YtchafkocobbndaaQuiet
import Derived.StillTailTactics
import Derived.Deep.RegionHeld3
import Derived.Deep.RegionLaw
import Derived.Outline
namespace Go.Proofs.Ytchafkocobbndaa
open Go.RowKit
/-- the boxes of Restrict, from block b on: the function and the result -/
structure RstW (W : World) (b : Nat) (F : Array Value) (w : World) : Prop where
  bel : Below W.heap.size W w
  f : Blk w b 92 F
  r : Blk w (b + 1) 92 #[.int .i64 0, .int .i64 0, .slice none 0 0]
section
variable {W w w' : World} {b : Nat} {F : Array Value}
theorem RstW.go (h : RstW W b F w) (hb : Below w.heap.size w w') : RstW W b F w' := ⟨h.bel.trans (hb.mono h.bel.size), h.f.go hb, h.r.go hb⟩
theorem RstW.drew (h : RstW W b F w) : RstW W b F w.drew := h.go (Below.refl _ _).drew
end
set_option maxHeartbeats 6400000 in
set_option maxRecDepth 100000 in
theorem restrict_any (lo va : Int) (A : Option Addr) (n c : Nat) (st : List (Int × Int)) (low hi : Int) (w : World) (hr : Reads w w.heap.size 2 A n (pairs st)) :
    Calls Try.prog 38 #[vCx lo va A n c, .int .i64 low, .int .i64 hi] w (MadeSaid (Pl.cRestrict lo va st low hi) w) := by
  have HC := Lib.hid (fun w h => ccheck_any lo va A n c st w h)
  have HAR := Lib.hid hr
  by_cases h1 : Pl.ccheck lo va st = 0
  · obtain ⟨g, l, hlo, hva⟩ := Pl.ccheck_ok h1
    have hn : n ≤ 64 := by have := hr.pair_len; omega
    have hb2 : Pl.chigh lo st ≤ 1000000 := g.place.2
    have HH := Lib.hid (fun w h => chigh_any lo va A n c st w h g hn hlo)
    rw [h1] at HC
    have imax : ∀ a b : Int, (if a < b then b else a) = max a b := ite_max
    have imin : ∀ a b : Int, (if b < a then b else a) = min a b := ite_min
    by_cases h3 : max lo low ≤ min (Pl.chigh lo st) hi
    · have HX : Hid (Pl.cRestrict lo va st low hi = Pl.cMade (max lo low) (Pl.cvat lo va st (max lo low)) (Pl.ccut lo (max lo low) (min (Pl.chigh lo st) hi) st)) := by
        show _ = _; unfold Pl.cRestrict; rw [if_neg (by simpa using h1), if_neg (by omega)]
      have HA := Lib.hid (fun w h => cat_any lo va A n c st (max lo low) w h g hn hlo hva (by omega) (by omega))
      have HCU := Lib.hid (fun w h => cut_any lo va A n c st (max lo low) (min (Pl.chigh lo st) hi) w h g hn hlo (by omega) (by omega))
      have HM := Lib.hid (fun A' c' w h => made_any (max lo low) (Pl.cvat lo va st (max lo low)) A' (Pl.ccut lo (max lo low) (min (Pl.chigh lo st) hi) st).length c' (Pl.ccut lo (max lo low) (min (Pl.chigh lo st) hi) st) w h (fun q hq => by
        rw [Pl.ccut_eq] at hq
        obtain ⟨q1, r, hr, _, q2⟩ := Pl.cutR_mem g.long q hq
        have := g.step r hr
        omega) (by rw [Pl.ccut_eq]; have := Pl.cutR_len lo (max lo low) (min (Pl.chigh lo st) hi) st; omega))
      have hgt : decide (min (Pl.chigh lo st) hi < max lo low) = false := decide_eq_false (by omega)
      clear h1 l g hlo hva hn h3 hb2 hr
      unfold MadeSaid vCx at HM
      unfold PiecesSaid at HCU
      unfold MadeSaid
      generalize Pl.cRestrict lo va st low hi = R at *
      generalize Pl.cMade (max lo low) (Pl.cvat lo va st (max lo low)) (Pl.ccut lo (max lo low) (min (Pl.chigh lo st) hi) st) = RM at *
      generalize Pl.cvat lo va st (max lo low) = vv at *
      generalize Pl.ccut lo (max lo low) (min (Pl.chigh lo st) hi) st = cu at *
      generalize Pl.chigh lo st = ch at *
      unfold vCx at *
      go_enter Try.func38, Try.ntmps38
      obtain ⟨wd, hwd, HW⟩ : ∃ wd, wd = (w.alloc (.cells #[.int .i64 lo, .int .i64 va, .slice A n c] 92)).alloc (.cells #[.int .i64 0, .int .i64 0, .slice none 0 0] 92) ∧ Hid (RstW w w.heap.size #[.int .i64 lo, .int .i64 va, .slice A n c] wd) := by
        refine ⟨_, rfl, ⟨?_, ?_, ?_⟩⟩
        · exact ((Below.refl w.heap.size w).alloc (Nat.le_refl _) _).alloc (by simp) _
        · exact (Blk.new_ w w.heap.size _ _ rfl).alloc _
        · exact Blk.new_ _ (w.heap.size + 1) _ _ (by simp)
      go_wp2_with fail
      rw [← hwd]
      clear hwd
      refine (HC.out _ (HAR.out.go HW.out.bel)).mono ?_
      rintro e w1 ⟨rfl, hb⟩
      have HW2 := Lib.hid (HW.out.go hb)
      clear hb HW HC
      have HRA1 := Lib.hid (HAR.out.go HW2.out.bel)
      have f0 := HW2.out.f.cell 0
      have f1 := HW2.out.f.cell 1
      have f2 := HW2.out.f.cell 2
      go_wp2_with fail
      replace f0 := Wd.cell f0
      replace f1 := Wd.cell f1
      replace f2 := Wd.cell f2
      refine wp_region_wd (by kernel_rfl) (by kernel_rfl) ?_
      repeat (go_big_quiet_step ((go_at_call 65; with_reducible exact Calls.wd (HH.out _ (HRA1.out.go (Wd.ok _))))))
      refine wpQuiet_nil ?_
      rintro _ ⟨w6, rfl⟩
      have HW3 := Lib.hid (HW2.out.go w6.ok)
      clear f0 f1 f2 HW2 HRA1
      generalize w6.val = w7 at *
      go_wp2_with fail
      have cur := Lib.hid HW3.out.drew
      have cf := cur.out.f.cell
      clear imax imin hgt
      go_region_held3 (fun w' => (∀ j, w'.cell? ⟨w.heap.size, j, none⟩ = #[.int .i64 lo, .int .i64 va, .slice A n c][j]?))
        (first | exact cur.out.f.cell | exact (((cur.out.f.far (by show w.heap.size ≠ w.heap.size + 1; omega) _).far (by show w.heap.size ≠ w.heap.size + 1; omega) _).far (by show w.heap.size ≠ w.heap.size + 1; omega) _).cell)
        (first
          | (go_at_call 66; refine (HA.out _ (HAR.out.go cur.out.bel)).mono ?_; rintro e wz ⟨rfl, hbz⟩; (try have ocur := Lib.hid (ocur.out.go hbz)); have cur := Lib.hid (cur.out.go hbz); clear hbz)
          | (go_at_call 67; refine (HCU.out _ (HAR.out.go cur.out.bel)).mono ?_; rintro e wz ⟨A8, c8, rfl, hrd8, hbz⟩; have ocur := Lib.hid hrd8; have cur := Lib.hid (cur.out.go hbz); clear hbz hrd8)
          | (go_at_call 63; refine (HM.out _ _ _ ocur.out).mono ?_; rintro e wz ⟨Am, cm, rfl, hownm, hbz⟩; have om := Lib.hid (own_base hownm (Nat.succ_le_of_lt cur.out.r.lt)); have cur := Lib.hid (cur.out.go hbz); have km := cur.out.r.cell; have fm := cur.out.r.frozen; clear hbz hownm))
      all_goals
        go_wp2_with fail
        have E6 := Lib.hid (((cur.out.r.set_ 0 (.int .i64 RM.1.1)).set_ 1 (.int .i64 RM.1.2.1)).set_ 2 (.slice Am RM.1.2.2.length cm))
        have k7 := E6.out.cell
        refine bodyPost_ret (v := .tuple #[vCx RM.1.1 RM.1.2.1 Am RM.1.2.2.length cm, .int .i64 RM.2]) (by simp [results, Try.results38, go_sem, vCx, k7]) rfl ⟨Am, cm, by rw [HX.out]; rfl, ?_, ?_⟩
        · rw [HX.out]
          exact own_base (own_far (own_far (own_far om.out (by simp) _) (by simp) _) (by simp) _) (by omega)
        · exact (((cur.out.bel.setCell (by simp) _).setCell (by simp) _).setCell (by simp) _)
    · have HX : Hid (Pl.cRestrict lo va st low hi = ((0, 0, []), 8)) := by
        show _ = _; unfold Pl.cRestrict; rw [if_neg (by simpa using h1), if_pos (by omega)]
      have hgt : decide (min (Pl.chigh lo st) hi < max lo low) = true := decide_eq_true (by omega)
      clear h1 l g hlo hva hn h3 hb2 hr
      unfold MadeSaid
      generalize Pl.cRestrict lo va st low hi = R at *
      generalize Pl.chigh lo st = ch at *
      unfold vCx at *
      go_enter Try.func38, Try.ntmps38
      obtain ⟨wd, hwd, HW⟩ : ∃ wd, wd = (w.alloc (.cells #[.int .i64 lo, .int .i64 va, .slice A n c] 92)).alloc (.cells #[.int .i64 0, .int .i64 0, .slice none 0 0] 92) ∧ Hid (RstW w w.heap.size #[.int .i64 lo, .int .i64 va, .slice A n c] wd) := by
        refine ⟨_, rfl, ⟨?_, ?_, ?_⟩⟩
        · exact ((Below.refl w.heap.size w).alloc (Nat.le_refl _) _).alloc (by simp) _
        · exact (Blk.new_ w w.heap.size _ _ rfl).alloc _
        · exact Blk.new_ _ (w.heap.size + 1) _ _ (by simp)
      go_wp2_with fail
      rw [← hwd]
      clear hwd
      refine (HC.out _ (HAR.out.go HW.out.bel)).mono ?_
      rintro e w1 ⟨rfl, hb⟩
      have HW2 := Lib.hid (HW.out.go hb)
      clear hb HW HC
      have HRA1 := Lib.hid (HAR.out.go HW2.out.bel)
      have f0 := HW2.out.f.cell 0
      have f1 := HW2.out.f.cell 1
      have f2 := HW2.out.f.cell 2
      go_wp2_with fail
      replace f0 := Wd.cell f0
      replace f1 := Wd.cell f1
      replace f2 := Wd.cell f2
      refine wp_region_wd (by kernel_rfl) (by kernel_rfl) ?_
      repeat (go_big_quiet_step ((go_at_call 65; with_reducible exact Calls.wd (HH.out _ (HRA1.out.go (Wd.ok _))))))
      refine wpQuiet_nil ?_
      rintro _ ⟨w6, rfl⟩
      have HW3 := Lib.hid (HW2.out.go w6.ok)
      clear f0 f1 f2 HW2 HRA1
      generalize w6.val = w7 at *
      have c44 := HW3.out.r.cell
      have f44 := HW3.out.r.frozen
      go_wp2_with fail
      have E6 := Lib.hid (((HW3.out.r.set_ 0 (.int .i64 0)).set_ 1 (.int .i64 0)).set_ 2 (.slice none 0 0))
      have k7 := E6.out.cell
      refine bodyPost_ret (v := .tuple #[vCx 0 0 none 0 0, .int .i64 8]) (by simp [results, Try.results38, go_sem, vCx, k7]) rfl ⟨none, 0, by rw [HX.out]; rfl, by rw [HX.out]; exact World.ownsRow_nil _ _ _ _, ?_⟩
      exact (((HW3.out.bel.setCell (by simp) _).setCell (by simp) _).setCell (by simp) _)
  · have HX : Hid (Pl.cRestrict lo va st low hi = ((0, 0, []), Pl.ccheck lo va st)) := by show _ = _; unfold Pl.cRestrict; rw [if_pos h1]
    have h2 : (Pl.ccheck lo va st != 0) = true := by simpa using h1
    clear h1 hr
    unfold MadeSaid
    generalize Pl.cRestrict lo va st low hi = R at *
    generalize Pl.ccheck lo va st = u at *
    unfold vCx at *
    go_enter Try.func38, Try.ntmps38
    obtain ⟨wd, hwd, HW⟩ : ∃ wd, wd = (w.alloc (.cells #[.int .i64 lo, .int .i64 va, .slice A n c] 92)).alloc (.cells #[.int .i64 0, .int .i64 0, .slice none 0 0] 92) ∧ Hid (RstW w w.heap.size #[.int .i64 lo, .int .i64 va, .slice A n c] wd) := by
      refine ⟨_, rfl, ⟨?_, ?_, ?_⟩⟩
      · exact ((Below.refl w.heap.size w).alloc (Nat.le_refl _) _).alloc (by simp) _
      · exact (Blk.new_ w w.heap.size _ _ rfl).alloc _
      · exact Blk.new_ _ (w.heap.size + 1) _ _ (by simp)
    go_wp2_with fail
    rw [← hwd]
    clear hwd
    refine (HC.out _ (HAR.out.go HW.out.bel)).mono ?_
    rintro e w1 ⟨rfl, hb⟩
    have HW3 := Lib.hid (HW.out.go hb)
    clear hb HW HC
    have c44 := HW3.out.r.cell
    have f44 := HW3.out.r.frozen
    go_wp2_with fail
    have E6 := Lib.hid (((HW3.out.r.set_ 0 (.int .i64 0)).set_ 1 (.int .i64 0)).set_ 2 (.slice none 0 0))
    have k7 := E6.out.cell
    refine bodyPost_ret (v := .tuple #[vCx 0 0 none 0 0, .int .i64 u]) (by simp [results, Try.results38, go_sem, vCx, k7]) rfl ⟨none, 0, by rw [HX.out]; rfl, by rw [HX.out]; exact World.ownsRow_nil _ _ _ _, ?_⟩
    exact (((HW3.out.bel.setCell (by simp) _).setCell (by simp) _).setCell (by simp) _)
end Go.Proofs.Ytchafkocobbndaa
