/- The contract of convexpl.Restrict at a place within: it returns what its plain function gives, and leaves old memory as it is. -/
import Derived.Test.YthodaikggpbiiaaTurn
import Derived.Test.YthodaikggpbiiaaPParts
namespace Go.Proofs.Ythodaikggpbiiaa
open Go.RowKit
set_option maxHeartbeats 3200000 in
set_option maxRecDepth 100000 in
theorem restrict_in (lo va : Int) (A : Option Addr) (n c : Nat) (st : List (Int × Int)) (low hi : Int) (w : World) (hr : Reads w w.heap.size 2 A n (pairs st)) (h1 : Pl.ccheck lo va st = 0) (hl1 : lo ≤ low) (hl2 : low ≤ hi) (hl3 : hi ≤ Pl.chigh lo st) :
    Calls Try.prog 39 #[vCx lo va A n c, .int .i64 low, .int .i64 hi] w (MadeSaid (Pl.cRestrict lo va st low hi) w) := by
  have HC := Lib.hid (fun w h => ccheck_any lo va A n c st w h)
  obtain ⟨g, l, hlo, hva⟩ := Pl.ccheck_ok h1
  have hn : n ≤ 64 := by have := hr.pair_len; omega
  have HX : Hid (Pl.cRestrict lo va st low hi = Pl.cMade low (Pl.cvat lo va st low) (Pl.ccut lo low hi st)) := by
    show _ = _; unfold Pl.cRestrict; rw [if_neg (by simpa using h1), if_neg (by omega), show max lo low = low by omega, show min (Pl.chigh lo st) hi = hi by omega]
  have hb2 : Pl.chigh lo st ≤ 1000000 := g.place.2
  have HH := Lib.hid (fun w h => chigh_any lo va A n c st w h g hn hlo)
  have HA := Lib.hid (fun w h => cat_any lo va A n c st low w h g hn hlo hva hl1 (by omega))
  have HCU := Lib.hid (fun w h => cut_any lo va A n c st low hi w h g hn hlo (by omega) (by omega))
  have HM := Lib.hid (fun A' c' w h => made_any low (Pl.cvat lo va st low) A' (Pl.ccut lo low hi st).length c' (Pl.ccut lo low hi st) w h (fun q hq => by
    rw [Pl.ccut_eq] at hq
    obtain ⟨q1, r, hr, _, q2⟩ := Pl.cutR_mem g.long q hq
    have := g.step r hr
    omega) (by rw [Pl.ccut_eq]; have := Pl.cutR_len lo low hi st; omega))
  rw [h1] at HC
  unfold MadeSaid at HM
  unfold PiecesSaid at HCU
  clear h1 l g hlo hva hn
  generalize Pl.cRestrict lo va st low hi = R at *
  generalize Pl.cMade low (Pl.cvat lo va st low) (Pl.ccut lo low hi st) = RM at *
  generalize Pl.cvat lo va st low = vv at *
  generalize Pl.ccut lo low hi st = cu at *
  generalize Pl.chigh lo st = ch at *
  unfold vCx at *
  have hnl : decide (hi < low) = false := decide_eq_false (by omega)
  rcases (show lo < low ∨ lo = low by omega) with k1 | k1 <;> rcases (show hi < ch ∨ ch = hi by omega) with k2 | k2 <;> try subst k1 <;> try subst k2
  all_goals
    go_enter Try.func39, Try.ntmps39
    go_wp2_with fail
    refine (HC.out _ (by exact (hr.go ((Below.refl _ _).alloc (Nat.le_refl _) _)).go ((Below.refl _ _).alloc (Nat.le_refl _) _))).mono ?_
    rintro e w1 ⟨rfl, hb⟩
    have HB := Lib.hid ((((Below.refl w.heap.size w).alloc (Nat.le_refl _) _).alloc (by simp) _).trans (hb.mono (by simp; omega)))
    have B3 : Hid (Blk w1 w.heap.size _ _) := (Blk.old_ (by simp) (Blk.new_ _ _ _ _ (by simp))).go hb
    have B6 : Hid (Blk w1 (w.heap.size + 1) _ _) := (Blk.new_ _ _ _ _ (by simp)).go hb
    clear hb
    have hcur := Lib.hid HB.out.drew
    have bcur := Lib.hid B3.out.drew
    have rcur := Lib.hid B6.out.drew
    go_wp2_with fail
    go_region_held3 (fun w' => (∀ j, w'.cell? ⟨w.heap.size, j, none⟩ = #[.int .i64 lo, .int .i64 va, .slice A n c][j]?) ∧ Below w.heap.size w w')
      (exact ⟨bcur.out.cell, hcur.out⟩)
      (first
        | (go_at_call 46; refine (HH.out _ (hr.go hcur.out)).mono ?_; rintro e wz ⟨rfl, hbz⟩; have hcur := Lib.hid (hcur.out.trans (hbz.mono hcur.out.size)); have bcur := Lib.hid (bcur.out.go hbz); have rcur := Lib.hid (rcur.out.go hbz); clear hbz))
    all_goals
      go_wp2_with fail
      have hcur := Lib.hid hcur.out.drew
      have bcur := Lib.hid bcur.out.drew
      have rcur := Lib.hid rcur.out.drew
      go_region_held3 (fun w' => (∀ j, w'.cell? ⟨w.heap.size, j, none⟩ = #[.int .i64 lo, .int .i64 va, .slice A n c][j]?) ∧ Below w.heap.size w w')
        (first | exact ⟨bcur.out.cell, hcur.out⟩ | exact ⟨(((bcur.out.far (by simp) _).far (by simp) _).far (by simp) _).cell, ((hcur.out.setCell (by simp) _).setCell (by simp) _).setCell (by simp) _⟩)
        (first
          | (go_at_call 45; refine (HA.out _ (hr.go hcur.out)).mono ?_; rintro e wz ⟨rfl, hbz⟩; have hcur := Lib.hid (hcur.out.trans (hbz.mono hcur.out.size)); have bcur := Lib.hid (bcur.out.go hbz); have rcur := Lib.hid (rcur.out.go hbz); clear hbz)
          | (go_at_call 59; refine (HCU.out _ (hr.go hcur.out)).mono ?_; rintro e wz ⟨A8, c8, rfl, hrd8, hbz⟩; have hcur := Lib.hid (hcur.out.trans (hbz.mono hcur.out.size)); have bcur := Lib.hid (bcur.out.go hbz); have rcur := Lib.hid (rcur.out.go hbz); have ocur := Lib.hid hrd8; clear hbz hrd8)
          | (go_at_call 56; refine (HM.out _ _ _ ocur.out).mono ?_; rintro e wz ⟨A9, c9, rfl, hown9, hbz⟩; have o9' := own_base hown9 (Nat.succ_le_of_lt rcur.out.lt); have hcur := Lib.hid (hcur.out.trans (hbz.mono hcur.out.size)); have bcur := Lib.hid (bcur.out.go hbz); have rcur := Lib.hid (rcur.out.go hbz); have o9 := Lib.hid o9'; have k9 := rcur.out.cell; have f9 := rcur.out.frozen; clear hbz hown9 o9'))
      go_wp2_with fail
      have E6 := Lib.hid (((rcur.out.set_ 0 (.int .i64 RM.1.1)).set_ 1 (.int .i64 RM.1.2.1)).set_ 2 (.slice A9 RM.1.2.2.length c9))
      have k7 := E6.out.cell
      refine bodyPost_ret (v := .tuple #[vCx RM.1.1 RM.1.2.1 A9 RM.1.2.2.length c9, .int .i64 RM.2]) (by simp [results, Try.results39, go_sem, vCx, k7]) rfl ⟨A9, c9, by rw [HX.out], ?_, ?_⟩
      · rw [HX.out]
        exact own_base (own_far (own_far (own_far o9.out (by simp) _) (by simp) _) (by simp) _) (by omega)
      · exact (((hcur.out.setCell (by simp) _).setCell (by simp) _).setCell (by simp) _)
end Go.Proofs.Ythodaikggpbiiaa
