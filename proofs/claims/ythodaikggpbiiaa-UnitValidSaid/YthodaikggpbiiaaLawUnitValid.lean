/- The law UnitValid: for every rule, state and power the call returns true, and old memory is left as it is. No condition. -/
import Derived.Test.YthodaikggpbiiaaUnitB
namespace Go.Proofs.Ythodaikggpbiiaa
open Go.RowKit
set_option maxRecDepth 100000 in
set_option maxHeartbeats 1600000 in
theorem unitValid_walk (r : Pl.Rule) (s : Pl.St) (p : Int) (w : World) (hs : r.name.size ≤ 9223372036854775807) :
    Calls Try.prog 5 #[vRule r, vSt s, .int .i64 p] w fun e w' => e = .returned (.bool true) ∧ Below w.heap.size w w' := by
  have HR := Lib.hid (fun w => urange_any r s w hs)
  by_cases hz : (Pl.urange r s).2.2 = 0
  · obtain ⟨g1, g2, g3, g4, g5⟩ := Pl.urange_good hz
    have hb := Pl.withinF_bd p _ _ g3
    obtain ⟨si, c, hx, hv⟩ := g5 _ hb.1 hb.2
    have HN := Lib.hid (fun w => unextC_any r s (Pl.withinF p (Pl.urange r s).1 (Pl.urange r s).2.1) w hs)
    rw [hx] at HN
    have HV := Lib.hid (fun w => ustate_any r ⟨true, si, Pl.withinF p (Pl.urange r s).1 (Pl.urange r s).2.1⟩ w hs)
    rw [hv] at HV
    rw [show Pl.urange r s = ((Pl.urange r s).1, (Pl.urange r s).2.1, 0) from Prod.ext rfl (Prod.ext rfl hz)] at HR
    clear hz hx hv g1 hb
    have HI := Lib.hid (fun w => within_any p (Pl.urange r s).1 (Pl.urange r s).2.1 w g3 (by omega) (by omega))
    generalize Pl.withinF p (Pl.urange r s).1 (Pl.urange r s).2.1 = q at *
    generalize (Pl.urange r s).1 = lo at *
    generalize (Pl.urange r s).2.1 = hi at *
    clear g5
    unfold vRule vSt at *
    go_enter Try.func5, Try.ntmps5
    go_wp2_with fail
    refine (waits_any _).mono ?_
    rintro e w1 ⟨rfl, hb⟩
    have HB := Lib.hid (((Below.refl w.heap.size w).alloc (Nat.le_refl _) _).alloc (by simp) _ |>.trans (hb.mono (by simp; omega)))
    have B2 : Hid (Blk w1 w.heap.size _ _) := (Blk.old_ (by simp) (Blk.new_ _ _ _ _ (by simp))).go hb
    have B3 : Hid (Blk w1 (w.heap.size + 1) _ _) := (Blk.new_ _ _ _ _ (by simp)).go hb
    have c2 := B2.out.cell
    have c3 := B3.out.cell
    clear hb
    go_wp2_with fail
    refine (HR.out _).mono ?_
    rintro e w2 ⟨rfl, hb⟩
    have HB1 := Lib.hid (HB.out.trans (hb.mono HB.out.size))
    have B4 := Lib.hid (B2.out.go hb)
    have B5 := Lib.hid (B3.out.go hb)
    clear c2 c3 hb
    have c2 := B4.out.cell
    have c3 := B5.out.cell
    simp only
    go_wp2_with fail
    refine (HI.out _).mono ?_
    rintro e w' ⟨rfl, rfl⟩
    go_wp2_with fail
    refine (HN.out _).mono ?_
    rintro e w3 ⟨rfl, hb⟩
    have HB2 := Lib.hid (HB1.out.trans (hb.mono HB1.out.size))
    have B6 := Lib.hid (B4.out.go hb)
    clear c2 c3 hb
    have c2 := B6.out.cell
    have l2 := B6.out.lt
    simp only [vSt]
    go_wp2_with fail
    refine (HV.out _).mono ?_
    rintro e w4 ⟨rfl, hb⟩
    have HB3 := Lib.hid ((HB2.out.alloc HB2.out.size _).trans (hb.mono (by have := HB2.out.size; simp; omega)))
    have B7 := Lib.hid ((Blk.new_ w3 w3.heap.size _ _ rfl).go hb)
    clear c2 hb
    have c7 := B7.out.cell
    go_wp2_with fail
    go_ret
    exact ⟨rfl, HB3.out⟩
  · obtain ⟨g1, g2⟩ := Pl.urange_bad hz
    rw [show Pl.urange r s = (0, 0, (Pl.urange r s).2.2) from Prod.ext g1 (Prod.ext g2 rfl)] at HR
    have hz1 : ((Pl.urange r s).2.2 != 0) = true := by simpa using hz
    clear g1 g2 hz
    generalize (Pl.urange r s).2.2 = u at *
    unfold vRule vSt at *
    go_enter Try.func5, Try.ntmps5
    go_wp2_with fail
    refine (waits_any _).mono ?_
    rintro e w1 ⟨rfl, hb⟩
    have HB := Lib.hid (((Below.refl w.heap.size w).alloc (Nat.le_refl _) _).alloc (by simp) _ |>.trans (hb.mono (by simp; omega)))
    have B2 : Hid (Blk w1 w.heap.size _ _) := (Blk.old_ (by simp) (Blk.new_ _ _ _ _ (by simp))).go hb
    have B3 : Hid (Blk w1 (w.heap.size + 1) _ _) := (Blk.new_ _ _ _ _ (by simp)).go hb
    have c2 := B2.out.cell
    have c3 := B3.out.cell
    clear hb
    go_wp2_with fail
    refine (HR.out _).mono ?_
    rintro e w2 ⟨rfl, hb⟩
    have HB1 := Lib.hid (HB.out.trans (hb.mono HB.out.size))
    clear c2 c3 hb
    simp only
    go_wp2_with fail
    go_ret
    exact ⟨rfl, HB1.out⟩
end Go.Proofs.Ythodaikggpbiiaa
