/- Contracts of unit.Next, unit.Range, within, wait and waits: each returns what its plain function gives, and leaves old memory as it is. -/
import Derived.Test.YthodaikggpbiiaaUnit
namespace Go.Proofs.Ythodaikggpbiiaa
open Go.RowKit
set_option maxHeartbeats 1600000 in
set_option maxRecDepth 100000 in
theorem unextC_any (r : Pl.Rule) (s : Pl.St) (p : Int) (w : World) (hs : r.name.size ≤ 9223372036854775807) :
    Calls Try.prog 24 #[vRule r, vSt s, .int .i64 p] w (NextSaid (Pl.unextC r s p) w) := by
  have HC := Lib.hid (fun w => ustate_any r s w hs)
  by_cases h1 : Pl.ustate r s = 0
  · have HX := Lib.hid (fun w => unext_any r s p w h1)
    have HF : Hid (Pl.unextC r s p = Pl.unext r s p) := by show _ = _; unfold Pl.unextC; rw [if_neg (by simpa using h1)]
    rw [h1] at HC
    clear h1
    generalize Pl.unextC r s p = y at *
    generalize Pl.unext r s p = x at *
    obtain ⟨⟨o, a, b⟩, c, d⟩ := x
    unfold vRule vSt at *
    go_enter Try.func24, Try.ntmps24
    go_wp2_with fail
    refine (HC.out _).mono ?_
    rintro e w1 ⟨rfl, hb⟩
    obtain ⟨hc, hf⟩ := bcell hb
    have HB := Lib.hid ((((((Below.refl w.heap.size w).alloc (Nat.le_refl _) _).alloc (by simp) _).alloc (by simp; omega) _)).trans (hb.mono (by simp; omega)))
    have hz : w.heap.size + 1 + 1 + 1 ≤ w1.heap.size := by have := hb.size; simpa using this
    have B5 : Hid (Blk w1 (w.heap.size + 1 + 1) 45 #[.bool false, .int .i64 0, .int .i64 0]) := (Blk.new_ _ _ _ _ (by simp)).go hb
    have c5 := B5.out.cell
    have f5 := B5.out.frozen
    clear hb
    go_wp2_with fail
    refine (HX.out _).mono ?_
    rintro e w2 ⟨rfl, hb2⟩
    have B6 := Lib.hid ((B5.out).go hb2)
    have c6 := B6.out.cell
    have f6 := B6.out.frozen
    have HB2 := Lib.hid (HB.out.trans (hb2.mono (by omega)))
    clear hb2 hc hf hz
    simp only [vSt]
    go_wp2_with fail
    refine bodyPost_ret (v := .tuple #[.agg #[.bool o, .int .i64 a, .int .i64 b], .int .i64 c, .int .i64 d]) (by simp [results, Try.results24, go_sem, c6]) rfl ⟨?_, ?_⟩
    · rw [HF.out]; rfl
    · exact ((HB2.out.setCell (by simp <;> omega) _).setCell (by simp <;> omega) _).setCell (by simp <;> omega) _
  · have h2 : (Pl.ustate r s != 0) = true := by simpa using h1
    have HF : Hid (Pl.unextC r s p = (Pl.St.zero, 0, Pl.ustate r s)) := by show _ = _; unfold Pl.unextC; rw [if_pos h1]
    clear h1
    generalize Pl.unextC r s p = y at *
    generalize Pl.ustate r s = u at *
    unfold vRule vSt at *
    go_enter Try.func24, Try.ntmps24
    go_wp2_with fail
    refine (HC.out _).mono ?_
    rintro e w1 ⟨rfl, hb⟩
    obtain ⟨hc, hf⟩ := bcell hb
    have HB := Lib.hid ((((((Below.refl w.heap.size w).alloc (Nat.le_refl _) _).alloc (by simp) _).alloc (by simp; omega) _)).trans (hb.mono (by simp; omega)))
    have hz : w.heap.size + 1 + 1 + 1 ≤ w1.heap.size := by have := hb.size; simpa using this
    have B5 : Hid (Blk w1 (w.heap.size + 1 + 1) 45 #[.bool false, .int .i64 0, .int .i64 0]) := (Blk.new_ _ _ _ _ (by simp)).go hb
    have c5 := B5.out.cell
    have f5 := B5.out.frozen
    clear hb
    go_wp2_with fail
    refine bodyPost_ret (v := .tuple #[.agg #[.bool false, .int .i64 0, .int .i64 0], .int .i64 0, .int .i64 u]) (by simp [results, Try.results24, go_sem, c5]) rfl ⟨?_, ?_⟩
    · rw [HF.out]; rfl
    · exact ((HB.out.setCell (by simp <;> omega) _).setCell (by simp <;> omega) _).setCell (by simp <;> omega) _
theorem ret3_int {a b c a' b' c' : Int} (h1 : a = a') (h2 : b = b') (h3 : c = c') : Ending.returned (.tuple #[.int .i64 a, .int .i64 b, .int .i64 c]) = .returned (.tuple #[.int .i64 a', .int .i64 b', .int .i64 c']) := by rw [h1, h2, h3]
def RangeSaid (x : Int × Int × Int) (w : World) (e : Ending) (w' : World) : Prop := e = .returned (.tuple #[.int .i64 x.1, .int .i64 x.2.1, .int .i64 x.2.2]) ∧ Below w.heap.size w w'
set_option maxHeartbeats 1600000 in
set_option maxRecDepth 100000 in
theorem urange_any (r : Pl.Rule) (s : Pl.St) (w : World) (hs : r.name.size ≤ 9223372036854775807) :
    Calls Try.prog 22 #[vRule r, vSt s] w (RangeSaid (Pl.urange r s) w) := by
  have HC := Lib.hid (fun w => ustate_any r s w hs)
  by_cases h1 : Pl.ustate r s = 0
  · have HF : Hid (Pl.urange r s = if s.on = true then (max r.least (s.power - r.down), min r.most (s.power + r.up), 0) else if s.since < r.minOff then (0, 0, 12) else (r.least, r.most, 0)) := by show _ = _; unfold Pl.urange; rw [if_neg (by simpa using h1)]
    obtain ⟨h2, s1, s2, s3, s4⟩ := Pl.ustate_ok h1
    obtain ⟨r1, r2, r3, r4, r5, r6, r7, r8, r9, r10, r11, r12, r13⟩ := Pl.ucheck_ok h2
    rw [h1] at HC
    clear h1 h2
    generalize Pl.urange r s = y at *
    obtain ⟨nm, a, b, c, d, x, z, v⟩ := r
    obtain ⟨on, si, pw⟩ := s
    unfold vRule vSt at *
    simp only at HC HF r1 r2 r3 r4 r5 r6 r7 r8 r9 r10 r11 r12 r13 s1 s2 s3 s4
    have P0 : 0 ≤ pw := by
      cases on
      · have := s4 rfl; omega
      · have := s3 rfl; omega
    have P1 : pw ≤ 100000 := by
      cases on
      · have := s4 rfl; omega
      · have := s3 rfl; omega
    clear s3 s4
    cases on
    · by_cases hy : si < z
      · have HV : Hid (y = (0, 0, 12)) := by show _ = _; rw [HF.out, if_neg (by simp), if_pos hy]
        go_enter Try.func22, Try.ntmps22
        go_wp2_with fail
        refine (HC.out _).mono ?_
        rintro e w1 ⟨rfl, hb⟩
        have HB := Lib.hid (((Below.refl w.heap.size w).alloc (Nat.le_refl _) _).alloc (by simp) _ |>.trans (hb.mono (by simp; omega)))
        have B2 : Hid (Blk w1 w.heap.size _ _) := (Blk.old_ (by simp) (Blk.new_ _ _ _ _ (by simp))).go hb
        have B3 : Hid (Blk w1 (w.heap.size + 1) _ _) := (Blk.new_ _ _ _ _ (by simp)).go hb
        have c2 := B2.out.cell
        have c3 := B3.out.cell
        clear hb
        go_wp2_with fail
        go_ret3
        exact ⟨by rw [HV.out]; rfl, HB.out⟩
      · have HV : Hid (y = (a, b, 0)) := by show _ = _; rw [HF.out, if_neg (by simp), if_neg hy]
        go_enter Try.func22, Try.ntmps22
        go_wp2_with fail
        refine (HC.out _).mono ?_
        rintro e w1 ⟨rfl, hb⟩
        have HB := Lib.hid (((Below.refl w.heap.size w).alloc (Nat.le_refl _) _).alloc (by simp) _ |>.trans (hb.mono (by simp; omega)))
        have B2 : Hid (Blk w1 w.heap.size _ _) := (Blk.old_ (by simp) (Blk.new_ _ _ _ _ (by simp))).go hb
        have B3 : Hid (Blk w1 (w.heap.size + 1) _ _) := (Blk.new_ _ _ _ _ (by simp)).go hb
        have c2 := B2.out.cell
        have c3 := B3.out.cell
        clear hb
        go_wp2_with fail
        go_region
        go_wp2_with fail
        go_ret3
        exact ⟨by rw [HV.out]; rfl, HB.out.drew⟩
    · have HV : Hid (y = (max a (pw - d), min b (pw + c), 0)) := by show _ = _; rw [HF.out, if_pos rfl]
      go_enter Try.func22, Try.ntmps22
      go_wp2_with fail
      refine (HC.out _).mono ?_
      rintro e w1 ⟨rfl, hb⟩
      have HB := Lib.hid (((Below.refl w.heap.size w).alloc (Nat.le_refl _) _).alloc (by simp) _ |>.trans (hb.mono (by simp; omega)))
      have B2 : Hid (Blk w1 w.heap.size _ _) := (Blk.old_ (by simp) (Blk.new_ _ _ _ _ (by simp))).go hb
      have B3 : Hid (Blk w1 (w.heap.size + 1) _ _) := (Blk.new_ _ _ _ _ (by simp)).go hb
      have c2 := B2.out.cell
      have c3 := B3.out.cell
      clear hb
      go_wp2_with fail
      go_region
      all_goals go_wp2_with fail
      all_goals
        go_ret3
        refine ⟨?_, HB.out.drew⟩
        rw [HV.out]
        refine ret3_int ?_ ?_ rfl
        all_goals (go_light; clear HC HB B2 B3 c2 c3; dsimp only; omega)
  · have h2 : (Pl.ustate r s != 0) = true := by simpa using h1
    have HF : Hid (Pl.urange r s = (0, 0, Pl.ustate r s)) := by show _ = _; unfold Pl.urange; rw [if_pos h1]
    clear h1
    generalize Pl.urange r s = y at *
    generalize Pl.ustate r s = u at *
    unfold vRule vSt at *
    go_enter Try.func22, Try.ntmps22
    go_wp2_with fail
    refine (HC.out _).mono ?_
    rintro e w1 ⟨rfl, hb⟩
    have HB := Lib.hid (((Below.refl w.heap.size w).alloc (Nat.le_refl _) _).alloc (by simp) _ |>.trans (hb.mono (by simp; omega)))
    clear hb
    go_wp2_with fail
    go_ret3
    exact ⟨by rw [HF.out]; rfl, HB.out⟩
theorem within_any (n lo hi : Int) (w : World) (h1 : lo ≤ hi) (h2 : -1000000000000000 ≤ lo) (h3 : hi ≤ 1000000000000000) :
    Calls Try.prog 23 #[.int .i64 n, .int .i64 lo, .int .i64 hi] w fun e w' => e = .returned (.int .i64 (Pl.withinF n lo hi)) ∧ w = w' := by
  obtain ⟨q1, q2⟩ := Pl.tmod_bd n (hi - lo + 1) (by omega)
  obtain ⟨q3, q4⟩ := Pl.emod_bd (n.tmod (hi - lo + 1)) (hi - lo + 1) (by omega)
  unfold Pl.withinF
  go_enter Try.func23, Try.ntmps23
  go_wp2_with fail
  go_ret
  exact ⟨rfl, rfl⟩
def RuleEx : Pl.Rule := ⟨⟨#[65]⟩, 10, 50, 5, 5, 2, 2, 7⟩
theorem wait_any (w : World) : Calls Try.prog 47 #[] w fun e w' => e = .returned (vRule RuleEx) ∧ Below w.heap.size w w' := by
  go_enter Try.func47, Try.ntmps47
  go_wp2_with fail
  refine bodyPost_ret (v := vRule RuleEx) (by simp [results, Try.results47, go_sem, vRule, RuleEx]) rfl ⟨rfl, ?_⟩
  repeat (first | exact Below.refl _ _ | refine Below.setCell ?_ (by simp <;> omega) _ | refine Below.alloc ?_ (by simp <;> omega) _)
theorem waits1 (w : World) : Calls Try.prog 24 #[.agg #[.string ⟨#[65]⟩, .int .i64 10, .int .i64 50, .int .i64 5, .int .i64 5, .int .i64 2, .int .i64 2, .int .i64 7], .agg #[.bool true, .int .i64 1, .int .i64 20], .int .i64 (-1)] w
    fun e w' => e = .returned (.tuple #[.agg #[.bool false, .int .i64 0, .int .i64 0], .int .i64 0, .int .i64 12]) ∧ Below w.heap.size w w' := by
  have h := unextC_any RuleEx ⟨true, 1, 20⟩ (-1) w (by decide)
  rw [show Pl.unextC RuleEx ⟨true, 1, 20⟩ (-1) = (Pl.St.zero, 0, 12) from Pl.unextC_ex1] at h
  exact h
theorem waits2 (w : World) : Calls Try.prog 24 #[.agg #[.string ⟨#[65]⟩, .int .i64 10, .int .i64 50, .int .i64 5, .int .i64 5, .int .i64 2, .int .i64 2, .int .i64 7], .agg #[.bool false, .int .i64 2, .int .i64 0], .int .i64 20] w
    fun e w' => e = .returned (.tuple #[.agg #[.bool true, .int .i64 1, .int .i64 20], .int .i64 7, .int .i64 0]) ∧ Below w.heap.size w w' := by
  have h := unextC_any RuleEx ⟨false, 2, 0⟩ 20 w (by decide)
  rw [show Pl.unextC RuleEx ⟨false, 2, 0⟩ 20 = (⟨true, 1, 20⟩, 7, 0) from Pl.unextC_ex2] at h
  exact h
set_option maxRecDepth 100000 in
theorem waits_any (w : World) : Calls Try.prog 21 #[] w fun e w' => e = .returned (.bool true) ∧ Below w.heap.size w w' := by
  have H1 := Lib.hid (fun w => waits1 w)
  have H2 := Lib.hid (fun w => waits2 w)
  have HW := Lib.hid wait_any
  simp only [vRule, RuleEx] at HW
  go_enter Try.func21, Try.ntmps21
  go_wp2_with fail
  refine (HW.out _).mono ?_
  rintro e w1 ⟨rfl, hb1⟩
  go_wp2_with fail
  refine (H1.out _).mono ?_
  rintro e w2 ⟨rfl, hb2⟩
  have HB2 := Lib.hid (hb1.trans (hb2.mono hb1.size))
  clear hb1 hb2
  go_wp2_with fail
  refine (HW.out _).mono ?_
  rintro e w3 ⟨rfl, hb3⟩
  go_wp2_with fail
  refine (H2.out _).mono ?_
  rintro e w4 ⟨rfl, hb4⟩
  have HB4 := Lib.hid ((HB2.out.alloc HB2.out.size _).trans ((hb3.trans (hb4.mono hb3.size)).mono (by have := HB2.out.size; simp; omega)))
  clear hb3 hb4
  go_wp2_with fail
  go_ret
  exact ⟨rfl, HB4.out.alloc HB4.out.size _⟩
end Go.Proofs.Ythodaikggpbiiaa
