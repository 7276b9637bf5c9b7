/- Contracts of package unit: Check, CheckState, next, Next: each returns what its plain function gives, and leaves old memory as it is. -/
import Derived.Test.YtchafkocobbndaaName
import Derived.Test.YtchafkocobbndaaPUnit
namespace Go.Proofs.Ytchafkocobbndaa
open Go.RowKit
/-- a rule as a value -/
def vRule (r : Pl.Rule) : Value := .agg #[.string r.name, .int .i64 r.least, .int .i64 r.most, .int .i64 r.up, .int .i64 r.down, .int .i64 r.minOn, .int .i64 r.minOff, .int .i64 r.start]
/-- a state as a value -/
def vSt (s : Pl.St) : Value := .agg #[.bool s.on, .int .i64 s.since, .int .i64 s.power]

theorem uout_any (n lo hi : Int) (w : World) : Calls Try.prog 72 #[.int .i64 n, .int .i64 lo, .int .i64 hi] w fun e w' => e = .returned (.bool (Pl.outB n lo hi)) ∧ w = w' := by
  unfold Pl.outB
  go_enter Try.func72, Try.ntmps72
  go_wp2
  all_goals (go_ret; exact ⟨rfl, rfl⟩)
set_option maxHeartbeats 800000 in
set_option maxRecDepth 100000 in
theorem ucheck_any (r : Pl.Rule) (w : World) (hs : r.name.size ≤ 9223372036854775807) :
    Calls Try.prog 71 #[vRule r] w fun e w' => e = .returned (.int .i64 (Pl.ucheck r)) ∧ Below w.heap.size w w' := by
  unfold vRule
  obtain ⟨nm, a, b, c, d, x, y, z⟩ := r
  simp only at hs ⊢
  have HN := Lib.hid (fun w => name_any nm w hs)
  cases hn : Pl.nameB nm
  · rw [hn] at HN
    have HF : Hid (Pl.ucheck ⟨nm, a, b, c, d, x, y, z⟩ = 6) := by show _ = _; unfold Pl.ucheck; rw [if_pos hn]
    clear hn
    go_enter Try.func71, Try.ntmps71
    go_wp2_with fail
    refine (HN.out _).mono ?_
    rintro e w1 ⟨rfl, hb⟩
    go_wp2_with fail
    go_ret
    exact ⟨by rw [HF.out]; rfl, ((Below.refl _ _).alloc (Nat.le_refl _) _).trans (hb.mono (by simp))⟩
  · rw [hn] at HN
    have HF : Hid (Pl.ucheck ⟨nm, a, b, c, d, x, y, z⟩ = if Pl.badRule ⟨nm, a, b, c, d, x, y, z⟩ = true then 4 else 0) := by show _ = _; unfold Pl.ucheck; rw [if_neg (by simp [hn])]
    clear hn
    go_enter Try.func71, Try.ntmps71
    go_wp2_with fail
    refine (HN.out _).mono ?_
    rintro e w1 ⟨rfl, hb⟩
    obtain ⟨hc, hf⟩ := bcell hb
    have HB := Lib.hid (((Below.refl _ _).alloc (Nat.le_refl _) _).trans (hb.mono (by simp)))
    clear hb
    go_wp2_with (go_at_call 72; refine (uout_any _ _ _ _).mono ?_; rintro e w' ⟨rfl, rfl⟩)
    all_goals
      go_ret
      refine ⟨ret_int ?_, HB.out⟩
      rw [HF.out]
      go_light
      clear HF HN HB hc hf
      simp_all [Pl.badRule]
set_option maxHeartbeats 1600000 in
set_option maxRecDepth 100000 in
theorem ustate_any (r : Pl.Rule) (s : Pl.St) (w : World) (hs : r.name.size ≤ 9223372036854775807) :
    Calls Try.prog 44 #[vRule r, vSt s] w fun e w' => e = .returned (.int .i64 (Pl.ustate r s)) ∧ Below w.heap.size w w' := by
  have HC := Lib.hid (fun w => ucheck_any r w hs)
  unfold vRule vSt at *
  obtain ⟨on, si, pw⟩ := s
  by_cases h1 : Pl.ucheck r = 0
  · rw [h1] at HC
    have HF : Hid (Pl.ustate r ⟨on, si, pw⟩ = if (Pl.outB si 1 200000 || (on && Pl.outB pw r.least r.most)) = true then 4 else if (!on && decide (pw ≠ 0)) = true then 3 else 0) := by show _ = _; unfold Pl.ustate; rw [if_neg (by simpa using h1)]
    clear h1
    obtain ⟨nm, a, b, c, d, x, y, z⟩ := r
    simp only at hs HC HF ⊢
    cases on
    all_goals
      go_enter Try.func44, Try.ntmps44
      go_wp2_with fail
      refine (HC.out _).mono ?_
      rintro e w1 ⟨rfl, hb⟩
      obtain ⟨hc, hf⟩ := bcell hb
      have HB := Lib.hid ((((Below.refl _ _).alloc (Nat.le_refl _) _).alloc (by simp) _).trans (hb.mono (by simp; omega)))
      clear hb
      go_wp2_with (go_at_call 72; refine (uout_any _ _ _ _).mono ?_; rintro e w' ⟨rfl, rfl⟩)
      all_goals
        go_ret
        refine ⟨ret_int ?_, HB.out⟩
        rw [HF.out]
        go_light
        clear HF HC HB hc hf
        simp_all
  · have HF : Hid (Pl.ustate r ⟨on, si, pw⟩ = Pl.ucheck r) := by show _ = _; unfold Pl.ustate; rw [if_pos h1]
    have h2 : (Pl.ucheck r != 0) = true := by simpa using h1
    clear h1
    generalize Pl.ucheck r = u at *
    obtain ⟨nm, a, b, c, d, x, y, z⟩ := r
    simp only at hs HC HF ⊢
    go_enter Try.func44, Try.ntmps44
    go_wp2_with fail
    refine (HC.out _).mono ?_
    rintro e w1 ⟨rfl, hb⟩
    go_wp2_with fail
    go_ret
    exact ⟨by rw [HF.out]; rfl, (((Below.refl _ _).alloc (Nat.le_refl _) _).alloc (by simp) _).trans (hb.mono (by simp; omega))⟩
def NextSaid (x : Pl.St × Int × Int) (w : World) (e : Ending) (w' : World) : Prop := e = .returned (.tuple #[vSt x.1, .int .i64 x.2.1, .int .i64 x.2.2]) ∧ Below w.heap.size w w'
set_option maxHeartbeats 1600000 in
set_option maxRecDepth 100000 in
theorem unext_off (r : Pl.Rule) (s : Pl.St) (w : World) (hv : Pl.ustate r s = 0) :
    Calls Try.prog 54 #[vRule r, vSt s, .int .i64 (-1)] w (NextSaid (Pl.unext r s (-1)) w) := by
  obtain ⟨h1, s1, s2, s3, s4⟩ := Pl.ustate_ok hv
  clear hv h1
  unfold vRule vSt at *
  obtain ⟨on, si, pw⟩ := s
  obtain ⟨nm, a, b, c, d, x, y, z⟩ := r
  simp only at s1 s2 s3 s4 ⊢
  have HF : Hid (Pl.unext ⟨nm, a, b, c, d, x, y, z⟩ ⟨on, si, pw⟩ (-1) = if on = true ∧ si < x then (Pl.St.zero, 0, 12) else (⟨false, if on = false then min (si + 1) 200000 else 1, 0⟩, 0, 0)) := by
    show _ = _
    unfold Pl.unext
    cases on <;> simp
  clear s3 s4
  cases on
  · go_enter Try.func54, Try.ntmps54
    go_wp2_with fail
    · refine bodyPost_ret (v := .tuple #[.agg #[.bool false, .int .i64 200000, .int .i64 0], .int .i64 0, .int .i64 0]) (by simp [results, Try.results54, go_sem]) rfl ⟨?_, ?_⟩
      · have h : min (si + 1) 200000 = 200000 := by omega
        rw [HF.out]; simp [vSt, h]
      · repeat (first | exact Below.refl _ _ | refine Below.alloc ?_ (by simp <;> omega) _)
    · refine bodyPost_ret (v := .tuple #[.agg #[.bool false, .int .i64 (si + 1), .int .i64 0], .int .i64 0, .int .i64 0]) (by simp [results, Try.results54, go_sem]) rfl ⟨?_, ?_⟩
      · have h : min (si + 1) 200000 = si + 1 := by omega
        rw [HF.out]; simp [vSt, h]
      · repeat (first | exact Below.refl _ _ | refine Below.alloc ?_ (by simp <;> omega) _)
  · by_cases hx : si < x
    · go_enter Try.func54, Try.ntmps54
      go_wp2_with fail
      refine bodyPost_ret (v := .tuple #[.agg #[.bool false, .int .i64 0, .int .i64 0], .int .i64 0, .int .i64 12]) (by simp [results, Try.results54, go_sem]) rfl ⟨?_, ?_⟩
      · rw [HF.out]; simp [vSt, hx, Pl.St.zero]
      · repeat (first | exact Below.refl _ _ | refine Below.alloc ?_ (by simp <;> omega) _)
    · have HV : Hid (Pl.unext ⟨nm, a, b, c, d, x, y, z⟩ ⟨true, si, pw⟩ (-1) = (⟨false, 1, 0⟩, 0, 0)) := by show _ = _; rw [HF.out]; simp [hx]
      go_enter Try.func54, Try.ntmps54
      go_wp2_with fail
      refine bodyPost_ret (v := .tuple #[.agg #[.bool false, .int .i64 1, .int .i64 0], .int .i64 0, .int .i64 0]) (by simp [results, Try.results54, go_sem]) rfl ⟨?_, ?_⟩
      · rw [HV.out]; rfl
      · repeat (first | exact Below.refl _ _ | refine Below.alloc ?_ (by simp <;> omega) _)
set_option maxHeartbeats 1600000 in
set_option maxRecDepth 100000 in
theorem unext_on (r : Pl.Rule) (s : Pl.St) (p : Int) (w : World) (hv : Pl.ustate r s = 0) (hp : (p != -1) = true) :
    Calls Try.prog 54 #[vRule r, vSt s, .int .i64 p] w (NextSaid (Pl.unext r s p) w) := by
  obtain ⟨h1, s1, s2, s3, s4⟩ := Pl.ustate_ok hv
  have h2 := Pl.ucheck_ok h1
  clear hv h1
  unfold vRule vSt at *
  obtain ⟨on, si, pw⟩ := s
  obtain ⟨nm, a, b, c, d, x, y, z⟩ := r
  simp only at s1 s2 s3 s4 h2 ⊢
  obtain ⟨r1, r2, r3, r4, r5, r6, r7, r8, r9, r10, r11, r12, r13⟩ := h2
  have b1 : 0 ≤ pw := by
    cases on
    · have := s4 rfl; omega
    · have := s3 rfl; omega
  have b2 : pw ≤ 100000 := by
    cases on
    · have := s4 rfl; omega
    · have := s3 rfl; omega
  clear s3 s4
  have hp' : p ≠ -1 := by simpa using hp
  have HF : Hid (Pl.unext ⟨nm, a, b, c, d, x, y, z⟩ ⟨on, si, pw⟩ p = if Pl.outB p a b = true then (Pl.St.zero, 0, 4)
    else if on = false ∧ si < y then (Pl.St.zero, 0, 12)
    else if on = true ∧ Pl.outB p (pw - d) (pw + c) = true then (Pl.St.zero, 0, 17)
    else (⟨true, if on = true then min (si + 1) 200000 else 1, p⟩, if on = false then z else 0, 0)) := by
    show _ = _
    unfold Pl.unext
    cases on <;> simp [hp']
  clear hp'
  cases ho : Pl.outB p a b
  · have HO := Lib.hid ho
    cases on
    · by_cases hy : si < y
      · have HV : Hid (Pl.unext ⟨nm, a, b, c, d, x, y, z⟩ ⟨false, si, pw⟩ p = (Pl.St.zero, 0, 12)) := by show _ = _; rw [HF.out]; simp [ho, hy]
        go_enter Try.func54, Try.ntmps54
        go_wp2_with (go_at_call 72; refine (uout_any _ _ _ _).mono ?_; rintro e w' ⟨rfl, rfl⟩)
        refine bodyPost_ret (v := .tuple #[.agg #[.bool false, .int .i64 0, .int .i64 0], .int .i64 0, .int .i64 12]) (by simp [results, Try.results54, go_sem]) rfl ⟨?_, ?_⟩
        · rw [HV.out]; rfl
        · repeat (first | exact Below.refl _ _ | refine Below.drew ?_ | refine Below.alloc ?_ (by simp <;> omega) _)
      · have HV : Hid (Pl.unext ⟨nm, a, b, c, d, x, y, z⟩ ⟨false, si, pw⟩ p = (⟨true, 1, p⟩, z, 0)) := by show _ = _; rw [HF.out]; simp [ho, hy]
        go_enter Try.func54, Try.ntmps54
        go_wp2_with (go_at_call 72; refine (uout_any _ _ _ _).mono ?_; rintro e w' ⟨rfl, rfl⟩)
        go_region
        go_wp2_with fail
        refine bodyPost_ret (v := .tuple #[.agg #[.bool true, .int .i64 1, .int .i64 p], .int .i64 z, .int .i64 0]) (by simp [results, Try.results54, go_sem]) rfl ⟨?_, ?_⟩
        · rw [HV.out]; rfl
        · repeat (first | exact Below.refl _ _ | refine Below.drew ?_ | refine Below.alloc ?_ (by simp <;> omega) _)
    · cases h3 : Pl.outB p (pw - d) (pw + c)
      · have H3 := Lib.hid h3
        by_cases hm : si + 1 ≤ 200000
        · have HV : Hid (Pl.unext ⟨nm, a, b, c, d, x, y, z⟩ ⟨true, si, pw⟩ p = (⟨true, si + 1, p⟩, 0, 0)) := by
            have h : min (si + 1) 200000 = si + 1 := by omega
            show _ = _; rw [HF.out]; simp [ho, h3, h]
          go_enter Try.func54, Try.ntmps54
          go_wp2_with (go_at_call 72; refine (uout_any _ _ _ _).mono ?_; rintro e w' ⟨rfl, rfl⟩)
          refine bodyPost_ret (v := .tuple #[.agg #[.bool true, .int .i64 (si + 1), .int .i64 p], .int .i64 0, .int .i64 0]) (by simp [results, Try.results54, go_sem]) rfl ⟨?_, ?_⟩
          · rw [HV.out]; rfl
          · repeat (first | exact Below.refl _ _ | refine Below.drew ?_ | refine Below.alloc ?_ (by simp <;> omega) _)
        · have HV : Hid (Pl.unext ⟨nm, a, b, c, d, x, y, z⟩ ⟨true, si, pw⟩ p = (⟨true, 200000, p⟩, 0, 0)) := by
            have h : min (si + 1) 200000 = 200000 := by omega
            show _ = _; rw [HF.out]; simp [ho, h3, h]
          go_enter Try.func54, Try.ntmps54
          go_wp2_with (go_at_call 72; refine (uout_any _ _ _ _).mono ?_; rintro e w' ⟨rfl, rfl⟩)
          refine bodyPost_ret (v := .tuple #[.agg #[.bool true, .int .i64 200000, .int .i64 p], .int .i64 0, .int .i64 0]) (by simp [results, Try.results54, go_sem]) rfl ⟨?_, ?_⟩
          · rw [HV.out]; rfl
          · repeat (first | exact Below.refl _ _ | refine Below.drew ?_ | refine Below.alloc ?_ (by simp <;> omega) _)
      · have HV : Hid (Pl.unext ⟨nm, a, b, c, d, x, y, z⟩ ⟨true, si, pw⟩ p = (Pl.St.zero, 0, 17)) := by show _ = _; rw [HF.out]; simp [ho, h3]
        go_enter Try.func54, Try.ntmps54
        go_wp2_with (go_at_call 72; refine (uout_any _ _ _ _).mono ?_; rintro e w' ⟨rfl, rfl⟩)
        refine bodyPost_ret (v := .tuple #[.agg #[.bool false, .int .i64 0, .int .i64 0], .int .i64 0, .int .i64 17]) (by simp [results, Try.results54, go_sem]) rfl ⟨?_, ?_⟩
        · rw [HV.out]; rfl
        · repeat (first | exact Below.refl _ _ | refine Below.drew ?_ | refine Below.alloc ?_ (by simp <;> omega) _)
  · have HV : Hid (Pl.unext ⟨nm, a, b, c, d, x, y, z⟩ ⟨on, si, pw⟩ p = (Pl.St.zero, 0, 4)) := by show _ = _; rw [HF.out]; simp [ho]
    go_enter Try.func54, Try.ntmps54
    go_wp2_with (go_at_call 72; refine (uout_any _ _ _ _).mono ?_; rintro e w' ⟨rfl, rfl⟩)
    refine bodyPost_ret (v := .tuple #[.agg #[.bool false, .int .i64 0, .int .i64 0], .int .i64 0, .int .i64 4]) (by simp [results, Try.results54, go_sem]) rfl ⟨?_, ?_⟩
    · rw [HV.out]; rfl
    · repeat (first | exact Below.refl _ _ | refine Below.drew ?_ | refine Below.alloc ?_ (by simp <;> omega) _)
theorem unext_any (r : Pl.Rule) (s : Pl.St) (p : Int) (w : World) (hv : Pl.ustate r s = 0) :
    Calls Try.prog 54 #[vRule r, vSt s, .int .i64 p] w (NextSaid (Pl.unext r s p) w) := by
  by_cases hp : p = -1
  · subst hp; exact unext_off r s w hv
  · exact unext_on r s p w hv (by simpa using hp)
end Go.Proofs.Ytchafkocobbndaa
