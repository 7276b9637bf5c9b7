/- Contracts of curve.out, curve.Check: each returns what its plain function gives, and leaves old memory as it is. -/
import Derived.Test.YtoagepmbekkmdaaBase
import Derived.Test.YtoagepmbekkmdaaPCurve
import Derived.RegionTactic
import Derived.ChangeAlike
namespace Go.Proofs.Ytoagepmbekkmdaa
open Go.RowKit
theorem vcell2_lt {w : World} {b o : Nat} {v : Value} (h : w.cell? ⟨b, o, none⟩ = some v) : b < w.heap.size := by
  rcases Nat.lt_or_ge b w.heap.size with hlt | hge
  · exact hlt
  · unfold World.cell? at h
    rw [Array.getElem?_eq_none hge] at h
    cases h
theorem below_drewN' {B : Nat} {a w : World} (h : Below B a w) (n : Nat) : Below B a (w.drewN n) := by
  induction n with
  | zero => exact h
  | succ n ih => exact ih.drew
theorem vout_any (n lo hi : Int) (w : World) : Calls Try.prog 31 #[.int .i64 n, .int .i64 lo, .int .i64 hi] w fun e w' => e = .returned (.bool (Pl.outB n lo hi)) ∧ w = w' := by
  unfold Pl.outB
  go_enter Try.func31, Try.ntmps31
  go_wp2
  all_goals (go_ret; exact ⟨rfl, rfl⟩)
set_option maxHeartbeats 1600000 in
set_option maxRecDepth 100000 in
theorem cvcheck_any (A : Option Addr) (n c : Nat) (st : List (Int × Int)) (w : World) (hr : Reads w w.heap.size 2 A n (pairs st)) :
    Calls Try.prog 10 #[.slice A n c] w fun e w' => e = .returned (.int .i64 (Pl.cvcheck st)) ∧ Below w.heap.size w w' := by
  have L1 := Lib.hid hr.pair_len
  by_cases h32 : 32 < n
  · have HF : Hid (Pl.cvcheck st = 2) := by show _ = _; unfold Pl.cvcheck; rw [if_pos (by have := L1.out; omega)]
    go_enter Try.func10, Try.ntmps10
    go_wp2_with fail
    go_ret
    exact ⟨by rw [HF.out]; rfl, Below.refl _ _⟩
  · by_cases h2 : n < 2
    · have HF : Hid (Pl.cvcheck st = 3) := by show _ = _; unfold Pl.cvcheck; rw [if_neg (by have := L1.out; omega), if_pos (by have := L1.out; omega)]
      go_enter Try.func10, Try.ntmps10
      go_wp2_with fail
      go_ret
      exact ⟨by rw [HF.out]; rfl, Below.refl _ _⟩
    · have HF : Hid (Pl.cvcheck st = Pl.cvR none st) := by show _ = _; unfold Pl.cvcheck; rw [if_neg (by have := L1.out; omega), if_neg (by have := L1.out; omega)]
      generalize Pl.cvcheck st = R at *
      go_enter Try.func10, Try.ntmps10
      go_wp2_with fail
      go_loopw [15] (fun i wr => ∃ k : Nat, k ≤ n ∧ i = .int .i64 k ∧ Hid (R = Pl.cvR (st.take k).getLast? (st.drop k)) ∧ Below w.heap.size w wr) (fun i _ => n - (intOf i).toNat)
      case atStart => exact ⟨0, Nat.zero_le _, rfl, HF, Below.refl _ _⟩
      case round =>
        obtain ⟨k, hk, rfl, HR, hbel⟩ := hrel
        have HB := Lib.hid hbel
        by_cases hlt : k < n
        · obtain ⟨b, o, rfl, hl1, d1, d2⟩ := (hr.go hbel).pair_at hlt
          have hbl : b < wr.heap.size := vcell2_lt d1
          have HS : Hid (R = if Pl.cvbad (st.take k).getLast? st[k] ≠ 0 then Pl.cvbad (st.take k).getLast? st[k] else Pl.cvR (st.take (k + 1)).getLast? (st.drop (k + 1))) := by
            show _ = _
            rw [HR.out, List.drop_eq_getElem_cons hl1, Pl.cvR, List.take_succ_eq_append_getElem hl1, List.getLast?_concat]
          cases ho1 : Pl.outB st[k].1 100 10000
          · cases ho2 : Pl.outB st[k].2 0 3600000
            · have HO1 := Lib.hid ho1
              have HO2 := Lib.hid ho2
              clear ho1 ho2
              by_cases hk0 : k = 0
              · subst hk0
                have HX : Hid (R = Pl.cvR (st.take (0 + 1)).getLast? (st.drop (0 + 1))) := by
                  show _ = _
                  rw [HS.out, if_neg]
                  unfold Pl.cvbad
                  rw [HO1.out, HO2.out]
                  simp
                simp only [Nat.zero_mul, Nat.add_zero] at d1 d2
                clear HS
                generalize st[0] = p at *
                obtain ⟨x, y⟩ := p
                simp only at d1 d2 HO1 HO2
                go_wp2_with fail
                refine (vout_any _ _ _ _).mono ?_; rintro e w' ⟨rfl, rfl⟩
                rw [HO1.out]
                go_wp2_with fail
                refine (vout_any _ _ _ _).mono ?_; rintro e w' ⟨rfl, rfl⟩
                rw [HO2.out]
                go_wp2_with fail
                go_quiet (fail)
                go_wp2_with fail
                go_roundw
                case rel => exact ⟨1, by omega, by go_num, HX, below_drewN' (HB.out.alloc HB.out.size _) _⟩
                case measure => simp [intOf]; omega
              · obtain ⟨j, rfl⟩ : ∃ j, k = j + 1 := ⟨k - 1, by omega⟩
                obtain ⟨_, _, e, hl3, d3, d4⟩ := (hr.go hbel).pair_at (k := j) (by omega)
                injection e with e; injection e with e1 e2; subst e1 e2
                have HLP : Hid ((st.take (j + 1)).getLast? = some st[j]) := by
                  show _ = _
                  rw [List.take_succ_eq_append_getElem hl3, List.getLast?_concat]
                have gj : (0 : Int) < (j : Int) + 1 := by omega
                have wj : IntKind.i64.wrap (j : Int) = (j : Int) := IntWalk.i64_in _ (by omega)
                have jn : (j : Int) < (n : Int) := by omega
                have jn2 : j < n := by omega
                have HBV : Hid (Pl.cvbad (st.take (j + 1)).getLast? st[j + 1] = if st[j + 1].1 ≤ st[j].1 ∨ st[j].2 < st[j + 1].2 then 3 else 0) := by
                  show _ = _
                  rw [HLP.out]
                  unfold Pl.cvbad
                  rw [HO1.out, HO2.out]
                  simp
                by_cases hlow : st[j + 1].1 ≤ st[j].1
                · have HX : Hid (R = 3) := by show _ = _; rw [HS.out, HBV.out]; simp [hlow]
                  clear HS HBV HLP
                  generalize st[j + 1] = p at *
                  generalize st[j] = q at *
                  obtain ⟨x, y⟩ := p
                  obtain ⟨x', y'⟩ := q
                  simp only at d1 d2 d3 d4 HO1 HO2 hlow
                  go_wp2_with fail
                  refine (vout_any _ _ _ _).mono ?_; rintro e w' ⟨rfl, rfl⟩
                  rw [HO1.out]
                  go_wp2_with fail
                  refine (vout_any _ _ _ _).mono ?_; rintro e w' ⟨rfl, rfl⟩
                  rw [HO2.out]
                  go_wp2_with fail
                  go_quiet (fail)
                  go_wp2_with fail
                  go_ret
                  exact ⟨by rw [HX.out]; rfl, below_drewN' (HB.out.alloc HB.out.size _) _⟩
                · by_cases hup : st[j].2 < st[j + 1].2
                  · have HX : Hid (R = 3) := by show _ = _; rw [HS.out, HBV.out]; simp [hup]
                    clear HS HBV HLP
                    generalize st[j + 1] = p at *
                    generalize st[j] = q at *
                    obtain ⟨x, y⟩ := p
                    obtain ⟨x', y'⟩ := q
                    simp only at d1 d2 d3 d4 HO1 HO2 hlow hup
                    go_wp2_with fail
                    refine (vout_any _ _ _ _).mono ?_; rintro e w' ⟨rfl, rfl⟩
                    rw [HO1.out]
                    go_wp2_with fail
                    refine (vout_any _ _ _ _).mono ?_; rintro e w' ⟨rfl, rfl⟩
                    rw [HO2.out]
                    go_wp2_with fail
                    go_quiet (fail)
                    go_wp2_with fail
                    go_ret
                    exact ⟨by rw [HX.out]; rfl, below_drewN' (HB.out.alloc HB.out.size _) _⟩
                  · have HX : Hid (R = Pl.cvR (st.take (j + 1 + 1)).getLast? (st.drop (j + 1 + 1))) := by show _ = _; rw [HS.out, HBV.out]; simp [hlow, hup]
                    clear HS HBV HLP
                    generalize st[j + 1] = p at *
                    generalize st[j] = q at *
                    obtain ⟨x, y⟩ := p
                    obtain ⟨x', y'⟩ := q
                    simp only at d1 d2 d3 d4 HO1 HO2 hlow hup
                    go_wp2_with fail
                    refine (vout_any _ _ _ _).mono ?_; rintro e w' ⟨rfl, rfl⟩
                    rw [HO1.out]
                    go_wp2_with fail
                    refine (vout_any _ _ _ _).mono ?_; rintro e w' ⟨rfl, rfl⟩
                    rw [HO2.out]
                    go_wp2_with fail
                    go_quiet (fail)
                    go_wp2_with fail
                    go_roundw
                    case rel => exact ⟨j + 1 + 1, by omega, by go_num, HX, below_drewN' (HB.out.alloc HB.out.size _) _⟩
                    case measure => simp [intOf]; omega
            · have HX : Hid (R = 4) := by
                show _ = _
                rw [HS.out]; unfold Pl.cvbad; rw [ho1, ho2]; simp
              have HO1 := Lib.hid ho1
              have HO2 := Lib.hid ho2
              clear ho1 ho2 HS
              generalize st[k] = p at *
              obtain ⟨x, y⟩ := p
              simp only at d1 d2 HO1 HO2
              go_wp2_with fail
              refine (vout_any _ _ _ _).mono ?_; rintro e w' ⟨rfl, rfl⟩
              rw [HO1.out]
              go_wp2_with fail
              refine (vout_any _ _ _ _).mono ?_; rintro e w' ⟨rfl, rfl⟩
              rw [HO2.out]
              go_wp2_with fail
              go_ret
              exact ⟨by rw [HX.out]; rfl, HB.out.alloc HB.out.size _⟩
          · have HX : Hid (R = 4) := by
              show _ = _
              rw [HS.out]; unfold Pl.cvbad; rw [ho1]; simp
            have HO1 := Lib.hid ho1
            clear ho1 HS
            generalize st[k] = p at *
            obtain ⟨x, y⟩ := p
            simp only at d1 d2 HO1
            go_wp2_with fail
            refine (vout_any _ _ _ _).mono ?_; rintro e w' ⟨rfl, rfl⟩
            rw [HO1.out]
            go_wp2_with fail
            go_ret
            exact ⟨by rw [HX.out]; rfl, HB.out.alloc HB.out.size _⟩
        · have : k = n := by omega
          subst this
          have HX : Hid (R = 0) := by show _ = _; rw [HR.out, List.drop_eq_nil_of_le (by have := L1.out; omega)]; rfl
          go_wp2_with fail
          go_ret
          exact ⟨by rw [HX.out]; rfl, HB.out⟩
end Go.Proofs.Ytoagepmbekkmdaa
