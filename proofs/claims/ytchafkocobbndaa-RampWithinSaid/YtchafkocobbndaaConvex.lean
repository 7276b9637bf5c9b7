/- The contract of convexpl.Check: it returns what the plain function ccheck gives, and leaves old memory as it is. -/
import Derived.Test.YtchafkocobbndaaOffer
import Derived.Test.YtchafkocobbndaaPConvex
namespace Go.Proofs.Ytchafkocobbndaa
open Go.RowKit
def vCx (lo va : Int) (A : Option Addr) (n c : Nat) : Value := .agg #[.int .i64 lo, .int .i64 va, .slice A n c]
theorem cxout_any (n m : Int) (w : World) (hm0 : 0 ≤ m) (hm : m ≤ 1000000000000000) : Calls Try.prog 81 #[.int .i64 n, .int .i64 m] w fun e w' => e = .returned (.bool (Pl.outm n m)) ∧ w = w' := by
  unfold Pl.outm
  go_enter Try.func81, Try.ntmps81
  go_wp2
  all_goals (go_ret; exact ⟨rfl, rfl⟩)
set_option maxHeartbeats 3200000 in
set_option maxRecDepth 100000 in
theorem ccheck_any (lo va : Int) (A : Option Addr) (n c : Nat) (st : List (Int × Int)) (w : World) (hr : Reads w w.heap.size 2 A n (pairs st)) :
    Calls Try.prog 64 #[vCx lo va A n c] w fun e w' => e = .returned (.int .i64 (Pl.ccheck lo va st)) ∧ Below w.heap.size w w' := by
  have L1 := Lib.hid hr.pair_len
  unfold vCx
  by_cases h64 : n ≤ 64
  · cases hou : (Pl.outm lo 1000000 || Pl.outm va 1000000000000000)
    · have HF : Hid (Pl.ccheck lo va st = (Pl.kacc lo va st).2.2.1) := by show _ = _; unfold Pl.ccheck; rw [if_neg (by have := L1.out; omega), if_neg (by simp [hou])]
      rw [Bool.or_eq_false_iff] at hou
      obtain ⟨ho1, ho2⟩ := hou
      have HO1 := Lib.hid ho1
      have HO2 := Lib.hid ho2
      obtain ⟨lo0, lo1⟩ := Pl.outm_false.1 ho1
      obtain ⟨va0, va1⟩ := Pl.outm_false.1 ho2
      clear ho1 ho2
      go_enter Try.func64, Try.ntmps64
      go_wp2_with fail
      refine (cxout_any _ _ _ (by omega) (by omega)).mono ?_; rintro e w' ⟨rfl, rfl⟩
      rw [HO1.out]
      go_wp2_with fail
      refine (cxout_any _ _ _ (by omega) (by omega)).mono ?_; rintro e w' ⟨rfl, rfl⟩
      rw [HO2.out]
      go_wp2_with fail
      go_region
      go_wp2_with fail
      have HB : Hid (Below w.heap.size w (w.alloc (.cells #[.int .i64 lo, .int .i64 va, .slice A n c] 92)).drew) := ((Below.refl _ _).alloc (Nat.le_refl _) _).drew
      have B1 : Hid (Blk (w.alloc (.cells #[.int .i64 lo, .int .i64 va, .slice A n c] 92)).drew w.heap.size _ _) := Blk.new_ _ _ _ _ rfl
      generalize (w.alloc (.cells #[.int .i64 lo, .int .i64 va, .slice A n c] 92)).drew = w1 at *
      go_loopw [3, 4, 28] (fun x y i wr => ∃ k : Nat, k ≤ n ∧ i = .int .i64 k ∧ (Pl.kacc lo va (st.take k)).2.2.1 = 0 ∧ x = .int .i64 (Pl.kacc lo va (st.take k)).1 ∧ y = .int .i64 (Pl.kacc lo va (st.take k)).2.1 ∧ Below w1.heap.size w1 wr) (fun _ _ i _ => n - (intOf i).toNat)
      case atStart => exact ⟨0, Nat.zero_le _, rfl, rfl, rfl, rfl, Below.refl _ _⟩
      case round =>
        obtain ⟨k, hk, rfl, he, rfl, rfl, hbel⟩ := hrel
        have HE := Lib.hid he
        have hg := Pl.kacc_good ⟨lo0, lo1⟩ ⟨va0, va1⟩ he
        obtain ⟨q1, q2, q3, q4⟩ := Pl.kacc_bd ⟨lo0, lo1⟩ ⟨va0, va1⟩ he
        have HL := Lib.hid hg.2.2.2
        have HB2 := Lib.hid (HB.out.trans (hbel.mono HB.out.size))
        have HZ := Lib.hid (HB2.out.alloc HB2.out.size)
        clear he hg
        by_cases hlt : k < n
        · obtain ⟨b, o, rfl, hl1, d1, d2⟩ := ((hr.go HB.out).go hbel).pair_at hlt
          have B2 := Lib.hid (B1.out.below hbel B1.out.lt)
          have l2 := B2.out.lt
          have c2 := B2.out.cell
          have hbl : b < wr.heap.size := lt_of_cell2 d1
          have HS : Hid (Pl.kacc lo va (st.take (k + 1)) = Pl.kstep (Pl.kacc lo va (st.take k)) st[k]) := by
            show _ = _
            rw [List.take_succ_eq_append_getElem hl1, Pl.kacc_snoc]
          have HT := Lib.hid (Pl.kacc_stuck lo va st (k + 1))
          have fin : ∀ v, v ≠ 0 → Pl.kstep (Pl.kacc lo va (st.take k)) st[k] = (0, 0, v, none) → Pl.ccheck lo va st = v := by
            intro v hv h
            rw [HF.out, HT.out (by rw [HS.out, h]; exact hv), HS.out, h]
          have FIN := Lib.hid fin
          clear fin
          cases hbad : Pl.badPiece st[k]
          · obtain ⟨g1, g2, g3, g4⟩ := Pl.badPiece_false.1 hbad
            have HBAD := Lib.hid hbad
            have HO3 : Hid (Pl.outm st[k].2 10000000 = false) := Pl.outm_false.2 ⟨g3, g4⟩
            have hmul := Pl.piece_bd (m := st[k].1) (p := st[k].2) (by omega) g2 g3 g4
            obtain ⟨m1, m2⟩ := hmul
            clear hbad
            by_cases hk0 : k = 0
            · subst hk0
              have HLW : Hid (Pl.notMore st[0].2 (Pl.kacc lo va (st.take 0)).2.2.2 = false) := rfl
              simp only [Nat.zero_mul, Nat.add_zero] at d1 d2
              cases hsum : (decide (1000000 < (Pl.kacc lo va (st.take 0)).1 + st[0].1) || Pl.outm ((Pl.kacc lo va (st.take 0)).2.1 + st[0].1 * st[0].2) 1000000000000000)
              · have HX : Hid (Pl.kacc lo va (st.take (0 + 1)) = ((Pl.kacc lo va (st.take 0)).1 + st[0].1, (Pl.kacc lo va (st.take 0)).2.1 + st[0].1 * st[0].2, (0 : Int), some st[0].2)) := by show _ = _; rw [HS.out, Pl.kstep_ok HE.out HBAD.out HLW.out hsum]
                rw [Bool.or_eq_false_iff, decide_eq_false_iff_not] at hsum
                obtain ⟨hs1, hs2⟩ := hsum
                have HO4 := Lib.hid hs2
                clear hs2
                generalize Pl.kacc lo va (st.take 0) = acc at *
                obtain ⟨xx, yy, _, _⟩ := acc
                clear HE HL HS FIN HT HBAD HLW
                generalize st[0] = p at *
                obtain ⟨x, y⟩ := p
                simp only at g1 g2 g3 g4 d1 d2 hs1 m1 m2 q1 q2 q3 q4 HX HO3 HO4
                go_wp2_with fail
                refine (cxout_any _ _ _ (by omega) (by omega)).mono ?_; rintro e w' ⟨rfl, rfl⟩
                rw [HO3.out]
                go_wp2_with fail
                go_quiet (fail)
                go_wp2_with fail
                refine (cxout_any _ _ _ (by omega) (by omega)).mono ?_; rintro e w' ⟨rfl, rfl⟩
                rw [HO4.out]
                go_wp2_with fail
                go_roundw
                case rel => exact ⟨1, by omega, by go_num, by rw [HX.out], by rw [HX.out], by rw [HX.out], below_drewN (hbel.alloc hbel.size _) _⟩
                case measure => simp [intOf]; omega
              · have HX := Lib.hid (FIN.out 4 (by decide) (Pl.kstep_sum HE.out HBAD.out HLW.out hsum))
                by_cases hs1 : 1000000 < (Pl.kacc lo va (st.take 0)).1 + st[0].1
                · clear hsum
                  generalize Pl.kacc lo va (st.take 0) = acc at *
                  obtain ⟨xx, yy, _, _⟩ := acc
                  clear HE HL HS FIN HT HBAD HLW
                  generalize st[0] = p at *
                  obtain ⟨x, y⟩ := p
                  simp only at g1 g2 g3 g4 d1 d2 hs1 m1 m2 q1 q2 q3 q4 HO3
                  go_wp2_with fail
                  refine (cxout_any _ _ _ (by omega) (by omega)).mono ?_; rintro e w' ⟨rfl, rfl⟩
                  rw [HO3.out]
                  go_wp2_with fail
                  go_quiet (fail)
                  go_wp2_with fail
                  go_ret
                  exact ⟨by rw [HX.out]; rfl, below_drewN (HZ.out _) _⟩
                · rw [decide_eq_false hs1, Bool.false_or] at hsum
                  have HO4 := Lib.hid hsum
                  clear hsum
                  generalize Pl.kacc lo va (st.take 0) = acc at *
                  obtain ⟨xx, yy, _, _⟩ := acc
                  clear HE HL HS FIN HT HBAD HLW
                  generalize st[0] = p at *
                  obtain ⟨x, y⟩ := p
                  simp only at g1 g2 g3 g4 d1 d2 hs1 m1 m2 q1 q2 q3 q4 HO3 HO4
                  go_wp2_with fail
                  refine (cxout_any _ _ _ (by omega) (by omega)).mono ?_; rintro e w' ⟨rfl, rfl⟩
                  rw [HO3.out]
                  go_wp2_with fail
                  go_quiet (fail)
                  go_wp2_with fail
                  refine (cxout_any _ _ _ (by omega) (by omega)).mono ?_; rintro e w' ⟨rfl, rfl⟩
                  rw [HO4.out]
                  go_wp2_with fail
                  go_ret
                  exact ⟨by rw [HX.out]; rfl, below_drewN (HZ.out _) _⟩
            · obtain ⟨j, rfl⟩ : ∃ j, k = j + 1 := ⟨k - 1, by omega⟩
              obtain ⟨_, _, e, hl3, d3, d4⟩ := ((hr.go HB.out).go hbel).pair_at (k := j) (by omega)
              injection e with e; injection e with e1 e2; subst e1 e2
              have hlp : Pl.lastPrice (st.take (j + 1)) = some st[j].2 := by
                rw [List.take_succ_eq_append_getElem hl3]; unfold Pl.lastPrice; rw [List.getLast?_concat]; rfl
              have HLP := Lib.hid (HL.out.trans hlp)
              clear hlp
              have gj : (0 : Int) < (j : Int) + 1 := by omega
              have wj : IntKind.i64.wrap (j : Int) = (j : Int) := IntWalk.i64_in _ (by omega)
              have jn : (j : Int) < (n : Int) := by omega
              have jn2 : j < n := by omega
              by_cases hlow : st[j + 1].2 ≤ st[j].2
              · have HX := Lib.hid (FIN.out 3 (by decide) (Pl.kstep_low HE.out HBAD.out (by rw [HLP.out]; simpa [Pl.notMore] using hlow)))
                generalize Pl.kacc lo va (st.take (j + 1)) = acc at *
                obtain ⟨xx, yy, _, _⟩ := acc
                clear HLP HE HL HS FIN HT HBAD
                generalize st[j + 1] = p at *
                generalize st[j] = p' at *
                obtain ⟨x, y⟩ := p
                obtain ⟨x', y'⟩ := p'
                simp only at g1 g2 g3 g4 d1 d2 d3 d4 hlow HO3
                go_wp2_with fail
                refine (cxout_any _ _ _ (by omega) (by omega)).mono ?_; rintro e w' ⟨rfl, rfl⟩
                rw [HO3.out]
                go_wp2_with fail
                go_quiet (fail)
                go_wp2_with fail
                go_ret
                exact ⟨by rw [HX.out]; rfl, below_drewN (HZ.out _) _⟩
              · have HLW : Hid (Pl.notMore st[j + 1].2 (Pl.kacc lo va (st.take (j + 1))).2.2.2 = false) := by show _ = _; rw [HLP.out]; simpa [Pl.notMore] using hlow
                cases hsum : (decide (1000000 < (Pl.kacc lo va (st.take (j + 1))).1 + st[j + 1].1) || Pl.outm ((Pl.kacc lo va (st.take (j + 1))).2.1 + st[j + 1].1 * st[j + 1].2) 1000000000000000)
                · have HX : Hid (Pl.kacc lo va (st.take (j + 1 + 1)) = ((Pl.kacc lo va (st.take (j + 1))).1 + st[j + 1].1, (Pl.kacc lo va (st.take (j + 1))).2.1 + st[j + 1].1 * st[j + 1].2, (0 : Int), some st[j + 1].2)) := by show _ = _; rw [HS.out, Pl.kstep_ok HE.out HBAD.out HLW.out hsum]
                  rw [Bool.or_eq_false_iff, decide_eq_false_iff_not] at hsum
                  obtain ⟨hs1, hs2⟩ := hsum
                  have HO4 := Lib.hid hs2
                  clear hs2
                  generalize Pl.kacc lo va (st.take (j + 1)) = acc at *
                  obtain ⟨xx, yy, _, _⟩ := acc
                  clear HLP HE HL HS FIN HT HBAD HLW
                  generalize st[j + 1] = p at *
                  generalize st[j] = p' at *
                  obtain ⟨x, y⟩ := p
                  obtain ⟨x', y'⟩ := p'
                  simp only at g1 g2 g3 g4 d1 d2 d3 d4 hlow hs1 m1 m2 q1 q2 q3 q4 HX HO3 HO4
                  go_wp2_with fail
                  refine (cxout_any _ _ _ (by omega) (by omega)).mono ?_; rintro e w' ⟨rfl, rfl⟩
                  rw [HO3.out]
                  go_wp2_with fail
                  go_quiet (fail)
                  go_wp2_with fail
                  refine (cxout_any _ _ _ (by omega) (by omega)).mono ?_; rintro e w' ⟨rfl, rfl⟩
                  rw [HO4.out]
                  go_wp2_with fail
                  go_roundw
                  case rel => exact ⟨j + 1 + 1, by omega, by go_num, by rw [HX.out], by rw [HX.out], by rw [HX.out], below_drewN (hbel.alloc hbel.size _) _⟩
                  case measure => simp [intOf]; omega
                · have HX := Lib.hid (FIN.out 4 (by decide) (Pl.kstep_sum HE.out HBAD.out HLW.out hsum))
                  by_cases hs1 : 1000000 < (Pl.kacc lo va (st.take (j + 1))).1 + st[j + 1].1
                  · clear hsum
                    generalize Pl.kacc lo va (st.take (j + 1)) = acc at *
                    obtain ⟨xx, yy, _, _⟩ := acc
                    clear HLP HE HL HS FIN HT HBAD HLW
                    generalize st[j + 1] = p at *
                    generalize st[j] = p' at *
                    obtain ⟨x, y⟩ := p
                    obtain ⟨x', y'⟩ := p'
                    simp only at g1 g2 g3 g4 d1 d2 d3 d4 hlow hs1 m1 m2 q1 q2 q3 q4 HO3
                    go_wp2_with fail
                    refine (cxout_any _ _ _ (by omega) (by omega)).mono ?_; rintro e w' ⟨rfl, rfl⟩
                    rw [HO3.out]
                    go_wp2_with fail
                    go_quiet (fail)
                    go_wp2_with fail
                    go_ret
                    exact ⟨by rw [HX.out]; rfl, below_drewN (HZ.out _) _⟩
                  · rw [decide_eq_false hs1, Bool.false_or] at hsum
                    have HO4 := Lib.hid hsum
                    clear hsum
                    generalize Pl.kacc lo va (st.take (j + 1)) = acc at *
                    obtain ⟨xx, yy, _, _⟩ := acc
                    clear HLP HE HL HS FIN HT HBAD HLW
                    generalize st[j + 1] = p at *
                    generalize st[j] = p' at *
                    obtain ⟨x, y⟩ := p
                    obtain ⟨x', y'⟩ := p'
                    simp only at g1 g2 g3 g4 d1 d2 d3 d4 hlow hs1 m1 m2 q1 q2 q3 q4 HO3 HO4
                    go_wp2_with fail
                    refine (cxout_any _ _ _ (by omega) (by omega)).mono ?_; rintro e w' ⟨rfl, rfl⟩
                    rw [HO3.out]
                    go_wp2_with fail
                    go_quiet (fail)
                    go_wp2_with fail
                    refine (cxout_any _ _ _ (by omega) (by omega)).mono ?_; rintro e w' ⟨rfl, rfl⟩
                    rw [HO4.out]
                    go_wp2_with fail
                    go_ret
                    exact ⟨by rw [HX.out]; rfl, below_drewN (HZ.out _) _⟩
          · have HX := Lib.hid (FIN.out 4 (by decide) (Pl.kstep_bad HE.out hbad))
            by_cases hx1 : st[k].1 < 1 ∨ 2000000 < st[k].1
            · clear hbad
              generalize st[k] = p at *
              obtain ⟨x, y⟩ := p
              simp only at hx1 d1 d2
              rcases hx1 with hx | hx
              all_goals go_wp2_with fail
              all_goals
                go_ret
                exact ⟨by rw [HX.out]; rfl, HZ.out _⟩
            · have HO3 : Hid (Pl.outm st[k].2 10000000 = true) := by
                show _ = _
                cases ho : Pl.outm st[k].2 10000000
                · have := Pl.badPiece_false.2 ⟨by omega, by omega, Pl.outm_false.1 ho⟩
                  rw [this] at hbad; cases hbad
                · rfl
              clear hbad
              generalize st[k] = p at *
              obtain ⟨x, y⟩ := p
              simp only at hx1 d1 d2 HO3
              have hx2 : ¬ x < 1 := by omega
              have hx3 : ¬ 2000000 < x := by omega
              go_wp2_with fail
              refine (cxout_any _ _ _ (by omega) (by omega)).mono ?_; rintro e w' ⟨rfl, rfl⟩
              rw [HO3.out]
              go_wp2_with fail
              go_ret
              exact ⟨by rw [HX.out]; rfl, HZ.out _⟩
        · have : k = n := by omega
          subst this
          have HT : Hid (st.take k = st) := List.take_of_length_le (by have := L1.out; omega)
          go_wp2_with fail
          go_ret
          exact ⟨by rw [HF.out, ← HE.out, HT.out]; rfl, HB2.out⟩
    · have HF : Hid (Pl.ccheck lo va st = 4) := by show _ = _; unfold Pl.ccheck; rw [if_neg (by have := L1.out; omega), if_pos hou]
      cases ho1 : Pl.outm lo 1000000
      · rw [ho1, Bool.false_or] at hou
        have HO1 := Lib.hid ho1
        have HO2 := Lib.hid hou
        clear ho1 hou
        go_enter Try.func64, Try.ntmps64
        go_wp2_with fail
        refine (cxout_any _ _ _ (by omega) (by omega)).mono ?_; rintro e w' ⟨rfl, rfl⟩
        rw [HO1.out]
        go_wp2_with fail
        refine (cxout_any _ _ _ (by omega) (by omega)).mono ?_; rintro e w' ⟨rfl, rfl⟩
        rw [HO2.out]
        go_wp2_with fail
        go_ret
        exact ⟨by rw [HF.out]; rfl, (Below.refl _ _).alloc (Nat.le_refl _) _⟩
      · have HO1 := Lib.hid ho1
        clear ho1 hou
        go_enter Try.func64, Try.ntmps64
        go_wp2_with fail
        refine (cxout_any _ _ _ (by omega) (by omega)).mono ?_; rintro e w' ⟨rfl, rfl⟩
        rw [HO1.out]
        go_wp2_with fail
        go_ret
        exact ⟨by rw [HF.out]; rfl, (Below.refl _ _).alloc (Nat.le_refl _) _⟩
  · have HF : Hid (Pl.ccheck lo va st = 2) := by show _ = _; unfold Pl.ccheck; rw [if_pos (by have := L1.out; omega)]
    go_enter Try.func64, Try.ntmps64
    go_wp2_with fail
    go_ret
    exact ⟨by rw [HF.out]; rfl, (Below.refl _ _).alloc (Nat.le_refl _) _⟩
end Go.Proofs.Ytchafkocobbndaa
