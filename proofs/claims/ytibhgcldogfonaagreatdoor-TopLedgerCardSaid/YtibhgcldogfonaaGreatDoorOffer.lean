/- Contracts of package offer: Check, Sum: each returns what its plain function gives, and leaves old memory as it is. -/
import Derived.Test.YtibhgcldogfonaaGreatDoorName
import Derived.Test.YtibhgcldogfonaaGreatDoorPOffer
import Derived.Test.YtibhgcldogfonaaGreatDoorBase
namespace Go.Proofs.YtibhgcldogfonaaGreatDoor
open Go.RowKit
theorem below_drewN {B : Nat} {a w : World} (h : Below B a w) (n : Nat) : Below B a (w.drewN n) := ⟨h.os, h.tape, h.output, h.size, h.block⟩
theorem lt_of_cell2 {w : World} {b o : Nat} {v : Value} (h : w.cell? ⟨b, o, none⟩ = some v) : b < w.heap.size := by
  rcases Nat.lt_or_ge b w.heap.size with hlt | hge
  · exact hlt
  · unfold World.cell? at h
    rw [Array.getElem?_eq_none hge] at h
    cases h
set_option maxHeartbeats 1600000 in
set_option maxRecDepth 100000 in
theorem ocheck_any (nm : ByteArray) (A : Option Addr) (n c : Nat) (st : List (Int × Int)) (w : World) (hs : nm.size ≤ 9223372036854775807) (hr : Reads w w.heap.size 2 A n (pairs st)) :
    Calls Tryz.prog 48 #[.agg #[.string nm, .slice A n c]] w fun e w' => e = .returned (.int .i64 (Pl.ocheck nm st)) ∧ Below w.heap.size w w' := by
  have HN := Lib.hid (fun w => name_any nm w hs)
  have L1 := Lib.hid hr.pair_len
  cases hn : Pl.nameB nm
  · rw [hn] at HN
    have HF : Hid (Pl.ocheck nm st = 6) := by show _ = _; unfold Pl.ocheck; rw [if_pos hn]
    clear hn
    go_enter Tryz.func48, Tryz.ntmps48
    go_wp2_with fail
    refine (HN.out _).mono ?_
    rintro e w1 ⟨rfl, hb⟩
    go_wp2_with fail
    go_ret
    exact ⟨by rw [HF.out]; rfl, ((Below.refl _ _).alloc (Nat.le_refl _) _).trans (hb.mono (by simp))⟩
  · rw [hn] at HN
    by_cases h12 : n ≤ 12
    · have HF : Hid (Pl.ocheck nm st = (Pl.oacc st).2.1) := by show _ = _; unfold Pl.ocheck; rw [if_neg (by simp [hn]), if_neg (by have := L1.out; omega)]
      clear hn
      go_enter Tryz.func48, Tryz.ntmps48
      go_wp2_with fail
      refine (HN.out _).mono ?_
      rintro e w1 ⟨rfl, hb⟩
      have HB := Lib.hid (((Below.refl w.heap.size w).alloc (Nat.le_refl _) _).trans (hb.mono (by simp)))
      have B1 : Hid (Blk w1 w.heap.size _ _) := (Blk.new_ _ _ _ _ rfl).go hb
      have c1 := B1.out.cell
      clear hb
      go_wp2_with fail
      clear c1
      go_loopw [3, 19] (fun x i wr => ∃ k : Nat, k ≤ n ∧ i = .int .i64 k ∧ (Pl.oacc (st.take k)).2.1 = 0 ∧ x = .int .i64 (Pl.oacc (st.take k)).1 ∧ Below w1.heap.size w1 wr) (fun _ i _ => n - (intOf i).toNat)
      case atStart => exact ⟨0, Nat.zero_le _, rfl, rfl, rfl, Below.refl _ _⟩
      case round =>
        obtain ⟨k, hk, rfl, he, rfl, hbel⟩ := hrel
        have HE := Lib.hid he
        have hg := Pl.oacc_good he
        have hq := Pl.total_nonneg hg.1 k
        rw [List.take_take, Nat.min_self, ← hg.2.1] at hq
        obtain ⟨q1, q2⟩ := hq
        have HL := Lib.hid hg.2.2
        have HB2 := Lib.hid (HB.out.trans (hbel.mono HB.out.size))
        have HZ := Lib.hid (HB2.out.alloc HB2.out.size)
        clear he hg
        by_cases hlt : k < n
        · obtain ⟨b, o, rfl, hl1, d1, d2⟩ := ((hr.go HB.out).go hbel).pair_at hlt
          have B2 := Lib.hid (B1.out.below hbel B1.out.lt)
          have l2 := B2.out.lt
          have c2 := B2.out.cell
          have hbl : b < wr.heap.size := lt_of_cell2 d1
          have HS : Hid (Pl.oacc (st.take (k + 1)) = Pl.ostep (Pl.oacc (st.take k)) st[k]) := by
            show _ = _
            rw [List.take_succ_eq_append_getElem hl1, Pl.oacc_snoc]
          have HT := Lib.hid (Pl.oacc_stuck st (k + 1))
          have fin : ∀ v, v ≠ 0 → Pl.ostep (Pl.oacc (st.take k)) st[k] = (0, v, none) → Pl.ocheck nm st = v := by
            intro v hv h
            rw [HF.out, HT.out (by rw [HS.out, h]; exact hv), HS.out, h]
          have FIN := Lib.hid fin
          clear fin
          cases hbad : Pl.badStep st[k]
          · have hgd := Pl.badStep_false.1 hbad
            have HBAD := Lib.hid hbad
            clear hbad
            obtain ⟨g1, g2, g3, g4⟩ := hgd
            rcases Nat.eq_zero_or_pos k with hk0 | hk0
            · subst hk0
              have HLW : Hid (Pl.lower st[0].2 (Pl.oacc (st.take 0)).2.2 = false) := rfl
              simp only [Nat.zero_mul, Nat.add_zero] at d1 d2
              by_cases hsum : 100000 < (Pl.oacc (st.take 0)).1 + st[0].1
              · have HX := Lib.hid (FIN.out 2 (by decide) (Pl.ostep_sum HE.out HBAD.out HLW.out hsum))
                generalize st[0] = p at *
                generalize (Pl.oacc (st.take 0)).1 = sm at *
                obtain ⟨x, y⟩ := p
                simp only at g1 g2 g3 g4 hsum d1 d2
                go_wp2_with fail
                go_quiet (fail)
                go_wp2_with fail
                go_ret
                exact ⟨by rw [HX.out]; rfl, below_drewN (HZ.out _) _⟩
              · have HX : Hid (Pl.oacc (st.take (0 + 1)) = ((Pl.oacc (st.take 0)).1 + st[0].1, (0 : Int), some st[0].2)) := by show _ = _; rw [HS.out, Pl.ostep_ok HE.out HBAD.out HLW.out hsum]
                generalize st[0] = p at *
                generalize (Pl.oacc (st.take 0)).1 = sm at *
                obtain ⟨x, y⟩ := p
                simp only at g1 g2 g3 g4 hsum d1 d2
                go_wp2_with fail
                go_quiet (fail)
                go_wp2_with fail
                go_roundw
                case rel => exact ⟨1, by omega, by go_num, by rw [HX.out], by rw [HX.out], below_drewN (hbel.alloc hbel.size _) _⟩
                case measure => simp [intOf]; omega
            · obtain ⟨j, rfl⟩ : ∃ j, k = j + 1 := ⟨k - 1, by omega⟩
              obtain ⟨_, _, e, hl3, d3, d4⟩ := ((hr.go HB.out).go hbel).pair_at (k := j) (by omega)
              injection e with e; injection e with e1 e2; subst e1 e2
              have hlp : Pl.lastPrice (st.take (j + 1)) = some st[j].2 := by
                rw [List.take_succ_eq_append_getElem hl3]; unfold Pl.lastPrice; rw [List.getLast?_concat]; rfl
              have HLP := Lib.hid (HL.out.trans hlp)
              clear hlp
              have gj : (0 : Int) < (j : Int) + 1 := by omega
              have wj : IntKind.i64.wrap (j : Int) = (j : Int) := IntWalk.i64_in _ (by omega)
              have jn : (j : Int) < (n : Int) := by omega
              have jn2 : j < n := by omega
              by_cases hlow : st[j + 1].2 < st[j].2
              · have HX := Lib.hid (FIN.out 3 (by decide) (Pl.ostep_low HE.out HBAD.out (by rw [HLP.out]; simpa [Pl.lower] using hlow)))
                generalize Pl.oacc (st.take (j + 1)) = acc at *
                obtain ⟨sm, _, _⟩ := acc
                simp only at q1 q2
                clear HLP HE HL HS FIN HT HBAD
                generalize st[j + 1] = p at *
                generalize st[j] = p' at *
                obtain ⟨x, y⟩ := p
                obtain ⟨x', y'⟩ := p'
                simp only at g1 g2 g3 g4 d1 d2 d3 d4 hlow
                go_wp2_with fail
                go_quiet (fail)
                go_wp2_with fail
                go_ret
                exact ⟨by rw [HX.out]; rfl, below_drewN (HZ.out _) _⟩
              · have HLW : Hid (Pl.lower st[j + 1].2 (Pl.oacc (st.take (j + 1))).2.2 = false) := by show _ = _; rw [HLP.out]; simpa [Pl.lower] using hlow
                by_cases hsum : 100000 < (Pl.oacc (st.take (j + 1))).1 + st[j + 1].1
                · have HX := Lib.hid (FIN.out 2 (by decide) (Pl.ostep_sum HE.out HBAD.out HLW.out hsum))
                  generalize Pl.oacc (st.take (j + 1)) = acc at *
                  obtain ⟨sm, _, _⟩ := acc
                  simp only at q1 q2 hsum
                  clear HLP HE HL HS FIN HT HBAD HLW
                  generalize st[j + 1] = p at *
                  generalize st[j] = p' at *
                  obtain ⟨x, y⟩ := p
                  obtain ⟨x', y'⟩ := p'
                  simp only at g1 g2 g3 g4 d1 d2 d3 d4 hlow hsum
                  go_wp2_with fail
                  go_quiet (fail)
                  go_wp2_with fail
                  go_ret
                  exact ⟨by rw [HX.out]; rfl, below_drewN (HZ.out _) _⟩
                · have HX : Hid (Pl.oacc (st.take (j + 1 + 1)) = ((Pl.oacc (st.take (j + 1))).1 + st[j + 1].1, (0 : Int), some st[j + 1].2)) := by show _ = _; rw [HS.out, Pl.ostep_ok HE.out HBAD.out HLW.out hsum]
                  generalize Pl.oacc (st.take (j + 1)) = acc at *
                  obtain ⟨sm, _, _⟩ := acc
                  simp only at q1 q2 hsum HX
                  clear HLP HE HL HS FIN HT HBAD HLW
                  generalize st[j + 1] = p at *
                  generalize st[j] = p' at *
                  obtain ⟨x, y⟩ := p
                  obtain ⟨x', y'⟩ := p'
                  simp only at g1 g2 g3 g4 d1 d2 d3 d4 hlow hsum HX
                  go_wp2_with fail
                  go_quiet (fail)
                  go_wp2_with fail
                  go_roundw
                  case rel => exact ⟨j + 1 + 1, by omega, by go_num, by rw [HX.out], by rw [HX.out], below_drewN (hbel.alloc hbel.size _) _⟩
                  case measure => simp [intOf]; omega
          · have hor : st[k].1 < 1 ∨ 100000 < st[k].1 ∨ st[k].2 < -1000000 ∨ 1000000 < st[k].2 := by
              have := Pl.badStep_false (p := st[k])
              rw [hbad] at this
              simp only [Bool.true_eq_false, false_iff] at this
              omega
            have hbad' := hbad
            have HX := Lib.hid (FIN.out 4 (by decide) (Pl.ostep_bad HE.out hbad'))
            clear hbad hbad'
            generalize st[k] = p at *
            obtain ⟨x, y⟩ := p
            simp only at hor d1 d2
            rcases hor with hx | hx | hx | hx
            all_goals go_wp2_with fail
            all_goals
              go_ret
              exact ⟨by rw [HX.out]; rfl, HZ.out _⟩
        · have : k = n := by omega
          subst this
          have HT : Hid (st.take k = st) := List.take_of_length_le (by have := L1.out; omega)
          go_wp2_with fail
          go_ret
          exact ⟨by rw [HF.out, ← HE.out, HT.out]; rfl, HB2.out⟩
    · have HF : Hid (Pl.ocheck nm st = 2) := by show _ = _; unfold Pl.ocheck; rw [if_neg (by simp [hn]), if_pos (by have := L1.out; omega)]
      clear hn
      go_enter Tryz.func48, Tryz.ntmps48
      go_wp2_with fail
      refine (HN.out _).mono ?_
      rintro e w1 ⟨rfl, hb⟩
      have HB := Lib.hid (((Below.refl w.heap.size w).alloc (Nat.le_refl _) _).trans (hb.mono (by simp)))
      have B1 : Hid (Blk w1 w.heap.size _ _) := (Blk.new_ _ _ _ _ rfl).go hb
      have c1 := B1.out.cell
      clear hb
      go_wp2_with fail
      go_ret
      exact ⟨by rw [HF.out]; rfl, HB.out⟩
end Go.Proofs.YtibhgcldogfonaaGreatDoor
