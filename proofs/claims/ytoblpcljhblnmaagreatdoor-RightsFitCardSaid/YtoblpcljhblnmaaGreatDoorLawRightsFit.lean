/- RightsFit: the law returns true. Condition: the network and the rights read. -/
import Derived.Test.YtoblpcljhblnmaaGreatDoorRgt
import Derived.Test.YtoblpcljhblnmaaGreatDoorFine
namespace Go.Proofs.YtoblpcljhblnmaaGreatDoor
open Go.RowKit
set_option maxRecDepth 100000
theorem fits_lim {z : Int} (h0 : -100000 ≤ z) (h1 : z ≤ 100000) : Pl.Fits (z : Rat) := by
  have hb : ∀ {a k : Nat}, a < 1000000 → 6 ≤ k → a < Pl.limK k := fun ha h => Nat.lt_of_lt_of_le (Nat.lt_of_lt_of_eq ha (by decide)) (Nat.pow_le_pow_right (n := 10) (i := 6) (by omega) h)
  refine ⟨?_, ?_⟩
  · unfold Pl.lim
    refine hb ?_ (by omega)
    rw [Rat.num_intCast]
    omega
  · unfold Pl.lim
    refine hb ?_ (by omega)
    rw [Rat.den_intCast]
    omega
theorem rof_int (z : Int) (w : World) (h0 : -100000 ≤ z) (h1 : z ≤ 100000) (hl : LV w) : Calls Tryz.prog 19 #[.int .i64 z, .int .i64 1] w fun e w' => e = .returned (.tuple #[tx (Pl.ratTxt (z : Rat)), .int .i64 0]) ∧ Below w.heap.size w w' := by
  refine (rof_any z 1 w (by omega) (by omega) (by omega) (by omega) hl).mono ?_
  have e1 : Rat.divInt z 1 = (z : Rat) := by
    rw [Rat.divInt_eq_div, show ((1 : Int) : Rat) = 1 from rfl]
    grind
  rintro e w' (⟨h, _⟩ | ⟨_, h, hb⟩)
  · omega
  · rw [e1] at h
    rcases h with ⟨_, rfl⟩ | ⟨h9, _⟩
    · exact ⟨rfl, hb⟩
    · exact absurd (fits_lim h0 h1) h9
theorem rcmp_txt {p q : Rat} (fp : Pl.Fits p) (fq : Pl.Fits q) (w : World) (hl : LV w) : Calls Tryz.prog 20 #[tx (Pl.ratTxt p), tx (Pl.ratTxt q)] w fun e w' => e = .returned (.tuple #[.int .i64 (Pl.cmpR p q), .int .i64 0]) ∧ Below w.heap.size w w' := by
  refine (rcompare_any _ _ w (by have := ratTxt_len fp; omega) (by have := ratTxt_len fq; omega) hl).mono ?_
  rintro e w' (⟨h1, _⟩ | ⟨p', q', e1, _, e2, _, rfl, hb⟩)
  · exact absurd (Pl.ratsE_ok.2 fun l hl => by
      simp only [List.mem_cons, List.not_mem_nil, or_false] at hl
      rcases hl with rfl | rfl
      · exact Pl.ratE_txt fp
      · exact Pl.ratE_txt fq) h1
  · rw [Pl.ratTxt_inj e1, Pl.ratTxt_inj e2]
    exact ⟨rfl, hb⟩
theorem good_len {N : Pl.Net} {l : List Pl.RI} {fs : List Rat} (h : Pl.RfGood N l fs) : fs.length = N.branches.length ∧ ∀ q ∈ fs, Pl.Fits q := by
  obtain ⟨_, _, bus, isl, mb, mi, _, _, rfl, hf⟩ := h
  refine ⟨?_, hf⟩
  unfold Pl.netFlows Pl.flowN
  rw [List.length_map, List.length_range]
theorem all_range_succ (f : Nat → Bool) (k : Nat) : (List.range (k + 1)).all f = ((List.range k).all f && f k) := by
  rw [List.range_succ, List.all_append]
  simp
set_option maxHeartbeats 6400000 in
theorem rightsFit_any (M : MNet) (A : Option Addr) (n c : Nat) (l : List Pl.RI) (w : World) (hM : NetIn w w.heap.size M) (hl : Elems riC 3 w w.heap.size A n l) (hn : n ≤ 9223372036854775807) (hv : LV w) :
    Calls Tryz.prog 4 #[vNet M, .slice A n c] w fun e w' => e = .returned (.bool true) ∧ Below w.heap.size w w' := by
  have HV := Lib.hid hv
  have HM0 := Lib.hid hM
  have HL2 : Hid (M.N.branches.length = M.n2) := hM.r2.2
  have HRF := Lib.hid (fun (W : World) (hb : Below w.heap.size w W) => rFlows_any M A n c l W (hM.go hb) ⟨hl.1.go hb, hl.2⟩ hn (hv.go hb))
  have HFE := Lib.hid (fun (W : World) (hb : Below w.heap.size w W) => feasible_any M A n c l W (hM.go hb) ⟨hl.1.go hb, hl.2⟩ hn (hv.go hb))
  clear hM hl hv
  obtain ⟨N, A0, n0, c0, A1, n1, c1, A2, n2, c2, A3, n3, c3, A4, n4, c4, A5, n5, c5⟩ := M
  unfold vNet netC at *
  simp only at *
  have hA := Blk.new_ w w.heap.size 29 #[.slice A0 n0 c0, .slice A1 n1 c1, .slice A2 n2 c2, .slice A3 n3 c3, .slice A4 n4 c4, .slice A5 n5 c5] rfl
  have hD := (Below.refl w.heap.size w).alloc (Nat.le_refl _) (.cells #[.slice A0 n0 c0, .slice A1 n1 c1, .slice A2 n2 c2, .slice A3 n3 c3, .slice A4 n4 c4, .slice A5 n5 c5] 29)
  have BN := Lib.hid hA
  have D := Lib.hid hD
  clear hA hD
  go_enter Tryz.func4, Tryz.ntmps4
  go_wp2_with fail
  obtain ⟨bn, hbn⟩ : ∃ bn : Nat, bn = w.heap.size := ⟨_, rfl⟩
  rw [← hbn] at BN ⊢
  clear hbn
  generalize w.alloc (.cells #[.slice A0 n0 c0, .slice A1 n1 c1, .slice A2 n2 c2, .slice A3 n3 c3, .slice A4 n4 c4, .slice A5 n5 c5] 29) = w1 at *
  refine (ring_any 10 w1).mono ?_
  rintro e w2 ⟨M9, A9, rfl, hN9, hM9, _, hb5⟩
  obtain ⟨N9, B0, m0, d0, B1, m1, d1, B2, m2, d2, B3, m3, d3, B4, m4, d4, B5, m5, d5⟩ := M9
  simp only at hN9
  subst hN9
  have HM9 := Lib.hid hM9
  replace BN := Lib.hid (BN.out.go hb5)
  replace D := Lib.hid (D.out.trans (hb5.mono D.out.size))
  clear hM9 hb5
  unfold vNet netC
  simp only
  go_wp2_with fail
  have hb5 := below_oneS w2 (.cells #[.slice B0 m0 d0, .slice B1 m1 d1, .slice B2 m2 d2, .slice B3 m3 d3, .slice B4 m4 d4, .slice B5 m5 d5] 29)
  have BM := Lib.hid (Blk.new_ w2 w2.heap.size 29 #[.slice B0 m0 d0, .slice B1 m1 d1, .slice B2 m2 d2, .slice B3 m3 d3, .slice B4 m4 d4, .slice B5 m5 d5] rfl)
  replace BN := Lib.hid (BN.out.go hb5)
  replace HM9 := Lib.hid (HM9.out.go hb5)
  replace D := Lib.hid (D.out.trans (hb5.mono D.out.size))
  clear hb5
  have sz0 : (w2.alloc (.cells #[.slice B0 m0 d0, .slice B1 m1 d1, .slice B2 m2 d2, .slice B3 m3 d3, .slice B4 m4 d4, .slice B5 m5 d5] 29)).heap.size = w2.heap.size + 1 := World.size_alloc _ _
  generalize w2.alloc (.cells #[.slice B0 m0 d0, .slice B1 m1 d1, .slice B2 m2 d2, .slice B3 m3 d3, .slice B4 m4 d4, .slice B5 m5 d5] 29) = v1 at *
  have hb5 := below_oneS v1 (.cells #[.string ⟨#[78, 49]⟩, .string ⟨#[78, 50]⟩, .int .i64 7] 31)
  have BI := Lib.hid (Blk.new_ v1 v1.heap.size 31 #[.string ⟨#[78, 49]⟩, .string ⟨#[78, 50]⟩, .int .i64 7] rfl)
  replace BN := Lib.hid (BN.out.go hb5)
  replace BM := Lib.hid (BM.out.go hb5)
  replace HM9 := Lib.hid (HM9.out.go hb5)
  replace D := Lib.hid (D.out.trans (hb5.mono D.out.size))
  clear hb5
  rw [sz0] at BI
  generalize v1.alloc (.cells #[.string ⟨#[78, 49]⟩, .string ⟨#[78, 50]⟩, .int .i64 7] 31) = v2 at *
  obtain ⟨bi, hbi⟩ : ∃ b : Nat, b = w2.heap.size + 1 := ⟨_, rfl⟩
  rw [← hbi] at BI ⊢
  obtain ⟨bm, hbm⟩ : ∃ b : Nat, b = w2.heap.size := ⟨_, rfl⟩
  rw [← hbm] at BM ⊢
  clear sz0 hbi hbm
  have hq9 : Elems riC 3 v2 v2.heap.size (some ⟨bi, 0, none⟩) 1 rf7 := ⟨lit_reads9 _ _ _ _ 1 3 BI.out rfl, rfl⟩
  refine (rFlows_any ⟨RN 10, B0, m0, d0, B1, m1, d1, B2, m2, d2, B3, m3, d3, B4, m4, d4, B5, m5, d5⟩ (some ⟨bi, 0, none⟩) 1 1 rf7 v2 HM9.out hq9 (by omega) (HV.out.go D.out)).mono ?_
  rintro e w4 ⟨hc, hb5⟩
  rcases hc with ⟨E, hE, _⟩ | ⟨fs, g, hg, rfl, hrd⟩
  · exact absurd hE ((rf_one rf7_E rf7_flow fits7).1 E)
  rw [(rf_one rf7_E rf7_flow fits7).2 fs hg] at hrd
  simp only at hrd ⊢
  rw [show (RN 10).branches.length = 1 from rfl] at hrd ⊢
  have HG := Lib.hid hrd
  replace BN := Lib.hid (BN.out.go hb5)
  replace BM := Lib.hid (BM.out.go hb5)
  replace HM9 := Lib.hid (HM9.out.go hb5)
  replace D := Lib.hid (D.out.trans (hb5.mono D.out.size))
  clear hrd hb5 hg hq9 BI
  go_wp2_with fail
  have hb5 := below_oneS w4 (.cells #[.string ⟨#[55]⟩] 41)
  have BE := Lib.hid (Blk.new_ w4 w4.heap.size 41 #[.string ⟨#[55]⟩] rfl)
  replace BN := Lib.hid (BN.out.go hb5)
  replace BM := Lib.hid (BM.out.go hb5)
  replace HM9 := Lib.hid (HM9.out.go hb5)
  replace HG := Lib.hid (HG.out.go hb5)
  replace D := Lib.hid (D.out.trans (hb5.mono D.out.size))
  clear hb5
  obtain ⟨be, hbe⟩ : ∃ b : Nat, b = w4.heap.size := ⟨_, rfl⟩
  rw [← hbe] at BE ⊢
  clear hbe
  generalize w4.alloc (.cells #[.string ⟨#[55]⟩] 41) = w5 at *
  have hq9 : Reads w5 w5.heap.size 1 (some ⟨be, 0, none⟩) 1 (txs [[55]]) := lit_reads9 _ _ _ _ 1 1 BE.out (by rfl)
  refine (eqvec_any (some ⟨g, 0, none⟩) (some ⟨be, 0, none⟩) 1 1 1 1 _ _ w5 (by omega) HG.out hq9 txt7).mono ?_
  rintro e w6 ⟨rfl, hb5⟩
  replace BN := Lib.hid (BN.out.go hb5)
  replace BM := Lib.hid (BM.out.go hb5)
  replace HM9 := Lib.hid (HM9.out.go hb5)
  replace D := Lib.hid (D.out.trans (hb5.mono D.out.size))
  clear hb5 hq9 HG BE
  have cbm := BM.out.cell
  have lbm := BM.out.lt
  go_wp2_with fail
  clear cbm lbm
  have hb5 := below_oneS w6 (.cells #[.string ⟨#[78, 49]⟩, .string ⟨#[78, 50]⟩, .int .i64 11] 31)
  have BI := Lib.hid (Blk.new_ w6 w6.heap.size 31 #[.string ⟨#[78, 49]⟩, .string ⟨#[78, 50]⟩, .int .i64 11] rfl)
  replace BN := Lib.hid (BN.out.go hb5)
  replace HM9 := Lib.hid (HM9.out.go hb5)
  replace D := Lib.hid (D.out.trans (hb5.mono D.out.size))
  clear hb5
  obtain ⟨bj, hbj⟩ : ∃ b : Nat, b = w6.heap.size := ⟨_, rfl⟩
  rw [← hbj] at BI ⊢
  clear hbj
  generalize w6.alloc (.cells #[.string ⟨#[78, 49]⟩, .string ⟨#[78, 50]⟩, .int .i64 11] 31) = w7 at *
  have hq9 : Elems riC 3 w7 w7.heap.size (some ⟨bj, 0, none⟩) 1 rf11 := ⟨lit_reads9 _ _ _ _ 1 3 BI.out rfl, rfl⟩
  refine (feasible_any ⟨RN 10, B0, m0, d0, B1, m1, d1, B2, m2, d2, B3, m3, d3, B4, m4, d4, B5, m5, d5⟩ (some ⟨bj, 0, none⟩) 1 1 rf11 w7 HM9.out hq9 (by omega) (HV.out.go D.out)).mono ?_
  rintro e w8 ⟨hc, hb5⟩
  rcases hc with ⟨E, hE, _⟩ | ⟨fs, hg, rfl⟩
  · exact absurd hE ((rf_one rf11_E rf11_flow fits11).1 E)
  rw [(rf_one rf11_E rf11_flow fits11).2 fs hg]
  simp only
  rw [rf11_out]
  replace BN := Lib.hid (BN.out.go hb5)
  replace D := Lib.hid (D.out.trans (hb5.mono D.out.size))
  clear hb5 hg hq9 BI HM9 BM
  have cbn := BN.out.cell
  have lbn := BN.out.lt
  go_wp2_with fail
  clear cbn lbn
  refine (HRF.out w8 D.out).mono ?_
  rintro e w9 ⟨hc, hb5⟩
  replace BN := Lib.hid (BN.out.go hb5)
  replace D := Lib.hid (D.out.trans (hb5.mono D.out.size))
  clear hb5 HRF
  have cbn := BN.out.cell
  have lbn := BN.out.lt
  rcases hc with ⟨E, hE, rfl⟩ | ⟨fs, g2, hg, rfl, hrd⟩
  · have HE := Lib.hid hE
    have e0 : (E != 0) = true := by simpa using RfErr.ne hE
    clear hE
    go_wp2_with fail
    refine (HFE.out w9 D.out).mono ?_
    rintro e wa ⟨hc, hb5⟩
    replace D := Lib.hid (D.out.trans (hb5.mono D.out.size))
    clear hb5 HFE cbn lbn
    rcases hc with ⟨E2, hE2, rfl⟩ | ⟨fs, hg, _⟩
    · obtain rfl := RfErr.same HE.out hE2
      have e2 : (E == E) = true := by simp
      go_wp2_with fail
      go_ret
      exact ⟨rfl, D.out⟩
    · exact (RfErr.not HE.out hg).elim
  have HG := Lib.hid hg
  have HRD := Lib.hid hrd
  rw [show N.branches.length = n2 from HL2.out] at HRD ⊢
  clear hg hrd
  go_wp2_with fail
  refine (HFE.out w9 D.out).mono ?_
  rintro e wa ⟨hc, hb5⟩
  replace BN := Lib.hid (BN.out.go hb5)
  replace HRD := Lib.hid (HRD.out.go hb5)
  replace D := Lib.hid (D.out.trans (hb5.mono D.out.size))
  clear hb5 HFE cbn lbn
  rcases hc with ⟨E2, hE2, _⟩ | ⟨fs2, hg2, rfl⟩
  · exact (RfErr.not hE2 HG.out).elim
  obtain rfl := RfGood.same HG.out hg2
  clear hg2
  have hn10 : n2 ≤ 10 := by have := HL2.out; have := HG.out.2.1; omega
  obtain ⟨hfl, hfit⟩ := good_len HG.out
  have HFL : Hid (fs.length = n2) := Lib.hid (hfl.trans HL2.out)
  have HFIT := Lib.hid hfit
  have HNOK := Lib.hid (Pl.netE_ok (rightsE_ok HG.out.1).1)
  have HIN : Hid (Pl.inLim N fs = (List.range n2).all (Pl.limAt N fs)) := by show _ = _; unfold Pl.inLim; rw [HL2.out]
  rw [HIN.out]
  obtain ⟨OK, hOK⟩ : ∃ b, b = (List.range n2).all (Pl.limAt N fs) := ⟨_, rfl⟩
  rw [← hOK]
  have HOK := Lib.hid hOK
  clear hOK hfl hfit HIN
  go_wp2_with fail
  go_loopw [15, 85] (fun b i wr => ∃ (k : Nat), k ≤ n2 ∧ i = .int .i64 k ∧ b = .bool ((List.range k).all (Pl.limAt N fs)) ∧ Hid (Below wa.heap.size wa wr)) (fun _ i _ => n2 - (intOf i).toNat)
  case atStart => exact ⟨0, Nat.zero_le _, rfl, rfl, Lib.hid (Below.refl _ _)⟩
  case round =>
    obtain ⟨k, hk, rfl, rfl, D3⟩ := hrel
    have HB := Lib.hid (D.out.trans (D3.out.mono D.out.size))
    by_cases hlt : k < n2
    · have hk9 : (k : Int) < (n2 : Int) := by omega
      have hkl : k < fs.length := by rw [HFL.out]; exact hlt
      obtain ⟨bx, ox, ex, _, hll, hcx⟩ := txs_at (HRD.out.go D3.out) (k := k) hlt
      rw [List.getElem_map] at hcx
      injection ex with ex
      injection ex with ex1 ex2
      subst ex1
      subst ex2
      rw [Nat.zero_add] at hcx
      obtain ⟨b9, o9, eA3, hlim⟩ := lim_at (HM0.out.go HB.out).r2 hlt
      have EA2 : Hid (A2 = some ⟨b9, o9, none⟩) := eA3
      clear eA3
      have HST := Lib.hid (all_range_succ (Pl.limAt N fs) k)
      obtain ⟨lm, hlm⟩ : ∃ z, z = (N.branches.map (·.limit)).getD k 0 := ⟨_, rfl⟩
      rw [← hlm] at hlim
      have hla : Pl.limAt N fs k = (decide (Pl.cmpR fs[k] (lm : Rat) ≤ 0) && decide (0 ≤ Pl.cmpR fs[k] (-(lm : Rat)))) := by
        unfold Pl.limAt
        rw [← hlm, abs_two, List.getD_eq_getElem?_getD, List.getElem?_eq_getElem hkl]
        rfl
      have HLA := Lib.hid hla
      obtain ⟨hlm0, hlm1⟩ : 0 ≤ lm ∧ lm ≤ 100000 := by
        have hkb : k < (N.branches.map (·.limit)).length := by rw [List.length_map, HL2.out]; exact hlt
        rw [List.getD_eq_getElem?_getD, List.getElem?_eq_getElem hkb] at hlm
        obtain ⟨b, hb, e9⟩ := List.mem_map.1 (List.getElem_mem hkb)
        have h9 := braOut_no (HNOK.out.bra b hb).2.2.2
        rw [hlm]
        simp only [Option.getD_some]
        rw [← e9]
        exact ⟨h9.2.2.2.2.2.2.1, h9.2.2.2.2.2.2.2⟩
      have HFX : Hid (Pl.Fits fs[k]) := HFIT.out _ (List.getElem_mem hkl)
      generalize fs[k] = q at *
      have F1 := Lib.hid (fits_lim (z := lm) (by omega) hlm1)
      have F2 := Lib.hid (fits_lim (z := -lm) (by omega) (by omega))
      have R1 := Lib.hid (fun (W : World) (hb : Below w.heap.size w W) => rof_int lm W (by omega) hlm1 (HV.out.go hb))
      have R2 := Lib.hid (fun (W : World) (hb : Below w.heap.size w W) => rof_int (-lm) W (by omega) (by omega) (HV.out.go hb))
      have C1 := Lib.hid (fun (W : World) (hb : Below w.heap.size w W) => rcmp_txt HFX.out F1.out W (HV.out.go hb))
      have C2 := Lib.hid (fun (W : World) (hb : Below w.heap.size w W) => rcmp_txt HFX.out F2.out W (HV.out.go hb))
      have HLI := Lib.hid hlim
      have HBN := Lib.hid (BN.out.go D3.out)
      have cbn := HBN.out.cell
      have lbn := HBN.out.lt
      have clm := HLI.out wr (Below.refl _ _)
      clear hlim hlm hkl hla hll
      rw [EA2.out] at cbn
      go_wp2_with fail
      refine (R1.out wr HB.out).mono ?_
      rintro e x1 ⟨rfl, hb1⟩
      replace HB := Lib.hid (HB.out.trans (hb1.mono HB.out.size))
      replace D3 := Lib.hid (D3.out.trans (hb1.mono D3.out.size))
      replace HBN := Lib.hid (HBN.out.go hb1)
      clear cbn lbn clm
      have clm := HLI.out x1 hb1
      have cbn := HBN.out.cell
      have lbn := HBN.out.lt
      rw [EA2.out] at cbn
      go_wp2_with fail
      refine (R2.out x1 HB.out).mono ?_
      rintro e x2 ⟨rfl, hb2⟩
      replace HB := Lib.hid (HB.out.trans (hb2.mono HB.out.size))
      replace D3 := Lib.hid (D3.out.trans (hb2.mono D3.out.size))
      clear cbn lbn clm hb1 hb2
      go_wp2_with fail
      refine (C1.out x2 HB.out).mono ?_
      rintro e x3 ⟨rfl, hb3⟩
      replace HB := Lib.hid (HB.out.trans (hb3.mono HB.out.size))
      replace D3 := Lib.hid (D3.out.trans (hb3.mono D3.out.size))
      clear hb3
      go_wp2_with fail
      refine (C2.out x3 HB.out).mono ?_
      rintro e x4 ⟨rfl, hb4⟩
      replace HB := Lib.hid (HB.out.trans (hb4.mono HB.out.size))
      replace D3 := Lib.hid (D3.out.trans (hb4.mono D3.out.size))
      clear hb4
      go_wp2_with fail
      have hb5 := below_oneS x4 (.cells #[.int .i64 0, .int .i64 0, .int .i64 0, .int .i64 0] 37)
      have BF := Lib.hid (Blk.new_ x4 x4.heap.size 37 #[.int .i64 0, .int .i64 0, .int .i64 0, .int .i64 0] rfl)
      replace HB := Lib.hid (HB.out.trans (hb5.mono HB.out.size))
      replace D3 := Lib.hid (D3.out.trans (hb5.mono D3.out.size))
      obtain ⟨bf, hbf⟩ : ∃ b : Nat, b = x4.heap.size := ⟨_, rfl⟩
      rw [← hbf] at BF ⊢
      clear hb5 hbf
      generalize x4.alloc (.cells #[.int .i64 0, .int .i64 0, .int .i64 0, .int .i64 0] 37) = x5 at *
      have hq9 : Reads x5 x5.heap.size 1 (some ⟨bf, 0, none⟩) 4 (ints [0, 0, 0, 0]) := lit_reads9 _ _ _ _ 4 1 BF.out rfl
      refine (fine_any (some ⟨bf, 0, none⟩) 4 4 [0, 0, 0, 0] _ x5 (by omega) hq9).mono ?_
      rintro e x6 ⟨rfl, rfl⟩
      rw [show allOk [0, 0, 0, 0] = true from rfl]
      rw [HLA.out] at HST
      clear hq9 BF HLA
      obtain ⟨PB, hPB⟩ : ∃ b, b = (List.range k).all (Pl.limAt N fs) := ⟨_, rfl⟩
      rw [← hPB] at HST ⊢
      clear hPB
      cases PB with
      | false =>
        have HS9 : Hid (Value.bool false = .bool ((List.range (k + 1)).all (Pl.limAt N fs))) := by show _ = _; rw [HST.out]; rfl
        clear HST
        go_wp2_with fail
        go_roundw
        case rel => exact ⟨k + 1, hlt, by go_num, HS9.out, D3⟩
        case measure => simp [intOf]; omega
      | true =>
        by_cases h1 : Pl.cmpR q (lm : Rat) ≤ 0
        · by_cases h2 : 0 ≤ Pl.cmpR q (-(lm : Rat))
          · have HS9 : Hid (Value.bool true = .bool ((List.range (k + 1)).all (Pl.limAt N fs))) := by show _ = _; rw [HST.out, decide_eq_true h1, decide_eq_true h2]; rfl
            clear HST
            go_wp2_with fail
            go_roundw
            case rel => exact ⟨k + 1, hlt, by go_num, HS9.out, D3⟩
            case measure => simp [intOf]; omega
          · have HS9 : Hid (Value.bool false = .bool ((List.range (k + 1)).all (Pl.limAt N fs))) := by show _ = _; rw [HST.out, decide_eq_false h2, Bool.and_false, Bool.and_false]
            clear HST
            go_wp2_with fail
            go_roundw
            case rel => exact ⟨k + 1, hlt, by go_num, by rw [decide_eq_false (show ¬ 0 ≤ Pl.cmpR q (-(lm : Rat)) by omega)]; exact HS9.out, D3⟩
            case measure => simp [intOf]; omega
        · have HS9 : Hid (Value.bool false = .bool ((List.range (k + 1)).all (Pl.limAt N fs))) := by show _ = _; rw [HST.out, decide_eq_false h1]; rfl
          clear HST
          go_wp2_with fail
          go_roundw
          case rel => exact ⟨k + 1, hlt, by go_num, HS9.out, D3⟩
          case measure => simp [intOf]; omega
    · obtain rfl : n2 = k := by omega
      have hk9 : ¬ ((n2 : Int) < (n2 : Int)) := by omega
      rw [← HOK.out]
      go_wp2_with fail
      go_ret
      exact ⟨rfl, HB.out⟩
end Go.Proofs.YtoblpcljhblnmaaGreatDoor
