/- The law SettleShares answers true. Condition: the amount is a machine integer; the texts read; each is at most 2^63 - 1 bytes; the library's table lies as it is laid. -/
import Derived.Test.YtgdbodnfibiafaaGreatDoorShrB
import Derived.Test.YtgdbodnfibiafaaGreatDoorEqInt
namespace Go.Proofs.YtgdbodnfibiafaaGreatDoor
open Go.RowKit
set_option maxRecDepth 100000
theorem lit1_txt : ([1, 1, 1] : List Rat).map Pl.ratTxt = [[49], [49], [49]] := by
  rw [List.map_cons, List.map_cons, List.map_cons, List.map_nil, Pl.txt_1]
theorem lit1_good : Pl.ShGood 10 [1, 1, 1] := by
  have f1 : Pl.Fits 1 := Pl.fits_small (v := 1) (by decide)
  have f3 : Pl.Fits (Pl.sumR [1, 1, 1]) := by
    rw [show Pl.sumR [1, 1, 1] = ((3 : Int) : Rat) by decide +kernel]
    exact Pl.fits_small (by decide)
  have f10 : Pl.Fits (mkRat 10 3) := ⟨Pl.small_lim (by decide +kernel), Pl.small_lim (by decide +kernel)⟩
  refine ⟨by decide, fun q hq => ?_, by decide, by decide, fun q hq => ?_, by decide +kernel, fun q hq => ?_, ?_⟩
  · simp only [List.mem_cons, List.not_mem_nil, or_false] at hq
    rcases hq with rfl | rfl | rfl <;> exact f1
  · simp only [List.mem_cons, List.not_mem_nil, or_false] at hq
    rcases hq with rfl | rfl | rfl <;> decide +kernel
  · rw [Pl.lit1_exact] at hq
    simp only [List.mem_append, List.mem_cons, List.not_mem_nil, or_false] at hq
    rcases hq with (rfl | rfl | rfl) | rfl
    · exact f10
    · exact f10
    · exact f10
    · exact f3
  · rw [Pl.lit1_exact]
    exact ⟨Pl.lit1_sum.1, Pl.lit1_floor⟩
theorem lit1_shares {w : World} {e : Ending} {w' : World} (h : SharesSaid 10 [[49], [49], [49]] w e w') : ∃ g, e = .returned (.tuple #[.slice (some ⟨g, 0, none⟩) 3 3, .int .i64 0]) ∧ Reads w' w'.heap.size 1 (some ⟨g, 0, none⟩) 3 (ints [4, 3, 3]) ∧ Below w.heap.size w w' := by
  rw [← lit1_txt] at h
  rcases h with ⟨⟨h1, _⟩ | ⟨ws, h1, hg, os, g, hde, hst, rfl, hrd⟩, hb⟩
  · exact absurd ⟨_, rfl, lit1_good⟩ h1
  · have e := Pl.txts_inj h1
    subst e
    rw [Pl.lit1_exact] at hde hst hrd
    rw [Pl.lit1_bal hde hst] at hrd
    exact ⟨g, rfl, hrd, hb⟩
/-- what the law asks of two shares -/
def ShLaw (cents : Int) (a b : Rat) (x y : Int) : Prop := 0 ≤ cents → (a < b → x ≤ y) ∧ (b < a → y ≤ x) ∧ (a = b → y ≤ x)
set_option maxHeartbeats 12800000 in
theorem settleShares_any (cents : Int) (A : Option Addr) (n c : Nat) (ls : List (List UInt8)) (w : World) (hc : -9223372036854775808 ≤ cents ∧ cents ≤ 9223372036854775807) (hn : n ≤ 9223372036854775807) (hr : Reads w w.heap.size 1 A n (txs ls)) (hs : ∀ l ∈ ls, l.length ≤ 9223372036854775807) (hl : LV w) :
    Calls Tryz.prog 4 #[.int .i64 cents, .slice A n c] w fun e w' => e = .returned (.bool true) ∧ Below w.heap.size w w' := by
  obtain ⟨hc0, hc1⟩ := hc
  have hd := below_one w (.cells #[tx [49], tx [49], tx [49]] 27)
  have HLIT := Lib.hid (shares_any 10 (some ⟨w.heap.size, 0, none⟩) 3 3 [[49], [49], [49]] _ (by omega) (by omega) (by omega) (Reads.lit w #[tx [49], tx [49], tx [49]] 27 3 1 w.heap.size rfl rfl) (fun l hx => by
    simp only [List.mem_cons, List.not_mem_nil, or_false] at hx
    rcases hx with rfl | rfl | rfl <;> simp) (hl.go hd))
  have HR := Lib.hid hr
  have HS := Lib.hid hs
  have HL := Lib.hid hl
  have HN := Lib.hid (txs_len hr)
  have HD := Lib.hid hd
  have HN2 := Lib.hid hn
  clear hr hs hl hd hn
  go_enter Tryz.func4, Tryz.ntmps4
  go_wp2_with fail
  refine HLIT.out.mono ?_
  rintro e w1 hc
  obtain ⟨g1, rfl, hrd, hb5⟩ := lit1_shares hc
  have D := Lib.hid (HD.out.trans (hb5.mono HD.out.size))
  have HRD := Lib.hid hrd
  clear hb5 HLIT HD hc hrd
  go_wp2_with fail
  have hd := below_one w1 (.cells #[.int .i64 4, .int .i64 3, .int .i64 3] 3)
  refine (eqint_any (some ⟨g1, 0, none⟩) (some ⟨w1.heap.size, 0, none⟩) 3 3 3 3 [4, 3, 3] [4, 3, 3] _ (by omega) (HRD.out.go hd) (Reads.lit w1 #[.int .i64 4, .int .i64 3, .int .i64 3] 3 3 1 w1.heap.size rfl rfl) rfl).mono ?_
  rintro e w2 ⟨rfl, hb5⟩
  replace D := Lib.hid (D.out.trans (hd.mono D.out.size))
  replace D := Lib.hid (D.out.trans (hb5.mono D.out.size))
  clear hb5 hd HRD
  go_wp2_with fail
  refine (shares_any cents A n c ls w2 hc0 hc1 HN2.out (HR.out.go D.out) HS.out (HL.out.go D.out)).mono ?_
  rintro e w3 ⟨⟨_, er, her, rfl⟩ | ⟨ws, hws, hg, os, g, hde, hst, rfl, hrd⟩, hb5⟩
  · replace D := Lib.hid (D.out.trans (hb5.mono D.out.size))
    have e1 : (er != 0) = true := by simpa using her
    clear her hb5
    go_wp2_with fail
    go_ret
    exact ⟨rfl, D.out⟩
  replace D := Lib.hid (D.out.trans (hb5.mono D.out.size))
  clear hb5
  have HLN : Hid (ws.length = n) := by show _ = _; have h9 := HN.out; rw [hws, List.length_map] at h9; exact h9
  have hn256 : n ≤ 256 := by rw [← HLN.out]; exact hg.len
  have HFS := Lib.hid hg.fits
  have HSUM := Lib.hid (Pl.shares_sum hg.sum hde hg.rnd.1)
  have HXB : Hid (∀ x ∈ Pl.bal (Pl.exact_ cents ws) os, -1000000000000000 ≤ x ∧ x ≤ 1000000000000001) := fun x hx => by
    obtain ⟨k, hk, rfl⟩ := List.getElem_of_mem hx
    rw [← Pl.getD_at hk 0]
    exact Pl.bal_bd hde _ (by rw [← Pl.bal_len _ os]; exact hk) (B := 1000000000000000) hg.rnd.2
  have HXL : Hid ((Pl.bal (Pl.exact_ cents ws) os).length = n) := by show _ = _; rw [Pl.bal_len, Pl.exact_len]; exact HLN.out
  have HLAW : Hid (∀ (k i : Nat) (hki : k < i) (hi : i < ws.length), ShLaw cents ws[k] ws[i] ((Pl.bal (Pl.exact_ cents ws) os).getD k 0) ((Pl.bal (Pl.exact_ cents ws) os).getD i 0)) := fun k i hki hi h0 => Pl.shares_law hg.pos hg.sum hde hst hg.rnd.1 h0 hki hi
  obtain ⟨xs, hxs⟩ : ∃ xs, xs = Pl.bal (Pl.exact_ cents ws) os := ⟨_, rfl⟩
  rw [← hxs] at HLAW HXB HXL HSUM hrd
  have HRD := Lib.hid hrd
  rw [HLN.out] at HRD ⊢
  subst hws
  have HSB : Hid (∀ k, -1000000000000000000 ≤ Pl.sumI (xs.take k) ∧ Pl.sumI (xs.take k) ≤ 1000000000000000000) := fun k => by
    have := Pl.sumI_bd (l := xs.take k) (lo := -1000000000000000) (hi := 1000000000000001) fun x hx => HXB.out x (List.mem_of_mem_take hx)
    rw [List.length_take] at this
    have h9 := HXL.out
    omega
  clear hg hde hst hxs hrd HN
  go_wp2_with fail
  go_loopw [9, 41] (fun sv i wr => ∃ k : Nat, k ≤ n ∧ i = .int .i64 k ∧ sv = .int .i64 (Pl.sumI (xs.take k)) ∧ Hid (Below w3.heap.size w3 wr)) (fun _ i _ => n - (intOf i).toNat)
  case atStart => exact ⟨0, Nat.zero_le _, rfl, by simp [Pl.sumI], Below.refl _ _⟩
  case round =>
    obtain ⟨k, hk, rfl, rfl, D3⟩ := hrel
    obtain ⟨s1, s2⟩ := HSB.out k
    by_cases hlt : k < n
    · have hkx : k < xs.length := by rw [HXL.out]; exact hlt
      have hkr : k < ws.length := by rw [HLN.out]; exact hlt
      obtain ⟨b1, o1, hbo, _, c1⟩ := (HRD.out.go D3.out).int_at (k := k) hlt
      injection hbo with hbo
      injection hbo with hbo e2
      subst hbo e2
      rw [Nat.zero_add] at c1
      have HT : Hid (Pl.sumI (xs.take (k + 1)) = Pl.sumI (xs.take k) + xs[k]) := by show _ = _; rw [List.take_succ_eq_append_getElem hkx, Pl.sumI_snoc]
      obtain ⟨x1, x2⟩ := HXB.out _ (List.getElem_mem hkx)
      have HVE : Hid (xs.getD k 0 = xs[k]) := Pl.getD_at hkx 0
      generalize Pl.sumI (xs.take k) = sm at *
      generalize xs[k] = v at *
      have hkn : (k : Int) < (n : Int) := by omega
      obtain ⟨b, o, rfl, hbb, _, y1⟩ := txs_at HR.out (k := k) hlt
      have es : ∀ (i : Nat) (h : i < (ws.map Pl.ratTxt).length) (h2 : i < ws.length), (ws.map Pl.ratTxt)[i]'h = Pl.ratTxt ws[i] := fun i h h2 => by simp
      rw [es k _ hkr] at y1
      have HKR := Lib.hid hkr
      have FI := Lib.hid (HFS.out _ (List.getElem_mem hkr))
      obtain ⟨ti, hti, y2⟩ : ∃ t, t = Pl.ratTxt (ws[k]'hkr) ∧ w.cell? ⟨b, o + k, none⟩ = some (tx t) := ⟨_, rfl, y1⟩
      have LI : ti.length ≤ 4002 := by rw [hti]; exact ratTxt_len FI.out
      have HTI := Lib.hid hti
      have YK := Lib.hid y2
      clear y1 y2 hti
      go_wp2_with fail
      go_loopw [50] (fun i wr => ∃ j : Nat, j ≤ k ∧ i = .int .i64 j ∧ Hid (Below w3.heap.size w3 wr)) (fun i _ => k - (intOf i).toNat)
      case atStart => exact ⟨0, Nat.zero_le _, rfl, D3⟩
      case round =>
        clear D3 c1
        obtain ⟨j, hj, rfl, D3⟩ := hrel
        have DW := Lib.hid (D.out.trans (D3.out.mono D.out.size))
        by_cases hlt2 : j < k
        · have hjn : j < n := by omega
          have hjx : j < xs.length := by rw [HXL.out]; exact hjn
          have hjr : j < ws.length := by rw [HLN.out]; exact hjn
          obtain ⟨b2, o2, hbo2, _, _, y1⟩ := txs_at HR.out (k := j) hjn
          injection hbo2 with hbo2
          injection hbo2 with hbo2 e2
          subst hbo2 e2
          rw [es j _ hjr] at y1
          have FJ := Lib.hid (HFS.out _ (List.getElem_mem hjr))
          obtain ⟨tj, htj, y2⟩ : ∃ t, t = Pl.ratTxt (ws[j]'hjr) ∧ w.cell? ⟨b, o + j, none⟩ = some (tx t) := ⟨_, rfl, y1⟩
          have LJ : tj.length ≤ 4002 := by rw [htj]; exact ratTxt_len FJ.out
          have HTJ := Lib.hid htj
          have YJ := Lib.hid y2
          have HLW := Lib.hid (HLAW.out j k hlt2 hkr)
          rw [HVE.out, Pl.getD_at hjx] at HLW
          obtain ⟨wj, wk, vj, hwj, hwk, hvj, hlw⟩ : ∃ wj wk vj, wj = ws[j]'hjr ∧ wk = ws[k]'hkr ∧ vj = xs[j]'hjx ∧ ShLaw cents wj wk vj v := ⟨_, _, _, rfl, rfl, rfl, HLW.out⟩
          clear HLW
          have HLW := Lib.hid hlw
          have HVJ := Lib.hid hvj
          have FJ2 : Hid (Pl.Fits wj) := by rw [hwj]; exact FJ
          have HTJ2 : Hid (tj = Pl.ratTxt wj) := by rw [hwj]; exact HTJ
          have FK : Hid (Pl.Fits wk) := by rw [hwk]; exact FI
          have HTK : Hid (ti = Pl.ratTxt wk) := by rw [hwk]; exact HTI
          clear FJ HTJ hlw
          have FJ := FJ2
          have HTJ := HTJ2
          clear FJ2 HTJ2
          have hjk : (j : Int) < (k : Int) := by omega
          have hjn2 : (j : Int) < (n : Int) := by omega
          clear y1 y2 htj hvj hwj hwk
          have DQ := D
          replace D := DW
          clear DW
          go_upto_region 15 with fail
          have hb5 := (Below.refl wr.heap.size wr).drew
          replace D := Lib.hid (D.out.trans (hb5.mono D.out.size))
          replace D3 := Lib.hid (D3.out.trans (hb5.mono D3.out.size))
          clear hb5
          have HB0 := Lib.hid (Below.refl wr.drew.heap.size wr.drew)
          have hlt_D := D.out.size
          have hlt_D3 := D3.out.size
          generalize hw9 : wr.drew = w15 at *
          have hSw : (fun w' : World => Below w15.heap.size w15 w') w15 := HB0.out
          refine wp_region_mid (fun w' : World => Below w15.heap.size w15 w') 14 (by kernel_rfl) ?_
          rw [hw9]
          clear hw9
          refine wpAnyM_takeB 0 [2, 3, 8, 9, 10, 11, 12, 13] rfl (by kernel_rfl) (by kernel_rfl) (by kernel_rfl) (by kernel_rfl) (by kernel_rfl) (fun _ _ _ h => h) hSw (by kernel_rfl) (fun w' hSx => by have c0 := ((D.out.trans (hSx.mono D.out.size)).cell (p := ⟨b, o + j, none⟩) hbb).trans YJ.out; have c1 := ((D.out.trans (hSx.mono D.out.size)).cell (p := ⟨b, o + k, none⟩) hbb).trans YK.out; go_simp; first | done | with_reducible rfl) ?_
          simp only [Act.put, List.setIfInBounds_toArray]
          refine wpAnyM_takeB 1 [2, 3, 8, 9, 10, 11, 12, 13] rfl (by kernel_rfl) (by kernel_rfl) (by kernel_rfl) (by kernel_rfl) (by kernel_rfl) (fun _ _ _ h => h) hSw (by kernel_rfl) (fun w' hSx => by have c0 := ((D.out.trans (hSx.mono D.out.size)).cell (p := ⟨b, o + j, none⟩) hbb).trans YJ.out; have c1 := ((D.out.trans (hSx.mono D.out.size)).cell (p := ⟨b, o + k, none⟩) hbb).trans YK.out; go_simp; first | done | with_reducible rfl) ?_
          simp only [Act.put]
          refine wpAnyM_takeB 2 [3, 8, 9, 10, 11, 12, 13] rfl (by kernel_rfl) (by kernel_rfl) (by kernel_rfl) (by kernel_rfl) (by kernel_rfl) (fun _ _ _ h => h) hSw (by kernel_rfl) (fun w' hSx => by have c0 := ((D.out.trans (hSx.mono D.out.size)).cell (p := ⟨b, o + j, none⟩) hbb).trans YJ.out; have c1 := ((D.out.trans (hSx.mono D.out.size)).cell (p := ⟨b, o + k, none⟩) hbb).trans YK.out; go_simp; first | done | with_reducible rfl) ?_
          simp only [Act.put]
          refine wpAnyM_takeB 3 [8, 9, 10, 11, 12, 13] rfl (by kernel_rfl) (by kernel_rfl) (by kernel_rfl) (by kernel_rfl) (by kernel_rfl) (fun _ _ _ h => h) hSw (by kernel_rfl) (fun w' hSx => by have c0 := ((D.out.trans (hSx.mono D.out.size)).cell (p := ⟨b, o + j, none⟩) hbb).trans YJ.out; have c1 := ((D.out.trans (hSx.mono D.out.size)).cell (p := ⟨b, o + k, none⟩) hbb).trans YK.out; go_simp; first | done | with_reducible rfl) ?_
          simp only [Act.put]
          refine wpAnyM_takeB 4 [6, 7, 8, 9, 10, 11, 12, 13] rfl (by kernel_rfl) (by kernel_rfl) (by kernel_rfl) (by kernel_rfl) (by kernel_rfl) (fun _ _ _ h => h) hSw (by kernel_rfl) (fun w' hSx => by have c0 := ((D.out.trans (hSx.mono D.out.size)).cell (p := ⟨b, o + j, none⟩) hbb).trans YJ.out; have c1 := ((D.out.trans (hSx.mono D.out.size)).cell (p := ⟨b, o + k, none⟩) hbb).trans YK.out; go_simp; first | done | with_reducible rfl) ?_
          simp only [Act.put]
          refine wpAnyM_takeB 5 [6, 7, 8, 9, 10, 11, 12, 13] rfl (by kernel_rfl) (by kernel_rfl) (by kernel_rfl) (by kernel_rfl) (by kernel_rfl) (fun _ _ _ h => h) hSw (by kernel_rfl) (fun w' hSx => by have c0 := ((D.out.trans (hSx.mono D.out.size)).cell (p := ⟨b, o + j, none⟩) hbb).trans YJ.out; have c1 := ((D.out.trans (hSx.mono D.out.size)).cell (p := ⟨b, o + k, none⟩) hbb).trans YK.out; go_simp; first | done | with_reducible rfl) ?_
          simp only [Act.put]
          refine wpAnyM_takeB 6 [7, 8, 9, 10, 11, 12, 13] rfl (by kernel_rfl) (by kernel_rfl) (by kernel_rfl) (by kernel_rfl) (by kernel_rfl) (fun _ _ _ h => h) hSw (by kernel_rfl) (fun w' hSx => by have c0 := ((D.out.trans (hSx.mono D.out.size)).cell (p := ⟨b, o + j, none⟩) hbb).trans YJ.out; have c1 := ((D.out.trans (hSx.mono D.out.size)).cell (p := ⟨b, o + k, none⟩) hbb).trans YK.out; go_simp; first | done | with_reducible rfl) ?_
          simp only [Act.put]
          refine wpAnyM_takeB 7 [8, 9, 10, 11, 12, 13] rfl (by kernel_rfl) (by kernel_rfl) (by kernel_rfl) (by kernel_rfl) (by kernel_rfl) (fun _ _ _ h => h) hSw (by kernel_rfl) (fun w' hSx => by have c0 := ((D.out.trans (hSx.mono D.out.size)).cell (p := ⟨b, o + j, none⟩) hbb).trans YJ.out; have c1 := ((D.out.trans (hSx.mono D.out.size)).cell (p := ⟨b, o + k, none⟩) hbb).trans YK.out; go_simp; first | done | with_reducible rfl) ?_
          simp only [Act.put]
          refine wpAnyM_ready [8] (by kernel_rfl) (by simp) ?_
          refine AllReadyM.cons (by rfl) (fun K hK => ?_) AllReadyM.nil
          go_simp
          refine (rcmp_some tj ti w15 (by omega) (by omega) (HL.out.go (D.out.trans (HB0.out.mono D.out.size)))).mono ?_
          rintro e wq1 ⟨z, er, rfl, hcm, hb5⟩
          replace HB0 := Lib.hid (Below.trans HB0.out (hb5.mono HB0.out.size))
          have HCM := Lib.hid hcm
          clear hcm
          clear hb5
          clear hSw
          have hSw : (fun w' : World => Below w15.heap.size w15 w') wq1 := HB0.out
          refine hK.out _ _ hSw ?_
          clear hK K
          refine wpAnyM_takeB 9 [10, 11, 12, 13] rfl (by kernel_rfl) (by kernel_rfl) (by kernel_rfl) (by kernel_rfl) (by kernel_rfl) (fun _ _ _ h => h) hSw (by kernel_rfl) (fun w' hSx => by have c0 := ((D.out.trans (hSx.mono D.out.size)).cell (p := ⟨b, o + j, none⟩) hbb).trans YJ.out; have c1 := ((D.out.trans (hSx.mono D.out.size)).cell (p := ⟨b, o + k, none⟩) hbb).trans YK.out; go_simp; first | done | with_reducible rfl) ?_
          simp only [Act.put]
          refine wpAnyM_takeB 10 [12, 13] rfl (by kernel_rfl) (by kernel_rfl) (by kernel_rfl) (by kernel_rfl) (by kernel_rfl) (fun _ _ _ h => h) hSw (by kernel_rfl) (fun w' hSx => by have c0 := ((D.out.trans (hSx.mono D.out.size)).cell (p := ⟨b, o + j, none⟩) hbb).trans YJ.out; have c1 := ((D.out.trans (hSx.mono D.out.size)).cell (p := ⟨b, o + k, none⟩) hbb).trans YK.out; go_simp; first | done | with_reducible rfl) ?_
          simp only [Act.put]
          refine wpAnyM_takeB 11 [13] rfl (by kernel_rfl) (by kernel_rfl) (by kernel_rfl) (by kernel_rfl) (by kernel_rfl) (fun _ _ _ h => h) hSw (by kernel_rfl) (fun w' hSx => by have c0 := ((D.out.trans (hSx.mono D.out.size)).cell (p := ⟨b, o + j, none⟩) hbb).trans YJ.out; have c1 := ((D.out.trans (hSx.mono D.out.size)).cell (p := ⟨b, o + k, none⟩) hbb).trans YK.out; go_simp; first | done | with_reducible rfl) ?_
          simp only [Act.put]
          refine wpAnyM_takeB 12 [13] rfl (by kernel_rfl) (by kernel_rfl) (by kernel_rfl) (by kernel_rfl) (by kernel_rfl) (fun _ _ _ h => h) hSw (by kernel_rfl) (fun w' hSx => by have c0 := ((D.out.trans (hSx.mono D.out.size)).cell (p := ⟨b, o + j, none⟩) hbb).trans YJ.out; have c1 := ((D.out.trans (hSx.mono D.out.size)).cell (p := ⟨b, o + k, none⟩) hbb).trans YK.out; go_simp; first | done | with_reducible rfl) ?_
          simp only [Act.put]
          refine wpAnyM_takeB 13 [] rfl (by kernel_rfl) (by kernel_rfl) (by kernel_rfl) (by kernel_rfl) (by kernel_rfl) (fun _ _ _ h => h) hSw (by kernel_rfl) (fun w' hSx => by have c0 := ((D.out.trans (hSx.mono D.out.size)).cell (p := ⟨b, o + j, none⟩) hbb).trans YJ.out; have c1 := ((D.out.trans (hSx.mono D.out.size)).cell (p := ⟨b, o + k, none⟩) hbb).trans YK.out; go_simp; first | done | with_reducible rfl) ?_
          simp only [Act.put]
          refine wpAnyM_done (by kernel_rfl) ?_ _
          simp only [List.getElem_toArray, List.getElem_cons_succ, List.getElem_cons_zero]
          replace D := Lib.hid (D.out.trans (HB0.out.mono D.out.size))
          replace D3 := Lib.hid (D3.out.trans (HB0.out.mono D3.out.size))
          clear HB0 hSw
          obtain ⟨hz, rfl⟩ := HCM.out _ _ HTJ.out HTK.out FJ.out FK.out
          clear HCM
          obtain ⟨b3, o3, hbo3, _, c3⟩ := (HRD.out.go D3.out).int_at (k := j) hjn
          injection hbo3 with hbo3
          injection hbo3 with hbo3 e3
          subst hbo3 e3
          rw [Nat.zero_add, ← HVJ.out] at c3
          clear D
          have D := DQ
          by_cases hcn : 0 ≤ cents
          · have hl := HLW.out hcn
            have zl : z < 0 → vj ≤ v := fun h => hl.1 (Pl.cmpR_lt.1 (by rw [← hz]; exact h))
            have zg : 0 < z → v ≤ vj := fun h => hl.2.1 (Pl.cmpR_pos.1 (by rw [← hz]; exact h))
            have ze : z = 0 → v ≤ vj := fun h => hl.2.2 (Pl.cmpR_zero.1 (by rw [← hz]; exact h))
            clear hl hz
            rcases Int.lt_trichotomy z 0 with h0 | h0 | h0
            · have q1 : decide (v < vj) = false := decide_eq_false (by have := zl h0; omega)
              have q2 : decide (0 < z) = false := decide_eq_false (by omega)
              have q3 : (z == 0) = false := by rw [beq_eq_false_iff_ne]; omega
              clear zl zg ze
              go_wp2_with fail
              go_roundw
              case rel => exact ⟨j + 1, by omega, by go_num, D3⟩
              case measure => simp [intOf]; omega
            · have q1 : decide (vj < v) = false := decide_eq_false (by have := ze h0; omega)
              subst h0
              clear zl zg ze
              go_wp2_with fail
              go_roundw
              case rel => exact ⟨j + 1, by omega, by go_num, D3⟩
              case measure => simp [intOf]; omega
            · have q1 : decide (vj < v) = false := decide_eq_false (by have := zg h0; omega)
              have q2 : decide (z < 0) = false := decide_eq_false (by omega)
              have q3 : (z == 0) = false := by rw [beq_eq_false_iff_ne]; omega
              clear zl zg ze
              go_wp2_with fail
              go_roundw
              case rel => exact ⟨j + 1, by omega, by go_num, D3⟩
              case measure => simp [intOf]; omega
          · have q1 : decide (0 ≤ cents) = false := decide_eq_false hcn
            go_wp2_with fail
            go_roundw
            case rel => exact ⟨j + 1, by omega, by go_num, D3⟩
            case measure => simp [intOf]; omega
        · have : j = k := by omega
          subst this
          have hjj : ¬ (j : Int) < (j : Int) := by omega
          go_wp2_with fail
          go_roundw
          case rel => exact ⟨j + 1, by omega, by go_num, by rw [HT.out], D3⟩
          case measure => simp [intOf]; omega
    · have : k = n := by omega
      subst this
      have hS : Pl.sumI (xs.take k) = cents := by
        rw [List.take_of_length_le (by rw [HXL.out]; exact Nat.le_refl _)]
        exact HSUM.out
      rw [hS]
      have D4 := Lib.hid (D.out.trans (D3.out.mono D.out.size))
      go_wp2_with fail
      go_ret
      exact ⟨by simp, D4.out⟩
end Go.Proofs.YtgdbodnfibiafaaGreatDoor
