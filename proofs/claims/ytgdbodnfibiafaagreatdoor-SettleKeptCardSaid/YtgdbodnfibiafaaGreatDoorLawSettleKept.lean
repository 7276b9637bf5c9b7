/- The law SettleKept answers true. Condition: the texts read; each is at most 2^63 - 1 bytes; the library's table lies as it is laid. -/
import Derived.Test.YtgdbodnfibiafaaGreatDoorSetR
import Derived.Test.YtgdbodnfibiafaaGreatDoorFine
import Derived.Test.YtgdbodnfibiafaaGreatDoorEqInt
namespace Go.Proofs.YtgdbodnfibiafaaGreatDoor
open Go.RowKit
set_option maxRecDepth 100000
theorem Pl.lit3_ok : Pl.RndOk Pl.lit3 := ⟨Pl.lit3_sum.1, Pl.lit3_floor⟩
theorem lit3_round {w : World} {e : Ending} {w' : World} (h : SRSaid [[49, 47, 50], [49, 47, 51], [49, 47, 54]] w e w') : ∃ g, e = .returned (.tuple #[.slice (some ⟨g, 0, none⟩) 3 3, .int .i64 0]) ∧ Reads w' w'.heap.size 1 (some ⟨g, 0, none⟩) 3 (ints [1, 0, 0]) ∧ Below w.heap.size w w' := by
  rw [← Pl.lit3_txt] at h
  rcases h with ⟨h1, _⟩ | ⟨rs, h1, _, _, hc, hb⟩
  · rcases h1 with h1 | h1
    · exact absurd h1 (by simp [Pl.lit3])
    · exact absurd (Pl.rats_map Pl.lit3_fits) h1
  · have e : rs = Pl.lit3 := by
      have h2 := congrArg (List.map Pl.ratOf) h1
      rw [List.map_map, List.map_map] at h2
      have h3 : ∀ l : List Rat, l.map (Pl.ratOf ∘ Pl.ratTxt) = l := fun l => by
        conv => rhs; rw [← List.map_id l]
        exact List.map_congr_left fun q _ => Pl.ratOf_txt q
      rw [h3, h3] at h2
      exact h2.symm
    subst e
    rcases hc with ⟨h2, _⟩ | ⟨_, os, g, hde, _, rfl, hrd⟩
    · exact absurd Pl.lit3_ok h2
    · rw [Pl.lit3_bal hde] at hrd
      exact ⟨g, rfl, hrd, hb⟩
theorem divInt_one (v : Int) : Rat.divInt v 1 = (v : Rat) := Rat.ext (by rw [(Pl.low_one v).1, Rat.num_intCast]) (by rw [(Pl.low_one v).2, Rat.den_intCast])
/-- what the law has in hand at one amount -/
def KeptI (rs : List Rat) (xs : List Int) (k : Nat) (S : Rat) : Prop := Pl.Fits S ∧ S = ((Pl.sumI (xs.take k) : Int) : Rat) - Pl.sumR (rs.take k)
theorem KeptI.next {rs : List Rat} {xs : List Int} {k : Nat} {S : Rat} (h : KeptI rs xs k S) (h1 : k < rs.length) (h2 : k < xs.length) (hf : Pl.Fits (S + ((xs[k] : Rat) - rs[k]))) : KeptI rs xs (k + 1) (S + ((xs[k] : Rat) - rs[k])) := by
  refine ⟨hf, ?_⟩
  rw [List.take_succ_eq_append_getElem h1, List.take_succ_eq_append_getElem h2, Pl.sumI_snoc, Pl.sumR_snoc, h.2, Rat.intCast_add]
  generalize ((Pl.sumI (xs.take k) : Int) : Rat) = a
  generalize ((xs[k] : Int) : Rat) = b
  grind
set_option maxHeartbeats 12800000 in
theorem settleKept_any (A : Option Addr) (n c : Nat) (ls : List (List UInt8)) (w : World) (hn : n ≤ 9223372036854775807) (hr : Reads w w.heap.size 1 A n (txs ls)) (hs : ∀ l ∈ ls, l.length ≤ 9223372036854775807) (hl : LV w) :
    Calls Tryz.prog 3 #[.slice A n c] w fun e w' => e = .returned (.bool true) ∧ Below w.heap.size w w' := by
  have hd := below_one w (.cells #[tx [49, 47, 50], tx [49, 47, 51], tx [49, 47, 54]] 27)
  have HLIT := Lib.hid (sround_any (some ⟨w.heap.size, 0, none⟩) 3 3 [[49, 47, 50], [49, 47, 51], [49, 47, 54]] _ (by omega) (Reads.lit w #[tx [49, 47, 50], tx [49, 47, 51], tx [49, 47, 54]] 27 3 1 w.heap.size rfl rfl) (fun l hx => by
    simp only [List.mem_cons, List.not_mem_nil, or_false] at hx
    rcases hx with rfl | rfl | rfl <;> simp) (hl.go hd))
  have HR := Lib.hid hr
  have HS := Lib.hid hs
  have HL := Lib.hid hl
  have HN := Lib.hid (txs_len hr)
  have HD := Lib.hid hd
  have HN2 := Lib.hid hn
  clear hr hs hl hd hn
  go_enter Tryz.func3, Tryz.ntmps3
  go_wp2_with fail
  refine HLIT.out.mono ?_
  rintro e w1 hc
  obtain ⟨g1, rfl, hrd, hb5⟩ := lit3_round hc
  have D := Lib.hid (HD.out.trans (hb5.mono HD.out.size))
  have HRD := Lib.hid hrd
  clear hb5 HLIT HD hc hrd
  go_wp2_with fail
  have hd := below_one w1 (.cells #[.int .i64 1, .int .i64 0, .int .i64 0] 3)
  refine (eqint_any (some ⟨g1, 0, none⟩) (some ⟨w1.heap.size, 0, none⟩) 3 3 3 3 [1, 0, 0] [1, 0, 0] _ (by omega) (HRD.out.go hd) (Reads.lit w1 #[.int .i64 1, .int .i64 0, .int .i64 0] 3 3 1 w1.heap.size rfl rfl) rfl).mono ?_
  rintro e w2 ⟨rfl, hb5⟩
  replace D := Lib.hid (D.out.trans (hd.mono D.out.size))
  replace D := Lib.hid (D.out.trans (hb5.mono D.out.size))
  clear hb5 hd HRD
  go_wp2_with fail
  refine (sround_any A n c ls w2 HN2.out (HR.out.go D.out) HS.out (HL.out.go D.out)).mono ?_
  rintro e w3 hc
  rcases hc with ⟨_, ⟨er, her, rfl⟩, hb5⟩ | ⟨rs, hrs, hfs, hlen, hc, hb5⟩
  · replace D := Lib.hid (D.out.trans (hb5.mono D.out.size))
    have e1 : (er != 0) = true := by simpa using her
    clear her hb5
    go_wp2_with fail
    go_ret
    exact ⟨rfl, D.out⟩
  replace D := Lib.hid (D.out.trans (hb5.mono D.out.size))
  clear hb5
  rcases hc with ⟨_, er, her, rfl⟩ | ⟨hok, os, g, hde, _, rfl, hrd⟩
  · have e1 : (er != 0) = true := by simpa using her
    clear her
    go_wp2_with fail
    go_ret
    exact ⟨rfl, D.out⟩
  have HLN : Hid (rs.length = n) := by show _ = _; have h9 := HN.out; rw [hrs, List.length_map] at h9; exact h9
  have HOK := Lib.hid hok
  have HDE := Lib.hid hde
  have HFS := Lib.hid hfs
  have HLW := Lib.hid (Pl.bal_law hde hok.1)
  have HXB : Hid (∀ (k : Nat), k < rs.length → -1000000000000000 ≤ (Pl.bal rs os).getD k 0 ∧ (Pl.bal rs os).getD k 0 ≤ 1000000000000001) := fun k hk => Pl.bal_bd hde _ hk (B := 1000000000000000) hok.2
  have HXL : Hid ((Pl.bal rs os).length = rs.length) := Pl.bal_len rs os
  obtain ⟨xs, hxs⟩ : ∃ xs, xs = Pl.bal rs os := ⟨_, rfl⟩
  rw [← hxs] at HLW HXB HXL hrd
  have HRD := Lib.hid hrd
  rw [HLN.out] at HRD HXL ⊢
  subst hrs
  have HI0 : Hid (KeptI rs xs 0 0) := by
    refine ⟨Pl.fits_small (v := 0) (by decide), ?_⟩
    simp [Pl.sumI, Pl.sumR]
    grind
  have hn256 : n ≤ 256 := by rw [← HLN.out]; exact hlen
  clear hok hde hfs hxs hrd hlen HN
  have h256 : Pl.ratTxt 0 = [48] := Pl.txt_0
  go_wp2_with fail
  go_loopw [7, 43] (fun sv i wr => ∃ (k : Nat) (S : Rat), k ≤ n ∧ i = .int .i64 k ∧ sv = tx (Pl.ratTxt S) ∧ Hid (KeptI rs xs k S) ∧ Hid (Below w3.heap.size w3 wr)) (fun _ i _ => n - (intOf i).toNat)
  case atStart => exact ⟨0, 0, Nat.zero_le _, rfl, by rw [h256], HI0, Below.refl _ _⟩
  case round =>
    clear HI0
    obtain ⟨k, S, hk, rfl, rfl, HK, D3⟩ := hrel
    have D4 := Lib.hid (D.out.trans (D3.out.mono D.out.size))
    by_cases hlt : k < n
    · have hkx : k < xs.length := by rw [HXL.out]; exact hlt
      have hkr : k < rs.length := by rw [HLN.out]; exact hlt
      obtain ⟨b1, o1, hbo, _, c1⟩ := (HRD.out.go D3.out).int_at (k := k) hlt
      injection hbo with hbo
      injection hbo with hbo e2
      subst hbo e2
      rw [Nat.zero_add] at c1
      obtain ⟨b, o, rfl, hbb, _, y1⟩ := txs_at HR.out (k := k) hlt
      have es : ∀ h, (rs.map Pl.ratTxt)[k]'h = Pl.ratTxt rs[k] := fun h => by simp
      rw [es] at y1
      have hv := HXB.out k hkr
      have hw := HLW.out.2 k hkr
      rw [Pl.getD_at hkx] at hv hw
      have FR := Lib.hid (HFS.out _ (List.getElem_mem hkr))
      have HKN := Lib.hid (fun hfit => HK.out.next hkr hkx hfit)
      clear es
      generalize xs[k] = v at *
      generalize rs[k] = r at *
      have FV : Hid (Pl.Fits (v : Rat)) := Pl.fits_small (by omega)
      obtain ⟨tr, htr⟩ : ∃ t, t = Pl.ratTxt r := ⟨_, rfl⟩
      obtain ⟨tv, htv⟩ : ∃ t, t = Pl.ratTxt (v : Rat) := ⟨_, rfl⟩
      obtain ⟨ts, hts⟩ : ∃ t, t = Pl.ratTxt S := ⟨_, rfl⟩
      have LR : tr.length ≤ 4002 := by rw [htr]; exact ratTxt_len FR.out
      have LVV : tv.length ≤ 4002 := by rw [htv]; exact ratTxt_len FV.out
      have LS : ts.length ≤ 4002 := by rw [hts]; exact ratTxt_len HK.out.1
      rw [← htr] at y1
      rw [← hts]
      have HTR := Lib.hid htr
      have HTV := Lib.hid htv
      have HTS := Lib.hid hts
      have HV := Lib.hid hv
      have HW := Lib.hid hw
      have y2 := (D4.out.cell (p := ⟨b, o + k, none⟩) hbb).trans y1
      have hkn : (k : Int) < (n : Int) := by omega
      clear htr htv hts hw hkx hkr
      go_wp2_with fail
      refine (rof_any v 1 wr (by omega) (by omega) (by omega) (by omega) (HL.out.go D4.out)).mono ?_
      rintro e w5 (⟨h0, _⟩ | ⟨_, hc, hb5⟩)
      · exact absurd h0 (by decide)
      rw [divInt_one, ← HTV.out] at hc
      replace D4 := Lib.hid (D4.out.trans (hb5.mono D4.out.size))
      replace D3 := Lib.hid (D3.out.trans (hb5.mono D3.out.size))
      clear hb5 y2 c1 hv
      obtain ⟨_, rfl⟩ := hc.resolve_right fun h => h.1 FV.out
      clear hc
      have y2 := (D4.out.cell (p := ⟨b, o + k, none⟩) hbb).trans y1
      go_wp2_with fail
      refine (rsubT_any tv tr w5 (by omega) (by omega) (HL.out.go D4.out)).mono ?_
      rintro e w6 hc
      rw [HTV.out, HTR.out] at hc
      obtain ⟨hc, hb5⟩ := rop_txt (F := fun p q => p - q) FV.out FR.out hc
      replace D4 := Lib.hid (D4.out.trans (hb5.mono D4.out.size))
      replace D3 := Lib.hid (D3.out.trans (hb5.mono D3.out.size))
      clear hb5 y2
      rcases hc with ⟨fd, rfl⟩ | ⟨_, rfl⟩
      · have FD : Hid (Pl.Fits ((v : Rat) - r)) := fd
        obtain ⟨td, htd⟩ : ∃ t, t = Pl.ratTxt ((v : Rat) - r) := ⟨_, rfl⟩
        have LD : td.length ≤ 4002 := by rw [htd]; exact ratTxt_len FD.out
        rw [← htd]
        have HTD := Lib.hid htd
        clear htd fd
        go_wp2_with fail
        refine (rcmp_some td [45, 49] w6 (by omega) (by simp) (HL.out.go D4.out)).mono ?_
        rintro e w7 ⟨z1, er1, rfl, hcm, hb5⟩
        obtain ⟨hz1, rfl⟩ := hcm _ _ HTD.out Pl.txt_m1.symm FD.out (Pl.fits_small (v := -1) (by decide))
        have hz1p : 0 < z1 := by rw [hz1]; exact Pl.cmpR_pos.2 HW.out.1
        replace D4 := Lib.hid (D4.out.trans (hb5.mono D4.out.size))
        replace D3 := Lib.hid (D3.out.trans (hb5.mono D3.out.size))
        clear hb5 hcm hz1
        go_wp2_with fail
        refine (rcmp_some td [49] w7 (by omega) (by simp) (HL.out.go D4.out)).mono ?_
        rintro e w8 ⟨z2, er2, rfl, hcm, hb5⟩
        obtain ⟨hz2, rfl⟩ := hcm _ _ HTD.out Pl.txt_1.symm FD.out (Pl.fits_small (v := 1) (by decide))
        have hz2n : z2 < 0 := by rw [hz2]; exact Pl.cmpR_lt.2 HW.out.2
        replace D4 := Lib.hid (D4.out.trans (hb5.mono D4.out.size))
        replace D3 := Lib.hid (D3.out.trans (hb5.mono D3.out.size))
        clear hb5 hcm hz2
        go_wp2_with fail
        have hd := below_one w8 (.cells #[.int .i64 0, .int .i64 0, .int .i64 0, .int .i64 0] 24)
        refine (fine_any (some ⟨w8.heap.size, 0, none⟩) 4 4 [0, 0, 0, 0] _ _ (by omega) (Reads.lit w8 #[.int .i64 0, .int .i64 0, .int .i64 0, .int .i64 0] 24 4 1 w8.heap.size rfl rfl)).mono ?_
        rintro e w9 ⟨rfl, rfl⟩
        rw [show allOk [0, 0, 0, 0] = true from rfl]
        replace D4 := Lib.hid (D4.out.trans (hd.mono D4.out.size))
        replace D3 := Lib.hid (D3.out.trans (hd.mono D3.out.size))
        clear hd
        generalize w8.alloc (.cells #[.int .i64 0, .int .i64 0, .int .i64 0, .int .i64 0] 24) = w9 at *
        have hz1n : decide (z1 ≤ 0) = false := decide_eq_false (by omega)
        have hz2p : decide (0 ≤ z2) = false := decide_eq_false (by omega)
        go_wp2_with fail
        refine (raddT_any ts td w9 (by omega) (by omega) (HL.out.go D4.out)).mono ?_
        rintro e w10 hc
        rw [HTS.out, HTD.out] at hc
        obtain ⟨hc, hb5⟩ := rop_txt (F := fun p q => p + q) HK.out.1 FD.out hc
        replace D4 := Lib.hid (D4.out.trans (hb5.mono D4.out.size))
        replace D3 := Lib.hid (D3.out.trans (hb5.mono D3.out.size))
        clear hb5
        rcases hc with ⟨fs, rfl⟩ | ⟨_, rfl⟩
        · have HK2 := Lib.hid (HKN.out fs)
          clear fs
          obtain ⟨S2, hS2⟩ : ∃ S2 : Rat, S2 = S + ((v : Rat) - r) := ⟨_, rfl⟩
          rw [← hS2] at HK2
          rw [show S + ((v : Rat) - r) = S2 from hS2.symm]
          clear hS2 HKN
          go_wp2_with fail
          go_roundw
          case rel => exact ⟨k + 1, S2, by omega, by go_num, rfl, HK2, D3⟩
          case measure => simp [intOf]; omega
        · go_wp2_with fail
          go_ret
          exact ⟨rfl, D4.out⟩
      · go_wp2_with fail
        refine (rcmp_some [] [45, 49] w6 (by simp) (by simp) (HL.out.go D4.out)).mono ?_
        rintro e w7 ⟨z1, er1, rfl, _, hb5⟩
        replace D4 := Lib.hid (D4.out.trans (hb5.mono D4.out.size))
        clear hb5
        go_wp2_with fail
        refine (rcmp_some [] [49] w7 (by simp) (by simp) (HL.out.go D4.out)).mono ?_
        rintro e w8 ⟨z2, er2, rfl, _, hb5⟩
        replace D4 := Lib.hid (D4.out.trans (hb5.mono D4.out.size))
        clear hb5
        go_wp2_with fail
        have hd := below_one w8 (.cells #[.int .i64 0, .int .i64 2, .int .i64 er1, .int .i64 er2] 24)
        refine (fine_any (some ⟨w8.heap.size, 0, none⟩) 4 4 [0, 2, er1, er2] _ _ (by omega) (Reads.lit w8 #[.int .i64 0, .int .i64 2, .int .i64 er1, .int .i64 er2] 24 4 1 w8.heap.size rfl rfl)).mono ?_
        rintro e w9 ⟨rfl, rfl⟩
        have hbad : allOk [0, 2, er1, er2] = false := by
          rw [Bool.eq_false_iff]
          intro h9
          have := allOk_true.1 h9 2 (by simp)
          omega
        rw [hbad]
        replace D4 := Lib.hid (D4.out.trans (hd.mono D4.out.size))
        clear hd hbad
        generalize w8.alloc (.cells #[.int .i64 0, .int .i64 2, .int .i64 er1, .int .i64 er2] 24) = w9 at *
        go_wp2_with fail
        have hd := below_one w9 (.cells #[.int .i64 0, .int .i64 2] 24)
        refine (fine_any (some ⟨w9.heap.size, 0, none⟩) 2 2 [0, 2] _ _ (by omega) (Reads.lit w9 #[.int .i64 0, .int .i64 2] 24 2 1 w9.heap.size rfl rfl)).mono ?_
        rintro e w10 ⟨rfl, rfl⟩
        rw [show allOk [0, 2] = false from rfl]
        replace D4 := Lib.hid (D4.out.trans (hd.mono D4.out.size))
        clear hd
        go_wp2_with fail
        go_ret
        exact ⟨rfl, D4.out⟩
    · have : k = n := by omega
      subst this
      have hS : S = 0 := by
        rw [HK.out.2, List.take_of_length_le (by rw [HXL.out]; exact Nat.le_refl _), List.take_of_length_le (by rw [HLN.out]; exact Nat.le_refl _), HLW.out.1]
        grind
      subst hS
      rw [h256]
      go_wp2_with fail
      go_ret
      exact ⟨by simp, D4.out⟩
end Go.Proofs.YtgdbodnfibiafaaGreatDoor
