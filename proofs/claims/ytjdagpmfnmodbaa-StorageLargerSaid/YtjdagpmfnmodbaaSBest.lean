/- storage.Best: it returns what its plain function gives, in new memory, and leaves old memory as it is. Condition: what the sort of pieces says. -/
import Derived.Test.YtjdagpmfnmodbaaCosts
import Derived.Test.YtjdagpmfnmodbaaSRun
import Derived.Test.YtjdagpmfnmodbaaConvexD
import Derived.Test.YtjdagpmfnmodbaaPStor
import Derived.Test.YtjdagpmfnmodbaaQuiet
namespace Go.Proofs.Ytjdagpmfnmodbaa
open Go.RowKit
theorem addr_zero (g j : Nat) : (⟨g, 0, none⟩ : Addr).add j = ⟨g, j, none⟩ := by unfold Addr.add; split <;> simp_all
set_option maxHeartbeats 6400000 in
set_option maxRecDepth 100000 in
theorem sBest_any (hsort : SortPOk) (ch dis cap beg en : Int) (A : Option Addr) (n c : Nat) (ps : List Int) (w : World) (hr : Reads w w.heap.size 1 A n (ints ps)) :
    Calls Try.prog 36 #[vSt ch dis cap beg en, .slice A n c] w (SchedSaid (Pl.sBest ch dis cap beg en ps) w) := by
  have HR := Lib.hid hr
  have HL := Lib.hid hr.int_len
  have HC := Lib.hid (fun w h => sCheckP_any ch dis cap beg en A n c ps w h)
  have HB0 : Hid (Below w.heap.size w (w.alloc (.cells #[.int .i64 ch, .int .i64 dis, .int .i64 cap, .int .i64 beg, .int .i64 en] 70))) := (Below.refl _ _).alloc (Nat.le_refl _) _
  have HS0 : Hid (Blk (w.alloc (.cells #[.int .i64 ch, .int .i64 dis, .int .i64 cap, .int .i64 beg, .int .i64 en] 70)) w.heap.size 70 #[.int .i64 ch, .int .i64 dis, .int .i64 cap, .int .i64 beg, .int .i64 en]) := Blk.new_ _ _ _ _ rfl
  clear hr
  by_cases h0 : Pl.sCheckP ch dis cap beg en ps = 0
  · obtain ⟨hs, hn24, hp⟩ := Pl.sCheckP_ok h0
    have hn : n ≤ 24 := by rw [← HL.out]; exact hn24
    have HCO := Lib.hid (fun w h => costs_any hsort ch dis cap beg en A n c ps w hs hp hn h)
    have HC0 := Lib.hid h0
    have HBE : Hid (Pl.sBest ch dis cap beg en ps = if (Pl.sK ch dis cap beg ps n).2 ≠ 0 then ([], 0, (Pl.sK ch dis cap beg ps n).2) else if (Pl.sEnd ch dis cap beg en ps).2 ≠ 0 then ([], 0, 8) else (Pl.sCharges ch dis cap beg en ps, (Pl.cLeast (Pl.sEnd ch dis cap beg en ps).1.1 (Pl.sEnd ch dis cap beg en ps).1.2.1 (Pl.sEnd ch dis cap beg en ps).1.2.2).2.1, 0)) := by
      show _ = _; unfold Pl.sBest; rw [if_neg (by simpa using h0), HL.out]
    have HSK := Lib.hid hs
    have HP := Lib.hid hp
    obtain ⟨j0, ji0, jz0, jz1, jz2⟩ := info_parts info_int
    rw [h0] at HC
    clear h0 hsort hs hp hn24
    unfold SchedSaid
    unfold CostsSaid at HCO
    unfold vSt at *
    go_enter Try.func36, Try.ntmps36
    go_wp2_with fail
    refine (HC.out _ (HR.out.go HB0.out)).mono ?_
    rintro e w1 ⟨rfl, hb⟩
    have HB1 := Lib.hid (HB0.out.trans (hb.mono HB0.out.size))
    have HS1 := Lib.hid (HS0.out.go hb)
    clear hb HB0 HS0 HC
    have cs := HS1.out.cell
    go_wp2_with fail
    refine (HCO.out _ (HR.out.go HB1.out)).mono ?_
    rintro e w2 (⟨hF, g, cp, ms, rfl, hx, hml, hms, hb⟩ | ⟨hF, rfl, hb⟩)
    · have HB2 := Lib.hid (HB1.out.trans (hb.mono HB1.out.size))
      have HS2 := Lib.hid (HS1.out.go hb)
      have HX2 := Lib.hid (hx.base_le HS1.out.lt)
      have HMS := Lib.hid hms
      have HF0 := Lib.hid hF
      have HEG := Lib.hid (Pl.sEnd_good HC0.out (by rw [HL.out]; exact hF))
      clear hb hx hms cs hF HCO
      obtain ⟨q0, q1, q2, hrd⟩ := HX2.out.at_ (k := n) (by omega)
      have hcx := HMS.out n (by omega)
      have HEND : Hid (Pl.sEnd ch dis cap beg en ps = Pl.cRestrict (ms[n]'(by omega)).lo (ms[n]'(by omega)).va (ms[n]'(by omega)).st en cap) := by
        show _ = _
        unfold Pl.sEnd
        rw [HL.out, ← hcx]
        rfl
      generalize ms[n] = oo at *
      obtain ⟨lo, va, Ao, co, sto⟩ := oo
      simp only at q0 q1 q2 HEND hrd
      have HRD := Lib.hid hrd
      clear hrd hcx
      have HRS := Lib.hid (fun w h => restrict_any lo va Ao sto.length co sto en cap w h)
      rw [← HEND.out] at HRS
      clear HEND
      unfold MadeSaid vCx at HRS
      have s2 := HS2.out.cell 2
      have s4 := HS2.out.cell 4
      have lst := HS2.out.lt
      have lg := HX2.out.lt.2
      have k0 : (0 : Int) ≤ (n : Int) := by omega
      have k1 : (n : Int) < (n : Int) + 1 := by omega
      have HSF : Hid (∀ w', Below w2.heap.size w2 w' → w'.cell? ⟨w.heap.size, 2, none⟩ = some (.int .i64 cap) ∧ w'.cell? ⟨w.heap.size, 4, none⟩ = some (.int .i64 en) ∧ w'.cell? ⟨g, n * 3, none⟩ = some (.int .i64 lo) ∧ w'.cell? ⟨g, n * 3 + 1, none⟩ = some (.int .i64 va) ∧ w'.cell? ⟨g, n * 3 + 2, none⟩ = some (.slice Ao sto.length co)) := fun w' hb =>
        ⟨(hb.cell (p := ⟨w.heap.size, 2, none⟩) lst).trans s2, (hb.cell (p := ⟨w.heap.size, 4, none⟩) lst).trans s4, (hb.cell (p := ⟨g, n * 3, none⟩) lg).trans q0, (hb.cell (p := ⟨g, n * 3 + 1, none⟩) lg).trans q1, (hb.cell (p := ⟨g, n * 3 + 2, none⟩) lg).trans q2⟩
      have hcur : Hid (Below w2.heap.size w2 w2.drew) := (Below.refl _ _).drew
      generalize hRE : Pl.sEnd ch dis cap beg en ps = RE at *
      have HRE := Lib.hid hRE
      clear hRE
      obtain ⟨⟨le, ve, pe⟩, ee⟩ := RE
      simp only at HRS
      go_wp2_with fail
      go_region_held3 (fun w' => w'.cell? ⟨w.heap.size, 2, none⟩ = some (.int .i64 cap) ∧ w'.cell? ⟨w.heap.size, 4, none⟩ = some (.int .i64 en) ∧ w'.cell? ⟨g, n * 3, none⟩ = some (.int .i64 lo) ∧ w'.cell? ⟨g, n * 3 + 1, none⟩ = some (.int .i64 va) ∧ w'.cell? ⟨g, n * 3 + 2, none⟩ = some (.slice Ao sto.length co))
        (first | exact HSF.out _ hcur.out | exact HSF.out _ (((Below.refl w2.heap.size w2).alloc (Nat.le_refl _) _).drew) | exact HSF.out _ (hcur.out.alloc hcur.out.size _) | exact HSF.out _ (((hcur.out.setCell (Nat.le_refl _) _).setCell (Nat.le_refl _) _).setCell (Nat.le_refl _) _))
        (first
          | (go_at_call 76; with_reducible refine (HRS.out _ (HRD.out.go hcur.out)).mono ?_; rintro e wz ⟨Ae, ce, rfl, howne, hbz⟩; have oe := Lib.hid (own_base howne hcur.out.size); have hcur := Lib.hid (hcur.out.trans (hbz.mono hcur.out.size)); clear hbz howne)
          | (go_at_call 76; refine (HRS.out _ (HRD.out.go (((Below.refl w2.heap.size w2).alloc (Nat.le_refl _) (.cells #[.int .i64 0, .int .i64 0, .slice none 0 0] 30)).drew))).mono ?_; rintro e wz ⟨Ae, ce, rfl, howne, hbz⟩; have b9 := Lib.hid (((Blk.new_ w2 w2.heap.size 30 #[.int .i64 0, .int .i64 0, .slice none 0 0] rfl).drew).go hbz); have k9 := b9.out.cell; have f9 := b9.out.frozen; have l9 := b9.out.lt; have oe := Lib.hid (own_base howne (show w2.heap.size + 1 ≤ _ by simp)); have hcur := Lib.hid ((((Below.refl w2.heap.size w2).alloc (Nat.le_refl _) (.cells #[.int .i64 0, .int .i64 0, .slice none 0 0] 30)).drew).trans (hbz.mono (((Below.refl w2.heap.size w2).alloc (Nat.le_refl _) (.cells #[.int .i64 0, .int .i64 0, .slice none 0 0] 30)).drew).size)); clear hbz howne))
      all_goals
        first
          | (have HB3 := Lib.hid (((hcur.out.setCell (p := ⟨w2.heap.size, 0, none⟩) (Nat.le_refl _) (.int .i64 le)).setCell (p := ⟨w2.heap.size, 1, none⟩) (Nat.le_refl _) (.int .i64 ve)).setCell (p := ⟨w2.heap.size, 2, none⟩) (Nat.le_refl _) (.slice Ae pe.length ce))
             have B3 := Lib.hid (((b9.out.set_ 0 (.int .i64 le)).set_ 1 (.int .i64 ve)).set_ 2 (.slice Ae pe.length ce))
             have O3 := Lib.hid (Reads.of_own (own_far (own_far (own_far oe.out (p := ⟨w2.heap.size, 0, none⟩) (Nat.lt_succ_self w2.heap.size) (.int .i64 le)) (p := ⟨w2.heap.size, 1, none⟩) (Nat.lt_succ_self w2.heap.size) (.int .i64 ve)) (p := ⟨w2.heap.size, 2, none⟩) (Nat.lt_succ_self w2.heap.size) (.slice Ae pe.length ce)))
             clear b9 oe hcur k9 f9 l9
             generalize ((wz.setCell ⟨w2.heap.size, 0, none⟩ (.int .i64 le)).setCell ⟨w2.heap.size, 1, none⟩ (.int .i64 ve)).setCell ⟨w2.heap.size, 2, none⟩ (.slice Ae pe.length ce) = w3 at *)
          | (have HB3 := Lib.hid (hcur.out.alloc hcur.out.size (.cells #[.int .i64 le, .int .i64 ve, .slice Ae pe.length ce] 30))
             have B3 := Lib.hid (Blk.new_ wz wz.heap.size 30 #[.int .i64 le, .int .i64 ve, .slice Ae pe.length ce] rfl)
             have O3 := Lib.hid ((Reads.of_own oe.out).go ((Below.refl _ _).alloc (Nat.le_refl _) (.cells #[.int .i64 le, .int .i64 ve, .slice Ae pe.length ce] 30)))
             clear oe hcur
             generalize wz.alloc (.cells #[.int .i64 le, .int .i64 ve, .slice Ae pe.length ce] 30) = w3 at *)
        clear q0 q1 q2 s2 s4 HRS HRD HSF
        have k3 := B3.out.cell
        by_cases hee : ee = 0
        · subst hee
          have HLE := Lib.hid (fun w h => cLeast_any le ve Ae pe.length ce pe w h)
          obtain ⟨_, hle, _, hl0, hl1, hl2, _⟩ := HEG.out.resolve_left (by rintro ⟨h, _⟩; exact h rfl)
          (try simp only at hle)
          rw [hle] at HLE
          have HX : Hid (Pl.sBest ch dis cap beg en ps = (Pl.sCharges ch dis cap beg en ps, (Pl.cLeast le ve pe).2.1, 0)) := by
            show _ = _
            rw [HBE.out, if_neg (by simpa using HF0.out), if_neg (by simp)]
          rw [hle] at HX
          (try simp only at HX)
          have hmk : ∀ w, (Instr.makeSlice 24 (.int .i64 (n : Int)) (.int .i64 (n : Int))).run Try.prog w = .ok (.slice (some ⟨w.heap.size, 0, none⟩) n n) (w.alloc (.cells (madeCells #[.int .i64 0] n) 3)) := fun w => by
            have := run_make (P := Try.prog) w 24 3 j0 (.int .i64 0) Try.underlying24 ji0 jz0 .i64 .i64 n n (by omega) (by omega) (by rw [jz2]; omega) (by omega)
            rw [jz1, show (Value.int .i64 0).cells = #[.int .i64 0] from rfl] at this
            simpa using this
          generalize hz : madeCells #[Value.int .i64 0] n = ZC at hmk
          have HZC := Lib.hid hz
          clear hz HEG HBE hle hl0 hl1 hl2
          unfold ThreeSaid vCx at HLE
          generalize Pl.Cx.V (Pl.sK ch dis cap beg ps ps.length).1 (Pl.sLast ch dis cap beg en ps) = VV at *
          go_wp2_with fail
          refine (HLE.out _ O3.out).mono ?_
          rintro e w4 ⟨rfl, hb⟩
          have HB4 := Lib.hid ((HB2.out.trans (HB3.out.mono HB2.out.size)).trans (hb.mono (HB2.out.trans (HB3.out.mono HB2.out.size)).size))
          have H24 := Lib.hid (HB3.out.trans (hb.mono HB3.out.size))
          clear hb k3 HB3 B3 O3 HLE
          go_wp2_with fail
          have HZL : Hid (ZC.toList = ints (List.replicate n 0)) := by show _ = _; rw [← HZC.out, toList_madeCells_one]; simp [ints]
          have HZS : Hid (ZC.size = n) := by show _ = _; rw [← HZC.out]; simp [size_madeCells]
          have OF7 : Hid ((w4.alloc (.cells ZC 3)).ownsRow w4.heap.size 3 1 (.slice (some ⟨w4.heap.size, 0, none⟩) n n) n (ints (Pl.sPart ch dis cap beg en ps n))) := by
            have := own_new w4 ZC 3 n w4.heap.size (Nat.le_refl _) (by unfold maxLen; omega) HZS.out _ HZL.out _ rfl
            have e : Pl.sPart ch dis cap beg en ps n = List.replicate n 0 := by have := Pl.sPart_all ch dis cap beg en ps; rw [HL.out] at this; exact this
            rw [e]
            exact this
          have HB7 : Hid (Below w4.heap.size w4 (w4.alloc (.cells ZC 3))) := (Below.refl _ _).alloc (Nat.le_refl _) _
          have HLAST : Hid (Pl.sLevel ch dis cap beg en ps n = Pl.sLast ch dis cap beg en ps) := by have := Pl.sLevel_last (ch := ch) (dis := dis) (cap := cap) (beg := beg) (en := en) (ps := ps); rw [HL.out] at this; exact this
          have HX4 := Lib.hid (HX2.out.go H24.out)
          have HS4 := Lib.hid (HS2.out.go H24.out)
          have HLV : Hid (∀ j, j ≤ n → 0 ≤ Pl.sLevel ch dis cap beg en ps j ∧ Pl.sLevel ch dis cap beg en ps j ≤ 100000 ∧ (Pl.sK ch dis cap beg ps j).1.ok ∧ 0 ≤ (Pl.sK ch dis cap beg ps j).1.lo ∧ (Pl.sK ch dis cap beg ps j).1.hi ≤ 100000) := fun j hj => by
            have hk : (Pl.sK ch dis cap beg ps ps.length).2 = 0 := by rw [HL.out]; exact HF0.out
            have hl := Pl.sX_levels (en := en) HC0.out hk (by rw [HRE.out]) j (by rw [HL.out]; exact hj)
            have hcp := HSK.out.hcap
            rcases Pl.sK_good HSK.out HP.out j with ⟨a, _⟩ | ⟨_, a, b, c2, d⟩
            · have := Pl.sK_stay (k := j) hj HF0.out; omega
            · exact ⟨by omega, by omega, a, b, by omega⟩
          obtain ⟨dd0, dd1⟩ := HSK.out.hdis
          obtain ⟨cc0, cc1⟩ := HSK.out.hch
          clear HZL HZS hmk HZC HX2 HS2 HRE HC0
          rw [← HLAST.out]
          clear HLAST
          obtain ⟨gO, hgO⟩ : ∃ x, x = w4.heap.size := ⟨_, rfl⟩
          have HGO := Lib.hid hgO
          rw [← hgO] at OF7 ⊢
          clear hgO
          generalize w4.alloc (.cells ZC 3) = w5 at *
          have imax : ∀ a b : Int, (if a < b then b else a) = max a b := ite_max
          have imin : ∀ a b : Int, (if b < a then b else a) = min a b := ite_min
          go_loopw [11, 15] (fun lv i wr => ∃ k : Nat, k ≤ n ∧ i = .int .i64 ((k : Int) - 1) ∧ lv = .int .i64 (Pl.sLevel ch dis cap beg en ps k) ∧ Hid (wr.ownsRow gO 3 1 (.slice (some ⟨gO, 0, none⟩) n n) n (ints (Pl.sPart ch dis cap beg en ps k))) ∧ Hid (Below w4.heap.size w4 wr)) (fun _ i _ => (intOf i + 1).toNat)
          case atStart => exact ⟨n, Nat.le_refl _, rfl, rfl, OF7, HB7⟩
          case round =>
            clear OF7 HB7
            obtain ⟨k, hk, rfl, rfl, HO, HBW⟩ := hrel
            cases k with
            | zero =>
              go_wp2_with fail
              go_ret3
              rw [HX.out, ← Pl.sPart_zero]
              have e := Pl.sPart_len ch dis cap beg en ps 0
              rw [HL.out] at e
              refine ⟨some ⟨gO, 0, none⟩, n, by simp only [e]; rfl, ?_, HB4.out.trans (HBW.out.mono HB4.out.size)⟩
              simp only [e]
              exact own_base HO.out (by rw [HGO.out]; exact HB4.out.size)
            | succ j =>
              obtain ⟨q0, q1, q2, hrd⟩ := (HX4.out.go HBW.out).at_ (k := j) (by omega)
              have hcx := HMS.out j (by omega)
              obtain ⟨v0, v1, _⟩ := HLV.out (j + 1) hk
              obtain ⟨u0, u1, hok, ulo, uhi⟩ := HLV.out j (by omega)
              have HST := Lib.hid (Pl.sLevel_step (ch := ch) (dis := dis) (cap := cap) (beg := beg) (en := en) (ps := ps) (j := j) (by rw [HL.out]; omega))
              rw [← hcx] at hok ulo uhi HST
              clear hcx
              obtain ⟨b, o, rfl, hl, hc⟩ := (HR.out.go (HB4.out.trans (HBW.out.mono HB4.out.size))).int_at (k := j) (by omega)
              have hpk : ps.getD j 0 = ps[j] := by rw [List.getD_eq_getElem?_getD, List.getElem?_eq_getElem hl]; rfl
              obtain ⟨p0, p1⟩ := HP.out _ (List.getElem_mem hl)
              rw [hpk] at HST
              have HPS : Hid (∀ w', Below wr.heap.size wr w' → w'.cell? ⟨b, o + j, none⟩ = some (.int .i64 ps[j])) := fun w' hb => (hb.cell (p := ⟨b, o + j, none⟩) (cell_lt hc)).trans hc
              have HPLE := Lib.hid (Pl.sPart_set (ch := ch) (dis := dis) (cap := cap) (beg := beg) (en := en) (ps := ps) (j := j))
              have HPL : Hid ((Pl.sPart ch dis cap beg en ps (j + 1)).length = n) := by have := Pl.sPart_len ch dis cap beg en ps (j + 1); rw [HL.out] at this; exact this
              clear hpk hc
              generalize ms[j] = oo at *
              obtain ⟨lf, vf, Af, cf, sf⟩ := oo
              simp only [MCx.cx, Pl.Cx.lo, Pl.Cx.hi, Pl.Cx.ok] at q0 q1 q2 hrd hok ulo uhi HST
              obtain ⟨gg, l64, hlo64, hva64⟩ := Pl.ccheck_ok hok
              have HRD := Lib.hid hrd
              have HHI := Lib.hid (fun w h => cHigh_any lf vf Af sf.length cf sf w h)
              rw [show Pl.cHigh lf vf sf = (Pl.chigh lf sf, 0) from by unfold Pl.cHigh; rw [if_neg (by simpa using hok)]] at HHI
              unfold TwoSaid vCx at HHI
              have HSP : Hid (min (min (max (max (lf + Pl.lowR (ps[j] + 1) sf) lf) (Pl.sLevel ch dis cap beg en ps (j + 1) - ch)) (Pl.chigh lf sf)) (Pl.sLevel ch dis cap beg en ps (j + 1) + dis) = Pl.sLevel ch dis cap beg en ps j) := HST.out.symm
              have HGG := Lib.hid gg
              rw [show Pl.chigh lf sf = lf + Pl.total sf from rfl] at HSP
              have hlb := Pl.lowR_bd (s := ps[j] + 1) gg.long
              have htb : Pl.chigh lf sf = lf + Pl.total sf := rfl
              generalize Pl.sPart ch dis cap beg en ps (j + 1) = P1 at *
              generalize Pl.sLevel ch dis cap beg en ps (j + 1) = lv at *
              generalize ps[j] = p at *
              clear hrd HST gg hok
              have j0' : (0 : Int) ≤ (j : Int) := by omega
              have jn : (j : Int) < (n : Int) := by omega
              have jn1 : (j : Int) < (n : Int) + 1 := by omega
              have ej : ((j + 1 : Nat) : Int) - 1 = (j : Int) := by omega
              rw [ej]
              clear ej
              have HS5 := Lib.hid (HS4.out.go HBW.out)
              go_wp2_with fail
              have AL := (Below.refl wr.heap.size wr).alloc (Nat.le_refl _) (.cells #[.int .i64 lf, .int .i64 vf, .slice Af sf.length cf] 30)
              have HBW5 := Lib.hid (HBW.out.alloc HBW.out.size (.cells #[.int .i64 lf, .int .i64 vf, .slice Af sf.length cf] 30))
              have BX5 := Lib.hid (Blk.new_ wr wr.heap.size 30 #[.int .i64 lf, .int .i64 vf, .slice Af sf.length cf] rfl)
              have HS5' := Lib.hid (HS5.out.go AL)
              have OW5 := Lib.hid (own_go HO.out AL)
              refine (HHI.out _ (HRD.out.go AL)).mono ?_
              rintro e w6 ⟨rfl, hb⟩
              have HBW6 := Lib.hid (HBW5.out.trans (hb.mono HBW5.out.size))
              have BX6 := Lib.hid (BX5.out.go hb)
              have HS6 := Lib.hid (HS5'.out.go hb)
              have OW6 := Lib.hid (own_go OW5.out hb)
              have HRD6 := Lib.hid ((HRD.out.go AL).go hb)
              have HPS6 : Hid (∀ w', Below w6.heap.size w6 w' → w'.cell? ⟨b, o + j, none⟩ = some (.int .i64 p)) := fun w' h => HPS.out w' (AL.trans ((hb.trans (h.mono hb.size)).mono AL.size))
              clear AL hb HBW5 BX5 HS5 HS5' OW5 HRD HPS HHI HO q0 q1 q2
              generalize wr.heap.size = bx at *
              have bc := BX6.out.cell
              go_wp2_with fail
              go_loopw [19, 82] (fun xx i wi => ∃ k : Nat, k ≤ sf.length ∧ i = .int .i64 k ∧ xx = .int .i64 (lf + Pl.total (sf.take k)) ∧ Hid (∀ q ∈ sf.take k, q.2 < p + 1) ∧ Hid (Below w6.heap.size w6 wi)) (fun _ i _ => sf.length - (intOf i).toNat)
              case atStart => exact ⟨0, Nat.zero_le _, rfl, vint (by simp [Pl.total]), fun q hq => absurd hq (by simp), Below.refl _ _⟩
              case round =>
                obtain ⟨k, hk2, rfl, rfl, HAL, HWI⟩ := hrel
                have htk := Pl.total_take_bd HGG.out.long k
                by_cases hlt : k < sf.length
                · obtain ⟨b2, o2, rfl, hl2, c1, c2⟩ := (HRD6.out.go HWI.out).pair_at hlt
                  obtain ⟨g1, g2, g3, g4⟩ := HGG.out.step _ (List.getElem_mem hl2)
                  have HTS : Hid (Pl.total (sf.take (k + 1)) = Pl.total (sf.take k) + sf[k].1) := by show _ = _; rw [List.take_succ_eq_append_getElem hl2, Pl.total_snoc]
                  have HTK : Hid (sf.take (k + 1) = sf.take k ++ [sf[k]]) := List.take_succ_eq_append_getElem hl2
                  have HSTOP : Hid (p < sf[k].2 → Pl.lowR (p + 1) sf = Pl.total (sf.take k)) := fun h => by
                    have := Pl.lowR_stop (s := p + 1) (sf.take k) (sf.drop (k + 1)) sf[k] HAL.out (by omega)
                    rwa [← List.drop_eq_getElem_cons hl2, List.take_append_drop] at this
                  have htk1 := Pl.total_take_bd HGG.out.long (k + 1)
                  rw [HTS.out] at htk1
                  generalize Pl.total (sf.take k) = tk at *
                  generalize sf[k] = pc at *
                  obtain ⟨x, y⟩ := pc
                  simp only at g1 g2 g3 g4 htk1 c1 c2
                  have hpp := HPS6.out _ (HWI.out.alloc HWI.out.size (.cells #[.int .i64 x, .int .i64 y] 73))
                  have BN := Lib.hid (Blk.new_ wr wr.heap.size 73 #[.int .i64 x, .int .i64 y] rfl)
                  have HWN := Lib.hid (HWI.out.alloc HWI.out.size (.cells #[.int .i64 x, .int .i64 y] 73))
                  by_cases hsl : p < y
                  · have HLR := Lib.hid (HSTOP.out hsl)
                    rw [HLR.out] at HSP
                    clear HSTOP HTK HTS HAL HLR
                    go_wp2_with fail
                    have bn := BN.out.cell
                    clear c1 c2
                    generalize wr.alloc (.cells #[.int .i64 x, .int .i64 y] 73) = w8 at *
                    generalize wr.heap.size = bnn at *
                    go_quiet (fail)
                    clear HWI
                    have HWI := Lib.hid (below_drewN HWN.out nq)
                    generalize w8.drewN nq = w9 at *
                    have OWi := Lib.hid (own_go OW6.out HWI.out)
                    have HBX := Lib.hid (HBW6.out.trans (HWI.out.mono HBW6.out.size))
                    have HS7 := Lib.hid (HS6.out.go HWI.out)
                    have BX7 := Lib.hid (BX6.out.go HWI.out)
                    have hcl := OWi.out.cells (g := gO) rfl j (.int .i64 (P1.getD j 0)) (by unfold ints; rw [List.getElem?_map, List.getD_eq_getElem?_getD, List.getElem?_eq_getElem (by rw [HPL.out]; omega)]; rfl)
                    rw [addr_zero] at hcl
                    obtain ⟨cur, bg⟩ := own_blk OWi.out
                    have fz := bg.frozen j
                    have lgO := bg.lt
                    have sc0 := HS7.out.cell 0
                    have sc1 := HS7.out.cell 1
                    have bc0 := BX7.out.cell 0
                    clear bg cur
                    generalize P1.getD j 0 = old at *
                    go_wp2_with fail
                    have hE : min (max (lf + tk) (lv - ch)) (min (lf + Pl.total sf) (lv + dis)) = Pl.sLevel ch dis cap beg en ps j := by rw [← HSP.out]; omega
                    have OX := Lib.hid (own_set OWi.out j (.int .i64 (lv - min (max (lf + tk) (lv - ch)) (min (lf + Pl.total sf) (lv + dis)))))
                    go_roundw
                    case rel =>
                      refine ⟨j, by omega, rfl, vint hE, ?_, ?_⟩
                      · show World.ownsRow _ _ _ _ _ _ _
                        have e : (ints P1).set j (.int .i64 (lv - min (max (lf + tk) (lv - ch)) (min (lf + Pl.total sf) (lv + dis)))) = ints (Pl.sPart ch dis cap beg en ps j) := by rw [hE, ← HPLE.out]; unfold ints; rw [List.map_set]
                        rw [← e]
                        exact OX.out
                      · exact HBX.out.setCell (by show w4.heap.size ≤ gO; rw [HGO.out]; exact Nat.le_refl _) _
                    case measure => simp [intOf]
                  · have HTK2 : Hid (∀ q ∈ sf.take (k + 1), q.2 < p + 1) := fun q hq => by
                      rw [HTK.out] at hq
                      rcases List.mem_append.1 hq with hq | hq
                      · exact HAL.out q hq
                      · rw [List.mem_singleton.1 hq]; simp only; omega
                    clear HSTOP HTK HAL
                    go_wp2_with fail
                    have bn := BN.out.cell
                    clear c1 c2
                    generalize wr.alloc (.cells #[.int .i64 x, .int .i64 y] 73) = w8 at *
                    generalize wr.heap.size = bnn at *
                    go_quiet (fail)
                    go_wp2_with fail
                    clear HWI
                    have HWI := Lib.hid (below_drewN HWN.out nq)
                    have BN2 := Lib.hid (BN.out.drewN nq)
                    generalize w8.drewN nq = w9 at *
                    have bn2 := BN2.out.cell
                    go_wp2_with fail
                    go_roundw
                    case rel => exact ⟨k + 1, by omega, by go_num, vint (by rw [HTS.out]; omega), HTK2, HWI⟩
                    case measure => simp [intOf]; omega
                · have hkn : k = sf.length := by omega
                  subst hkn
                  rw [List.take_length] at HAL htk ⊢
                  have HLR := Lib.hid (Pl.lowR_all HAL.out)
                  rw [HLR.out] at HSP
                  clear HLR HAL
                  have OWi := Lib.hid (own_go OW6.out HWI.out)
                  have HBX := Lib.hid (HBW6.out.trans (HWI.out.mono HBW6.out.size))
                  have HS7 := Lib.hid (HS6.out.go HWI.out)
                  have BX7 := Lib.hid (BX6.out.go HWI.out)
                  have hcl := OWi.out.cells (g := gO) rfl j (.int .i64 (P1.getD j 0)) (by unfold ints; rw [List.getElem?_map, List.getD_eq_getElem?_getD, List.getElem?_eq_getElem (by rw [HPL.out]; omega)]; rfl)
                  rw [addr_zero] at hcl
                  obtain ⟨cur, bg⟩ := own_blk OWi.out
                  have fz := bg.frozen j
                  have lgO := bg.lt
                  have sc0 := HS7.out.cell 0
                  have sc1 := HS7.out.cell 1
                  have bc0 := BX7.out.cell 0
                  clear bg cur
                  generalize P1.getD j 0 = old at *
                  go_wp2_with fail
                  have hE : min (max (lf + Pl.total sf) (lv - ch)) (min (lf + Pl.total sf) (lv + dis)) = Pl.sLevel ch dis cap beg en ps j := by rw [← HSP.out]; omega
                  have OX := Lib.hid (own_set OWi.out j (.int .i64 (lv - min (max (lf + Pl.total sf) (lv - ch)) (min (lf + Pl.total sf) (lv + dis)))))
                  go_roundw
                  case rel =>
                    refine ⟨j, by omega, rfl, vint hE, ?_, ?_⟩
                    · show World.ownsRow _ _ _ _ _ _ _
                      have e : (ints P1).set j (.int .i64 (lv - min (max (lf + Pl.total sf) (lv - ch)) (min (lf + Pl.total sf) (lv + dis)))) = ints (Pl.sPart ch dis cap beg en ps j) := by rw [hE, ← HPLE.out]; unfold ints; rw [List.map_set]
                      rw [← e]
                      exact OX.out
                    · exact HBX.out.setCell (by show w4.heap.size ≤ gO; rw [HGO.out]; exact Nat.le_refl _) _
                  case measure => simp [intOf]
        · have hee2 : (ee != 0) = true := by simpa using hee
          have HX : Hid (Pl.sBest ch dis cap beg en ps = ([], 0, 8)) := by show _ = _; rw [HBE.out, if_neg (by simpa using HF0.out), if_pos hee]
          go_wp2_with fail
          go_ret3
          rw [HX.out]
          exact ⟨none, 0, rfl, World.ownsRow_nil _ _ _ _, HB2.out.trans (HB3.out.mono HB2.out.size)⟩
    · have HB2 := Lib.hid (HB1.out.trans (hb.mono HB1.out.size))
      have hF2 : ((Pl.sK ch dis cap beg ps n).2 != 0) = true := by simpa using hF
      have HX := Lib.hid (HBE.out.trans (if_pos hF))
      clear hb hF HCO
      go_wp2_with fail
      go_ret3
      rw [HX.out]
      exact ⟨none, 0, rfl, World.ownsRow_nil _ _ _ _, HB2.out⟩
  · have HX : Hid (Pl.sBest ch dis cap beg en ps = ([], 0, Pl.sCheckP ch dis cap beg en ps)) := by show _ = _; unfold Pl.sBest; rw [if_pos h0]
    have h2 : (Pl.sCheckP ch dis cap beg en ps != 0) = true := by simpa using h0
    clear h0
    unfold SchedSaid
    generalize Pl.sBest ch dis cap beg en ps = R at *
    generalize Pl.sCheckP ch dis cap beg en ps = u at *
    unfold vSt at *
    go_enter Try.func36, Try.ntmps36
    go_wp2_with fail
    refine (HC.out _ (HR.out.go HB0.out)).mono ?_
    rintro e w1 ⟨rfl, hb⟩
    have HB1 := Lib.hid (HB0.out.trans (hb.mono HB0.out.size))
    clear hb
    go_wp2_with fail
    go_ret3
    rw [HX.out]
    exact ⟨none, 0, rfl, World.ownsRow_nil _ _ _ _, HB1.out⟩
end Go.Proofs.Ytjdagpmfnmodbaa
