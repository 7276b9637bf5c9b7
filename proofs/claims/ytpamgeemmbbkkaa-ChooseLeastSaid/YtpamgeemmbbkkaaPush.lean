/- choose's push sends one unit after the other from the place to a source, till a search finds none. Condition: the field is the call's own, its edges join nodes, it starts from a flow of 0. -/
import Derived.Test.YtpamgeemmbbkkaaSearch
import Derived.Test.YtpamgeemmbbkkaaFieldO
namespace Go.Proofs.Ytpamgeemmbbkkaa
open Go.RowKit
set_option maxRecDepth 100000
theorem edges_set (E : List Pl.Edg) (k : Nat) (e : Pl.Edg) (he : E[k]? = some e) (x : Int) : (E.flatMap edgC).set (k * 5 + 4) (.int .i64 x) = (E.set k (Pl.withF e x)).flatMap edgC := by
  induction E generalizing k with
  | nil => simp at he
  | cons y E ih =>
    cases k with
    | zero =>
      simp at he; subst he
      simp [edgC, Pl.withF]
    | succ k =>
      have := ih k (by simpa using he)
      rw [List.set_cons_succ, List.flatMap_cons, List.flatMap_cons, ← this]
      rw [List.set_append_right _ _ (by simp [edgC]; omega)]
      congr 2
      simp [edgC]; omega
theorem flo_bound {E : List Pl.Edg} {src : List Bool} {place : Int} {n : Nat} {K : Int} (h : Pl.Flo E src place n K) : ∀ e ∈ E, -1000000 ≤ e.flow ∧ e.flow ≤ 1000000 := fun e he => by
  have := h.cap e he
  have h2 : Pl.capE e ≤ 1000 := by unfold Pl.capE; split <;> omega
  omega
set_option maxHeartbeats 6400000 in
theorem push_any (B gf : Nat) (E0 : List Pl.Edg) (src : List Bool) (place : Int) (n : Nat) (w : World) (hB : B ≤ w.heap.size) (hf : FieldOwn w B gf E0 src place n) (ho : Pl.FieldOk E0 place n) (hn : n ≤ 1000) (hE : E0.length ≤ 900) (h0 : Pl.Flo E0 src place n 0) :
    Calls Try.prog 57 #[.pointer (some ⟨gf, 0, none⟩)] w fun e w' => ∃ E is, e = .returned (.bool is) ∧ FieldOwn w' B gf E src place n ∧ Pl.Pushed E0 src place n E is ∧ Below B w w' := by
  obtain ⟨Ae, gs, ne, ce, h1, h2, h3, h4, h5, h6, h7, h8⟩ := hf
  have HX : Hid (∀ E E' : List Pl.Edg, E.map Pl.shp = E0.map Pl.shp → Pl.FieldOk E place n ∧ E.length = ne) := fun E _ hs => ⟨ho.shp hs, by have := congrArg List.length hs; simp at this; omega⟩
  have HFI : Hid (∀ (w1 : World) (E : List Pl.Edg) (K : Int), Blk w1 gf 130 #[.slice Ae ne ce, .int .i64 place, .slice (some ⟨gs, 0, none⟩) n n, .int .i64 n] → w1.ownsRow (gf + 1) 132 5 (.slice Ae ne ce) ne (E.flatMap edgC) → E.length = ne → Blk w1 gs 4 (bools src).toArray → Pl.Flo E src place n K → FieldIn w1 w1.heap.size gf E src place n) := fun w1 E K a b c d e =>
    ⟨⟨Ae, _, ne, ce, n, a, ⟨Reads.of_own b, c⟩, bblk_reads d h7⟩, a.lt, by omega, hn, flo_bound e⟩
  have HP := Lib.hid ho.place
  have hp0 := ho.place
  have K0 := Lib.hid h1
  have O0 := Lib.hid h2
  have S0 := Lib.hid h4
  have HNG := Lib.hid h5
  have HL := Lib.hid h7
  have HGS : Hid (gf < gs ∧ B ≤ gf) := ⟨h6, h8⟩
  have HE := Lib.hid h3
  have hne : ne ≤ 900 := by omega
  have HF0 := Lib.hid h0
  have HB := Lib.hid hB
  clear h1 h2 h3 h4 h5 h6 h7 h8 ho h0 hB
  have q1 : IntKind.i64.wrap (1 + (ne : Int)) = 1 + (ne : Int) := IntWalk.i64_in _ (by omega)
  have k0 := K0.out.cell
  go_enter Try.func57, Try.ntmps57
  go_wp2_with fail
  clear k0
  have G0 : Hid (Below B w w) := Below.refl _ _
  go_loopw [12] (fun i wr => ∃ (k : Nat) (E : List Pl.Edg), k ≤ ne + 1 ∧ i = .int .i64 k ∧ Hid (E.map Pl.shp = E0.map Pl.shp) ∧ Hid (Pl.Flo E src place n k) ∧ Hid (Blk wr gf 130 #[.slice Ae ne ce, .int .i64 place, .slice (some ⟨gs, 0, none⟩) n n, .int .i64 n]) ∧ Hid (wr.ownsRow (gf + 1) 132 5 (.slice Ae ne ce) ne (E.flatMap edgC)) ∧ Hid (Blk wr gs 4 (bools src).toArray) ∧ Hid (Below B w wr)) (fun i _ => ne + 1 - (intOf i).toNat)
  case atStart => exact ⟨0, E0, Nat.zero_le _, rfl, rfl, HF0, K0, O0, S0, G0⟩
  case round =>
    clear K0 O0 S0 G0
    obtain ⟨k, E, hk, rfl, HSH, HFL, KR, OR, SR, GR⟩ := hrel
    by_cases hkn : k < ne + 1
    · have hlen := (HX.out E E HSH.out).2
      have HOK := Lib.hid (HX.out E E HSH.out).1
      have HS := Lib.hid (search_any gf E src place n wr (HFI.out wr E k KR.out OR.out hlen SR.out HFL.out) HOK.out)
      go_wp2_with fail
      refine HS.out.mono ?_
      rintro e w1 ⟨g4, by_, at_, rfl, hg4, hi4, hs4, hb4⟩
      have K1 := Lib.hid (KR.out.go hb4)
      have O1 := Lib.hid (own_go OR.out hb4)
      have S1 := Lib.hid (SR.out.go hb4)
      have G1 : Hid (Below B w w1) := GR.out.trans (hb4.mono (Nat.le_trans HB.out GR.out.size))
      have HG4 : Hid (gf < g4 ∧ g4 ≠ gs ∧ some g4 ≠ (Value.slice Ae ne ce).ownBlock) := ⟨by have := KR.out.lt; omega, by have := SR.out.lt; omega, own_ne OR.out (.inr hg4)⟩
      have I1 := Lib.hid hi4
      have HS4 := Lib.hid hs4
      clear hg4 hi4 hs4 hb4 HS KR OR SR GR
      by_cases hat : at_ < 0
      · have hit := (Pl.Searched.iff HS4.out).1 hat
        have HIT := Lib.hid hit
        clear hit
        go_wp2_with fail
        go_ret
        exact ⟨E, true, rfl, ⟨Ae, gs, ne, ce, K1.out, O1.out, hlen, S1.out, HNG.out, HGS.out.1, HL.out, HGS.out.2⟩, ⟨HSH.out, k, HFL.out, by rw [if_pos rfl]; exact ⟨by have := HE.out; omega, HIT.out⟩⟩, G1.out⟩
      · obtain ⟨o, ht, hs⟩ := HS4.out
        have hs : at_ ∈ o ∧ src[at_.toNat]? = some true := by rcases hs with ⟨h, _⟩ | h; omega; exact h
        have HT := Lib.hid ht
        have HSO := Lib.hid hs
        obtain ⟨ix, hix⟩ := Pl.Aug.start (by_ := by_) HFL.out hs.1
        have A1 := Lib.hid hix
        clear ht hs hix HS4
        go_wp2_with fail
        generalize decide (at_ < 0) = bz at *
        clear hat
        go_loopg [4] ix (fun gg v wr => ∃ (at2 : Int) (i : Nat) (E2 : List Pl.Edg), i ≤ gg ∧ v = .int .i64 at2 ∧ Hid (Pl.Aug E by_ o at_ E2 i at2) ∧ Hid (Blk wr gf 130 #[.slice Ae ne ce, .int .i64 place, .slice (some ⟨gs, 0, none⟩) n n, .int .i64 n]) ∧ Hid (wr.ownsRow (gf + 1) 132 5 (.slice Ae ne ce) ne (E2.flatMap edgC)) ∧ Hid (Blk wr gs 4 (bools src).toArray) ∧ Hid (IBlk wr g4 3 by_) ∧ Hid (Below B w wr))
        case atStart => exact ⟨_, ix, E, Nat.le_refl _, rfl, A1, K1, O1, S1, I1, G1⟩
        case round =>
          clear A1 K1 O1 S1 I1 G1
          obtain ⟨at2, i, E2, hi, rfl, AR, KR, OR, SR, IR, GR⟩ := hrel
          by_cases hpl : at2 = place
          · have hkf := KR.out.cell
            rw [hpl] at AR
            have HD := Lib.hid (AR.out.done HFL.out HSO.out.2)
            have HSH2 : Hid (E2.map Pl.shp = E0.map Pl.shp) := AR.out.shp.trans HSH.out
            have hpe : (at2 != place) = false := by simp [hpl]
            clear hpl
            go_wp2_with fail
            go_roundw
            case rel => exact ⟨k + 1, E2, by omega, by go_num, HSH2, HD, KR, OR, SR, GR⟩
            case measure => simp [intOf]; omega
          · obtain ⟨ek, ed, hby, hed, hfb, hc1, hc2⟩ := Pl.Aug.step HT.out HOK.out AR.out hpl
            have hin := HT.out.inn at2 (List.mem_of_getElem? AR.out.here)
            have hE2 : E2.length = ne := (HX.out E2 E2 (AR.out.shp.trans HSH.out)).2
            have hek : ek < ne := by have := (List.getElem?_eq_some_iff.1 hed).1; omega
            obtain ⟨ge, cap, hv, hge1, hge2⟩ := OR.out.form (by omega)
            injection hv with hv1 hv2 hv3
            subst hv1
            subst hv3
            have hlE := hE2
            have HRD : Hid (Elems edgC 5 wr wr.heap.size (some ⟨ge, 0, none⟩) ne E2) := ⟨Reads.of_own OR.out, hE2⟩
            obtain ⟨be, oe, hae, hle, q0, q1', q2, q3, q4⟩ := edg_at HRD.out hek
            injection hae with hae
            injection hae with hb1 hb2
            subst hb1 hb2
            have hedk : E2[ek] = ed := by rw [List.getElem?_eq_getElem hle] at hed; injection hed
            rw [hedk] at q0 q1' q2 q3 q4
            have hby2 := IR.out.cell at2.toNat (by rw [HT.out.len]; omega)
            have hbg : by_.getD at2.toNat 0 = (ek : Int) := by rw [List.getD_eq_getElem?_getD, hby]; rfl
            rw [hbg] at hby2
            have hkf := KR.out.cell
            obtain ⟨cur, hcur⟩ := Srt.own_blkc OR.out
            have hfz := hcur.frozen
            have HED := Lib.hid hed
            have HC1 := Lib.hid hc1
            have HC2 := Lib.hid hc2
            have HES := Lib.hid (fun x => edges_set E2 ek ed hed x)
            have HCU := Lib.hid hcur
            have hpl2 : (at2 != place) = true := by simp [hpl]
            have hi0 := hin.1
            have hi1 := hin.2
            have ha2 : (at2.toNat : Int) = at2 := by omega
            have he0 : (0 : Int) ≤ (ek : Int) := by omega
            have he1 : (ek : Int) < (ne : Int) := by omega
            have w1' : IntKind.i64.wrap (ed.flow + 1) = ed.flow + 1 := IntWalk.i64_in _ (by omega)
            have w2' : IntKind.i64.wrap (ed.flow - 1) = ed.flow - 1 := IntWalk.i64_in _ (by omega)
            clear hedk hby hbg hed hc1 hc2 hcur hpl hin hfb hle hE2 hlE
            generalize hed0 : ed.flow = fl at *
            obtain ⟨ea, eb, enm, ebr, efl⟩ := ed
            simp only at *
            go_wp2_with fail
            go_quiet (fail)
            have K2 := Lib.hid (KR.out.drewN nq)
            have O2 := Lib.hid (own_go OR.out (below_drewN_s (Below.refl wr.heap.size wr) nq))
            have S2 := Lib.hid (SR.out.drewN nq)
            have I2 := Lib.hid (Blk.drewN IR.out nq)
            have G2 := Lib.hid (below_drewN_s GR.out nq)
            have C2 := Lib.hid (HCU.out.drewN nq)
            have R2 := Lib.hid (HRD.out.below (below_drewN_s (Below.refl wr.heap.size wr) nq))
            clear q0 q1' q2 q3 q4 hfz hkf hby2 KR OR SR IR GR HCU HRD
            obtain ⟨be, oe, hae, hle, q0, q1', q2, q3, q4⟩ := edg_at R2.out (by omega : ek < ne)
            injection hae with hae
            injection hae with hb1 hb2
            subst hb1 hb2
            have hedk : E2[ek] = ⟨ea, eb, enm, ebr, efl⟩ := by have := HED.out; rw [List.getElem?_eq_getElem hle] at this; injection this
            rw [hedk] at q0 q1' q2 q3 q4
            simp only [Nat.zero_add] at q0 q1' q2 q3 q4
            clear hedk hle
            have hfz := C2.out.frozen
            have hge3 : ge < (wr.drewN nq).heap.size := C2.out.lt
            generalize wr.drewN nq = w2 at *
            subst hed0
            by_cases heb : eb = at2
            · obtain ⟨j, hj, HA⟩ := HC1.out heb
              have hbq : (eb == at2) = true := by simp [heb]
              have HEB := Lib.hid heb
              have HAJ := Lib.hid HA
              clear HA heb HC1 HC2
              have KS := Lib.hid (K2.out.far (p := ⟨ge, ek * 5 + 4, none⟩) (by show gf ≠ ge; omega) (.int .i64 (efl + 1)))
              have OS := Lib.hid (own_set O2.out (ek * 5 + 4) (.int .i64 (efl + 1)))
              have SS := Lib.hid (S2.out.far (p := ⟨ge, ek * 5 + 4, none⟩) (fun e => HNG.out (by rw [e]; rfl)) (.int .i64 (efl + 1)))
              have IS := Lib.hid (I2.out.far (p := ⟨ge, ek * 5 + 4, none⟩) (fun e => HG4.out.2.2 (by rw [e]; rfl)) (.int .i64 (efl + 1)))
              have GS := Lib.hid (G2.out.setCell (p := ⟨ge, ek * 5 + 4, none⟩) (by show B ≤ ge; have := HGS.out; omega) (.int .i64 (efl + 1)))
              rw [HES.out] at OS
              have xcur := C2.out.set_ (ek * 5 + 4) (.int .i64 (efl + 1))
              go_wp2_with fail
              go_roundg j
              case rel => exact ⟨ea, j, _, Nat.le_refl _, rfl, HAJ, KS, OS, SS, IS, GS⟩
              case measure => omega
            · obtain ⟨j, hj, HA⟩ := HC2.out heb
              have hbq : (eb == at2) = false := by simp [heb]
              have HAJ := Lib.hid HA
              clear HA heb HC1 HC2
              have KS := Lib.hid (K2.out.far (p := ⟨ge, ek * 5 + 4, none⟩) (by show gf ≠ ge; omega) (.int .i64 (efl - 1)))
              have OS := Lib.hid (own_set O2.out (ek * 5 + 4) (.int .i64 (efl - 1)))
              have SS := Lib.hid (S2.out.far (p := ⟨ge, ek * 5 + 4, none⟩) (fun e => HNG.out (by rw [e]; rfl)) (.int .i64 (efl - 1)))
              have IS := Lib.hid (I2.out.far (p := ⟨ge, ek * 5 + 4, none⟩) (fun e => HG4.out.2.2 (by rw [e]; rfl)) (.int .i64 (efl - 1)))
              have GS := Lib.hid (G2.out.setCell (p := ⟨ge, ek * 5 + 4, none⟩) (by show B ≤ ge; have := HGS.out; omega) (.int .i64 (efl - 1)))
              rw [HES.out] at OS
              have xcur := C2.out.set_ (ek * 5 + 4) (.int .i64 (efl - 1))
              go_wp2_with fail
              go_roundg j
              case rel => exact ⟨eb, j, _, Nat.le_refl _, rfl, HAJ, KS, OS, SS, IS, GS⟩
              case measure => omega
    · have hke : k = ne + 1 := by omega
      rw [hke] at HFL
      clear hke
      have hlen := (HX.out E E HSH.out).2
      go_wp2_with fail
      go_ret
      exact ⟨E, false, rfl, ⟨Ae, gs, ne, ce, KR.out, OR.out, hlen, SR.out, HNG.out, HGS.out.1, HL.out, HGS.out.2⟩, ⟨HSH.out, ne + 1, HFL.out, by rw [if_neg (by simp)]; have := HE.out; omega⟩, GR.out⟩
end Go.Proofs.Ytpamgeemmbbkkaa
