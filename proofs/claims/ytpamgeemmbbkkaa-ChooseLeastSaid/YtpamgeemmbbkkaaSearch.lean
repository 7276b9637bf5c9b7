/- The search for a source from the place of a fault gives a tree of reached nodes, as the plain law says. Condition: the field lies in memory, its edges join nodes. -/
import Derived.Deep.LoopGhost
import Derived.Test.YtpamgeemmbbkkaaQueue
import Derived.Test.YtpamgeemmbbkkaaField
namespace Go.Proofs.Ytpamgeemmbbkkaa
open Go.RowKit
set_option maxRecDepth 100000
/-- what search leaves -/
def SearchSaid (E : List Pl.Edg) (src : List Bool) (place : Int) (n : Nat) (w : World) : Ending → World → Prop :=
  fun e w' => ∃ (g : Nat) (by_ : List Int) (at_ : Int), e = .returned (.tuple #[.slice (some ⟨g, 0, none⟩) n n, .int .i64 at_]) ∧ w.heap.size ≤ g ∧ IBlk w' g 3 by_ ∧ Pl.Searched E src place n by_ at_ ∧ Below w.heap.size w w'
set_option maxHeartbeats 6400000 in
theorem search_any (gf : Nat) (E : List Pl.Edg) (src : List Bool) (place : Int) (n : Nat) (w : World) (hf : FieldIn w w.heap.size gf E src place n) (ho : Pl.FieldOk E place n) :
    Calls Try.prog 36 #[.pointer (some ⟨gf, 0, none⟩)] w (SearchSaid E src place n w) := by
  obtain ⟨⟨Ae, As, ne, ce, cs, hblk, hE, hS⟩, hlt, hfew, hnn, hfl⟩ := hf
  have hn1 : 1 ≤ n := by have := ho.place; omega
  have hne : ne ≤ 1000 := by have := hE.2; omega
  have HB := Lib.hid hblk
  have HE := Lib.hid hE
  have HS := Lib.hid hS
  have HO := Lib.hid ho
  have HFL := Lib.hid hfl
  have HEL := Lib.hid hE.2
  have HSL := Lib.hid (bools_len hS)
  have hp0 := ho.place.1
  have hp1 := ho.place.2
  clear hE hS ho hfew hfl
  have k0 := hblk.cell
  go_enter Try.func36, Try.ntmps36
  go_wp2_with fail
  refine (repI_any (-1) w.heap.size n hn1 (by omega) _ (by simp)).mono ?_
  rintro e w1 ⟨g4, rfl, hg4, hi4, hb4⟩
  have hg5 : w.heap.size + 1 ≤ g4 := by simpa using hg4
  have F1 := Lib.hid (((Below.refl w.heap.size w).alloc (Nat.le_refl _) (.cells #[.int .i64 (-1)] 3)).trans (hb4.mono (by simp)))
  have I1 := Lib.hid hi4
  have B1 := Lib.hid (HB.out.below F1.out hlt)
  clear hg4 hi4 hb4 k0
  have k0 := B1.out.cell
  have hfz := I1.out.frozen
  have c4 := I1.out.cell place.toNat (by simp; omega)
  have hpn : (place.toNat : Int) = place := by omega
  go_wp2_with fail
  have I2 := Lib.hid (I1.out.set_ place.toNat (-2))
  have F2 := Lib.hid (F1.out.setCell (p := ⟨g4, place.toNat, none⟩) (by show _ ≤ g4; omega) (.int .i64 (-2)))
  have I3 := Lib.hid (I2.out.alloc (.cells #[.int .i64 place] 3))
  have F3 := Lib.hid (F2.out.alloc F2.out.size (.cells #[.int .i64 place] 3))
  have Q3 := Lib.hid (QIn.new_ (w1.setCell ⟨g4, place.toNat, none⟩ (.int .i64 (-2))) place w1.heap.size (by simp))
  have T3 := Lib.hid (Pl.Tree.start (E := E) (place := place) (n := n) ⟨hp0, hp1⟩)
  have D3 : Hid (Pl.Done E src [place] 0) := fun i u hi => absurd hi (by omega)
  have HG4 : Hid (w.heap.size ≤ g4) := by show _ ≤ _; omega
  have HQ4 : Hid (w.heap.size ≤ w1.heap.size) := F1.out.size
  have HNE : Hid (w1.heap.size ≠ g4) := by show _ ≠ _; have := I1.out.lt; omega
  clear I2 F2 I1 F1 B1 k0 hfz c4 hpn
  go_loopg [5] n (fun gg v wr => ∃ (by_ o : List Int) (d gt : Nat), d ≤ o.length ∧ n - d ≤ gg ∧ Hid (QIn wr gt v (o.drop d)) ∧ Hid (w.heap.size ≤ gt) ∧ Hid (gt ≠ g4) ∧ Hid (IBlk wr g4 3 by_) ∧ Hid (Pl.Tree E place n by_ o) ∧ Hid (Pl.Done E src o d) ∧ Hid (Below w.heap.size w wr))
  case atStart => exact ⟨_, _, 0, _, Nat.zero_le _, by omega, Q3.out, HQ4.out, HNE.out, I3.out, T3.out, D3.out, F3.out⟩
  case round =>
    obtain ⟨by_, o, d, gt, hdl, hgg, HQ, Hgt, Hg4, HI, HT, HD, HF⟩ := hrel
    clear I3 F3 Q3 T3 D3 HQ4 HNE
    have ho := HT.out.short
    by_cases hd : d < o.length
    · have hdr : o.drop d = o[d] :: o.drop (d + 1) := List.drop_eq_getElem_cons hd
      rw [hdr] at HQ
      have hat := HT.out.inn o[d] (List.getElem_mem hd)
      have hod : o[d]? = some o[d] := List.getElem?_eq_getElem hd
      have HOD := Lib.hid hod
      clear hdr hod
      generalize o[d] = at_ at *
      obtain ⟨oq, vq, hix, c0, hsl, hq2⟩ := HQ.out.front
      have hln := HQ.out.len
      have HQ2 := Lib.hid hq2
      have hlen0 : (0 : Int) < (((at_ :: o.drop (d + 1)).length : Nat) : Int) := by simp
      generalize (at_ :: o.drop (d + 1)).length = qn at *
      clear hq2 HQ
      have Br := Lib.hid (HB.out.below HF.out hlt)
      have k0 := Br.out.cell
      obtain ⟨bs, os, rfl, _, hls, cs0⟩ := bools_at (HS.out.below HF.out) (k := at_.toNat) (by omega)
      have hpa : (at_.toNat : Int) = at_ := by omega
      have hsa : src[at_.toNat]? = some src[at_.toNat] := List.getElem?_eq_getElem hls
      cases hsb : src[at_.toNat]
      · rw [hsb] at hsa cs0
        have HSA := Lib.hid hsa
        clear hsa hsb
        go_wp2_with fail
        clear hix c0 hsl hln cs0 k0 hlen0
        generalize decide (0 < qn) = b29
        have BrH := Lib.hid Br.out
        have hoo : at_ ∈ o := List.mem_of_getElem? HOD.out
        have ha0 := hat.1
        have ha1 := hat.2
        clear hat
        go_loopw [5, 49] (fun v i wr => ∃ (k : Nat) (by2 o2 : List Int) (gt2 : Nat), k ≤ ne ∧ i = .int .i64 k ∧ Hid (QIn wr gt2 v (o2.drop (d + 1))) ∧ Hid (w.heap.size ≤ gt2) ∧ Hid (gt2 ≠ g4) ∧ Hid (IBlk wr g4 3 by2) ∧ Hid (Pl.Tree E place n by2 o2) ∧ Hid (d < o2.length ∧ o2[d]? = some at_ ∧ Pl.Done E src o2 d ∧ (∀ j e, j < k → E[j]? = some e → ∀ v, Pl.Leads e at_ v → v ∈ o2)) ∧ Hid (Below w.heap.size w wr)) (fun _ i _ => ne - (intOf i).toNat)
        case atStart => exact ⟨0, by_, o, gt, Nat.zero_le _, rfl, HQ2.out, Hgt.out, Hg4.out, HI.out, HT.out, ⟨hd, HOD.out, HD.out, fun j e hj => absurd hj (by omega)⟩, HF.out⟩
        case round =>
          obtain ⟨k, by2, o2, gt2, hk, rfl, HQr, Hgr, Hg4r, HIr, HTr, HDr, HFr⟩ := hrel
          clear HQ2 Hgt Hg4 HI HT HD HF HOD hoo Br BrH
          by_cases hlt2 : k < ne
          · obtain ⟨be, oe, rfl, hle, q0, q1, q2, q3, q4⟩ := edg_at (HE.out.below HFr.out) hlt2
            have HEK : Hid (E[k]? = some E[k]) := List.getElem?_eq_getElem hle
            obtain ⟨ea0, ea1, eb0, eb1, eab⟩ := HO.out.ends E[k] (List.getElem_mem hle)
            have hfe := HFL.out E[k] (List.getElem_mem hle)
            have HRM := Lib.hid (fun (W : World) => room_any (.pointer (some ⟨gf, 0, none⟩)) E[k] at_ W hfe)
            clear hfe
            generalize E[k] = ed at *
            have HSC : Hid (∀ o3 : List Int, (∀ v ∈ o2, v ∈ o3) → (∀ v, Pl.Leads ed at_ v → v ∈ o3) → ∀ j e, j < k + 1 → E[j]? = some e → ∀ v, Pl.Leads e at_ v → v ∈ o3) := by
              intro o3 h3 h j e hj he v hv
              by_cases hjk : j = k
              · subst hjk
                rw [HEK.out] at he
                injection he with he
                subst he
                exact h v hv
              · exact h3 v (HDr.out.2.2.2 j e (by omega) he v hv)
            have HLE : Hid (∀ v, Pl.Leads ed at_ v → (ed.a = at_ ∨ ed.b = at_) ∧ v = ed.a + ed.b - at_ ∧ 0 < Pl.roomE ed at_) := by
              intro v hv
              exact ⟨by rcases hv.1 with h | h <;> omega, Pl.roomE_other hv, hv.2⟩
            have HLM : Hid ((ed.a = at_ ∨ ed.b = at_) → 0 < Pl.roomE ed at_ → Pl.Leads ed at_ (ed.a + ed.b - at_)) := by
              intro h hr
              exact ⟨by rcases h with h | h <;> omega, hr⟩
            have hlb : wr.heap.size < wr.heap.size + 1 := Nat.lt_succ_self _
            have Ab := Lib.hid ((Below.refl wr.heap.size wr).alloc (Nat.le_refl _) (.cells #[.int .i64 ed.a, .int .i64 ed.b, .string ed.name, .bool ed.breaker, .int .i64 ed.flow] 132))
            have Fb := Lib.hid (HFr.out.alloc HFr.out.size (.cells #[.int .i64 ed.a, .int .i64 ed.b, .string ed.name, .bool ed.breaker, .int .i64 ed.flow] 132))
            have Qb := Lib.hid (HQr.out.go Ab.out)
            have Ib := Lib.hid (HIr.out.go Ab.out)
            have Xb := Lib.hid (Blk.new_ wr wr.heap.size 132 #[.int .i64 ed.a, .int .i64 ed.b, .string ed.name, .bool ed.breaker, .int .i64 ed.flow] rfl)
            have Hgx : Hid (wr.heap.size ≠ g4) := by show _ ≠ _; have := HIr.out.lt; omega
            have Hgy : Hid (wr.heap.size ≠ gt2) := by show _ ≠ _; have := HQr.out.lt; omega
            generalize Pl.roomE ed at_ = rm at *
            obtain ⟨ea, eb, enm, ebr, efl⟩ := ed
            simp only at *
            by_cases hts : ea = at_ ∨ eb = at_
            · have hto0 : 0 ≤ ea + eb - at_ := by rcases hts with h | h <;> omega
              have hto1 : ea + eb - at_ < n := by rcases hts with h | h <;> omega
              have hab : IntKind.i64.wrap (ea + eb) = ea + eb := IntWalk.i64_in _ (by omega)
              have HLM2 := Lib.hid (HLM.out hts)
              have HTS : Hid ((ea != at_) = false ∨ ((ea != at_) = true ∧ (eb != at_) = false)) := by
                show _ ∨ _
                by_cases h : ea = at_
                · exact .inl (by rw [bne_eq_false_iff_eq]; exact h)
                · rcases hts with h' | h'
                  · exact absurd h' h
                  · exact .inr ⟨by rw [bne_iff_ne]; exact h, by rw [bne_eq_false_iff_eq]; exact h'⟩
              clear hts HLM
              generalize hte : ea + eb - at_ = to at *
              have htn : (to.toNat : Int) = to := by omega
              have cby := Ib.out.cell to.toNat (by rw [HTr.out.len]; omega)
              have HOUT := Lib.hid (HTr.out.out to.toNat (by omega))
              have hbl : to.toNat < by2.length := by rw [HTr.out.len]; omega
              have HGD : Hid (by2[to.toNat]? = some (by2.getD to.toNat 0)) := by
                show _ = _
                rw [List.getD_eq_getElem?_getD, List.getElem?_eq_getElem hbl]; rfl
              rw [HGD.out] at HOUT
              generalize by2.getD to.toNat 0 = bv at *
              clear hbl
              by_cases hbv : bv = -1
              · subst hbv
                by_cases hrm : 0 < rm
                · have HLD := Lib.hid (HLM2.out hrm)
                  clear HLM2 HOUT
                  have HSC2 : Hid (∀ j e, j < k + 1 → E[j]? = some e → ∀ v, Pl.Leads e at_ v → v ∈ o2 ++ [to]) := HSC.out (o2 ++ [to]) (fun v h => List.mem_append_left _ h) fun v hv => by rw [(HLE.out v hv).2.1]; simp
                  have HTA := Lib.hid (HTr.out.add HEK.out HDr.out.2.1 HLD.out ⟨hto0, hto1⟩ HGD.out)
                  have HDA : Hid (d < (o2 ++ [to]).length ∧ (o2 ++ [to])[d]? = some at_ ∧ Pl.Done E src (o2 ++ [to]) d) := ⟨by have := HDr.out.1; simp; omega, by rw [List.getElem?_append_left HDr.out.1]; exact HDr.out.2.1, HDr.out.2.2.1.add (by have := HDr.out.1; omega) to⟩
                  have HQL : Hid ((o2.drop (d + 1)).length ≤ 1000000) := by show _ ≤ _; have := HTr.out.short; simp; omega
                  have HQD : Hid ((o2 ++ [to]).drop (d + 1) = o2.drop (d + 1) ++ [to]) := List.drop_append_of_le_length HDr.out.1
                  clear HSC HLE HLD HGD
                  rcases HTS.out with h1 | ⟨h1, h2⟩
                  all_goals
                    go_wp2_with fail
                    refine (HRM.out _).mono ?_
                    rintro e w3 ⟨rfl, hb⟩
                    have Qc := Lib.hid (Qb.out.go hb)
                    have Ic := Lib.hid (Ib.out.go hb)
                    have Fc := Lib.hid (Fb.out.trans (hb.mono Fb.out.size))
                    clear hb
                    have hfz := Ic.out.frozen
                    have c6 := Ic.out.cell to.toNat (by rw [HTr.out.len]; omega)
                    have Ae := (Below.refl (w3.setCell ⟨g4, to.toNat, none⟩ (.int .i64 k)).heap.size (w3.setCell ⟨g4, to.toNat, none⟩ (.int .i64 k))).alloc (Nat.le_refl _) (.cells #[.int .i64 to] 3)
                    have Ie := Lib.hid ((Ic.out.set_ to.toNat k).alloc (.cells #[.int .i64 to] 3))
                    have Fd := Fc.out.setCell (p := ⟨g4, to.toNat, none⟩) HG4.out (.int .i64 k)
                    have Fe := Lib.hid (Fd.alloc Fd.size (.cells #[.int .i64 to] 3))
                    obtain ⟨v4, g6, w4, hap, hq4, hgr4, hgg⟩ := ((Qc.out.far (p := ⟨g4, to.toNat, none⟩) Hg4r.out (.int .i64 k)).go Ae).push to w3.heap.size (by rw [(Blk.new_ _ _ _ _ (by simp)).cell]; rfl) HQL.out
                    have Q4 := Lib.hid hq4
                    have I4 := Lib.hid (Ie.out.grown hgr4 (by intro e; injection e with e; exact Hg4r.out e.symm))
                    have F4 := Lib.hid (Fe.out.grown hgr4 Fe.out.size (by rintro j ⟨⟩; exact Hgr.out))
                    have Hg6 : Hid (w.heap.size ≤ g6) := by rcases hgg with h | h <;> rw [h]; exact Hgr.out; exact Fe.out.size
                    have Hg7 : Hid (g6 ≠ g4) := by
                      rcases hgg with h | h <;> rw [h]
                      · exact Hg4r.out
                      · show _ ≠ _
                        have := Ie.out.lt
                        omega
                    clear hq4 hgr4 hgg Fd Ae
                    go_wp2_with (at_builtin; go_must (refine wpList_append_run rfl (.tmp 87) (.tmp 89) 45 rfl _ _ _ rfl rfl hap ?_))
                    go_roundw
                    case rel => exact ⟨k + 1, by2.set to.toNat k, o2 ++ [to], g6, by omega, by go_num, by rw [HQD.out]; exact Q4.out, Hg6.out, Hg7.out, I4.out, HTA.out, ⟨HDA.out.1, HDA.out.2.1, HDA.out.2.2, HSC2.out⟩, F4.out⟩
                    case measure => simp [intOf]; omega
                · have HSC2 := Lib.hid (HSC.out o2 (fun _ h => h) fun v hv => absurd (HLE.out v hv).2.2 hrm)
                  clear HLM2 HOUT HSC HLE HGD
                  rcases HTS.out with h1 | ⟨h1, h2⟩
                  all_goals
                    go_wp2_with fail
                    refine (HRM.out _).mono ?_
                    rintro e w3 ⟨rfl, hb⟩
                    have Qc := Lib.hid (Qb.out.go hb)
                    have Ic := Lib.hid (Ib.out.go hb)
                    have Fc := Lib.hid (Fb.out.trans (hb.mono Fb.out.size))
                    clear hb
                    go_wp2_with fail
                    go_roundw
                    case rel => exact ⟨k + 1, by2, o2, gt2, by omega, by go_num, Qc.out, Hgr.out, Hg4r.out, Ic.out, HTr.out, ⟨HDr.out.1, HDr.out.2.1, HDr.out.2.2.1, HSC2.out⟩, Fc.out⟩
                    case measure => simp [intOf]; omega
              · have hbv2 : (bv == -1) = false := by simpa using hbv
                have hmem : to ∈ o2 := by
                  rcases Classical.em (to ∈ o2) with h | h
                  · exact h
                  · exact absurd (by have := HOUT.out.1 (by rw [htn]; exact h); injection this) hbv
                have HSC2 := Lib.hid (HSC.out o2 (fun _ h => h) fun v hv => by rw [(HLE.out v hv).2.1]; exact hmem)
                clear hmem hbv HOUT HSC HLE HGD HLM2
                rcases HTS.out with h1 | ⟨h1, h2⟩
                all_goals
                  go_wp2_with fail
                  go_roundw
                  case rel => exact ⟨k + 1, by2, o2, gt2, by omega, by go_num, Qb.out, Hgr.out, Hg4r.out, Ib.out, HTr.out, ⟨HDr.out.1, HDr.out.2.1, HDr.out.2.2.1, HSC2.out⟩, Fb.out⟩
                  case measure => simp [intOf]; omega
            · have h1 : (ea != at_) = true := by rw [bne_iff_ne]; exact fun h => hts (.inl h)
              have h2 : (eb != at_) = true := by rw [bne_iff_ne]; exact fun h => hts (.inr h)
              have HSC2 := Lib.hid (HSC.out o2 (fun _ h => h) fun v hv => absurd (HLE.out v hv).1 hts)
              clear hts HSC HLE HLM HRM
              go_wp2_with fail
              go_roundw
              case rel => exact ⟨k + 1, by2, o2, gt2, by omega, by go_num, Qb.out, Hgr.out, Hg4r.out, Ib.out, HTr.out, ⟨HDr.out.1, HDr.out.2.1, HDr.out.2.2.1, HSC2.out⟩, Fb.out⟩
              case measure => simp [intOf]; omega
          · have HDn : Hid (Pl.Done E src o2 (d + 1)) := by
              intro i u hi hu
              by_cases hid : i = d
              · subst hid
                rw [HDr.out.2.1] at hu
                injection hu with hu
                subst hu
                refine ⟨HSA.out, fun e he v hv => ?_⟩
                obtain ⟨j, hj, e2⟩ := List.getElem_of_mem he
                exact HDr.out.2.2.2 j e (by have := HEL.out; omega) (by rw [← e2]; exact List.getElem?_eq_getElem hj) v hv
              · exact HDr.out.2.2.1 i u (by omega) hu
            have ho2 := HTr.out.short
            go_wp2_with fail
            go_roundg (n - (d + 1))
            case rel => exact ⟨by2, o2, d + 1, gt2, HDr.out.1, Nat.le_refl _, HQr.out, Hgr.out, Hg4r.out, HIr.out, HTr.out, HDn.out, HFr.out⟩
            case measure => omega
      · rw [hsb] at hsa cs0
        have HSA := Lib.hid hsa
        clear hsa hsb
        go_wp2_with fail
        go_ret2
        exact ⟨g4, by_, at_, rfl, HG4.out, HI.out, ⟨o, HT.out, .inr ⟨List.mem_of_getElem? HOD.out, HSA.out⟩⟩, HF.out⟩
    · have hde : d = o.length := by omega
      have hq0 : o.drop d = [] := List.drop_of_length_le (by omega)
      rw [hq0] at HQ
      have hln := HQ.out.len
      simp only [List.length_nil] at hln
      clear hq0
      have HDE := Lib.hid hde
      clear hde
      go_wp2_with fail
      go_ret2
      exact ⟨g4, by_, -1, rfl, HG4.out, HI.out, ⟨o, HT.out, .inl ⟨rfl, by rw [← HDE.out]; exact HD.out⟩⟩, HF.out⟩
end Go.Proofs.Ytpamgeemmbbkkaa
