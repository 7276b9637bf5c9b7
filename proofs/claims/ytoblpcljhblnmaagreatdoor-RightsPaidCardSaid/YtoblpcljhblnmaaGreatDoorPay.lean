/- rights.payout, rights.Payout: what rights pay. Condition: the network, the rights and the prices read. matrix.TextVec, rights.Payout. Condition: the numbers read; the network, the rights and the prices read. -/
import Derived.Test.YtoblpcljhblnmaaGreatDoorRights
import Derived.Test.YtoblpcljhblnmaaGreatDoorRatQ
namespace Go.Proofs.YtoblpcljhblnmaaGreatDoor
open Go.RowKit
set_option maxRecDepth 100000
theorem step_append_run9 {P : Program} {ops : Array Oper} {o : Oper} {a : Act} {K : Act → World → Prop} {Q : Exit → Act → World → Prop} {E : Prop} {w w' : World} (hgd : o.guard = none) (s x : Operand) (t : TypeId)
    (hop : o.op = Op.call { callee := Callee.builtin Builtin.append, args := #[s, x], argTypes := #[t, t] }) (v y v' : Value) (hs : a.eval s = v) (hx : a.eval x = y)
    (hr : ∀ ty, (Builtin.append_ #[t, t] ty #[v, y]).run P w = .ok v' w') (h : K (a.put o.dst v') w') : if Region.wanted o (yielded ops a.tmps) = true then Oper.wp P o a w K Q else E := by
  have hw : Region.wanted o (yielded ops a.tmps) = true := by simp [Region.wanted, hgd]
  rw [if_pos hw]
  unfold Oper.wp
  simp [execOp, hop, resolve, invoke, builtin, hs, hx, hr, Result.andThen]
  exact h
/-- all these numbers lie in memory -/
def EachR (w : World) (L : List (Rat × Rt)) : Prop := ∀ x ∈ L, RatIs w w.heap.size x.1 x.2
theorem EachR.go {w w' : World} {L : List (Rat × Rt)} (h : EachR w L) (hb : Below w.heap.size w w') : EachR w' L := fun x hx => (h x hx).go hb
theorem Pl.rats_allP : ∀ {ls : List (List UInt8)}, Pl.ratsE ls = 0 → ∃ rs : List Rat, ls = rs.map Pl.ratTxt ∧ ∀ q ∈ rs, Pl.Fits q
  | [], _ => ⟨[], rfl, fun q hq => by cases hq⟩
  | l :: ls, h => by
    have h1 := Pl.ratsE_ok.1 h
    obtain ⟨q, hq, fq⟩ := Pl.ratE_ok.1 (h1 l (by simp))
    obtain ⟨rs, hrs, fs⟩ := Pl.rats_allP (ls := ls) (Pl.ratsE_ok.2 fun x hx => h1 x (List.mem_cons_of_mem _ hx))
    refine ⟨q :: rs, by rw [hq, hrs, List.map_cons], fun x hx => ?_⟩
    rcases List.mem_cons.1 hx with rfl | hx
    · exact fq
    · exact fs x hx
/-- what one right pays -/
def Pl.pay (N : Pl.Net) (bus : List Int) (ps : List Rat) (r : Pl.RI) : Rat := (ps.getD (Pl.lab bus (Pl.nodeAt N.nodes r.to_)).toNat 0 - ps.getD (Pl.lab bus (Pl.nodeAt N.nodes r.from_)).toNat 0) * (r.power : Rat)
theorem riE_ok {N : Pl.Net} {r : Pl.RI} (h : Pl.riE N r = 0) : r.from_ ∈ N.nodes ∧ r.to_ ∈ N.nodes ∧ 1 ≤ r.power ∧ r.power ≤ 100000 := by
  unfold Pl.riE at h
  split at h
  · omega
  · rename_i h1
    split at h
    · omega
    · rename_i h2
      have a1 : Pl.inB N.nodes r.from_ = true := by
        cases hh : Pl.inB N.nodes r.from_ with
        | true => rfl
        | false => exact absurd (.inl hh) h1
      have a2 : Pl.inB N.nodes r.to_ = true := by
        cases hh : Pl.inB N.nodes r.to_ with
        | true => rfl
        | false => exact absurd (.inr hh) h1
      exact ⟨Pl.inB_iff.1 a1, Pl.inB_iff.1 a2, by omega, by omega⟩
theorem rightsE_ok {N : Pl.Net} {l : List Pl.RI} (h : Pl.rightsE N l = 0) : Pl.netE N = 0 ∧ l.length ≤ 12 ∧ Pl.risE N l = 0 := by
  unfold Pl.rightsE at h
  split at h
  · rename_i h1; exact absurd h h1
  · rename_i h1
    split at h
    · omega
    · exact ⟨by simpa using h1, by omega, h⟩
theorem rb_at9 {w : World} {gp : Nat} {Lp : List (Rat × Rt)} (h : Blk w gp 105 (rtl (Lp.map (·.2) ++ List.replicate 0 rt0)).toArray) {k : Nat} (hk : k < Lp.length) : w.cell? ⟨gp, k * 4, none⟩ = some (.bool Lp[k].2.N.b) ∧ w.cell? ⟨gp, k * 4 + 1, none⟩ = some (.slice Lp[k].2.N.A Lp[k].2.N.n Lp[k].2.N.c) ∧ w.cell? ⟨gp, k * 4 + 2, none⟩ = some (.bool Lp[k].2.D.b) ∧ w.cell? ⟨gp, k * 4 + 3, none⟩ = some (.slice Lp[k].2.D.A Lp[k].2.D.n Lp[k].2.D.c) := by
  have h1 := RB.at_ (g := gp) (l := Lp.map (·.2) ++ List.replicate 0 rt0) h (k := k) (by simpa using hk)
  rw [List.getElem_append_left (by simpa using hk)] at h1
  simpa using h1
/-- what rights.payout returns, if rights.Check answers RE -/
def PaySaidE (RE : Int) (N : Pl.Net) (l : List Pl.RI) (ls : List (List UInt8)) (w : World) (e : Ending) (w' : World) : Prop :=
  ((RE ≠ 0 ∧ e = .returned (.tuple #[.slice none 0 0, .int .i64 RE])) ∨
    (RE = 0 ∧ ∃ bus isl mb mi, Pl.TopOk N bus isl mb mi ∧
      ((ls.length ≠ mb ∧ e = .returned (.tuple #[.slice none 0 0, .int .i64 3])) ∨ (ls.length = mb ∧ Pl.ratsE ls ≠ 0 ∧ e = .returned (.tuple #[.slice none 0 0, .int .i64 (Pl.ratsE ls)])) ∨
        (∃ (ps : List Rat) (A : Option Addr) (c : Nat) (L : List (Rat × Rt)), ls = ps.map Pl.ratTxt ∧ ps.length = mb ∧ (∀ q ∈ ps, Pl.Fits q) ∧ e = .returned (.tuple #[.slice A l.length c, .int .i64 0]) ∧ RatsIs w' w'.heap.size A l.length L ∧ L.map (·.1) = l.map (Pl.pay N bus ps))))) ∧ Below w.heap.size w w'
def PaySaid (N : Pl.Net) (l : List Pl.RI) (ls : List (List UInt8)) (w : World) (e : Ending) (w' : World) : Prop := PaySaidE (Pl.rightsE N l) N l ls w e w'
set_option maxHeartbeats 12800000 in
theorem payout_any (M : MNet) (A : Option Addr) (n c : Nat) (l : List Pl.RI) (P : Option Addr) (np cp : Nat) (ls : List (List UInt8)) (w : World) (hM : NetIn w w.heap.size M) (hl : Elems riC 3 w w.heap.size A n l) (hn : n ≤ 9223372036854775807)
    (hr : Reads w w.heap.size 1 P np (txs ls)) (hnp : np ≤ 9223372036854775807) (hs : ∀ s ∈ ls, s.length ≤ 9223372036854775807) (hv : LV w) :
    Calls Tryz.prog 38 #[vNet M, .slice A n c, .slice P np cp] w (PaySaid M.N l ls w) := by
  have HCK := Lib.hid (fun (W : World) (h : NetIn W W.heap.size M) (h2 : Elems riC 3 W W.heap.size A n l) => rightschk_any M A n c l W h h2 hn)
  have HTG := Lib.hid (fun (W : World) (h : NetIn W W.heap.size M) (hok : Pl.NetOk M.N) => topget_any M W h hok)
  have HL := Lib.hid hl
  have HLN := Lib.hid hl.2
  have HR := Lib.hid hr
  have HPN := Lib.hid (txs_len hr)
  have HS := Lib.hid hs
  have HV := Lib.hid hv
  have HL0 := Lib.hid (txts_len hM.r0)
  obtain ⟨N, A0, n0, c0, A1, n1, c1, A2, n2, c2, A3, n3, c3, A4, n4, c4, A5, n5, c5⟩ := M
  unfold vNet netC at *
  simp only at *
  have z0 : n0 ≤ 9223372036854775807 := hM.z0
  have hA := Blk.new_ w w.heap.size 29 #[.slice A0 n0 c0, .slice A1 n1 c1, .slice A2 n2 c2, .slice A3 n3 c3, .slice A4 n4 c4, .slice A5 n5 c5] rfl
  have hD := (Below.refl w.heap.size w).alloc (Nat.le_refl _) (.cells #[.slice A0 n0 c0, .slice A1 n1 c1, .slice A2 n2 c2, .slice A3 n3 c3, .slice A4 n4 c4, .slice A5 n5 c5] 29)
  have BN := Lib.hid hA
  have HM := Lib.hid (hM.go hD)
  have D := Lib.hid hD
  have ca := hA.cell
  have la := hA.lt
  unfold PaySaid
  obtain ⟨RE, hRE⟩ : ∃ E, E = Pl.rightsE N l := ⟨_, rfl⟩
  rw [← hRE] at HCK ⊢
  have HRE := Lib.hid hRE
  clear hM hA hD hl hRE hr hs hv
  go_enter Tryz.func38, Tryz.ntmps38
  go_wp2_with fail
  obtain ⟨bn, hbn⟩ : ∃ bn : Nat, bn = w.heap.size := ⟨_, rfl⟩
  rw [← hbn] at BN ⊢
  clear ca la hbn
  generalize w.alloc (.cells #[.slice A0 n0 c0, .slice A1 n1 c1, .slice A2 n2 c2, .slice A3 n3 c3, .slice A4 n4 c4, .slice A5 n5 c5] 29) = w1 at *
  refine (HCK.out w1 HM.out (HL.out.go D.out)).mono ?_
  rintro e w2 ⟨rfl, hb5⟩
  replace BN := Lib.hid (BN.out.go hb5)
  replace HM := Lib.hid (HM.out.go hb5)
  replace D := Lib.hid (D.out.trans (hb5.mono D.out.size))
  clear hb5 HCK
  by_cases h0 : RE ≠ 0
  · have e1 : (RE != 0) = true := by simpa using h0
    have H0 := Lib.hid h0
    clear h0
    go_wp2_with fail
    go_ret2
    exact ⟨.inl ⟨H0.out, rfl⟩, D.out⟩
  have h0' : RE = 0 := by simpa using h0
  subst h0'
  obtain ⟨hn0, hl12, hri⟩ := rightsE_ok HRE.out.symm
  have hok := Pl.netE_ok hn0
  have HOK := Lib.hid hok
  have HRI : Hid (∀ r ∈ l, Pl.riE N r = 0) := Pl.risE_all hri
  have hn12 : n ≤ 12 := by have := HLN.out; omega
  have cbn := BN.out.cell
  have lbn := BN.out.lt
  clear h0 hn0 hl12 hri HRE
  go_wp2_with fail
  clear cbn lbn
  refine (HTG.out w2 HM.out hok).mono ?_
  rintro e w3 ⟨gb, gi, bus, isl, mb, mi, rfl, hib, hii, htop, hb5⟩
  have HTOP := Lib.hid htop
  have IB := Lib.hid hib
  have lgb := hib.lt
  replace BN := Lib.hid (BN.out.go hb5)
  replace HM := Lib.hid (HM.out.go hb5)
  replace D := Lib.hid (D.out.trans (hb5.mono D.out.size))
  clear hb5 hib hii htop HTG hok
  have hb5 := below_oneS w3 (.cells #[.slice (some ⟨gb, 0, none⟩) n0 n0, .slice (some ⟨gi, 0, none⟩) mb mb] 170)
  have BT := Lib.hid (Blk.new_ w3 w3.heap.size 170 #[.slice (some ⟨gb, 0, none⟩) n0 n0, .slice (some ⟨gi, 0, none⟩) mb mb] rfl)
  have cbt := BT.out.cell
  have lbt := BT.out.lt
  replace BN := Lib.hid (BN.out.go hb5)
  replace HM := Lib.hid (HM.out.go hb5)
  replace IB := Lib.hid (IB.out.go hb5)
  replace D := Lib.hid (D.out.trans (hb5.mono D.out.size))
  clear hb5
  by_cases hm : np ≠ mb
  · have e1 : ((np : Int) != (mb : Int)) = true := by rw [bne_iff_ne]; omega
    have HMB := Lib.hid hm
    clear hm
    go_wp2_with fail
    go_ret2
    exact ⟨.inr ⟨rfl, bus, isl, mb, mi, HTOP.out, .inl ⟨by rw [HPN.out]; exact HMB.out, rfl⟩⟩, D.out⟩
  have hm' : np = mb := by simpa using hm
  subst hm'
  clear hm
  have HMBN : Hid (np ≤ 24) := by show _ ≤ _; have h1 := HTOP.out.buses.few; have h2 := HOK.out.nn; omega
  obtain ⟨bt, e1, h5⟩ : ∃ bt : Nat, bt = w3.heap.size ∧ gb < bt := ⟨_, rfl, lgb⟩
  have HRC := Lib.hid (fun (W : World) (h : Reads W W.heap.size 1 P np (txs ls)) (h2 : LV W) => rcheckall_any P np cp ls W hnp h HS.out h2)
  obtain ⟨E2, hE2⟩ : ∃ E, E = Pl.ratsE ls := ⟨_, rfl⟩
  rw [← hE2] at HRC
  have HE2 := Lib.hid hE2
  clear hE2 lgb
  go_wp2_with fail
  rw [← e1] at BT
  rw [← e1]
  clear e1 cbt lbt
  generalize w3.alloc (.cells #[.slice (some ⟨gb, 0, none⟩) n0 n0, .slice (some ⟨gi, 0, none⟩) np np] 170) = w4 at *
  refine (HRC.out w4 (HR.out.go D.out) (HV.out.go D.out)).mono ?_
  rintro e w5 ⟨rfl, hb5⟩
  replace BN := Lib.hid (BN.out.go hb5)
  replace BT := Lib.hid (BT.out.go hb5)
  replace HM := Lib.hid (HM.out.go hb5)
  replace IB := Lib.hid (IB.out.go hb5)
  replace D := Lib.hid (D.out.trans (hb5.mono D.out.size))
  clear hb5 HRC
  by_cases h2 : E2 ≠ 0
  · have e1 : (E2 != 0) = true := by simpa using h2
    have H2 := Lib.hid h2
    clear h2
    go_wp2_with fail
    go_ret2
    exact ⟨.inr ⟨rfl, bus, isl, np, mi, HTOP.out, .inr (.inl ⟨HPN.out, by rw [← HE2.out]; exact H2.out, by rw [← HE2.out]; rfl⟩)⟩, D.out⟩
  have h2' : E2 = 0 := by simpa using h2
  subst h2'
  obtain ⟨ps, hps, hf⟩ := Pl.rats_allP HE2.out.symm
  subst hps
  have HF := Lib.hid hf
  have HPL : Hid (ps.length = np) := by show _ = _; have h9 := HPN.out; rw [List.length_map] at h9; exact h9
  have HPA9 := Lib.hid (fun (W : World) (h : Reads W W.heap.size 1 P np (txs (ps.map Pl.ratTxt))) => parseAll_any P np cp ps W (by have := HMBN.out; omega) h hf)
  clear h2 hf HE2
  go_wp2_with fail
  refine (HPA9.out w5 (HR.out.go D.out)).mono ?_
  rintro e w6 ⟨gp, Lp, rfl, _, hrl, hLm, hb5⟩
  have RLP := Lib.hid hrl
  have HLP := Lib.hid hLm
  have HLPN : Hid (Lp.length = np) := by show _ = _; have h9 := congrArg List.length hLm; rw [List.length_map] at h9; rw [h9]; exact HPL.out
  replace BN := Lib.hid (BN.out.go hb5)
  replace BT := Lib.hid (BT.out.go hb5)
  replace HM := Lib.hid (HM.out.go hb5)
  replace IB := Lib.hid (IB.out.go hb5)
  replace D := Lib.hid (D.out.trans (hb5.mono D.out.size))
  clear hb5 hrl hLm HPA9
  have BN4 := BN
  have BT4 := BT
  have HM4 := HM
  have RLP4 := RLP
  have IB4 : Hid (Blk w6 gb 3 (ints bus).toArray) := IB
  have RQ0 : Hid (RQ w6 w6.heap.size (.slice none 0 0) []) := RQ.none_ _ _
  clear BN BT HM RLP IB
  go_wp2_with fail
  go_loopw [12, 40] (fun ov i wr => ∃ (k : Nat) (Lk : List (Rat × Rt)), k ≤ n ∧ i = .int .i64 k ∧ Lk.length = k ∧ Hid (RQ wr w6.heap.size ov Lk) ∧ Hid (EachR wr Lk) ∧ Hid (Lk.map (·.1) = (l.take k).map (Pl.pay N bus ps)) ∧ Hid (Below w6.heap.size w6 wr)) (fun _ i _ => n - (intOf i).toNat)
  case atStart => exact ⟨0, [], Nat.zero_le _, rfl, rfl, RQ0, (fun x hx => by cases hx), by show _ = _; simp, Lib.hid (Below.refl _ _)⟩
  case round =>
    clear RQ0
    obtain ⟨k, Lk, hk, rfl, hLk9, RQV, EA, HLK, D1⟩ := hrel
    have HM := Lib.hid (HM4.out.go D1.out)
    have BN := Lib.hid (BN4.out.go D1.out)
    have BT := Lib.hid (BT4.out.go D1.out)
    have IB := Lib.hid (Blk.go IB4.out D1.out)
    have RLP := Lib.hid (RLP4.out.go D1.out)
    have D9 := Lib.hid (D.out.trans (D1.out.mono D.out.size))
    by_cases hlt : k < n
    · obtain ⟨b, o, rfl, hll, q0, q1, q2⟩ := ri_at (HL.out.go D9.out) (k := k) hlt
      have HT : Hid (l.take (k + 1) = l.take k ++ [l[k]]) := by show _ = _; rw [List.take_succ_eq_append_getElem hll]
      obtain ⟨hfa, hfb, hp0, hp1⟩ := riE_ok (HRI.out _ (List.getElem_mem hll))
      generalize l[k] = z at *
      have hna := Pl.nodeAt_in hfa
      have hnb := Pl.nodeAt_in hfb
      have hbl9 : bus.length = n0 := by rw [HTOP.out.buses.len, HL0.out]
      have hla := HTOP.out.buses.at_ hna.1 hna.2
      have hlb := HTOP.out.buses.at_ hnb.1 hnb.2
      rw [HL0.out] at hna hnb
      obtain ⟨ia, hia⟩ : ∃ x, x = Pl.nodeAt N.nodes z.from_ := ⟨_, rfl⟩
      obtain ⟨ib, hib⟩ : ∃ x, x = Pl.nodeAt N.nodes z.to_ := ⟨_, rfl⟩
      have HIA := Lib.hid (fun (W : World) (B : Nat) (h : Reads W B 1 A0 n0 (txts N.nodes)) => indexb_any A0 n0 c0 N.nodes z.from_ W B z0 h)
      have HIB := Lib.hid (fun (W : World) (B : Nat) (h : Reads W B 1 A0 n0 (txts N.nodes)) => indexb_any A0 n0 c0 N.nodes z.to_ W B z0 h)
      rw [← hia] at HIA hna hla
      rw [← hib] at HIB hnb hlb
      obtain ⟨hia0, hia1⟩ := hna
      obtain ⟨hib0, hib1⟩ := hnb
      have hia2 : ia.toNat < bus.length := by rw [hbl9]; omega
      have hib2 : ib.toNat < bus.length := by rw [hbl9]; omega
      obtain ⟨xa, hxa⟩ : ∃ x, x = Pl.lab bus ia := ⟨_, rfl⟩
      obtain ⟨xb, hxb⟩ : ∃ x, x = Pl.lab bus ib := ⟨_, rfl⟩
      have HXA : Hid (bus.getD ia.toNat 0 = xa) := by
        show _ = _
        rw [hxa]
        unfold Pl.lab
        rw [List.getD_eq_getElem?_getD, List.getD_eq_getElem?_getD, List.getElem?_eq_getElem hia2]
        rfl
      have HXB : Hid (bus.getD ib.toNat 0 = xb) := by
        show _ = _
        rw [hxb]
        unfold Pl.lab
        rw [List.getD_eq_getElem?_getD, List.getD_eq_getElem?_getD, List.getElem?_eq_getElem hib2]
        rfl
      rw [← hxa] at hla
      rw [← hxb] at hlb
      obtain ⟨hxa0, hxa1⟩ := hla
      obtain ⟨hxb0, hxb1⟩ := hlb
      have hxa2 : xa.toNat < Lp.length := by rw [HLPN.out]; omega
      have hxb2 : xb.toNat < Lp.length := by rw [HLPN.out]; omega
      have hxa3 : xa.toNat < ps.length := by rw [HPL.out]; omega
      have hxb3 : xb.toNat < ps.length := by rw [HPL.out]; omega
      obtain ⟨pa, hpa⟩ : ∃ q, q = ps[xa.toNat] := ⟨_, rfl⟩
      obtain ⟨pb, hpb⟩ : ∃ q, q = ps[xb.toNat] := ⟨_, rfl⟩
      obtain ⟨xpa, HPXA⟩ : ∃ x, Hid (Lp[xa.toNat]'hxa2 = (pa, x)) := ⟨Lp[xa.toNat].2, by
        show _ = _
        have h9 := HLP.out
        subst h9
        rw [hpa]
        simp⟩
      obtain ⟨xpb, HPXB⟩ : ∃ x, Hid (Lp[xb.toNat]'hxb2 = (pb, x)) := ⟨Lp[xb.toNat].2, by
        show _ = _
        have h9 := HLP.out
        subst h9
        rw [hpb]
        simp⟩
      have HPAY : Hid (Pl.pay N bus ps z = (pb - pa) * (z.power : Rat)) := by
        show _ = _
        unfold Pl.pay
        rw [← hia, ← hib, ← hxa, ← hxb, List.getD_eq_getElem?_getD, List.getD_eq_getElem?_getD, List.getElem?_eq_getElem hxa3, List.getElem?_eq_getElem hxb3, hpa, hpb]
        rfl
      have hfa9 := Pl.rsz_fits (HF.out _ (List.getElem_mem hxa3))
      have hfb9 := Pl.rsz_fits (HF.out _ (List.getElem_mem hxb3))
      rw [← hpa] at hfa9
      rw [← hpb] at hfb9
      have SA : Pl.rsz pa ≤ 400000 := by omega
      have SB : Pl.rsz pb ≤ 400000 := by omega
      have SD : Pl.rsz (pb - pa) ≤ 400000 := by have := Pl.rsz_sub pb pa; omega
      have SU : Pl.rsz (z.power : Rat) ≤ 400000 := by rw [Pl.rsz_int]; have := small_nw (n := z.power) (by omega); omega
      have hLk : Lk.length ≤ 1000000 := by omega
      have hkn : (k : Int) < (n : Int) := by omega
      have hb5 := below_oneS wr (.cells #[.string z.from_, .string z.to_, .int .i64 z.power] 31)
      have BB := Lib.hid (Blk.new_ wr wr.heap.size 31 #[.string z.from_, .string z.to_, .int .i64 z.power] rfl)
      have cs := BB.out.cell
      have ls9 := BB.out.lt
      clear hxa hxb hia hib hfa hfb hll hpa hpb hfa9 hfb9 hxa3 hxb3
      go_upto_region 15 with fail
      clear cs ls9 q0 q1 q2
      replace RQV := Lib.hid (RQV.out.go hb5)
      replace EA := Lib.hid (EA.out.go hb5)
      replace D1 := Lib.hid (D1.out.trans (hb5.mono D1.out.size))
      replace BN := Lib.hid (BN.out.go hb5)
      replace BT := Lib.hid (BT.out.go hb5)
      replace IB := Lib.hid (Blk.go IB.out hb5)
      replace HM := Lib.hid (HM.out.go hb5)
      replace RLP := Lib.hid (RLP.out.go hb5)
      obtain ⟨bb, e1, h7⟩ : ∃ bb : Nat, bb = wr.heap.size ∧ wr.heap.size ≤ bb := ⟨_, rfl, Nat.le_refl _⟩
      rw [← e1] at BB
      rw [← e1]
      clear e1 hb5
      generalize wr.alloc (.cells #[.string z.from_, .string z.to_, .int .i64 z.power] 31) = wa at *
      have hb5 := (Below.refl wa.heap.size wa).drew
      replace BN := Lib.hid (BN.out.go hb5)
      replace BT := Lib.hid (BT.out.go hb5)
      replace BB := Lib.hid (BB.out.go hb5)
      replace IB := Lib.hid (IB.out.go hb5)
      replace HM := Lib.hid (HM.out.go hb5)
      replace RLP := Lib.hid (RLP.out.go hb5)
      replace RQV := Lib.hid (RQV.out.go hb5)
      replace EA := Lib.hid (EA.out.go hb5)
      replace D1 := Lib.hid (D1.out.trans (hb5.mono D1.out.size))
      clear hb5
      have HB0 := Lib.hid (Below.refl wa.drew.heap.size wa.drew)
      have hlt_BN := BN.out.lt
      have hlt_BT := BT.out.lt
      have hlt_BB := BB.out.lt
      have hlt_IB := IB.out.lt
      have hlt_D1 := D1.out.size
      generalize hw9 : wa.drew = w15 at *
      have hSw : (fun w' : World => Blk w' (bn) 29 #[.slice A0 n0 c0, .slice A1 n1 c1, .slice A2 n2 c2, .slice A3 n3 c3, .slice A4 n4 c4, .slice A5 n5 c5] ∧ Blk w' (bt) 170 #[.slice (some ⟨gb, 0, none⟩) n0 n0, .slice (some ⟨gi, 0, none⟩) np np] ∧ Blk w' (bb) 31 #[.string z.from_, .string z.to_, .int .i64 z.power] ∧ Blk w' (gb) 3 (ints bus).toArray ∧ True) w15 := ⟨BN.out.go HB0.out, BT.out.go HB0.out, BB.out.go HB0.out, IB.out.go HB0.out, trivial⟩
      refine wp_region_mid (fun w' : World => Blk w' (bn) 29 #[.slice A0 n0 c0, .slice A1 n1 c1, .slice A2 n2 c2, .slice A3 n3 c3, .slice A4 n4 c4, .slice A5 n5 c5] ∧ Blk w' (bt) 170 #[.slice (some ⟨gb, 0, none⟩) n0 n0, .slice (some ⟨gi, 0, none⟩) np np] ∧ Blk w' (bb) 31 #[.string z.from_, .string z.to_, .int .i64 z.power] ∧ Blk w' (gb) 3 (ints bus).toArray ∧ True) 20 (by kernel_rfl) ?_
      rw [hw9]
      clear hw9
      refine wpAnyM_takeB 0 [1, 7, 8, 18, 19] rfl (by kernel_rfl) (by kernel_rfl) (by kernel_rfl) (by kernel_rfl) (by kernel_rfl) (fun _ _ _ h => h) hSw (by kernel_rfl) (fun w' hSx => by have c0 := hSx.1.cell; have l0 := hSx.1.lt; have c1 := hSx.2.1.cell; have l1 := hSx.2.1.lt; have c2 := hSx.2.2.1.cell; have l2 := hSx.2.2.1.lt; have c3 := hSx.2.2.2.1.cell; have l3 := hSx.2.2.2.1.lt; have c8 := IBlk.cell (g := gb) (t := 3) (os := bus) hSx.2.2.2.1 ia.toNat hia2; rw [HXA.out] at c8; have c9 := IBlk.cell (g := gb) (t := 3) (os := bus) hSx.2.2.2.1 ib.toNat hib2; rw [HXB.out] at c9; clear c3; go_simp; first | done | with_reducible rfl) ?_
      simp only [Act.put, List.setIfInBounds_toArray]
      refine wpAnyM_takeB 1 [7, 8, 18, 19] rfl (by kernel_rfl) (by kernel_rfl) (by kernel_rfl) (by kernel_rfl) (by kernel_rfl) (fun _ _ _ h => h) hSw (by kernel_rfl) (fun w' hSx => by have c0 := hSx.1.cell; have l0 := hSx.1.lt; have c1 := hSx.2.1.cell; have l1 := hSx.2.1.lt; have c2 := hSx.2.2.1.cell; have l2 := hSx.2.2.1.lt; have c3 := hSx.2.2.2.1.cell; have l3 := hSx.2.2.2.1.lt; have c8 := IBlk.cell (g := gb) (t := 3) (os := bus) hSx.2.2.2.1 ia.toNat hia2; rw [HXA.out] at c8; have c9 := IBlk.cell (g := gb) (t := 3) (os := bus) hSx.2.2.2.1 ib.toNat hib2; rw [HXB.out] at c9; clear c3; go_simp; first | done | with_reducible rfl) ?_
      simp only [Act.put]
      refine wpAnyM_takeB 2 [3, 6, 7, 8, 15, 16, 17, 18, 19] rfl (by kernel_rfl) (by kernel_rfl) (by kernel_rfl) (by kernel_rfl) (by kernel_rfl) (fun _ _ _ h => h) hSw (by kernel_rfl) (fun w' hSx => by have c0 := hSx.1.cell; have l0 := hSx.1.lt; have c1 := hSx.2.1.cell; have l1 := hSx.2.1.lt; have c2 := hSx.2.2.1.cell; have l2 := hSx.2.2.1.lt; have c3 := hSx.2.2.2.1.cell; have l3 := hSx.2.2.2.1.lt; have c8 := IBlk.cell (g := gb) (t := 3) (os := bus) hSx.2.2.2.1 ia.toNat hia2; rw [HXA.out] at c8; have c9 := IBlk.cell (g := gb) (t := 3) (os := bus) hSx.2.2.2.1 ib.toNat hib2; rw [HXB.out] at c9; clear c3; go_simp; first | done | with_reducible rfl) ?_
      simp only [Act.put]
      refine wpAnyM_takeB 3 [6, 7, 8, 15, 16, 17, 18, 19] rfl (by kernel_rfl) (by kernel_rfl) (by kernel_rfl) (by kernel_rfl) (by kernel_rfl) (fun _ _ _ h => h) hSw (by kernel_rfl) (fun w' hSx => by have c0 := hSx.1.cell; have l0 := hSx.1.lt; have c1 := hSx.2.1.cell; have l1 := hSx.2.1.lt; have c2 := hSx.2.2.1.cell; have l2 := hSx.2.2.1.lt; have c3 := hSx.2.2.2.1.cell; have l3 := hSx.2.2.2.1.lt; have c8 := IBlk.cell (g := gb) (t := 3) (os := bus) hSx.2.2.2.1 ia.toNat hia2; rw [HXA.out] at c8; have c9 := IBlk.cell (g := gb) (t := 3) (os := bus) hSx.2.2.2.1 ib.toNat hib2; rw [HXB.out] at c9; clear c3; go_simp; first | done | with_reducible rfl) ?_
      simp only [Act.put]
      refine wpAnyM_takeB 4 [5, 6, 7, 8, 15, 16, 17, 18, 19] rfl (by kernel_rfl) (by kernel_rfl) (by kernel_rfl) (by kernel_rfl) (by kernel_rfl) (fun _ _ _ h => h) hSw (by kernel_rfl) (fun w' hSx => by have c0 := hSx.1.cell; have l0 := hSx.1.lt; have c1 := hSx.2.1.cell; have l1 := hSx.2.1.lt; have c2 := hSx.2.2.1.cell; have l2 := hSx.2.2.1.lt; have c3 := hSx.2.2.2.1.cell; have l3 := hSx.2.2.2.1.lt; have c8 := IBlk.cell (g := gb) (t := 3) (os := bus) hSx.2.2.2.1 ia.toNat hia2; rw [HXA.out] at c8; have c9 := IBlk.cell (g := gb) (t := 3) (os := bus) hSx.2.2.2.1 ib.toNat hib2; rw [HXB.out] at c9; clear c3; go_simp; first | done | with_reducible rfl) ?_
      simp only [Act.put]
      refine wpAnyM_takeB 5 [6, 7, 8, 15, 16, 17, 18, 19] rfl (by kernel_rfl) (by kernel_rfl) (by kernel_rfl) (by kernel_rfl) (by kernel_rfl) (fun _ _ _ h => h) hSw (by kernel_rfl) (fun w' hSx => by have c0 := hSx.1.cell; have l0 := hSx.1.lt; have c1 := hSx.2.1.cell; have l1 := hSx.2.1.lt; have c2 := hSx.2.2.1.cell; have l2 := hSx.2.2.1.lt; have c3 := hSx.2.2.2.1.cell; have l3 := hSx.2.2.2.1.lt; have c8 := IBlk.cell (g := gb) (t := 3) (os := bus) hSx.2.2.2.1 ia.toNat hia2; rw [HXA.out] at c8; have c9 := IBlk.cell (g := gb) (t := 3) (os := bus) hSx.2.2.2.1 ib.toNat hib2; rw [HXB.out] at c9; clear c3; go_simp; first | done | with_reducible rfl) ?_
      simp only [Act.put]
      refine wpAnyM_takeB 9 [10, 16, 17, 19] rfl (by kernel_rfl) (by kernel_rfl) (by kernel_rfl) (by kernel_rfl) (by kernel_rfl) (fun _ _ _ h => h) hSw (by kernel_rfl) (fun w' hSx => by have c0 := hSx.1.cell; have l0 := hSx.1.lt; have c1 := hSx.2.1.cell; have l1 := hSx.2.1.lt; have c2 := hSx.2.2.1.cell; have l2 := hSx.2.2.1.lt; have c3 := hSx.2.2.2.1.cell; have l3 := hSx.2.2.2.1.lt; have c8 := IBlk.cell (g := gb) (t := 3) (os := bus) hSx.2.2.2.1 ia.toNat hia2; rw [HXA.out] at c8; have c9 := IBlk.cell (g := gb) (t := 3) (os := bus) hSx.2.2.2.1 ib.toNat hib2; rw [HXB.out] at c9; clear c3; go_simp; first | done | with_reducible rfl) ?_
      simp only [Act.put]
      refine wpAnyM_takeB 10 [16, 17, 19] rfl (by kernel_rfl) (by kernel_rfl) (by kernel_rfl) (by kernel_rfl) (by kernel_rfl) (fun _ _ _ h => h) hSw (by kernel_rfl) (fun w' hSx => by have c0 := hSx.1.cell; have l0 := hSx.1.lt; have c1 := hSx.2.1.cell; have l1 := hSx.2.1.lt; have c2 := hSx.2.2.1.cell; have l2 := hSx.2.2.1.lt; have c3 := hSx.2.2.2.1.cell; have l3 := hSx.2.2.2.1.lt; have c8 := IBlk.cell (g := gb) (t := 3) (os := bus) hSx.2.2.2.1 ia.toNat hia2; rw [HXA.out] at c8; have c9 := IBlk.cell (g := gb) (t := 3) (os := bus) hSx.2.2.2.1 ib.toNat hib2; rw [HXB.out] at c9; clear c3; go_simp; first | done | with_reducible rfl) ?_
      simp only [Act.put]
      refine wpAnyM_takeB 11 [12, 15, 16, 17, 18, 19] rfl (by kernel_rfl) (by kernel_rfl) (by kernel_rfl) (by kernel_rfl) (by kernel_rfl) (fun _ _ _ h => h) hSw (by kernel_rfl) (fun w' hSx => by have c0 := hSx.1.cell; have l0 := hSx.1.lt; have c1 := hSx.2.1.cell; have l1 := hSx.2.1.lt; have c2 := hSx.2.2.1.cell; have l2 := hSx.2.2.1.lt; have c3 := hSx.2.2.2.1.cell; have l3 := hSx.2.2.2.1.lt; have c8 := IBlk.cell (g := gb) (t := 3) (os := bus) hSx.2.2.2.1 ia.toNat hia2; rw [HXA.out] at c8; have c9 := IBlk.cell (g := gb) (t := 3) (os := bus) hSx.2.2.2.1 ib.toNat hib2; rw [HXB.out] at c9; clear c3; go_simp; first | done | with_reducible rfl) ?_
      simp only [Act.put]
      refine wpAnyM_takeB 12 [15, 16, 17, 18, 19] rfl (by kernel_rfl) (by kernel_rfl) (by kernel_rfl) (by kernel_rfl) (by kernel_rfl) (fun _ _ _ h => h) hSw (by kernel_rfl) (fun w' hSx => by have c0 := hSx.1.cell; have l0 := hSx.1.lt; have c1 := hSx.2.1.cell; have l1 := hSx.2.1.lt; have c2 := hSx.2.2.1.cell; have l2 := hSx.2.2.1.lt; have c3 := hSx.2.2.2.1.cell; have l3 := hSx.2.2.2.1.lt; have c8 := IBlk.cell (g := gb) (t := 3) (os := bus) hSx.2.2.2.1 ia.toNat hia2; rw [HXA.out] at c8; have c9 := IBlk.cell (g := gb) (t := 3) (os := bus) hSx.2.2.2.1 ib.toNat hib2; rw [HXB.out] at c9; clear c3; go_simp; first | done | with_reducible rfl) ?_
      simp only [Act.put]
      refine wpAnyM_takeB 13 [14, 15, 16, 17, 18, 19] rfl (by kernel_rfl) (by kernel_rfl) (by kernel_rfl) (by kernel_rfl) (by kernel_rfl) (fun _ _ _ h => h) hSw (by kernel_rfl) (fun w' hSx => by have c0 := hSx.1.cell; have l0 := hSx.1.lt; have c1 := hSx.2.1.cell; have l1 := hSx.2.1.lt; have c2 := hSx.2.2.1.cell; have l2 := hSx.2.2.1.lt; have c3 := hSx.2.2.2.1.cell; have l3 := hSx.2.2.2.1.lt; have c8 := IBlk.cell (g := gb) (t := 3) (os := bus) hSx.2.2.2.1 ia.toNat hia2; rw [HXA.out] at c8; have c9 := IBlk.cell (g := gb) (t := 3) (os := bus) hSx.2.2.2.1 ib.toNat hib2; rw [HXB.out] at c9; clear c3; go_simp; first | done | with_reducible rfl) ?_
      simp only [Act.put]
      refine wpAnyM_takeB 14 [15, 16, 17, 18, 19] rfl (by kernel_rfl) (by kernel_rfl) (by kernel_rfl) (by kernel_rfl) (by kernel_rfl) (fun _ _ _ h => h) hSw (by kernel_rfl) (fun w' hSx => by have c0 := hSx.1.cell; have l0 := hSx.1.lt; have c1 := hSx.2.1.cell; have l1 := hSx.2.1.lt; have c2 := hSx.2.2.1.cell; have l2 := hSx.2.2.1.lt; have c3 := hSx.2.2.2.1.cell; have l3 := hSx.2.2.2.1.lt; have c8 := IBlk.cell (g := gb) (t := 3) (os := bus) hSx.2.2.2.1 ia.toNat hia2; rw [HXA.out] at c8; have c9 := IBlk.cell (g := gb) (t := 3) (os := bus) hSx.2.2.2.1 ib.toNat hib2; rw [HXB.out] at c9; clear c3; go_simp; first | done | with_reducible rfl) ?_
      simp only [Act.put]
      refine wpAnyM_ready [6] (by kernel_rfl) (by simp) ?_
      refine AllReadyM.cons (by rfl) (fun K hK => ?_) AllReadyM.nil
      go_simp
      refine (HIA.out w15 _ (HM.out.go HB0.out).r0).mono ?_
      rintro e wq1 ⟨rfl, hb5⟩
      replace HB0 := Lib.hid (Below.trans HB0.out (hb5.mono HB0.out.size))
      clear hb5
      clear hSw
      have hSw : (fun w' : World => Blk w' (bn) 29 #[.slice A0 n0 c0, .slice A1 n1 c1, .slice A2 n2 c2, .slice A3 n3 c3, .slice A4 n4 c4, .slice A5 n5 c5] ∧ Blk w' (bt) 170 #[.slice (some ⟨gb, 0, none⟩) n0 n0, .slice (some ⟨gi, 0, none⟩) np np] ∧ Blk w' (bb) 31 #[.string z.from_, .string z.to_, .int .i64 z.power] ∧ Blk w' (gb) 3 (ints bus).toArray ∧ True) wq1 := ⟨BN.out.go HB0.out, BT.out.go HB0.out, BB.out.go HB0.out, IB.out.go HB0.out, trivial⟩
      refine hK.out _ _ hSw ?_
      clear hK K
      refine wpAnyM_takeB 7 [8, 18, 19] rfl (by kernel_rfl) (by kernel_rfl) (by kernel_rfl) (by kernel_rfl) (by kernel_rfl) (fun _ _ _ h => h) hSw (by kernel_rfl) (fun w' hSx => by have c0 := hSx.1.cell; have l0 := hSx.1.lt; have c1 := hSx.2.1.cell; have l1 := hSx.2.1.lt; have c2 := hSx.2.2.1.cell; have l2 := hSx.2.2.1.lt; have c3 := hSx.2.2.2.1.cell; have l3 := hSx.2.2.2.1.lt; have c8 := IBlk.cell (g := gb) (t := 3) (os := bus) hSx.2.2.2.1 ia.toNat hia2; rw [HXA.out] at c8; have c9 := IBlk.cell (g := gb) (t := 3) (os := bus) hSx.2.2.2.1 ib.toNat hib2; rw [HXB.out] at c9; clear c3; go_simp; first | done | with_reducible rfl) ?_
      simp only [Act.put]
      refine wpAnyM_takeB 8 [18, 19] rfl (by kernel_rfl) (by kernel_rfl) (by kernel_rfl) (by kernel_rfl) (by kernel_rfl) (fun _ _ _ h => h) hSw (by kernel_rfl) (fun w' hSx => by have c0 := hSx.1.cell; have l0 := hSx.1.lt; have c1 := hSx.2.1.cell; have l1 := hSx.2.1.lt; have c2 := hSx.2.2.1.cell; have l2 := hSx.2.2.1.lt; have c3 := hSx.2.2.2.1.cell; have l3 := hSx.2.2.2.1.lt; have c8 := IBlk.cell (g := gb) (t := 3) (os := bus) hSx.2.2.2.1 ia.toNat hia2; rw [HXA.out] at c8; have c9 := IBlk.cell (g := gb) (t := 3) (os := bus) hSx.2.2.2.1 ib.toNat hib2; rw [HXB.out] at c9; clear c3; go_simp; first | done | with_reducible rfl) ?_
      simp only [Act.put]
      refine wpAnyM_ready [15] (by kernel_rfl) (by simp) ?_
      refine AllReadyM.cons (by rfl) (fun K hK => ?_) AllReadyM.nil
      go_simp
      refine (HIB.out wq1 _ (HM.out.go HB0.out).r0).mono ?_
      rintro e wq2 ⟨rfl, hb5⟩
      replace HB0 := Lib.hid (Below.trans HB0.out (hb5.mono HB0.out.size))
      clear hb5
      clear hSw
      have hSw : (fun w' : World => Blk w' (bn) 29 #[.slice A0 n0 c0, .slice A1 n1 c1, .slice A2 n2 c2, .slice A3 n3 c3, .slice A4 n4 c4, .slice A5 n5 c5] ∧ Blk w' (bt) 170 #[.slice (some ⟨gb, 0, none⟩) n0 n0, .slice (some ⟨gi, 0, none⟩) np np] ∧ Blk w' (bb) 31 #[.string z.from_, .string z.to_, .int .i64 z.power] ∧ Blk w' (gb) 3 (ints bus).toArray ∧ True) wq2 := ⟨BN.out.go HB0.out, BT.out.go HB0.out, BB.out.go HB0.out, IB.out.go HB0.out, trivial⟩
      refine hK.out _ _ hSw ?_
      clear hK K
      refine wpAnyM_takeB 16 [17, 19] rfl (by kernel_rfl) (by kernel_rfl) (by kernel_rfl) (by kernel_rfl) (by kernel_rfl) (fun _ _ _ h => h) hSw (by kernel_rfl) (fun w' hSx => by have c0 := hSx.1.cell; have l0 := hSx.1.lt; have c1 := hSx.2.1.cell; have l1 := hSx.2.1.lt; have c2 := hSx.2.2.1.cell; have l2 := hSx.2.2.1.lt; have c3 := hSx.2.2.2.1.cell; have l3 := hSx.2.2.2.1.lt; have c8 := IBlk.cell (g := gb) (t := 3) (os := bus) hSx.2.2.2.1 ia.toNat hia2; rw [HXA.out] at c8; have c9 := IBlk.cell (g := gb) (t := 3) (os := bus) hSx.2.2.2.1 ib.toNat hib2; rw [HXB.out] at c9; clear c3; go_simp; first | done | with_reducible rfl) ?_
      simp only [Act.put]
      refine wpAnyM_takeB 17 [19] rfl (by kernel_rfl) (by kernel_rfl) (by kernel_rfl) (by kernel_rfl) (by kernel_rfl) (fun _ _ _ h => h) hSw (by kernel_rfl) (fun w' hSx => by have c0 := hSx.1.cell; have l0 := hSx.1.lt; have c1 := hSx.2.1.cell; have l1 := hSx.2.1.lt; have c2 := hSx.2.2.1.cell; have l2 := hSx.2.2.1.lt; have c3 := hSx.2.2.2.1.cell; have l3 := hSx.2.2.2.1.lt; have c8 := IBlk.cell (g := gb) (t := 3) (os := bus) hSx.2.2.2.1 ia.toNat hia2; rw [HXA.out] at c8; have c9 := IBlk.cell (g := gb) (t := 3) (os := bus) hSx.2.2.2.1 ib.toNat hib2; rw [HXB.out] at c9; clear c3; go_simp; first | done | with_reducible rfl) ?_
      simp only [Act.put]
      refine wpAnyM_takeB 18 [19] rfl (by kernel_rfl) (by kernel_rfl) (by kernel_rfl) (by kernel_rfl) (by kernel_rfl) (fun _ _ _ h => h) hSw (by kernel_rfl) (fun w' hSx => by have c0 := hSx.1.cell; have l0 := hSx.1.lt; have c1 := hSx.2.1.cell; have l1 := hSx.2.1.lt; have c2 := hSx.2.2.1.cell; have l2 := hSx.2.2.1.lt; have c3 := hSx.2.2.2.1.cell; have l3 := hSx.2.2.2.1.lt; have c8 := IBlk.cell (g := gb) (t := 3) (os := bus) hSx.2.2.2.1 ia.toNat hia2; rw [HXA.out] at c8; have c9 := IBlk.cell (g := gb) (t := 3) (os := bus) hSx.2.2.2.1 ib.toNat hib2; rw [HXB.out] at c9; clear c3; go_simp; first | done | with_reducible rfl) ?_
      simp only [Act.put]
      refine wpAnyM_takeB 19 [] rfl (by kernel_rfl) (by kernel_rfl) (by kernel_rfl) (by kernel_rfl) (by kernel_rfl) (fun _ _ _ h => h) hSw (by kernel_rfl) (fun w' hSx => by have c0 := hSx.1.cell; have l0 := hSx.1.lt; have c1 := hSx.2.1.cell; have l1 := hSx.2.1.lt; have c2 := hSx.2.2.1.cell; have l2 := hSx.2.2.1.lt; have c3 := hSx.2.2.2.1.cell; have l3 := hSx.2.2.2.1.lt; have c8 := IBlk.cell (g := gb) (t := 3) (os := bus) hSx.2.2.2.1 ia.toNat hia2; rw [HXA.out] at c8; have c9 := IBlk.cell (g := gb) (t := 3) (os := bus) hSx.2.2.2.1 ib.toNat hib2; rw [HXB.out] at c9; clear c3; go_simp; first | done | with_reducible rfl) ?_
      simp only [Act.put]
      refine wpAnyM_done (by kernel_rfl) ?_ _
      simp only [List.getElem_toArray, List.getElem_cons_succ, List.getElem_cons_zero]
      replace BN := Lib.hid (BN.out.go HB0.out)
      replace BT := Lib.hid (BT.out.go HB0.out)
      replace BB := Lib.hid (BB.out.go HB0.out)
      replace IB := Lib.hid (IB.out.go HB0.out)
      replace HM := Lib.hid (HM.out.go HB0.out)
      replace RLP := Lib.hid (RLP.out.go HB0.out)
      replace RQV := Lib.hid (RQV.out.go HB0.out)
      replace EA := Lib.hid (EA.out.go HB0.out)
      replace D1 := Lib.hid (D1.out.trans (HB0.out.mono D1.out.size))
      clear HB0 hSw
      go_upto_region 16 with fail
      have HPA : Hid (RatIs wq2 wq2.heap.size pa xpa) := by show RatIs _ _ _ _; have := RLP.out.each _ (List.getElem_mem hxa2); rw [HPXA.out] at this; exact this
      have HPB : Hid (RatIs wq2 wq2.heap.size pb xpb) := by show RatIs _ _ _ _; have := RLP.out.each _ (List.getElem_mem hxb2); rw [HPXB.out] at this; exact this
      have RPB : Hid (Blk wq2 gp 105 (rtl (Lp.map (·.2) ++ List.replicate 0 rt0)).toArray) := RLP.out.blk
      clear BN BT IB HM RLP
      have hb5 := (Below.refl wq2.heap.size wq2).drew
      replace BB := Lib.hid (BB.out.go hb5)
      replace RQV := Lib.hid (RQV.out.go hb5)
      replace EA := Lib.hid (EA.out.go hb5)
      replace D1 := Lib.hid (D1.out.trans (hb5.mono D1.out.size))
      replace HPA := Lib.hid (HPA.out.go hb5)
      replace HPB := Lib.hid (HPB.out.go hb5)
      replace RPB := Lib.hid (RPB.out.go hb5)
      clear hb5
      have HB0 := Lib.hid (Below.refl wq2.drew.heap.size wq2.drew)
      have hlt_BB := BB.out.lt
      have hlt_RPB := RPB.out.lt
      have hlt_D1 := D1.out.size
      generalize hw9 : wq2.drew = w16 at *
      have hSw : (fun w' : World => Blk w' (bb) 31 #[.string z.from_, .string z.to_, .int .i64 z.power] ∧ Blk w' (gp) 105 (rtl (Lp.map (·.2) ++ List.replicate 0 rt0)).toArray ∧ True) w16 := ⟨BB.out.go HB0.out, RPB.out.go HB0.out, trivial⟩
      refine wp_region_mid (fun w' : World => Blk w' (bb) 31 #[.string z.from_, .string z.to_, .int .i64 z.power] ∧ Blk w' (gp) 105 (rtl (Lp.map (·.2) ++ List.replicate 0 rt0)).toArray ∧ True) 15 (by kernel_rfl) ?_
      rw [hw9]
      clear hw9
      refine wpAnyM_takeB 0 [15, 16] rfl (by kernel_rfl) (by kernel_rfl) (by kernel_rfl) (by kernel_rfl) (by kernel_rfl) (fun _ _ _ h => h) hSw (by kernel_rfl) (fun w' hSx => by have c0 := hSx.1.cell; have l0 := hSx.1.lt; have c1 := hSx.2.1.cell; have l1 := hSx.2.1.lt; clear c1; obtain ⟨c2, c3, c4, c5⟩ := rb_at9 hSx.2.1 hxb2; rw [HPXB.out] at c2 c3 c4 c5; obtain ⟨c6, c7, c8, c9⟩ := rb_at9 hSx.2.1 hxa2; rw [HPXA.out] at c6 c7 c8 c9; go_simp; first | done | with_reducible rfl) ?_
      simp only [Act.put, List.setIfInBounds_toArray]
      refine wpAnyM_takeB 1 [3, 4, 9, 12, 13, 14, 15, 16] rfl (by kernel_rfl) (by kernel_rfl) (by kernel_rfl) (by kernel_rfl) (by kernel_rfl) (fun _ _ _ h => h) hSw (by kernel_rfl) (fun w' hSx => by have c0 := hSx.1.cell; have l0 := hSx.1.lt; have c1 := hSx.2.1.cell; have l1 := hSx.2.1.lt; clear c1; obtain ⟨c2, c3, c4, c5⟩ := rb_at9 hSx.2.1 hxb2; rw [HPXB.out] at c2 c3 c4 c5; obtain ⟨c6, c7, c8, c9⟩ := rb_at9 hSx.2.1 hxa2; rw [HPXA.out] at c6 c7 c8 c9; go_simp; first | done | with_reducible rfl) ?_
      simp only [Act.put]
      refine wpAnyM_takeB 2 [3, 4, 9, 12, 13, 14, 15, 16] rfl (by kernel_rfl) (by kernel_rfl) (by kernel_rfl) (by kernel_rfl) (by kernel_rfl) (fun _ _ _ h => h) hSw (by kernel_rfl) (fun w' hSx => by have c0 := hSx.1.cell; have l0 := hSx.1.lt; have c1 := hSx.2.1.cell; have l1 := hSx.2.1.lt; clear c1; obtain ⟨c2, c3, c4, c5⟩ := rb_at9 hSx.2.1 hxb2; rw [HPXB.out] at c2 c3 c4 c5; obtain ⟨c6, c7, c8, c9⟩ := rb_at9 hSx.2.1 hxa2; rw [HPXA.out] at c6 c7 c8 c9; go_simp; first | done | with_reducible rfl) ?_
      simp only [Act.put]
      refine wpAnyM_takeB 3 [4, 9, 12, 13, 14, 15, 16] rfl (by kernel_rfl) (by kernel_rfl) (by kernel_rfl) (by kernel_rfl) (by kernel_rfl) (fun _ _ _ h => h) hSw (by kernel_rfl) (fun w' hSx => by have c0 := hSx.1.cell; have l0 := hSx.1.lt; have c1 := hSx.2.1.cell; have l1 := hSx.2.1.lt; clear c1; obtain ⟨c2, c3, c4, c5⟩ := rb_at9 hSx.2.1 hxb2; rw [HPXB.out] at c2 c3 c4 c5; obtain ⟨c6, c7, c8, c9⟩ := rb_at9 hSx.2.1 hxa2; rw [HPXA.out] at c6 c7 c8 c9; go_simp; first | done | with_reducible rfl) ?_
      simp only [Act.put]
      refine wpAnyM_takeB 4 [9, 12, 13, 14, 15, 16] rfl (by kernel_rfl) (by kernel_rfl) (by kernel_rfl) (by kernel_rfl) (by kernel_rfl) (fun _ _ _ h => h) hSw (by kernel_rfl) (fun w' hSx => by have c0 := hSx.1.cell; have l0 := hSx.1.lt; have c1 := hSx.2.1.cell; have l1 := hSx.2.1.lt; clear c1; obtain ⟨c2, c3, c4, c5⟩ := rb_at9 hSx.2.1 hxb2; rw [HPXB.out] at c2 c3 c4 c5; obtain ⟨c6, c7, c8, c9⟩ := rb_at9 hSx.2.1 hxa2; rw [HPXA.out] at c6 c7 c8 c9; go_simp; first | done | with_reducible rfl) ?_
      simp only [Act.put]
      refine wpAnyM_takeB 5 [7, 8, 9, 12, 13, 14, 15, 16] rfl (by kernel_rfl) (by kernel_rfl) (by kernel_rfl) (by kernel_rfl) (by kernel_rfl) (fun _ _ _ h => h) hSw (by kernel_rfl) (fun w' hSx => by have c0 := hSx.1.cell; have l0 := hSx.1.lt; have c1 := hSx.2.1.cell; have l1 := hSx.2.1.lt; clear c1; obtain ⟨c2, c3, c4, c5⟩ := rb_at9 hSx.2.1 hxb2; rw [HPXB.out] at c2 c3 c4 c5; obtain ⟨c6, c7, c8, c9⟩ := rb_at9 hSx.2.1 hxa2; rw [HPXA.out] at c6 c7 c8 c9; go_simp; first | done | with_reducible rfl) ?_
      simp only [Act.put]
      refine wpAnyM_takeB 6 [7, 8, 9, 12, 13, 14, 15, 16] rfl (by kernel_rfl) (by kernel_rfl) (by kernel_rfl) (by kernel_rfl) (by kernel_rfl) (fun _ _ _ h => h) hSw (by kernel_rfl) (fun w' hSx => by have c0 := hSx.1.cell; have l0 := hSx.1.lt; have c1 := hSx.2.1.cell; have l1 := hSx.2.1.lt; clear c1; obtain ⟨c2, c3, c4, c5⟩ := rb_at9 hSx.2.1 hxb2; rw [HPXB.out] at c2 c3 c4 c5; obtain ⟨c6, c7, c8, c9⟩ := rb_at9 hSx.2.1 hxa2; rw [HPXA.out] at c6 c7 c8 c9; go_simp; first | done | with_reducible rfl) ?_
      simp only [Act.put]
      refine wpAnyM_takeB 7 [8, 9, 12, 13, 14, 15, 16] rfl (by kernel_rfl) (by kernel_rfl) (by kernel_rfl) (by kernel_rfl) (by kernel_rfl) (fun _ _ _ h => h) hSw (by kernel_rfl) (fun w' hSx => by have c0 := hSx.1.cell; have l0 := hSx.1.lt; have c1 := hSx.2.1.cell; have l1 := hSx.2.1.lt; clear c1; obtain ⟨c2, c3, c4, c5⟩ := rb_at9 hSx.2.1 hxb2; rw [HPXB.out] at c2 c3 c4 c5; obtain ⟨c6, c7, c8, c9⟩ := rb_at9 hSx.2.1 hxa2; rw [HPXA.out] at c6 c7 c8 c9; go_simp; first | done | with_reducible rfl) ?_
      simp only [Act.put]
      refine wpAnyM_takeB 8 [9, 12, 13, 14, 15, 16] rfl (by kernel_rfl) (by kernel_rfl) (by kernel_rfl) (by kernel_rfl) (by kernel_rfl) (fun _ _ _ h => h) hSw (by kernel_rfl) (fun w' hSx => by have c0 := hSx.1.cell; have l0 := hSx.1.lt; have c1 := hSx.2.1.cell; have l1 := hSx.2.1.lt; clear c1; obtain ⟨c2, c3, c4, c5⟩ := rb_at9 hSx.2.1 hxb2; rw [HPXB.out] at c2 c3 c4 c5; obtain ⟨c6, c7, c8, c9⟩ := rb_at9 hSx.2.1 hxa2; rw [HPXA.out] at c6 c7 c8 c9; go_simp; first | done | with_reducible rfl) ?_
      simp only [Act.put]
      refine wpAnyM_takeB 10 [11, 12, 13, 14, 15, 16] rfl (by kernel_rfl) (by kernel_rfl) (by kernel_rfl) (by kernel_rfl) (by kernel_rfl) (fun _ _ _ h => h) hSw (by kernel_rfl) (fun w' hSx => by have c0 := hSx.1.cell; have l0 := hSx.1.lt; have c1 := hSx.2.1.cell; have l1 := hSx.2.1.lt; clear c1; obtain ⟨c2, c3, c4, c5⟩ := rb_at9 hSx.2.1 hxb2; rw [HPXB.out] at c2 c3 c4 c5; obtain ⟨c6, c7, c8, c9⟩ := rb_at9 hSx.2.1 hxa2; rw [HPXA.out] at c6 c7 c8 c9; go_simp; first | done | with_reducible rfl) ?_
      simp only [Act.put]
      refine wpAnyM_takeB 11 [12, 13, 14, 15, 16] rfl (by kernel_rfl) (by kernel_rfl) (by kernel_rfl) (by kernel_rfl) (by kernel_rfl) (fun _ _ _ h => h) hSw (by kernel_rfl) (fun w' hSx => by have c0 := hSx.1.cell; have l0 := hSx.1.lt; have c1 := hSx.2.1.cell; have l1 := hSx.2.1.lt; clear c1; obtain ⟨c2, c3, c4, c5⟩ := rb_at9 hSx.2.1 hxb2; rw [HPXB.out] at c2 c3 c4 c5; obtain ⟨c6, c7, c8, c9⟩ := rb_at9 hSx.2.1 hxa2; rw [HPXA.out] at c6 c7 c8 c9; go_simp; first | done | with_reducible rfl) ?_
      simp only [Act.put]
      refine wpAnyM_ready [9] (by kernel_rfl) (by simp) ?_
      refine AllReadyM.cons (by rfl) (fun K hK => ?_) AllReadyM.nil
      go_simp
      refine (rsub_any (HPB.out.go HB0.out) (HPA.out.go HB0.out) SB SA).mono ?_
      rintro e wq1 ⟨d9, rfl, hd9, hb5⟩
      clear HPA HPB
      replace HB0 := Lib.hid (Below.trans HB0.out (hb5.mono HB0.out.size))
      have HD9 := Lib.hid hd9
      clear hd9
      clear hb5
      clear hSw
      have hSw : (fun w' : World => Blk w' (bb) 31 #[.string z.from_, .string z.to_, .int .i64 z.power] ∧ Blk w' (gp) 105 (rtl (Lp.map (·.2) ++ List.replicate 0 rt0)).toArray ∧ True) wq1 := ⟨BB.out.go HB0.out, RPB.out.go HB0.out, trivial⟩
      refine hK.out _ _ hSw ?_
      clear hK K
      refine wpAnyM_ready [12] (by kernel_rfl) (by simp) ?_
      refine AllReadyM.cons (by rfl) (fun K hK => ?_) AllReadyM.nil
      go_simp
      refine (whole_any z.power wq1 (by omega) (by omega)).mono ?_
      rintro e wq2 ⟨u, rfl, hu9, hb5⟩
      replace HD9 := Lib.hid (HD9.out.go hb5)
      replace HB0 := Lib.hid (Below.trans HB0.out (hb5.mono HB0.out.size))
      have HU := Lib.hid hu9
      clear hu9
      clear hb5
      clear hSw
      have hSw : (fun w' : World => Blk w' (bb) 31 #[.string z.from_, .string z.to_, .int .i64 z.power] ∧ Blk w' (gp) 105 (rtl (Lp.map (·.2) ++ List.replicate 0 rt0)).toArray ∧ True) wq2 := ⟨BB.out.go HB0.out, RPB.out.go HB0.out, trivial⟩
      refine hK.out _ _ hSw ?_
      clear hK K
      refine wpAnyM_ready [13] (by kernel_rfl) (by simp) ?_
      refine AllReadyM.cons (by rfl) (fun K hK => ?_) AllReadyM.nil
      go_simp
      refine (rmul_any HD9.out HU.out SD SU).mono ?_
      rintro e wq3 ⟨y, rfl, hy9, hb5⟩
      clear HD9 HU
      replace HB0 := Lib.hid (Below.trans HB0.out (hb5.mono HB0.out.size))
      have HY : Hid (RatIs wq3 wq3.heap.size ((pb - pa) * (z.power : Rat)) y) := Lib.hid hy9
      clear hy9
      clear hb5
      clear hSw
      have hSw : (fun w' : World => Blk w' (bb) 31 #[.string z.from_, .string z.to_, .int .i64 z.power] ∧ Blk w' (gp) 105 (rtl (Lp.map (·.2) ++ List.replicate 0 rt0)).toArray ∧ True) wq3 := ⟨BB.out.go HB0.out, RPB.out.go HB0.out, trivial⟩
      refine hK.out _ _ hSw ?_
      clear hK K
      refine wpAnyM_ready [14] (by kernel_rfl) (by simp) ?_
      refine AllReadyM.cons (by rfl) (fun K hK => ?_) AllReadyM.nil
      go_simp
      have hb5 := below_oneS wq3 (.cells #[.bool y.N.b, .slice y.N.A y.N.n y.N.c, .bool y.D.b, .slice y.D.A y.D.n y.D.c] 105)
      obtain ⟨gx, hg2⟩ : ∃ g : Nat, g = wq3.heap.size := ⟨_, rfl⟩
      have BX := Lib.hid (Blk.new_ wq3 gx 105 #[.bool y.N.b, .slice y.N.A y.N.n y.N.c, .bool y.D.b, .slice y.D.A y.D.n y.D.c] hg2)
      have hS_BX : w16.heap.size ≤ gx := by have := HB0.out.size; omega
      rw [← hg2]
      replace HY := Lib.hid (HY.out.go hb5)
      replace HB0 := Lib.hid (Below.trans HB0.out (hb5.mono HB0.out.size))
      clear hb5 hg2
      generalize wq3.alloc (.cells #[.bool y.N.b, .slice y.N.A y.N.n y.N.c, .bool y.D.b, .slice y.D.A y.D.n y.D.c] 105) = wq4 at *
      clear hSw
      have hSw : (fun w' : World => Blk w' (bb) 31 #[.string z.from_, .string z.to_, .int .i64 z.power] ∧ Blk w' (gp) 105 (rtl (Lp.map (·.2) ++ List.replicate 0 rt0)).toArray ∧ True) wq4 := ⟨BB.out.go HB0.out, RPB.out.go HB0.out, trivial⟩
      refine hK.out _ _ hSw ?_
      clear hK K
      refine wpAnyM_ready [15] (by kernel_rfl) (by simp) ?_
      refine AllReadyM.last (by rfl) (by decide) (fun K hK => ?_)
      replace BB := Lib.hid (BB.out.go HB0.out)
      replace RQV := Lib.hid (RQV.out.go HB0.out)
      replace EA := Lib.hid (EA.out.go HB0.out)
      replace D1 := Lib.hid (D1.out.trans (HB0.out.mono D1.out.size))
      replace RPB := Lib.hid (RPB.out.go HB0.out)
      obtain ⟨v2, wq5, hap, hrq, hbl, hsz9, hkp⟩ := RQV.out.push ((pb - pa) * (z.power : Rat)) BX.out hLk D1.out.size
      refine step_append_run9 (by rfl) _ _ _ (by rfl) _ _ _ (by rfl) (by rfl) hap ?_
      simp only [Act.put]
      have D2 := Lib.hid (D1.out.trans hbl)
      have RQ2 := Lib.hid hrq
      have EA2 : Hid (EachR wq5 (Lk ++ [((pb - pa) * (z.power : Rat), y)])) := by
        intro x hx
        rw [List.mem_append, List.mem_singleton] at hx
        rcases hx with hx | hx
        · exact hkp _ _ (EA.out x hx)
        · subst hx; exact hkp _ _ HY.out
      clear hap hrq hbl hsz9 hkp RQV EA D1 BX HY RPB BB
      replace HB0 := Lib.hid (Below.refl wq5.heap.size wq5)
      refine hK.out _ _ ?_
      clear hK K
      refine wpAnyM_ready [16] (by kernel_rfl) (by simp) ?_
      refine AllReadyM.last (by rfl) (by decide) (fun K hK => ?_)
      go_simp
      refine hK.out _ _ ?_
      clear hK K
      refine wpAnyM_done (by kernel_rfl) ?_ _
      clear HB0 hSw
      have hk1 : ((k : Int) + 1) % 18446744073709551616 = (k : Int) + 1 := by omega
      go_wp2_with fail
      go_roundw
      case rel =>
        refine ⟨k + 1, Lk ++ [((pb - pa) * (z.power : Rat), y)], hlt, by first | rfl | (congr 1), by rw [List.length_append, hLk9]; rfl, RQ2, EA2, ?_, D2⟩
        show _ = _
        rw [HT.out, List.map_append, List.map_append, HLK.out]
        show _ ++ [_] = _ ++ [_]
        rw [HPAY.out]
      case measure => show n - ((k : Int) + 1).toNat < n - ((k : Int)).toNat; omega
    · have hkn9 : k = n := by omega
      subst hkn9
      have hkn : ¬ (k : Int) < (k : Int) := by omega
      have HLL : Hid (l.length = k) := HLN
      obtain ⟨Ak, ck, rfl⟩ := RQV.out.slice
      go_wp2_with fail
      go_ret2
      exact ⟨.inr ⟨rfl, bus, isl, np, mi, HTOP.out, .inr (.inr ⟨ps, Ak, ck, Lk, rfl, HPL.out, HF.out, by rw [HLL.out]; rfl, by have h9 := RQV.out.rats EA.out; rw [hLk9] at h9; rw [HLL.out]; exact h9, by have h9 := HLK.out; rw [List.take_of_length_le (by rw [HLL.out]; exact Nat.le_refl _)] at h9; exact h9⟩)⟩, D9.out⟩
end Go.Proofs.YtoblpcljhblnmaaGreatDoor
namespace Go.Proofs.YtoblpcljhblnmaaGreatDoor
open Go.RowKit
set_option maxRecDepth 100000
/-- what matrix.TextVec returns -/
def TvSaid (rs : List Rat) (n : Nat) (w : World) (e : Ending) (w' : World) : Prop :=
  ((¬ (∀ q ∈ rs, Pl.Fits q) ∧ e = .returned (.tuple #[.slice none 0 0, .int .i64 2])) ∨
    ((∀ q ∈ rs, Pl.Fits q) ∧ ∃ g, e = .returned (.tuple #[.slice (some ⟨g, 0, none⟩) n n, .int .i64 0]) ∧ Reads w' w'.heap.size 1 (some ⟨g, 0, none⟩) n (txs (rs.map Pl.ratTxt)))) ∧ Below w.heap.size w w'
theorem textvec_any (A : Option Addr) (n c : Nat) (L : List (Rat × Rt)) (rs : List Rat) (w : World) (hn : n ≤ 1000) (hr : RatsIs w w.heap.size A n L) (hL : L.map (·.1) = rs) (hl : LV w) :
    Calls Tryz.prog 39 #[.slice A n c] w (TvSaid rs n w) := by
  have HC := Lib.hid (textsv_any A n c L rs w hn hr hL hl)
  clear hr hL hl
  go_enter Tryz.func39, Tryz.ntmps39
  go_wp2_with fail
  refine HC.out.mono ?_
  rintro e w1 ⟨hc, hb⟩
  have D := Lib.hid hb
  rcases hc with ⟨h1, rfl⟩ | ⟨h1, g, rfl, h2⟩
  · have H1 := Lib.hid h1
    clear h1 hb HC
    go_wp2_with fail
    go_ret2
    exact ⟨.inl ⟨H1.out, rfl⟩, D.out⟩
  · have H1 := Lib.hid h1
    have H2 := Lib.hid h2
    clear h1 h2 hb HC
    go_wp2_with fail
    go_ret2
    exact ⟨.inr ⟨H1.out, g, rfl, H2.out⟩, D.out⟩
/-- what rights.Payout returns -/
def PayoutSaid (N : Pl.Net) (l : List Pl.RI) (ls : List (List UInt8)) (w : World) (e : Ending) (w' : World) : Prop :=
  ((∃ E : Int, E ≠ 0 ∧ e = .returned (.tuple #[.slice none 0 0, .int .i64 E])) ∨
    (∃ bus isl mb mi, Pl.TopOk N bus isl mb mi ∧ ∃ (ps : List Rat) (g : Nat), Pl.rightsE N l = 0 ∧ ls = ps.map Pl.ratTxt ∧ ps.length = mb ∧ (∀ q ∈ ps, Pl.Fits q) ∧ (∀ q ∈ l.map (Pl.pay N bus ps), Pl.Fits q) ∧
      e = .returned (.tuple #[.slice (some ⟨g, 0, none⟩) l.length l.length, .int .i64 0]) ∧ Reads w' w'.heap.size 1 (some ⟨g, 0, none⟩) l.length (txs ((l.map (Pl.pay N bus ps)).map Pl.ratTxt)))) ∧ Below w.heap.size w w'
/-- when it answers with numbers -/
def PayGood (N : Pl.Net) (l : List Pl.RI) (ls : List (List UInt8)) : Prop := Pl.rightsE N l = 0 ∧ (∀ bus isl mb mi, Pl.TopOk N bus isl mb mi → ls.length = mb ∧ Pl.ratsE ls = 0 ∧ ∀ ps : List Rat, ls = ps.map Pl.ratTxt → (∀ q ∈ ps, Pl.Fits q) → ∀ q ∈ l.map (Pl.pay N bus ps), Pl.Fits q)
def PayoutSaid2 (N : Pl.Net) (l : List Pl.RI) (ls : List (List UInt8)) (w : World) (e : Ending) (w' : World) : Prop :=
  PayoutSaid N l ls w e w' ∧ (PayGood N l ls → ¬ ∃ E : Int, E ≠ 0 ∧ e = .returned (.tuple #[.slice none 0 0, .int .i64 E]))
theorem payoutS_any (M : MNet) (A : Option Addr) (n c : Nat) (l : List Pl.RI) (P : Option Addr) (np cp : Nat) (ls : List (List UInt8)) (w : World) (hM : NetIn w w.heap.size M) (hl : Elems riC 3 w w.heap.size A n l) (hn : n ≤ 9223372036854775807)
    (hr : Reads w w.heap.size 1 P np (txs ls)) (hnp : np ≤ 9223372036854775807) (hs : ∀ s ∈ ls, s.length ≤ 9223372036854775807) (hv : LV w) :
    Calls Tryz.prog 12 #[vNet M, .slice A n c, .slice P np cp] w (PayoutSaid2 M.N l ls w) := by
  have HLN := Lib.hid hl.2
  have HV := Lib.hid hv
  have HPY := Lib.hid (fun (W : World) (hb : Below w.heap.size w W) => payout_any M A n c l P np cp ls W (hM.go hb) ⟨hl.1.go hb, hl.2⟩ hn (hr.go hb) hnp hs (hv.go hb))
  clear hM hl hr hs hv
  obtain ⟨N, A0, n0, c0, A1, n1, c1, A2, n2, c2, A3, n3, c3, A4, n4, c4, A5, n5, c5⟩ := M
  unfold vNet netC at *
  simp only at *
  have hA := Blk.new_ w w.heap.size 29 #[.slice A0 n0 c0, .slice A1 n1 c1, .slice A2 n2 c2, .slice A3 n3 c3, .slice A4 n4 c4, .slice A5 n5 c5] rfl
  have hD := (Below.refl w.heap.size w).alloc (Nat.le_refl _) (.cells #[.slice A0 n0 c0, .slice A1 n1 c1, .slice A2 n2 c2, .slice A3 n3 c3, .slice A4 n4 c4, .slice A5 n5 c5] 29)
  have D := Lib.hid hD
  have ca := hA.cell
  have la := hA.lt
  clear hA hD
  go_enter Tryz.func12, Tryz.ntmps12
  go_wp2_with fail
  clear ca la
  generalize w.alloc (.cells #[.slice A0 n0 c0, .slice A1 n1 c1, .slice A2 n2 c2, .slice A3 n3 c3, .slice A4 n4 c4, .slice A5 n5 c5] 29) = w1 at *
  refine (HPY.out w1 D.out).mono ?_
  unfold PaySaid
  obtain ⟨RE, hRE⟩ : ∃ E, E = Pl.rightsE N l := ⟨_, rfl⟩
  rw [← hRE]
  have HRE := Lib.hid hRE
  clear hRE
  rintro e w2 ⟨hc, hb⟩
  replace D := Lib.hid (D.out.trans (hb.mono D.out.size))
  clear hb HPY
  rcases hc with ⟨h0, rfl⟩ | ⟨h0, bus, isl, mb, mi, ht, hc⟩
  · have e1 : (RE != 0) = true := by simpa using h0
    have H0 := Lib.hid h0
    clear h0
    go_wp2_with fail
    go_ret2
    exact ⟨⟨.inl ⟨RE, H0.out, rfl⟩, D.out⟩, fun hg => absurd (HRE.out.trans hg.1) H0.out⟩
  have HT := Lib.hid ht
  clear ht
  have HR0 : Hid (Pl.rightsE N l = 0) := Lib.hid (HRE.out.symm.trans h0)
  clear h0
  rcases hc with ⟨h1, rfl⟩ | ⟨h1, h2, rfl⟩ | ⟨ps, A9, c9, L, h1, h2, h3, rfl, h4, h5⟩
  · have H1 := Lib.hid h1
    clear h1
    go_wp2_with fail
    go_ret2
    exact ⟨⟨.inl ⟨3, by decide, rfl⟩, D.out⟩, fun hg => absurd (hg.2 _ _ _ _ HT.out).1 H1.out⟩
  · obtain ⟨E2, hE2⟩ : ∃ E, E = Pl.ratsE ls := ⟨_, rfl⟩
    rw [← hE2] at h2 ⊢
    have e1 : (E2 != 0) = true := by simpa using h2
    have H2 := Lib.hid h2
    have HE2 := Lib.hid hE2
    clear h1 h2 hE2
    go_wp2_with fail
    go_ret2
    exact ⟨⟨.inl ⟨E2, H2.out, rfl⟩, D.out⟩, fun hg => absurd (HE2.out.trans (hg.2 _ _ _ _ HT.out).2.1) H2.out⟩
  · have hln : l.length ≤ 1000 := by have := (rightsE_ok HR0.out).2.1; omega
    have HTV := Lib.hid (textvec_any A9 l.length c9 L (l.map (Pl.pay N bus ps)) w2 hln h4 h5 (HV.out.go D.out))
    have H1 := Lib.hid h1
    have H2 := Lib.hid h2
    have H3 := Lib.hid h3
    clear h1 h2 h3 h4 h5 hln
    go_wp2_with fail
    refine HTV.out.mono ?_
    rintro e w3 ⟨hc, hb⟩
    replace D := Lib.hid (D.out.trans (hb.mono D.out.size))
    clear hb HTV
    rcases hc with ⟨h6, rfl⟩ | ⟨h6, g, rfl, h7⟩
    · have H6 := Lib.hid h6
      clear h6
      go_wp2_with fail
      go_ret2
      exact ⟨⟨.inl ⟨2, by decide, rfl⟩, D.out⟩, fun hg => absurd ((hg.2 _ _ _ _ HT.out).2.2 ps H1.out H3.out) H6.out⟩
    · have H6 := Lib.hid h6
      have H7 := Lib.hid h7
      clear h6 h7
      go_wp2_with fail
      go_ret2
      refine ⟨⟨.inr ⟨bus, isl, mb, mi, HT.out, ps, g, HR0.out, H1.out, H2.out, H3.out, H6.out, rfl, H7.out⟩, D.out⟩, fun _ => ?_⟩
      rintro ⟨E, hE, he⟩
      cases he
end Go.Proofs.YtoblpcljhblnmaaGreatDoor
