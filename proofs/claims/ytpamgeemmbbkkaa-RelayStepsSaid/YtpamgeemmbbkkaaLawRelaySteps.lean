/- The law RelaySteps: for all programs, times and flags the call returns true, and old memory is left as it is. No condition. -/
import Derived.Test.YtpamgeemmbbkkaaBlk20
namespace Go.Proofs.Ytpamgeemmbbkkaa
open Go.RowKit
set_option maxRecDepth 100000
theorem elem_tg : Try.prog.underlying 61 = some (.slice (Try.prog.elem 61)) := by kernel_rfl
theorem size_tg : ∀ w : World, (sizeOf (Try.prog.elem 61)).run Try.prog w = .ok 1 w := fun _ => by kernel_rfl
theorem TGrid.take_ {w : World} {B n : Nat} {A : Option Addr} {l : List MTx} (h : TGrid w B A n l) {k : Nat} (hk : k ≤ n) : TGrid w B A k (l.take k) := by
  have hl := h.1.2
  have e : (l.take k).flatMap txC = (l.flatMap txC).take k := by
    have e2 : ∀ l : List MTx, l.flatMap txC = l.map fun x => Value.slice x.A x.n x.c := fun l => by
      induction l with
      | nil => rfl
      | cons x l ih => rw [List.flatMap_cons, ih]; rfl
    rw [e2, e2, List.map_take]
  refine ⟨⟨⟨by rw [e, List.length_take, h.1.1.1]; omega, fun h0 => ?_⟩, by rw [List.length_take]; omega⟩, fun x hx => h.2 x (List.mem_of_mem_take hx)⟩
  obtain ⟨ad, e1, hb, hc⟩ := h.1.1.2 (by omega)
  refine ⟨ad, e1, hb, fun j u hu => hc j u ?_⟩
  rw [e, List.getElem?_take] at hu
  split at hu
  · exact hu
  · cases hu
theorem tg_to {n c : Nat} {A : Option Addr} (m : Int) (k : Nat) (hm : m = k) (hk : k ≤ n) (hnc : n ≤ c) (w : World) : (Instr.slice 61 (.slice A n c) none (some (.int .i64 m)) none).run Try.prog w = .ok (.slice A k c) w := by
  subst hm
  have e : A.map (·.add 0) = A := by
    cases A with
    | none => rfl
    | some a => simp [Addr.add]
  rw [run_slice_h w 61 A n c elem_tg .i64 k (by omega) (by omega), size_tg]
  simp [sliced, Result.andThen]
  exact fun _ => e
theorem txts_of {x y : List ByteArray} (h : x = y) : Pl.sameT x y = true := Pl.sameT_iff.2 h
theorem MS0.go {M : MC} {w w' : World} {κ : Nat → Nat → Pl.Mem} {vs : List Bool} (h : MS0 M w κ vs) (hb : Below w.heap.size w w') : MS0 M w' κ vs := by
  obtain ⟨d, hm⟩ := h.mach
  refine ⟨⟨d, hm.go hb⟩, h.hO, h.hT, h.rules.below (hb.mono h.low.1), fun hn => ?_, fun hn => ?_, fun k hk => (h.rowO k hk).go hb, fun k hk => (h.rowT k hk).go hb, ⟨h.vals.1, h.vals.2.go hb⟩, ⟨Nat.le_trans h.low.1 hb.size, h.low.2⟩, h.apart⟩
  · obtain ⟨cs, h1, h2⟩ := h.outO hn; exact ⟨cs, h1.go hb, h2⟩
  · obtain ⟨cs, h1, h2⟩ := h.outT hn; exact ⟨cs, h1.go hb, h2⟩
theorem MS0.drew {M : MC} {w : World} {κ : Nat → Nat → Pl.Mem} {vs : List Bool} (h : MS0 M w κ vs) : MS0 M w.drew κ vs :=
  ⟨h.mach, h.hO, h.hT, h.rules, h.outO, h.outT, h.rowO, h.rowT, h.vals, h.low, h.apart⟩
/-- what is known of the reference's machine before step k -/
structure LInv (M : MC) (n : Nat) (l : List MRul) (ms : Int) (tr : Nat → Pl.RT) (fss : List MTx) (Vs : List (List Bool)) (k : Nat) (wr : World) : Prop where
  ex : ∃ κ vs, RunTo n l ms tr ((fss.take k).map MTx.ts) (Vs.take k) κ ∧ MS0 M wr κ vs ∧ TmL M κ
theorem ph_step {M : MC} {n : Nat} {l l1 : List MRul} {ms : Int} {tr : Nat → Pl.RT} {fss : List MTx} {Vs : List (List Bool)} {κL κ : Nat → Nat → Pl.Mem} {ol : List Int} {k : Nat} (hMn : M.n = n) (hMl : M.l = l) (hl : l.length = n) (hE : Pl.relE (prl l) = 0)
    (hlen : ∀ o ∈ l, o.ex.length = o.n) (htr : ∀ (k : Nat) (o : MRul), l[k]? = some o → Pl.IsT o.ex 0 o.ex.length (tr k)) (ho : Pl.orderP (ndP l) n = some ol) (hs : SameR l l1) (hms : 1 ≤ ms ∧ ms ≤ 100000)
    (hrun : RunTo n l1 ms tr (fss.map MTx.ts) Vs κL) (hk : k < fss.length) (hr : RunTo n l1 ms tr ((fss.take k).map MTx.ts) (Vs.take k) κ) :
    ∃ hv : k < Vs.length, Ph M tr (rkO ol) κ (Vs[k]) ms (fss[k]).ts ∧ RunTo n l1 ms tr ((fss.take (k + 1)).map MTx.ts) (Vs.take (k + 1)) (Pl.κfin M.n tr (Pl.flP (prl M.l) (Vs[k]) (fss[k]).ts) ms κ) := by
  have hv : k < Vs.length := by have := hrun.len; simp at this; omega
  refine ⟨hv, ?_⟩
  obtain ⟨κk, h1, h2⟩ := hrun.at_ k (by simpa using hk) hv
  rw [List.getElem_map] at h2
  rw [← List.map_take] at h1
  have := h1.det hr
  subst this
  obtain ⟨h16, hok, _⟩ := relE_zero hl hE
  obtain ⟨hord, hol⟩ := Pl.orderP_ok ho
  subst hMn hMl
  constructor
  · refine ⟨fun i hi => ?_, fun i hi nm hnm j hR => ?_, h2.same hs, h16, ⟨by omega, hms.2⟩⟩
    · have e : M.l[i]? = some M.l[i] := List.getElem?_eq_getElem (by omega)
      have hm := List.mem_of_getElem? e
      refine ⟨_, e, by have := (hok _ hm).1; rw [← hlen _ hm]; exact this, hlen _ hm, fun x hx => ⟨((hok _ hm).2.1 x hx).1, ((hok _ hm).2.1 x hx).2, relE_vals hl hE _ hm x hx⟩, htr i _ e⟩
    · refine rkO_lt hord hol hi ?_
      have e : M.l[i]? = some M.l[i] := List.getElem?_eq_getElem (by omega)
      unfold ndP
      rw [e]
      show (j : Int) ∈ Pl.needsP _ _
      rw [← hR]
      exact Pl.needs_of (htr i _ e) hnm (by rw [hR]; omega)
  · have h3 := h1.snoc h2
    rw [hs.prl] at h3
    rw [List.take_succ_eq_append_getElem hk, List.take_succ_eq_append_getElem hv, List.map_append]
    exact h3
theorem outs_at {l : List MRul} {outs : List MTx} {Vs : List (List Bool)} (h : outs.map MTx.ts = Vs.map (outsP l)) {k : Nat} (hk : k < outs.length) (hv : k < Vs.length) : (outs[k]).ts = outsP l (Vs[k]) := by
  have e := congrArg (fun l => l[k]?) h
  simp only [List.getElem?_map, List.getElem?_eq_getElem hk, List.getElem?_eq_getElem hv, Option.map_some, Option.some.injEq] at e
  exact e
set_option maxHeartbeats 6400000 in
theorem relaySteps_walk (A : Option Addr) (n c : Nat) (l : List MRul) (ms : Int) (Af : Option Addr) (nf cf : Nat) (fss : List MTx) (w : World) (hnc : n ≤ c) (hcm : c ≤ maxLen) (h : Ruls w w.heap.size A n l) (hfc : nf ≤ cf) (hfm : cf ≤ maxLen) (hf : TGrid w w.heap.size Af nf fss) :
    Calls Try.prog 6 #[.slice A n c, .int .i64 ms, .slice Af nf cf] w fun e w' => e = .returned (.bool true) ∧ Below w.heap.size w w' := by
  have hn63 : n ≤ 9223372036854775807 := by unfold maxLen at hcm; omega
  have hnf63 : nf ≤ 9223372036854775807 := by unfold maxLen at hfm; omega
  obtain ⟨m, hm, hm40, hmn⟩ : ∃ m : Nat, min (nf : Int) 40 = m ∧ m ≤ 40 ∧ m ≤ nf := ⟨min nf 40, by omega, by omega, by omega⟩
  have hsl := fun W => tg_to (A := Af) (min (nf : Int) 40) m hm hmn hfc W
  have hft := hf.take_ hmn
  generalize fss.take m = gss at *
  have imin : ∀ a b : Int, (if b < a then b else a) = min a b := ite_min
  have HG := Lib.hid hft
  have H := Lib.hid h
  have HN := Lib.hid h.len
  have HLN : Hid (∀ o ∈ l, o.ex.length = o.n) := fun o ho => (h.2 o ho).2.2.1.2
  clear h hf hft hm
  go_enter Try.func6, Try.ntmps6
  go_wp2_with fail
  refine (relayWorks_any w).mono ?_
  rintro e w1 ⟨rfl, hb⟩
  have F1 := Lib.hid hb
  have H1 := Lib.hid (H.out.go hb)
  have HG1 := Lib.hid (HG.out.go hb)
  clear hb H HG hsl imin
  go_wp2_with fail
  by_cases hE : Pl.relE (prl l) = 0
  · by_cases hms : 1 ≤ ms ∧ ms ≤ 100000
    · have HE := Lib.hid hE
      obtain ⟨tr, htr⟩ := trees_of HN.out hE
      have HTR := Lib.hid htr
      have HR := Lib.hid (rrun_ok A n c l ms Af m cf gss w1 hn63 hnc H1.out hE hms (by omega) HG1.out tr (fun l1 ol hs ho => prg_tr HN.out hE HLN.out htr hs ho))
      obtain ⟨ol, hol⟩ : ∃ ol, Pl.orderP (ndP l) n = some ol := by
        have := (relE_zero HN.out hE).2.2
        rw [← ndP_prl] at this
        exact Option.ne_none_iff_exists'.1 this
      have HOL := Lib.hid hol
      obtain ⟨ms1, ms2⟩ := hms
      have m1 : ¬ ms < 1 := by omega
      have m2 : ¬ 100000 < ms := by omega
      have h16 := (relE_zero HN.out hE).1
      have HK2 := Lib.hid hE
      clear hE htr hol
      refine HR.out.mono ?_
      rintro e w2 hs
      unfold RRunSaid at hs
      rcases hs with ⟨rfl, hb, _⟩ | ⟨A', c', Vs, κ, l1, outs, he, hrt, hsr, hgr, hot, hb, h256⟩
      · have F2 := Lib.hid (F1.out.trans (hb.mono F1.out.size))
        have HC := Lib.hid (rcheck_any A n c l w2 hn63 hnc (H1.out.go hb))
        rw [HK2.out] at HC
        clear hb HR
        go_wp2_with fail
        refine HC.out.mono ?_
        rintro e w3 ⟨rfl, hb⟩
        have F3 := Lib.hid (F2.out.trans (hb.mono F2.out.size))
        clear hb HC
        go_wp2_with fail
        go_ret
        exact ⟨rfl, F3.out⟩
      · have F2 := Lib.hid (F1.out.trans (hb.mono F1.out.size))
        have HC := Lib.hid (rcheck_any A n c l w2 hn63 hnc (H1.out.go hb))
        rw [HK2.out] at HC
        have hgl : gss.length = m := HG1.out.1.2
        have H2 := Lib.hid (H1.out.go hb)
        have HG2 := Lib.hid (HG1.out.go hb)
        have HRT := Lib.hid hrt
        have HSR := Lib.hid hsr
        have HGR := Lib.hid hgr
        have HOT := Lib.hid hot
        have H256 := Lib.hid h256
        rw [hgl] at HGR
        rw [hgl] at he
        subst he
        have HGL := Lib.hid hgl
        clear hgl hb hrt hsr hgr hot h256 HR H1 HG1
        go_wp2_with fail
        refine HC.out.mono ?_
        rintro e w3 ⟨rfl, hb⟩
        have F3 := Lib.hid (F2.out.trans (hb.mono F2.out.size))
        have H3 := Lib.hid (H2.out.go hb)
        have HG3 := Lib.hid (HG2.out.go hb)
        have HGR3 := Lib.hid (HGR.out.go hb)
        clear hb HC H2 HG2 HGR
        go_wp2_with fail
        refine (newm_any A n c l w3 h16 H3.out (fun o ho => by
          have h1 := ((relE_zero HN.out HK2.out).2.1 o ho).1
          have h2 := HLN.out o ho
          omega)).mono ?_
        rintro e w4 hs
        unfold NewMSaid at hs
        obtain ⟨M, rfl, hMA, hMn, hMl, hMH, hms0, hb⟩ := hs
        have F4 := Lib.hid (F3.out.trans (hb.mono F3.out.size))
        have HG4 := Lib.hid (HG3.out.below hb)
        have HGR4 := Lib.hid (HGR3.out.below hb)
        rw [← hMH] at HG4 HGR4
        have HMM := Lib.hid (And.intro hMn (And.intro hMl hMH))
        have HS0 : Hid (LInv M n l1 ms tr gss Vs 0 w4) := ⟨⟨_, _, by simp; exact RunTo.nil, hms0, fun k a => by simp, fun _ _ _ _ _ _ _ => rfl⟩⟩
        have HHS : Hid (w.heap.size ≤ M.H ∧ M.H ≤ w4.heap.size) := ⟨by rw [hMH]; exact F3.out.size, by rw [hMH]; exact hb.size⟩
        clear hb hms0 hMA hMn hMl hMH HG3 HGR3
        go_wp2_with fail
        go_loopw [67] (fun i wr => ∃ k : Nat, k ≤ m ∧ i = .int .i64 k ∧ Hid (LInv M n l1 ms tr gss Vs k wr) ∧ Hid (TGrid wr M.H Af m gss) ∧ Hid (TGrid wr M.H A' m outs) ∧ Hid (Below w.heap.size w wr)) (fun i _ => m - (intOf i).toNat)
        case atStart => exact ⟨0, Nat.zero_le _, rfl, HS0.out, HG4.out, HGR4.out, F4.out⟩
        case round =>
          obtain ⟨k, hkm, rfl, HI, HGW, HOW, HB⟩ := hrel
          clear HS0 HG4 HGR4 F4
          by_cases hlt : k < m
          · obtain ⟨bf, of_, rfl, hbf, hlf, p0, hfn, hfc2, hfr⟩ := tgrid_at HGW.out hlt
            obtain ⟨bo, oo, rfl, hbo, hlo, q0, hon, hoc, hor⟩ := tgrid_at HOW.out hlt
            have hbf2 := cell_lt p0
            have hbo2 := cell_lt q0
            obtain ⟨κ, vs, hr, hm0, htm⟩ := HI.out.ex
            obtain ⟨hv, hph, hr2⟩ := ph_step HMM.out.1 HMM.out.2.1 HN.out HK2.out HLN.out HTR.out HOL.out HSR.out ⟨ms1, ms2⟩ HRT.out (k := k) hlf hr
            have HRR := Lib.hid hr2
            have h2 := H256.out _ (List.getElem_mem hlf)
            have HOE : Hid ((outs[k]).ts = outsP l Vs[k]) := outs_at HOT.out hlo hv
            have HMML := Lib.hid HMM.out.2.1
            have HC := Lib.hid (mstep_any hph (gss[k]).A (gss[k]).n (gss[k]).c h2 hm0.drew htm hfr)
            have HOR := Lib.hid hor
            have hk0 : (0 : Int) ≤ (k : Int) := by omega
            have hk1 : (k : Int) < (m : Int) := by omega
            generalize Vs[k] = V at *
            generalize (gss[k]).A = fA at *
            generalize (gss[k]).n = fn at *
            generalize (gss[k]).c = fc at *
            generalize (gss[k]).ts = fts at *
            generalize (outs[k]).A = oA at *
            generalize (outs[k]).n = on at *
            generalize (outs[k]).c = oc at *
            generalize (outs[k]).ts = ots at *
            have HLO := Lib.hid hm0.low
            have HLS := Lib.hid (fun i hi => hm0.sub i hi)
            clear hfr hor hr hr2 hm0 htm hph h2
            go_wp2_with fail
            have hSw : (fun w' : World => w'.cell? ⟨bo, oo + k, none⟩ = some (.slice oA on oc)) wr.drew := q0
            refine wp_region_mid (fun w' : World => w'.cell? ⟨bo, oo + k, none⟩ = some (.slice oA on oc)) 10 (by kernel_rfl) ?_
            refine wpAnyM_take 0 rfl (by kernel_rfl) (by kernel_rfl) (by kernel_rfl) (by kernel_rfl) (by kernel_rfl) (fun _ _ _ h => h) hSw (by rfl) (fun w' hSx => by (try dsimp only at hSx); go_simp; first | done | with_reducible rfl) ?_
            simp only [Act.put, List.setIfInBounds_toArray]
            refine wpAnyM_take 1 rfl (by kernel_rfl) (by kernel_rfl) (by kernel_rfl) (by kernel_rfl) (by kernel_rfl) (fun _ _ _ h => h) hSw (by rfl) (fun w' hSx => by (try dsimp only at hSx); go_simp; first | done | with_reducible rfl) ?_
            simp only [Act.put]
            refine wpAnyM_take 2 rfl (by kernel_rfl) (by kernel_rfl) (by kernel_rfl) (by kernel_rfl) (by kernel_rfl) (fun _ _ _ h => h) hSw (by rfl) (fun w' hSx => by (try dsimp only at hSx); go_simp; first | done | with_reducible rfl) ?_
            simp only [Act.put]
            refine wpAnyM_take 3 rfl (by kernel_rfl) (by kernel_rfl) (by kernel_rfl) (by kernel_rfl) (by kernel_rfl) (fun _ _ _ h => h) hSw (by rfl) (fun w' hSx => by (try dsimp only at hSx); go_simp; first | done | with_reducible rfl) ?_
            simp only [Act.put]
            refine wpAnyM_take 4 rfl (by kernel_rfl) (by kernel_rfl) (by kernel_rfl) (by kernel_rfl) (by kernel_rfl) (fun _ _ _ h => h) hSw (by rfl) (fun w' hSx => by (try dsimp only at hSx); go_simp; first | done | with_reducible rfl) ?_
            simp only [Act.put]
            refine wpAnyM_take 5 rfl (by kernel_rfl) (by kernel_rfl) (by kernel_rfl) (by kernel_rfl) (by kernel_rfl) (fun _ _ _ h => h) hSw (by rfl) (fun w' hSx => by (try dsimp only at hSx); go_simp; first | done | with_reducible rfl) ?_
            simp only [Act.put]
            refine wpAnyM_take 6 rfl (by kernel_rfl) (by kernel_rfl) (by kernel_rfl) (by kernel_rfl) (by kernel_rfl) (fun _ _ _ h => h) hSw (by rfl) (fun w' hSx => by (try dsimp only at hSx); go_simp; first | done | with_reducible rfl) ?_
            simp only [Act.put]
            refine wpAnyM_ready [7] (by kernel_rfl) (by simp) ?_
            refine AllReadyM.cons (by rfl) (fun K hK => ?_) AllReadyM.nil
            go_simp
            refine HC.out.mono ?_
            rintro e w5 ⟨A5, m5, c5, vs5, rfl, hown, hm5, htm5, hfr5⟩
            have hbm : Below M.H wr.drew w5 := hfr5.to_below (fun i e => by
              rcases e with rfl | e
              · exact HLO.out.2.2
              · exact HLO.out.2.1 i e) HLO.out.1
            have hS5 : (fun w' : World => w'.cell? ⟨bo, oo + k, none⟩ = some (.slice oA on oc)) w5 := (hbm.cell (p := ⟨bo, oo + k, none⟩) hbo).trans q0
            refine hK.out _ _ hS5 ?_
            clear hK K hSw
            have HM5 := Lib.hid (And.intro hm5 htm5)
            have HB5 : Hid (Below M.H wr w5) := (Below.refl _ wr).drew.trans hbm
            have h5s : M.H ≤ w5.heap.size := Nat.le_trans HLO.out.1 hbm.size
            have HSM := Lib.hid (sameTexts_any oA A5 on oc m5 c5 ots _ w5 hon ((HOR.out.below HB5.out).more h5s) (Reads.of_own hown))
            rw [Pl.sameT_iff.2 (HOE.out.trans (by rw [HMML.out]))] at HSM
            clear hown hm5 htm5 hfr5 hbm HC
            refine wpAnyM_ready [8] (by kernel_rfl) (by simp) ?_
            refine AllReadyM.cons (by rfl) (fun K hK => ?_) AllReadyM.nil
            go_simp
            refine HSM.out.mono ?_
            rintro e w6 ⟨rfl, hb6⟩
            have hS6 : (fun w' : World => w'.cell? ⟨bo, oo + k, none⟩ = some (.slice oA on oc)) w6 := (hb6.cell (p := ⟨bo, oo + k, none⟩) (by show bo < _; omega)).trans hS5
            refine hK.out _ _ hS6 ?_
            clear hK K hS5
            have hSw := hS6
            clear hS6
            refine wpAnyM_take 9 rfl (by kernel_rfl) (by kernel_rfl) (by kernel_rfl) (by kernel_rfl) (by kernel_rfl) (fun _ _ _ h => h) hSw (by rfl) (fun w' hSx => by (try dsimp only at hSx); go_simp; first | done | with_reducible rfl) ?_
            simp only [Act.put]
            refine wpAnyM_done (by kernel_rfl) ?_ _
            have HB6 : Hid (Below M.H wr w6) := HB5.out.trans (hb6.mono h5s)
            have HI6 : Hid (LInv M n l1 ms tr gss Vs (k + 1) w6) := ⟨⟨_, _, HRR.out, HM5.out.1.go hb6, HM5.out.2⟩⟩
            have HGW6 := Lib.hid (HGW.out.below HB6.out)
            have HOW6 := Lib.hid (HOW.out.below HB6.out)
            have HW6 : Hid (Below w.heap.size w w6) := HB.out.trans (HB6.out.mono HHS.out.1)
            clear HI HGW HOW HB HB5 HB6 hb6 HSM HM5 hSw
            go_wp2_with fail
            go_roundw
            case rel => exact ⟨k + 1, by omega, by go_num, HI6.out, HGW6.out, HOW6.out, HW6.out⟩
            case measure => simp [intOf]; omega
          · have hkk : k = m := by omega
            subst hkk
            have hj1 : ¬ ((k : Int) < (k : Int)) := by omega
            go_wp2_with fail
            go_ret
            exact ⟨rfl, HB.out⟩
    · have hor : ms < 1 ∨ 100000 < ms := by omega
      have HR := Lib.hid (rrun_range A n c l ms (.slice Af m cf) w1 hn63 hnc H1.out hE hor)
      have HK2 := Lib.hid hE
      clear hE hms
      refine HR.out.mono ?_
      rintro e w2 ⟨rfl, hb⟩
      have F2 := Lib.hid (F1.out.trans (hb.mono F1.out.size))
      have HC := Lib.hid (rcheck_any A n c l w2 hn63 hnc (H1.out.go hb))
      rw [HK2.out] at HC
      clear hb HR
      go_wp2_with fail
      refine HC.out.mono ?_
      rintro e w3 ⟨rfl, hb⟩
      have F3 := Lib.hid (F2.out.trans (hb.mono F2.out.size))
      clear hb HC
      rcases hor with hq | hq
      · go_wp2_with fail
        go_ret
        exact ⟨rfl, F3.out⟩
      · have hq1 : ¬ ms < 1 := by omega
        go_wp2_with fail
        go_ret
        exact ⟨rfl, F3.out⟩
  · have HR := Lib.hid (rrun_bad A n c l ms (.slice Af m cf) w1 hn63 hnc H1.out hE)
    refine HR.out.mono ?_
    rintro e w2 ⟨rfl, hb⟩
    have F2 := Lib.hid (F1.out.trans (hb.mono F1.out.size))
    have HC := Lib.hid (rcheck_any A n c l w2 hn63 hnc (H1.out.go hb))
    have hE2 : (Pl.relE (prl l) != 0) = true := by simpa using hE
    clear hb HR hE H1 HN HLN
    generalize Pl.relE (prl l) = E at *
    go_wp2_with fail
    refine HC.out.mono ?_
    rintro e w3 ⟨rfl, hb⟩
    have F3 := Lib.hid (F2.out.trans (hb.mono F2.out.size))
    clear hb HC
    go_wp2_with fail
    go_ret
    exact ⟨rfl, F3.out⟩
end Go.Proofs.Ytpamgeemmbbkkaa
