/- The law DualSteps: for all generators, demands and prices the call returns true, and old memory is left as it is. No condition. -/
import Derived.Test.YtchafkocobbndaaStepB
import Derived.Test.YtchafkocobbndaaAlone
import Derived.Test.YtchafkocobbndaaEqInt
namespace Go.Proofs.Ytchafkocobbndaa
open Go.RowKit
theorem Unis.lit {w : World} {u : MU} (h : UnIn w u) (t : TypeId) (g : Nat) (hg : g = w.heap.size) : Unis (w.alloc (.cells (ucells u).toArray t)) (some ⟨g, 0, none⟩) 1 [u] := by
  refine ⟨?_, fun v hv => ?_⟩
  · have := Reads.lit w (ucells u).toArray t 1 13 g hg rfl
    simpa [unis] using this
  · rw [List.mem_singleton.1 hv]
    exact h.go ((Below.refl _ _).alloc (Nat.le_refl _) _)
theorem dstep_ex (AL A B C : Option Addr) (w : World) (h : Unis w A 1 [aloneU AL]) (hq : Reads w w.heap.size 1 B 1 (ints [12])) (hp : Reads w w.heap.size 1 C 1 (ints [0])) :
    Calls Try.prog 9 #[.slice A 1 1, .slice B 1 1, .slice C 1 1, .int .i64 3] w fun e w' => ∃ A c, e = .returned (.tuple #[.slice A 1 c, .int .i64 0]) ∧ Reads w' w'.heap.size 1 A 1 (ints [3]) ∧ Below w.heap.size w w' := by
  have h1 := dstep_any A B C 1 1 1 1 1 1 [aloneU AL] [12] [0] 3 w (Nat.le_refl _) h hq hp
  rw [show Pl.dStep (plus [aloneU AL]) [12] [0] 3 = ([3], 0) from Pl.dStep_ex] at h1
  exact h1
set_option maxHeartbeats 12800000 in
set_option maxRecDepth 100000 in
theorem dualSteps_go (A B C : Option Addr) (n c m d q e : Nat) (l : List MU) (ds ps : List Int) (b0 : Int) (w : World) (hcap : n ≤ c) (h : Unis w A n l) (hq : Reads w w.heap.size 1 B m (ints ds)) (hp : Reads w w.heap.size 1 C q (ints ps)) :
    Calls Try.prog 3 #[.slice A n c, .slice B m d, .slice C q e, .int .i64 b0] w fun e w' => e = .returned (.bool true) ∧ Below w.heap.size w w' := by
  have HST := Lib.hid (fun w h hq hp => dstep_any A B C n c m d q e l ds ps b0 w hcap h hq hp)
  have HEX := Lib.hid dstep_ex
  have HEQ := Lib.hid (fun (A B : Option Addr) (c : Nat) (w : World) h1 h2 => eqint_any A B 1 1 c 1 [3] [3] w (by decide) h1 h2 rfl)
  have H := Lib.hid h
  have HQ := Lib.hid hq
  have HP := Lib.hid hp
  have L0 := Lib.hid h.len
  have L1 := Lib.hid hq.int_len
  have L2 := Lib.hid hp.int_len
  unfold StepSaid at HST
  clear h hq hp
  have HAL := Lib.hid alone_any
  unfold vUn aloneU at HAL
  go_enter Try.func3, Try.ntmps3
  go_wp2_with fail
  refine (HAL.out _).mono ?_
  rintro e1 w1 ⟨AL, rfl, hin, hb⟩
  have HIN : Hid (UnIn w1 (aloneU AL)) := hin
  have HB1 := Lib.hid hb
  clear hin hb HAL
  go_wp2_with fail
  have HU1 := Lib.hid (Unis.lit HIN.out 35 _ rfl)
  have A1 := Lib.hid (HB1.out.alloc HB1.out.size (.cells (ucells (aloneU AL)).toArray 35))
  have hcel : (ucells (aloneU AL)).toArray = #[.string ⟨#[65]⟩, .int .i64 0, .int .i64 20, .int .i64 20, .int .i64 20, .int .i64 1, .int .i64 1, .int .i64 9, .string ⟨#[65]⟩, .slice AL 2 2, .bool false, .int .i64 5, .int .i64 0] := rfl
  rw [hcel] at HU1 A1
  have hs1 : (w1.alloc (.cells #[.string ⟨#[65]⟩, .int .i64 0, .int .i64 20, .int .i64 20, .int .i64 20, .int .i64 1, .int .i64 1, .int .i64 9, .string ⟨#[65]⟩, .slice AL 2 2, .bool false, .int .i64 5, .int .i64 0] 35)).heap.size = w1.heap.size + 1 := by simp
  clear hcel
  generalize w1.alloc (.cells #[.string ⟨#[65]⟩, .int .i64 0, .int .i64 20, .int .i64 20, .int .i64 20, .int .i64 1, .int .i64 1, .int .i64 9, .string ⟨#[65]⟩, .slice AL 2 2, .bool false, .int .i64 5, .int .i64 0] 35) = w2 at *
  have A2 := Lib.hid (A1.out.alloc A1.out.size (.cells #[.int .i64 12] 3))
  have RD2 := Lib.hid (Reads.lit w2 #[.int .i64 12] 3 1 1 (w1.heap.size + 1) hs1.symm rfl)
  have HU2 := Lib.hid (HU1.out.go ((Below.refl w2.heap.size w2).alloc (Nat.le_refl _) (.cells #[.int .i64 12] 3)))
  have hs2 : (w2.alloc (.cells #[.int .i64 12] 3)).heap.size = w1.heap.size + 1 + 1 := by simp [hs1]
  generalize w2.alloc (.cells #[.int .i64 12] 3) = w3 at *
  have A3 := Lib.hid (A2.out.alloc A2.out.size (.cells #[.int .i64 0] 3))
  have RP3 := Lib.hid (Reads.lit w3 #[.int .i64 0] 3 1 1 (w1.heap.size + 1 + 1) hs2.symm rfl)
  have AL3 := (Below.refl w3.heap.size w3).alloc (Nat.le_refl _) (.cells #[.int .i64 0] 3)
  have HU3 := Lib.hid (HU2.out.go AL3)
  have RD3 := Lib.hid (RD2.out.go AL3)
  generalize w3.alloc (.cells #[.int .i64 0] 3) = w4 at *
  refine (HEX.out AL _ _ _ w4 HU3.out RD3.out RP3.out).mono ?_
  rintro e1 w5 ⟨AX, cx, rfl, hrx, hb⟩
  have HB5 := Lib.hid (A3.out.trans (hb.mono A3.out.size))
  have RX5 := Lib.hid hrx
  clear hb hrx HEX A1 A2 A3 HU1 HU2 HU3 RD2 RD3 RP3 AL3 hs1 hs2 HIN HB1
  go_wp2_with fail
  have HB6 := Lib.hid (HB5.out.alloc HB5.out.size (.cells #[.int .i64 3] 3))
  have RX6 := Lib.hid (RX5.out.go ((Below.refl w5.heap.size w5).alloc (Nat.le_refl _) (.cells #[.int .i64 3] 3)))
  have RY6 := Lib.hid (Reads.lit w5 #[.int .i64 3] 3 1 1 w5.heap.size rfl rfl)
  generalize w5.alloc (.cells #[.int .i64 3] 3) = w6 at *
  refine (HEQ.out _ _ _ w6 RX6.out RY6.out).mono ?_
  rintro e1 w7 ⟨rfl, hb⟩
  have HB7 := Lib.hid (HB6.out.trans (hb.mono HB6.out.size))
  clear hb HEQ RX6 RY6 RX5 HB5 HB6
  go_wp2_with fail
  refine (HST.out w7 (H.out.go HB7.out) (HQ.out.go HB7.out) (HP.out.go HB7.out)).mono ?_
  rintro e1 w8 ⟨Ax, cx, rfl, hrx, hb⟩
  have HB8 := Lib.hid (HB7.out.trans (hb.mono HB7.out.size))
  have RX := Lib.hid hrx
  clear hb hrx HST HB7
  by_cases h0 : (Pl.dStep (plus l) ds ps b0).2 = 0
  · obtain ⟨hck, hb1, hb2, hE⟩ := Pl.dStep_ok h0
    obtain ⟨⟨k1, k2, k3, k4⟩, k5, k6⟩ := Pl.dchk_ok hck
    rw [hE] at RX ⊢
    simp only [Pl.mixN_len, L2.out] at RX ⊢
    have hqm : q = m := by rw [← L2.out, ← L1.out]; exact k5
    subst hqm
    have hq8 : q ≤ 8 := by rw [← L1.out]; exact k2
    have hn3 : n ≤ 3 := by rw [← L0.out, ← plus_len]; exact k1
    have HU : Hid (∀ u ∈ l, Pl.duCheck (plu u) = 0) := fun u hu => k3 _ (List.mem_map.2 ⟨u, hu, rfl⟩)
    have HPS := Lib.hid k6
    have HDS := Lib.hid k4
    have HBP : Hid (Pl.has Pl.badPr ps = false) := by
      show _ = _
      cases hbp : Pl.has Pl.badPr ps
      · rfl
      · unfold Pl.dchk at hck
        split at hck
        · rename_i hx; exact absurd hck hx
        · split at hck
          · cases hck
          · first | cases hck | (rw [if_pos hbp] at hck; cases hck)
    have H8 := Lib.hid (H.out.go HB8.out)
    have HQ8 := Lib.hid (HQ.out.go HB8.out)
    have HP8 := Lib.hid (HP.out.go HB8.out)
    clear h0 k1 k2 k3 k4 k5 k6 hck hE H HQ HP
    obtain ⟨j0, ji0, jz0, jz1, jz2⟩ := info_parts info_int
    have hmk0 : ∀ w, (Instr.makeSlice 23 (.int .i64 (q : Int)) (.int .i64 (q : Int))).run Try.prog w = .ok (.slice (some ⟨w.heap.size, 0, none⟩) q q) (w.alloc (.cells (madeCells #[.int .i64 0] q) 3)) := fun w => by
      have := run_make (P := Try.prog) w 23 3 j0 (.int .i64 0) Try.underlying23 ji0 jz0 .i64 .i64 q q (by omega) (by omega) (by rw [jz2]; omega) (by omega)
      rw [jz1, show (Value.int .i64 0).cells = #[.int .i64 0] from rfl] at this
      simpa using this
    generalize hz : madeCells #[Value.int .i64 0] q = ZC at hmk0
    have HZL : Hid (ZC.toList = ints (List.replicate q 0)) := by show _ = _; rw [← hz, toList_madeCells_one]; simp [ints]
    have HMX : Hid (∀ a b : Int, (if a < b then b else a) = max a b) := ite_max
    have hmk := hmk0
    clear j0 ji0 jz0 jz1 jz2 hz hmk0
    go_wp2_with fail
    have IS : Hid (IBlk (w8.alloc (.cells ZC 3)) w8.heap.size 3 (Pl.mixN (Pl.dsup ps (plus (l.take 0))) (fun _ => 0) q q)) := by
      rw [Pl.mixN_full _ _ (fun _ => 0), show Pl.dsup ps (plus (l.take 0)) = (fun _ => 0) from rfl, Pl.mixN_zero]
      exact IBlk.new_ _ _ _ _ rfl HZL.out
    have HBN := Lib.hid ((Below.refl w8.heap.size w8).alloc (Nat.le_refl _) (.cells ZC 3))
    clear hmk
    obtain ⟨gs, hgs⟩ : ∃ g, g = w8.heap.size := ⟨_, rfl⟩
    have HGS := Lib.hid hgs
    rw [← hgs] at IS ⊢
    have hgw : w8.heap.size ≤ gs := Nat.le_of_eq hgs.symm
    clear hgs
    generalize w8.alloc (.cells ZC 3) = w9 at *
    go_loopw [63] (fun i wr => ∃ k : Nat, k ≤ n ∧ i = .int .i64 k ∧ Hid (IBlk wr gs 3 (Pl.mixN (Pl.dsup ps (plus (l.take k))) (fun _ => 0) q q)) ∧ Hid (Below w8.heap.size w8 wr)) (fun i _ => n - (intOf i).toNat)
    case atStart => exact ⟨0, Nat.zero_le _, rfl, IS, HBN⟩
    case round =>
      clear IS HBN
      obtain ⟨k, hk, rfl, IS, HB⟩ := hrel
      by_cases hlt : k < n
      · obtain ⟨b, o, rfl, u, ⟨hl, hu⟩, c0, c1, c2, c3, c4, c5, c6, c7, c8, c9, c10, c11, c12, hin⟩ := (H8.out.go HB.out).cells hlt
        have hck : Pl.duCheck (plu u) = 0 := HU.out u (by rw [hu]; exact List.getElem_mem hl)
        have HDT := Lib.hid (fun t => dsup_take hl ps t)
        rw [← hu] at HDT
        have HLN : Hid ((Pl.dsingle (plu u) ps).1.length = q) := (Pl.dsingle_len hck (by rw [L2.out]; exact hq8)).trans L2.out
        have HSB := Lib.hid (fun t => Pl.dsingle_bd hck (by rw [L2.out]; exact hq8) t)
        have HDB := Lib.hid (fun t => Pl.dsup_bd (ps := ps) (plus (l.take k)) (fun v hv => by
          obtain ⟨x, hx, rfl⟩ := List.mem_map.1 hv
          exact HU.out x (List.mem_of_mem_take hx)) (by rw [L2.out]; exact hq8) t)
        have hlk : (plus (l.take k)).length ≤ 3 := by rw [plus_len, List.length_take]; omega
        have HSG := Lib.hid (fun (w : World) h1 h2 => sgl_any u C q e ps w h1 h2)
        unfold RdSaid at HSG
        rw [show Pl.dSingle (plu u) ps = ((Pl.dsingle (plu u) ps).1, (Pl.dsingle (plu u) ps).2.1, 0) from by unfold Pl.dSingle; rw [if_neg (by simpa using hck), if_neg (by rw [L2.out]; omega), if_neg (by rw [HBP.out]; decide)]] at HSG
        unfold vUn at HSG
        have HIN := Lib.hid hin
        clear hu hck hin hl
        generalize Pl.dsingle (plu u) ps = D at *
        obtain ⟨DL, dm, df⟩ := D
        simp only at HSG HLN HSB HDT
        obtain ⟨⟨rn, r1, r2, r3, r4, r5, r6, r7⟩, nm, Az, nz, cz, st, ⟨s1, s2, s3⟩⟩ := u
        simp only at HSG c0 c1 c2 c3 c4 c5 c6 c7 c8 c9 c10 c11 c12
        have A0 := Lib.hid ((Below.refl wr.heap.size wr).alloc (Nat.le_refl _) (.cells #[.string rn, .int .i64 r1, .int .i64 r2, .int .i64 r3, .int .i64 r4, .int .i64 r5, .int .i64 r6, .int .i64 r7, .string nm, .slice Az nz cz, .bool s1, .int .i64 s2, .int .i64 s3] 35))
        have H0 := Lib.hid (HIN.out.go A0.out)
        have HP0 := Lib.hid ((HP8.out.go HB.out).go A0.out)
        have IS0 := Lib.hid (IS.out.go A0.out)
        have HB0 := Lib.hid (HB.out.trans (A0.out.mono HB.out.size))
        go_wp2_with fail
        refine (HSG.out _ H0.out HP0.out).mono ?_
        rintro e1 w3 ⟨Ar, cr, rfl, hown, hb⟩
        rw [HLN.out] at hown ⊢
        have IS3 := Lib.hid (IS0.out.go hb)
        have HB3 := Lib.hid (HB0.out.trans (hb.mono HB0.out.size))
        have hgsl := IS0.out.lt
        have HOW := Lib.hid hown
        clear hb hown c0 c1 c2 c3 c4 c5 c6 c7 c8 c9 c10 c11 c12 HSG A0 H0 HP0 IS0 HB0 HIN IS HB
        generalize (wr.alloc (.cells #[.string rn, .int .i64 r1, .int .i64 r2, .int .i64 r3, .int .i64 r4, .int .i64 r5, .int .i64 r6, .int .i64 r7, .string nm, .slice Az nz cz, .bool s1, .int .i64 s2, .int .i64 s3] 35)).heap.size = wsz at *
        have eqq : ((q : Int) != (q : Int)) = false := by simp
        go_wp2_with fail
        go_loopw [85] (fun i wi => ∃ t : Nat, t ≤ q ∧ i = .int .i64 t ∧ Hid (IBlk wi gs 3 (Pl.mixN (Pl.dsup ps (plus (l.take (k + 1)))) (Pl.dsup ps (plus (l.take k))) q t)) ∧ Hid (wi.ownsRow wsz 3 1 (.slice Ar q cr) q (ints DL)) ∧ Hid (Below w8.heap.size w8 wi)) (fun i _ => q - (intOf i).toNat)
        case atStart =>
          refine ⟨0, Nat.zero_le _, rfl, ?_, HOW, HB3⟩
          show IBlk _ _ _ _
          rw [← Pl.mixN_full _ (fun _ => 0)]
          exact IS3.out
        case round =>
          clear IS3 HOW HB3
          obtain ⟨t, ht, rfl, IS, HOW, HB⟩ := hrel
          by_cases htq : t < q
          · obtain ⟨b5, o5, rfl, hl5, hc5⟩ := (Reads.of_own HOW.out).int_at htq
            have hdt : DL.getD t 0 = DL[t] := by rw [List.getD_eq_getElem?_getD, List.getElem?_eq_getElem hl5]; rfl
            have HDT1 := Lib.hid (HDT.out t)
            obtain ⟨x0, x1⟩ := HSB.out t
            obtain ⟨y0, y1⟩ := HDB.out t
            have ESET := Lib.hid (Pl.mixN_set (Pl.dsup ps (plus (l.take (k + 1)))) (Pl.dsup ps (plus (l.take k))) q t)
            have hcs := IS.out.cell t (by rw [Pl.mixN_len]; exact htq)
            rw [Pl.mixN_at _ _ htq, if_neg (Nat.lt_irrefl t)] at hcs
            rw [HDT1.out] at ESET
            rw [hdt] at ESET x0 x1
            rw [Int.max_comm] at ESET
            have fz := IS.out.frozen t
            have lgs := IS.out.lt
            have imax := HMX.out
            clear hdt HDT1
            generalize DL[t] = dt at *
            generalize Pl.dsup ps (plus (l.take k)) t = sk at *
            have ws : IntKind.i64.wrap (sk + max dt 0) = sk + max dt 0 := IntWalk.i64_in _ (by omega)
            have t0 : (0 : Int) ≤ (t : Int) := by omega
            have t1 : (t : Int) < (q : Int) := by omega
            go_wp2_with fail
            go_roundw
            case rel =>
              refine ⟨t + 1, by omega, by go_num, ?_, own_far HOW.out (p := ⟨gs, t, none⟩) (by show gs < wsz; exact hgsl) _, HB.out.setCell (p := ⟨gs, t, none⟩) (by show w8.heap.size ≤ gs; exact hgw) _⟩
              show IBlk _ _ _ _
              rw [← ESET.out]
              exact IS.out.set_ t _
            case measure => simp [intOf]; omega
          · have : t = q := by omega
            subst this
            rw [mixN_full2 _ _ (fun _ => 0)] at IS
            go_wp2_with fail
            go_roundw
            case rel => exact ⟨k + 1, by omega, by go_num, IS, HB⟩
            case measure => simp [intOf]; omega
      · have : k = n := by omega
        subst this
        rw [List.take_of_length_le (by have := L0.out; omega)] at IS
        go_wp2_with fail
        go_loopw [102] (fun i wr => ∃ t : Nat, t ≤ q ∧ i = .int .i64 t ∧ Hid (IBlk wr gs 3 (Pl.mixN (Pl.dsup ps (plus l)) (fun _ => 0) q q)) ∧ Hid (Below w8.heap.size w8 wr)) (fun i _ => q - (intOf i).toNat)
        case atStart => exact ⟨0, Nat.zero_le _, rfl, IS, HB⟩
        case round =>
          clear IS HB
          obtain ⟨t, ht, rfl, IS, HB⟩ := hrel
          by_cases htq : t < q
          · obtain ⟨b5, o5, rfl, hl5, hcd⟩ := (HQ8.out.go HB.out).int_at htq
            obtain ⟨b6, o6, rfl, hl6, hcx⟩ := (RX.out.go HB.out).int_at htq
            obtain ⟨b7, o7, rfl, hl7, hcp⟩ := (HP8.out.go HB.out).int_at htq
            have hcs := IS.out.cell t (by rw [Pl.mixN_len]; exact htq)
            rw [Pl.mixN_at _ _ htq, if_pos htq] at hcs
            have hxd : (Pl.mixN (Pl.dnew (plus l) ds ps b0) (fun _ => 0) q q)[t]'hl6 = Pl.dnew (plus l) ds ps b0 t := by
              have := Pl.mixN_at (Pl.dnew (plus l) ds ps b0) (fun _ => 0) (n := q) (k := q) htq
              rw [if_pos htq, List.getD_eq_getElem?_getD, List.getElem?_eq_getElem hl6] at this
              exact this
            have hdd : ds.getD t 0 = ds[t] := by rw [List.getD_eq_getElem?_getD, List.getElem?_eq_getElem hl5]; rfl
            have hpd : ps.getD t 0 = ps[t] := by rw [List.getD_eq_getElem?_getD, List.getElem?_eq_getElem hl7]; rfl
            obtain ⟨x0, x1⟩ := HPS.out _ (List.getElem_mem hl7)
            obtain ⟨g1, g2, g3, g4, g5, g6⟩ := Pl.dnew_law (l := plus l) (ds := ds) (ps := ps) (b := b0) (t := t) hb1 (by rw [hpd]; exact x0) (by rw [hpd]; exact x1)
            rw [hxd] at hcx
            rw [hdd] at g3 g4
            rw [hpd] at g1 g2 g3 g4
            clear hxd hdd hpd
            generalize Pl.dnew (plus l) ds ps b0 t = xv at *
            generalize ds[t] = dv at *
            generalize ps[t] = pv at *
            generalize Pl.dsup ps (plus l) t = sv at *
            have t0 : (0 : Int) ≤ (t : Int) := by omega
            have t1 : (t : Int) < (q : Int) := by omega
            obtain ⟨dd, hdd⟩ : ∃ dd, dd = xv - pv := ⟨_, rfl⟩
            have wd : IntKind.i64.wrap (xv - pv) = dd := by rw [hdd]; exact IntWalk.i64_in _ (by omega)
            have wb : IntKind.i64.wrap (-b0) = -b0 := IntWalk.i64_in _ (by omega)
            have u1 : decide (b0 < dd) = false := decide_eq_false (by omega)
            have u2 : decide (dd < -b0) = false := decide_eq_false (by omega)
            by_cases ha : sv = dv
            · have e1 : (sv == dv) = true := by simpa using ha
              by_cases hb : dd = 0
              · have e2 : (dd == 0) = true := by simpa using hb
                have e5 : decide (0 < dd) = false := decide_eq_false (by omega)
                (try clear ha); (try clear hb); (try clear hx2); (try clear hx3); (try clear hd); (try clear hdd); clear g1 g2 g3 g4 g5 g6
                go_wp2_with fail
                have q1 := Wd.cell hcs
                have q2 := Wd.cell hcd
                clear hcs hcd
                refine wp_region_wd (by kernel_rfl) (by kernel_rfl) ?_
                repeat (go_big_quiet_step (fail))
                refine wpQuiet_nil ?_
                rintro _ ⟨w6, rfl⟩
                have IS := Lib.hid (IS.out.go w6.ok)
                have HB := Lib.hid (HB.out.trans (w6.ok.mono HB.out.size))
                clear q1 q2
                generalize w6.val = w7 at *
                go_wp2_with fail
                go_roundw
                case rel => exact ⟨t + 1, by omega, by go_num, IS, HB⟩
                case measure => simp [intOf]; omega
              · have e2 : (dd == 0) = false := by simpa using hb
                by_cases hx2 : xv = 2000000
                · have e3 : (xv != 2000000) = false := by simpa using hx2
                  by_cases hd : 0 < dd
                  · have e5 : decide (0 < dd) = true := decide_eq_true hd
                    have e6 : decide (dv < sv) = false := decide_eq_false (by omega)
                    have e7 : decide (sv > dv) = false := decide_eq_false (by omega)
                    (try clear ha); (try clear hb); (try clear hx2); (try clear hx3); (try clear hd); (try clear hdd); clear g1 g2 g3 g4 g5 g6
                    go_wp2_with fail
                    have q1 := Wd.cell hcs
                    have q2 := Wd.cell hcd
                    clear hcs hcd
                    refine wp_region_wd (by kernel_rfl) (by kernel_rfl) ?_
                    repeat (go_big_quiet_step (fail))
                    refine wpQuiet_nil ?_
                    rintro _ ⟨w6, rfl⟩
                    have IS := Lib.hid (IS.out.go w6.ok)
                    have HB := Lib.hid (HB.out.trans (w6.ok.mono HB.out.size))
                    clear q1 q2
                    generalize w6.val = w7 at *
                    go_wp2_with fail
                    go_roundw
                    case rel => exact ⟨t + 1, by omega, by go_num, IS, HB⟩
                    case measure => simp [intOf]; omega
                  · have e5 : decide (0 < dd) = false := decide_eq_false hd
                    (try clear ha); (try clear hb); (try clear hx2); (try clear hx3); (try clear hd); (try clear hdd); clear g1 g2 g3 g4 g5 g6
                    go_wp2_with fail
                    have q1 := Wd.cell hcs
                    have q2 := Wd.cell hcd
                    clear hcs hcd
                    refine wp_region_wd (by kernel_rfl) (by kernel_rfl) ?_
                    repeat (go_big_quiet_step (fail))
                    refine wpQuiet_nil ?_
                    rintro _ ⟨w6, rfl⟩
                    have IS := Lib.hid (IS.out.go w6.ok)
                    have HB := Lib.hid (HB.out.trans (w6.ok.mono HB.out.size))
                    clear q1 q2
                    generalize w6.val = w7 at *
                    go_wp2_with fail
                    go_roundw
                    case rel => exact ⟨t + 1, by omega, by go_num, IS, HB⟩
                    case measure => simp [intOf]; omega
                · have e3 : (xv != 2000000) = true := by simpa using hx2
                  have hx3 : xv = -2000000 := by omega
                  have e4 : (xv != -2000000) = false := by simpa using hx3
                  by_cases hd : 0 < dd
                  · have e5 : decide (0 < dd) = true := decide_eq_true hd
                    have e6 : decide (dv < sv) = false := decide_eq_false (by omega)
                    have e7 : decide (sv > dv) = false := decide_eq_false (by omega)
                    (try clear ha); (try clear hb); (try clear hx2); (try clear hx3); (try clear hd); (try clear hdd); clear g1 g2 g3 g4 g5 g6
                    go_wp2_with fail
                    have q1 := Wd.cell hcs
                    have q2 := Wd.cell hcd
                    clear hcs hcd
                    refine wp_region_wd (by kernel_rfl) (by kernel_rfl) ?_
                    repeat (go_big_quiet_step (fail))
                    refine wpQuiet_nil ?_
                    rintro _ ⟨w6, rfl⟩
                    have IS := Lib.hid (IS.out.go w6.ok)
                    have HB := Lib.hid (HB.out.trans (w6.ok.mono HB.out.size))
                    clear q1 q2
                    generalize w6.val = w7 at *
                    go_wp2_with fail
                    go_roundw
                    case rel => exact ⟨t + 1, by omega, by go_num, IS, HB⟩
                    case measure => simp [intOf]; omega
                  · have e5 : decide (0 < dd) = false := decide_eq_false hd
                    (try clear ha); (try clear hb); (try clear hx2); (try clear hx3); (try clear hd); (try clear hdd); clear g1 g2 g3 g4 g5 g6
                    go_wp2_with fail
                    have q1 := Wd.cell hcs
                    have q2 := Wd.cell hcd
                    clear hcs hcd
                    refine wp_region_wd (by kernel_rfl) (by kernel_rfl) ?_
                    repeat (go_big_quiet_step (fail))
                    refine wpQuiet_nil ?_
                    rintro _ ⟨w6, rfl⟩
                    have IS := Lib.hid (IS.out.go w6.ok)
                    have HB := Lib.hid (HB.out.trans (w6.ok.mono HB.out.size))
                    clear q1 q2
                    generalize w6.val = w7 at *
                    go_wp2_with fail
                    go_roundw
                    case rel => exact ⟨t + 1, by omega, by go_num, IS, HB⟩
                    case measure => simp [intOf]; omega
            · have e1 : (sv == dv) = false := by simpa using ha
              by_cases hb : dd = 0
              · have e2 : (dd == 0) = true := by simpa using hb
                have e5 : decide (0 < dd) = false := decide_eq_false (by omega)
                by_cases hx2 : xv = 2000000
                · have e3 : (xv != 2000000) = false := by simpa using hx2
                  (try clear ha); (try clear hb); (try clear hx2); (try clear hx3); (try clear hd); (try clear hdd); clear g1 g2 g3 g4 g5 g6
                  go_wp2_with fail
                  have q1 := Wd.cell hcs
                  have q2 := Wd.cell hcd
                  clear hcs hcd
                  refine wp_region_wd (by kernel_rfl) (by kernel_rfl) ?_
                  repeat (go_big_quiet_step (fail))
                  refine wpQuiet_nil ?_
                  rintro _ ⟨w6, rfl⟩
                  have IS := Lib.hid (IS.out.go w6.ok)
                  have HB := Lib.hid (HB.out.trans (w6.ok.mono HB.out.size))
                  clear q1 q2
                  generalize w6.val = w7 at *
                  go_wp2_with fail
                  go_roundw
                  case rel => exact ⟨t + 1, by omega, by go_num, IS, HB⟩
                  case measure => simp [intOf]; omega
                · have e3 : (xv != 2000000) = true := by simpa using hx2
                  have hx3 : xv = -2000000 := by omega
                  have e4 : (xv != -2000000) = false := by simpa using hx3
                  (try clear ha); (try clear hb); (try clear hx2); (try clear hx3); (try clear hd); (try clear hdd); clear g1 g2 g3 g4 g5 g6
                  go_wp2_with fail
                  have q1 := Wd.cell hcs
                  have q2 := Wd.cell hcd
                  clear hcs hcd
                  refine wp_region_wd (by kernel_rfl) (by kernel_rfl) ?_
                  repeat (go_big_quiet_step (fail))
                  refine wpQuiet_nil ?_
                  rintro _ ⟨w6, rfl⟩
                  have IS := Lib.hid (IS.out.go w6.ok)
                  have HB := Lib.hid (HB.out.trans (w6.ok.mono HB.out.size))
                  clear q1 q2
                  generalize w6.val = w7 at *
                  go_wp2_with fail
                  go_roundw
                  case rel => exact ⟨t + 1, by omega, by go_num, IS, HB⟩
                  case measure => simp [intOf]; omega
              · have e2 : (dd == 0) = false := by simpa using hb
                by_cases hd : 0 < dd
                · have e5 : decide (0 < dd) = true := decide_eq_true hd
                  have e6 : decide (dv < sv) = false := decide_eq_false (by omega)
                  have e7 : decide (sv > dv) = false := decide_eq_false (by omega)
                  (try clear ha); (try clear hb); (try clear hx2); (try clear hx3); (try clear hd); (try clear hdd); clear g1 g2 g3 g4 g5 g6
                  go_wp2_with fail
                  have q1 := Wd.cell hcs
                  have q2 := Wd.cell hcd
                  clear hcs hcd
                  refine wp_region_wd (by kernel_rfl) (by kernel_rfl) ?_
                  repeat (go_big_quiet_step (fail))
                  refine wpQuiet_nil ?_
                  rintro _ ⟨w6, rfl⟩
                  have IS := Lib.hid (IS.out.go w6.ok)
                  have HB := Lib.hid (HB.out.trans (w6.ok.mono HB.out.size))
                  clear q1 q2
                  generalize w6.val = w7 at *
                  go_wp2_with fail
                  go_roundw
                  case rel => exact ⟨t + 1, by omega, by go_num, IS, HB⟩
                  case measure => simp [intOf]; omega
                · have e5 : decide (0 < dd) = false := decide_eq_false hd
                  (try clear ha); (try clear hb); (try clear hx2); (try clear hx3); (try clear hd); (try clear hdd); clear g1 g2 g3 g4 g5 g6
                  go_wp2_with fail
                  have q1 := Wd.cell hcs
                  have q2 := Wd.cell hcd
                  clear hcs hcd
                  refine wp_region_wd (by kernel_rfl) (by kernel_rfl) ?_
                  repeat (go_big_quiet_step (fail))
                  refine wpQuiet_nil ?_
                  rintro _ ⟨w6, rfl⟩
                  have IS := Lib.hid (IS.out.go w6.ok)
                  have HB := Lib.hid (HB.out.trans (w6.ok.mono HB.out.size))
                  clear q1 q2
                  generalize w6.val = w7 at *
                  go_wp2_with fail
                  go_roundw
                  case rel => exact ⟨t + 1, by omega, by go_num, IS, HB⟩
                  case measure => simp [intOf]; omega
          · have : t = q := by omega
            subst this
            go_wp2_with fail
            go_ret
            exact ⟨rfl, HB8.out.trans (HB.out.mono HB8.out.size)⟩
  · have hE := Pl.dStep_bad h0
    have h2 : ((Pl.dStep (plus l) ds ps b0).2 != 0) = true := by simpa using h0
    rw [hE] at RX ⊢
    clear h0 hE
    generalize (Pl.dStep (plus l) ds ps b0).2 = er at *
    simp only [List.length_nil] at RX ⊢
    go_wp2_with fail
    go_ret
    exact ⟨rfl, HB8.out⟩
theorem dualSteps_walk (A : Option Addr) (n c : Nat) (l : List MU) (B : Option Addr) (m d : Nat) (ds : List Int) (C : Option Addr) (q e : Nat) (ps : List Int) (b0 : Int) (w : World) (hcap : n ≤ c) (h : Unis w A n l) (hq : Reads w w.heap.size 1 B m (ints ds)) (hp : Reads w w.heap.size 1 C q (ints ps)) :
    Calls Try.prog 3 #[.slice A n c, .slice B m d, .slice C q e, .int .i64 b0] w fun e w' => e = .returned (.bool true) ∧ Below w.heap.size w w' :=
  dualSteps_go A B C n c m d q e l ds ps b0 w hcap h hq hp
end Go.Proofs.Ytchafkocobbndaa
