/- zone's reach gives the lengths of the shortest ways. Condition: the network is a good one and reads, the node is one of it. -/
import Derived.Deep.LoopGhost
import Derived.StillTailTactics
import Derived.Test.YtpamgeemmbbkkaaZStep
import Derived.Test.YtpamgeemmbbkkaaNetChk
import Derived.Test.YtpamgeemmbbkkaaRepI
namespace Go.Proofs.Ytpamgeemmbbkkaa
open Go.RowKit
set_option maxRecDepth 100000
/-- what reach leaves -/
def ReachSaid (N : Pl.Net) (wo : List ByteArray) (s : ByteArray) (n : Nat) (w : World) : Ending → World → Prop :=
  fun e w' => ∃ (g : Nat) (far : List Int), e = .returned (.slice (some ⟨g, 0, none⟩) n n) ∧ IBlk w' g 3 far ∧ far.length = n ∧ (∀ v : Int, Pl.farAt far v ≤ 240000000) ∧ (∀ v : Int, 0 ≤ v → v < n → Pl.MinOf (Pl.WalkZ (Pl.ZE N wo) (Pl.idxT N.nodes s) v) (Pl.farAt far v)) ∧ Below w.heap.size w w'
theorem zinv_le {E : Int → Int → Int → Prop} {s : Int} {n : Nat} {far : List Int} (h : Pl.ZInv E s n far) (hn : n ≤ 24) (v : Int) : Pl.farAt far v ≤ 240000000 := by
  have h1 := h.bnd v
  have h2 := Pl.cntN_le far
  have h3 := h.len
  omega
set_option maxHeartbeats 6400000 in
theorem reach_any (M : MNet) (s : ByteArray) (Aw : Option Addr) (nw cw : Nat) (wo : List ByteArray) (w : World) (hM : NetIn w w.heap.size M) (hok : Pl.NetOk M.N) (hs : s ∈ M.N.nodes) (hw : Reads w w.heap.size 1 Aw nw (txts wo)) (hnw : nw ≤ 9223372036854775807) :
    Calls Try.prog 50 #[vNet M, .string s, .slice Aw nw cw] w (ReachSaid M.N wo s M.n0 w) := by
  have C0 := Lib.hid (fun (x : ByteArray) (w1 : World) (hb : Below w.heap.size w w1) => index_txt M.A0 M.n0 M.c0 M.N.nodes x w1 w1.heap.size hM.z0 (hM.go hb).r0)
  change Hid (∀ (x : ByteArray) (w1 : World), Below w.heap.size w w1 → Calls Try.prog _ _ w1 fun e w' => e = .returned (.int .i64 (Pl.idxT M.N.nodes x)) ∧ w' = w1) at C0
  have CS := Lib.hid (fun (gn gf gr ga : Nat) (far : List Int) (n : Nat) (b : Bool) (x y : ByteArray) (l : Int) (w1 : World) (hb : Below w.heap.size w w1) => zstep_any M gn gf gr ga far n b x y l w1 (hM.go hb))
  have CC := Lib.hid (fun (x : ByteArray) (w1 : World) (hb : Below w.heap.size w w1) => contains_txt Aw nw cw wo x w1 w1.heap.size hnw (hw.go hb))
  have F0 := Lib.hid (((Below.refl w.heap.size w).alloc (Nat.le_refl _) (.cells (netC M) 29)).alloc (by simp) (.cells #[.int .i64 (-1)] 3))
  have B0 := Lib.hid ((Blk.new_ w w.heap.size 29 (netC M) rfl).alloc (.cells #[.int .i64 (-1)] 3))
  have hlen := txts_len hM.r0
  have hi := Pl.idxT_mem hs
  have hn1 : 1 ≤ M.n0 := by omega
  have hn2 : M.n0 ≤ 24 := by have := hok.nn; omega
  have HI0 := hi.1
  have HI1 : Pl.idxT M.N.nodes s < M.n0 := by omega
  have HZ0 := Lib.hid (Pl.zinv_start (E := Pl.ZE M.N wo) (s := Pl.idxT M.N.nodes s) (n := M.n0) ⟨HI0, HI1⟩)
  have HRND : Hid (∀ far, Pl.ZInv (Pl.ZE M.N wo) (Pl.idxT M.N.nodes s) M.n0 far → Pl.ZS (Pl.ZE M.N wo) (Pl.idxT M.N.nodes s) M.n0 far (Pl.roundZ M.N wo far) ∧ ((Pl.roundZ M.N wo far).2 = false → ∀ i k l, Pl.ZE M.N wo i k l → Pl.ClosedE far i k l)) := by
    intro far h
    rw [← hlen] at h ⊢
    exact Pl.round_zs hok ⟨HI0, by omega⟩ h
  have HSW : Hid (∀ far k, Pl.ZInv (Pl.ZE M.N wo) (Pl.idxT M.N.nodes s) M.n0 far → Pl.ZInv (Pl.ZE M.N wo) (Pl.idxT M.N.nodes s) M.n0 ((M.N.switches.take k).foldl (Pl.swiZ M.N) (far, false)).1) := by
    intro far k h
    rw [← hlen] at h ⊢
    exact (Pl.swi_zs (Pl.ze_ok hok wo) hok.nn ⟨HI0, by omega⟩ (M.N.switches.take k) (far, false) (fun x hx => List.mem_of_mem_take hx) (Pl.zs_start h)).1.inv
  have HBR : Hid (∀ far k, Pl.ZInv (Pl.ZE M.N wo) (Pl.idxT M.N.nodes s) M.n0 far → Pl.ZInv (Pl.ZE M.N wo) (Pl.idxT M.N.nodes s) M.n0 ((M.N.branches.take k).foldl (Pl.braZ M.N wo) (Pl.roundS M.N far)).1) := by
    intro far k h
    rw [← hlen] at h ⊢
    exact (Pl.bra_zs (Pl.ze_ok hok wo) hok.nn ⟨HI0, by omega⟩ (M.N.branches.take k) (Pl.roundS M.N far) (fun x hx => List.mem_of_mem_take hx) (Pl.swi_zs (Pl.ze_ok hok wo) hok.nn ⟨HI0, by omega⟩ M.N.switches (far, false) (fun _ hx => hx) (Pl.zs_start h)).1).1.inv
  have HOKS : Hid (∀ k (hk : k < M.N.switches.length), 0 ≤ Pl.idxT M.N.nodes M.N.switches[k].a ∧ Pl.idxT M.N.nodes M.N.switches[k].a < M.n0 ∧ 0 ≤ Pl.idxT M.N.nodes M.N.switches[k].b ∧ Pl.idxT M.N.nodes M.N.switches[k].b < M.n0) := by
    intro k hk
    obtain ⟨h1, h2, _⟩ := hok.swi _ (List.getElem_mem hk)
    have a := Pl.idxT_mem h1
    have b := Pl.idxT_mem h2
    omega
  have HOKB : Hid (∀ k (hk : k < M.N.branches.length), 0 ≤ Pl.idxT M.N.nodes M.N.branches[k].from_ ∧ Pl.idxT M.N.nodes M.N.branches[k].from_ < M.n0 ∧ 0 ≤ Pl.idxT M.N.nodes M.N.branches[k].to_ ∧ Pl.idxT M.N.nodes M.N.branches[k].to_ < M.n0 ∧ 1 ≤ M.N.branches[k].x ∧ M.N.branches[k].x ≤ 10000) := by
    intro k hk
    obtain ⟨h1, h2, _, h4⟩ := hok.bra _ (List.getElem_mem hk)
    have a := Pl.idxT_mem h1
    have b := Pl.idxT_mem h2
    unfold Pl.braOut Pl.outN at h4
    simp only [Bool.or_eq_false_iff, decide_eq_false_iff_not] at h4
    omega
  have HM := Lib.hid hM
  have HL1 := Lib.hid hM.r1.2
  have HL2 := Lib.hid hM.r2.2
  have hz1 := hM.z1
  have hz2 := hM.z2
  have HSAID : Hid (∀ e w', ReachSaid M.N wo s M.n0 w e w' ↔ ∃ (g : Nat) (far : List Int), e = .returned (.slice (some ⟨g, 0, none⟩) M.n0 M.n0) ∧ IBlk w' g 3 far ∧ far.length = M.n0 ∧ (∀ v : Int, Pl.farAt far v ≤ 240000000) ∧ (∀ v : Int, 0 ≤ v → v < M.n0 → Pl.MinOf (Pl.WalkZ (Pl.ZE M.N wo) (Pl.idxT M.N.nodes s) v) (Pl.farAt far v)) ∧ Below w.heap.size w w') := fun _ _ => Iff.rfl
  clear hM hok hs hw hi hlen
  unfold vNet at *
  obtain ⟨N, A0, n0, c0, A1, n1, c1, A2, n2, c2, A3, n3, c3, A4, n4, c4, A5, n5, c5⟩ := M
  unfold netC at *
  simp only at *
  have HSI : Hid (∃ si, si = Pl.idxT N.nodes s) := ⟨_, rfl⟩
  obtain ⟨si, hsi⟩ := HSI.out
  rw [← hsi] at HI0 HI1 HZ0 HRND HSW HBR HSAID
  have HSIE := Lib.hid hsi
  clear hsi HSI
  have k0 := B0.out.cell
  go_enter Try.func50, Try.ntmps50
  go_wp2_with fail
  refine (repI_any (-1) (w.heap.size + 1) n0 hn1 (by omega) _ (by simp)).mono ?_
  rintro e w1 ⟨g4, rfl, hg4, hi4, hb4⟩
  have hg5 : w.heap.size + 2 ≤ g4 := by simpa using hg4
  have F1 := Lib.hid (F0.out.trans (hb4.mono F0.out.size))
  have B1 := Lib.hid (B0.out.go hb4)
  have I1 := Lib.hid hi4
  have HG4 : Hid (g4 < w1.heap.size) := hi4.lt
  clear hg4 hi4 hb4 k0 B0 F0
  have F2 := Lib.hid (F1.out.alloc F1.out.size (.cells #[.slice (some ⟨g4, 0, none⟩) n0 n0] 45))
  have B2 := Lib.hid (B1.out.alloc (.cells #[.slice (some ⟨g4, 0, none⟩) n0 n0] 45))
  have I2 := Lib.hid (I1.out.alloc (.cells #[.slice (some ⟨g4, 0, none⟩) n0 n0] 45))
  have G2 := Lib.hid (Blk.new_ w1 w1.heap.size 45 #[.slice (some ⟨g4, 0, none⟩) n0 n0] rfl)
  have HGF : Hid (w.heap.size + 2 ≤ w1.heap.size) := by have := HG4.out; show _ ≤ _; omega
  clear F1 B1 I1
  go_wp2_with fail
  have kf := G2.out.cell 0
  have kn := B2.out.cell 0
  generalize hw2 : w1.alloc (.cells #[.slice (some ⟨g4, 0, none⟩) n0 n0] 45) = w2 at *
  clear hw2
  refine wp_region_still_tail 6 (by kernel_rfl) (by kernel_rfl) ?_
  simp only [List.take_succ_cons, List.take_zero, List.drop_succ_cons, List.drop_zero]
  have r1 : w2.drew.cell? ⟨w1.heap.size, 0, none⟩ = some (.slice (some ⟨g4, 0, none⟩) n0 n0) := kf
  have r2 : w2.drew.cell? ⟨w.heap.size, 0, none⟩ = some (.slice A0 n0 c0) := kn
  have CI := Lib.hid (C0.out s w2.drew F2.out.drew)
  have F3 := Lib.hid F2.out.drew
  have B3 := Lib.hid B2.out.drew
  have I3 : Hid (IBlk w2.drew g4 3 (List.replicate n0 (-1))) := I2.out
  have G3 := Lib.hid G2.out.drew
  rw [← HSIE.out] at CI
  clear kf kn F2 B2 I2 G2
  change wpStill Try.prog _ w2.drew _ _ _
  obtain ⟨w3, h3⟩ : ∃ w3 : World, w3 = w2.drew := ⟨_, rfl⟩
  have H3 := Lib.hid h3
  rw [← h3] at r1 r2 F3 B3 I3 G3 CI ⊢
  clear h3
  repeat still_step
  still_call CI.out
  repeat still_step
  refine wpStill_nil ?_
  change wpList _ _ _ _ _ w2.drew
  rw [← H3.out]
  clear H3 CI r1 r2
  have kz := I3.out.frozen
  have kc := I3.out.cell si.toNat (by simp; omega)
  have kl := I3.out.lt
  have hpi : (si.toNat : Int) = si := by omega
  go_wp2_with fail
  have F4 := Lib.hid ((F3.out.setCell (p := ⟨g4, si.toNat, none⟩) (by show _ ≤ g4; omega) (.int .i64 0)).alloc (by have := F3.out.size; simpa using this) (.cells #[.bool true] 4))
  have I4 := Lib.hid ((I3.out.set_ si.toNat 0).alloc (.cells #[.bool true] 4))
  have B4 := Lib.hid ((B3.out.far (p := ⟨g4, si.toNat, none⟩) (by show _ ≠ g4; omega) (.int .i64 0)).alloc (.cells #[.bool true] 4))
  have G4 := Lib.hid ((G3.out.far (p := ⟨g4, si.toNat, none⟩) (by show _ ≠ g4; have := HG4.out; omega) (.int .i64 0)).alloc (.cells #[.bool true] 4))
  have A4' := Lib.hid (Blk.new_ (w3.setCell ⟨g4, si.toNat, none⟩ (.int .i64 0)) w3.heap.size 4 #[.bool true] (by simp))
  have HGA : Hid (w1.heap.size < w3.heap.size) := G3.out.lt
  clear F3 I3 B3 G3 kz kc kl
  generalize hw4 : (w3.setCell ⟨g4, si.toNat, none⟩ (.int .i64 0)).alloc (.cells #[.bool true] 4) = w4 at *
  clear hw4
  generalize hgf : w1.heap.size = gf at *
  have HGFE := Lib.hid hgf
  clear hgf
  generalize hga : w3.heap.size = ga at *
  clear hga
  have HM0 : Hid (∃ m0, Pl.msr ((List.replicate n0 (-1)).set si.toNat 0) + 1 ≤ m0) := ⟨_, Nat.le_refl _⟩
  obtain ⟨m0, hm0⟩ := HM0.out
  have HMM := Lib.hid hm0
  clear hm0 HM0
  go_loopg [8] m0 (fun gg va wr => ∃ (far : List Int) (b : Bool) (ga : Nat), va = .pointer (some ⟨ga, 0, none⟩) ∧ Hid (Pl.msr far + (if b = true then 1 else 0) ≤ gg) ∧ Hid (gf < ga) ∧ Hid (IBlk wr g4 3 far) ∧ Hid (Blk wr ga 4 #[.bool b]) ∧ Hid (Blk wr gf 45 #[.slice (some ⟨g4, 0, none⟩) n0 n0]) ∧ Hid (Blk wr w.heap.size 29 #[.slice A0 n0 c0, .slice A1 n1 c1, .slice A2 n2 c2, .slice A3 n3 c3, .slice A4 n4 c4, .slice A5 n5 c5]) ∧ Hid (Pl.ZInv (Pl.ZE N wo) si n0 far) ∧ Hid (b = false → ∀ i k l, Pl.ZE N wo i k l → Pl.ClosedE far i k l) ∧ Hid (Below w.heap.size w wr))
  case atStart => exact ⟨_, true, _, rfl, HMM.out, HGA.out, I4.out, A4'.out, G4.out, B4.out, HZ0.out, (fun h => by cases h), F4.out⟩
  case round =>
    clear HMM HGA I4 A4' G4 B4 HZ0 F4
    obtain ⟨far, b, ga2, rfl, HMS, HGA, HI, HA, HG, HB, HZ, HC, HF⟩ := hrel
    have ka := HA.out.cell 0
    have kaz := HA.out.frozen
    have kal := HA.out.lt
    cases b
    · have kf := HG.out.cell 0
      go_wp2_with fail
      go_ret
      exact (HSAID.out _ _).2 ⟨g4, far, rfl, HI.out, HZ.out.len, fun v => zinv_le HZ.out hn2 v, fun v h0 h1 => Pl.far_min HZ.out (HC.out trivial) ⟨h0, h1⟩, HF.out⟩
    · have kn := HB.out.cell
      have IA := Lib.hid (HI.out.far (p := ⟨ga2, 0, none⟩) (by show g4 ≠ ga2; have := HGA.out; have := HG4.out; have := HGFE.out; omega) (.bool false))
      have AA := Lib.hid (HA.out.set_ 0 (.bool false))
      have GA := Lib.hid (HG.out.far (p := ⟨ga2, 0, none⟩) (by show gf ≠ ga2; have := HGA.out; omega) (.bool false))
      have BA := Lib.hid (HB.out.far (p := ⟨ga2, 0, none⟩) (by show w.heap.size ≠ ga2; have := HGA.out; have := HGF.out; omega) (.bool false))
      have FA := Lib.hid (HF.out.setCell (p := ⟨ga2, 0, none⟩) (by show _ ≤ ga2; have := HGA.out; have := HGF.out; omega) (.bool false))
      have HXE := Lib.hid (HSW.out far · HZ.out)
      have HYE := Lib.hid (HBR.out far · HZ.out)
      have HRD := Lib.hid (HRND.out far HZ.out)
      go_wp2_with fail
      clear HI HA HG HB HF ka kaz kal kn
      generalize hw5 : wr.setCell ⟨ga2, 0, none⟩ (.bool false) = w5 at *
      clear hw5
      go_loopw [30] (fun i wr => ∃ (k : Nat) (st : List Int × Bool), k ≤ n1 ∧ i = .int .i64 k ∧ Hid (st = (N.switches.take k).foldl (Pl.swiZ N) (far, false)) ∧ Hid (IBlk wr g4 3 st.1) ∧ Hid (Blk wr ga2 4 #[.bool st.2]) ∧ Hid (Blk wr gf 45 #[.slice (some ⟨g4, 0, none⟩) n0 n0]) ∧ Hid (Blk wr w.heap.size 29 #[.slice A0 n0 c0, .slice A1 n1 c1, .slice A2 n2 c2, .slice A3 n3 c3, .slice A4 n4 c4, .slice A5 n5 c5]) ∧ Hid (Below w.heap.size w wr)) (fun i _ => n1 - (intOf i).toNat)
      case atStart => exact ⟨0, (far, false), Nat.zero_le _, rfl, rfl, IA.out, AA.out, GA.out, BA.out, FA.out⟩
      case round =>
        clear IA AA GA BA FA
        obtain ⟨k, st, hk, rfl, HST, HI, HA, HG, HB, HF⟩ := hrel
        by_cases hkn : k < n1
        · obtain ⟨bs, os, rfl, hls, s0, s1, s2, s3, s4⟩ := swi_at (HM.out.r1.below HF.out) hkn
          have HTK : Hid ((N.switches.take (k + 1)).foldl (Pl.swiZ N) (far, false) = Pl.swiZ N st N.switches[k]) := by
            show _ = _
            rw [List.take_succ_eq_append_getElem hls, List.foldl_append, HST.out]; rfl
          have HKS := Lib.hid (HOKS.out k hls)
          have HZK := Lib.hid (HXE.out k)
          rw [← HST.out] at HZK
          generalize N.switches[k] = sw at *
          obtain ⟨sn, sa, sb, sk, so⟩ := sw
          simp only at *
          have lgn : wr.heap.size < wr.heap.size + 1 := Nat.lt_succ_self _
          have FX := Lib.hid (HF.out.alloc HF.out.size (.cells #[.string sn, .string sa, .string sb, .bool sk, .bool so] 50))
          have IX := Lib.hid (HI.out.alloc (.cells #[.string sn, .string sa, .string sb, .bool sk, .bool so] 50))
          have AX := Lib.hid (HA.out.alloc (.cells #[.string sn, .string sa, .string sb, .bool sk, .bool so] 50))
          have GX := Lib.hid (HG.out.alloc (.cells #[.string sn, .string sa, .string sb, .bool sk, .bool so] 50))
          have BX := Lib.hid (HB.out.alloc (.cells #[.string sn, .string sa, .string sb, .bool sk, .bool so] 50))
          cases so
          · have HEQ : Hid (Pl.swiZ N st ⟨sn, sa, sb, sk, false⟩ = Pl.stepZ st (Pl.idxT N.nodes sa) (Pl.idxT N.nodes sb) 0) := rfl
            go_wp2_with fail
            refine (CS.out w.heap.size gf g4 ga2 st.1 n0 st.2 sa sb 0 _ FX.out BX.out GX.out IX.out AX.out HZK.out.len ⟨HKS.out.1, HKS.out.2.1⟩ ⟨HKS.out.2.2.1, HKS.out.2.2.2⟩ (by omega) (fun v => by have := zinv_le HZK.out hn2 v; omega) (by show _ ≠ _; have := HGA.out; have := HG4.out; have := HGFE.out; have := HGF.out; omega) (by show _ ≠ _; have := HGA.out; have := HG4.out; have := HGFE.out; have := HGF.out; omega) (by show _ ≠ _; have := HGA.out; have := HG4.out; have := HGFE.out; have := HGF.out; omega)).mono ?_
            rintro e w6 ⟨rfl, hi6, ha6, ho6⟩
            have I6 := Lib.hid hi6
            have A6 := Lib.hid ha6
            have G6 := Lib.hid (ho6.blk GX.out (by show _ ≠ _; have := HGA.out; have := HG4.out; have := HGFE.out; have := HGF.out; omega) (by show _ ≠ _; have := HGA.out; have := HG4.out; have := HGFE.out; have := HGF.out; omega))
            have B6 := Lib.hid (ho6.blk BX.out (by show _ ≠ _; have := HGA.out; have := HG4.out; have := HGFE.out; have := HGF.out; omega) (by show _ ≠ _; have := HGA.out; have := HG4.out; have := HGFE.out; have := HGF.out; omega))
            have F6 := Lib.hid (FX.out.trans (ho6.below (by show _ ≤ _; have := HGA.out; have := HG4.out; have := HGFE.out; have := HGF.out; omega) (by show _ ≤ _; have := HGA.out; have := HG4.out; have := HGFE.out; have := HGF.out; omega) (by have := FX.out.size; exact this)))
            clear hi6 ha6 ho6
            go_wp2_with fail
            go_roundw
            case rel => exact ⟨k + 1, Pl.stepZ st (Pl.idxT N.nodes sa) (Pl.idxT N.nodes sb) 0, by omega, by go_num, by show _ = _; rw [HTK.out, HEQ.out], I6.out, A6.out, G6.out, B6.out, F6.out⟩
            case measure => simp [intOf]; omega
          · have HEQ : Hid (Pl.swiZ N st ⟨sn, sa, sb, sk, true⟩ = st) := rfl
            go_wp2_with fail
            go_roundw
            case rel => exact ⟨k + 1, st, by omega, by go_num, by show _ = _; rw [HTK.out, HEQ.out], IX.out, AX.out, GX.out, BX.out, FX.out⟩
            case measure => simp [intOf]; omega
        · have HS1 : Hid (st = Pl.roundS N far) := by
            show _ = _
            rw [HST.out, List.take_of_length_le (by have := HL1.out; omega)]; rfl
          clear HST HXE
          have kn := HB.out.cell
          have hknd : ¬ ((k : Int) < (n1 : Int)) := by omega
          go_wp2_with fail
          clear kn hknd
          go_loopw [47] (fun i wr => ∃ (k : Nat) (st : List Int × Bool), k ≤ n2 ∧ i = .int .i64 k ∧ Hid (st = (N.branches.take k).foldl (Pl.braZ N wo) (Pl.roundS N far)) ∧ Hid (IBlk wr g4 3 st.1) ∧ Hid (Blk wr ga2 4 #[.bool st.2]) ∧ Hid (Blk wr gf 45 #[.slice (some ⟨g4, 0, none⟩) n0 n0]) ∧ Hid (Blk wr w.heap.size 29 #[.slice A0 n0 c0, .slice A1 n1 c1, .slice A2 n2 c2, .slice A3 n3 c3, .slice A4 n4 c4, .slice A5 n5 c5]) ∧ Hid (Below w.heap.size w wr)) (fun i _ => n2 - (intOf i).toNat)
          case atStart => exact ⟨0, st, Nat.zero_le _, rfl, HS1.out, HI.out, HA.out, HG.out, HB.out, HF.out⟩
          case round =>
            clear HI HA HG HB HF HS1 hk hkn
            obtain ⟨k, st, hk, rfl, HST, HI, HA, HG, HB, HF⟩ := hrel
            by_cases hkn : k < n2
            · obtain ⟨bs, os, rfl, hls, s0, s1, s2, s3, s4, s5, s6, s7, s8⟩ := bra_at (HM.out.r2.below HF.out) hkn
              have HTK : Hid ((N.branches.take (k + 1)).foldl (Pl.braZ N wo) (Pl.roundS N far) = Pl.braZ N wo st N.branches[k]) := by
                show _ = _
                rw [List.take_succ_eq_append_getElem hls, List.foldl_append, HST.out]; rfl
              have HKS := Lib.hid (HOKB.out k hls)
              have HZK := Lib.hid (HYE.out k)
              rw [← HST.out] at HZK
              generalize N.branches[k] = bq at *
              obtain ⟨qn, qf, qt, qx, q5, q6, q7, q8, q9⟩ := bq
              simp only at *
              have lgn : wr.heap.size < wr.heap.size + 1 := Nat.lt_succ_self _
              have FX := Lib.hid (HF.out.alloc HF.out.size (.cells #[.string qn, .string qf, .string qt, .int .i64 qx, .int .i64 q5, .int .i64 q6, .int .i64 q7, .int .i64 q8, .int .i64 q9] 42))
              have IX := Lib.hid (HI.out.alloc (.cells #[.string qn, .string qf, .string qt, .int .i64 qx, .int .i64 q5, .int .i64 q6, .int .i64 q7, .int .i64 q8, .int .i64 q9] 42))
              have AX := Lib.hid (HA.out.alloc (.cells #[.string qn, .string qf, .string qt, .int .i64 qx, .int .i64 q5, .int .i64 q6, .int .i64 q7, .int .i64 q8, .int .i64 q9] 42))
              have GX := Lib.hid (HG.out.alloc (.cells #[.string qn, .string qf, .string qt, .int .i64 qx, .int .i64 q5, .int .i64 q6, .int .i64 q7, .int .i64 q8, .int .i64 q9] 42))
              have BX := Lib.hid (HB.out.alloc (.cells #[.string qn, .string qf, .string qt, .int .i64 qx, .int .i64 q5, .int .i64 q6, .int .i64 q7, .int .i64 q8, .int .i64 q9] 42))
              have QX := Lib.hid (Blk.new_ wr wr.heap.size 42 #[.string qn, .string qf, .string qt, .int .i64 qx, .int .i64 q5, .int .i64 q6, .int .i64 q7, .int .i64 q8, .int .i64 q9] rfl)
              go_wp2_with fail
              have CCX := CC.out qn _ FX.out
              refine CCX.mono ?_
              rintro e w6 ⟨rfl, rfl⟩
              have HEQ : Hid (Pl.braZ N wo st ⟨qn, qf, qt, qx, q5, q6, q7, q8, q9⟩ = if Pl.inB wo qn = true then st else Pl.stepZ st (Pl.idxT N.nodes qf) (Pl.idxT N.nodes qt) (1000 * qx)) := rfl
              generalize hww : wr.alloc (.cells #[.string qn, .string qf, .string qt, .int .i64 qx, .int .i64 q5, .int .i64 q6, .int .i64 q7, .int .i64 q8, .int .i64 q9] 42) = wx at *
              clear hww
              have kq := QX.out.cell
              have kql := QX.out.lt
              cases hin : Pl.inB wo qn
              · rw [hin, if_neg (by simp)] at HEQ
                clear hin
                have hwr : IntKind.i64.wrap (1000 * qx) = 1000 * qx := IntWalk.i64_in _ (by have := HKS.out; omega)
                go_wp2_with fail
                refine (CS.out w.heap.size gf g4 ga2 st.1 n0 st.2 qf qt (1000 * qx) _ FX.out BX.out GX.out IX.out AX.out HZK.out.len ⟨HKS.out.1, HKS.out.2.1⟩ ⟨HKS.out.2.2.1, HKS.out.2.2.2.1⟩ (by have := HKS.out; omega) (fun v => by have := zinv_le HZK.out hn2 v; omega) (by show _ ≠ _; have := HGA.out; have := HG4.out; have := HGFE.out; have := HGF.out; omega) (by show _ ≠ _; have := HGA.out; have := HG4.out; have := HGFE.out; have := HGF.out; omega) (by show _ ≠ _; have := HGA.out; have := HG4.out; have := HGFE.out; have := HGF.out; omega)).mono ?_
                rintro e w6 ⟨rfl, hi6, ha6, ho6⟩
                have I6 := Lib.hid hi6
                have A6 := Lib.hid ha6
                have G6 := Lib.hid (ho6.blk GX.out (by show _ ≠ _; have := HGA.out; have := HG4.out; have := HGFE.out; have := HGF.out; omega) (by show _ ≠ _; have := HGA.out; have := HG4.out; have := HGFE.out; have := HGF.out; omega))
                have B6 := Lib.hid (ho6.blk BX.out (by show _ ≠ _; have := HGA.out; have := HG4.out; have := HGFE.out; have := HGF.out; omega) (by show _ ≠ _; have := HGA.out; have := HG4.out; have := HGFE.out; have := HGF.out; omega))
                have F6 := Lib.hid (FX.out.trans (ho6.below (by show _ ≤ _; have := HGA.out; have := HG4.out; have := HGFE.out; have := HGF.out; omega) (by show _ ≤ _; have := HGA.out; have := HG4.out; have := HGFE.out; have := HGF.out; omega) (by have := FX.out.size; exact this)))
                clear hi6 ha6 ho6
                go_wp2_with fail
                go_roundw
                case rel => exact ⟨k + 1, Pl.stepZ st (Pl.idxT N.nodes qf) (Pl.idxT N.nodes qt) (1000 * qx), by omega, by go_num, by show _ = _; rw [HTK.out, HEQ.out], I6.out, A6.out, G6.out, B6.out, F6.out⟩
                case measure => simp [intOf]; omega
              · rw [hin, if_pos rfl] at HEQ
                clear hin
                go_wp2_with fail
                go_roundw
                case rel => exact ⟨k + 1, st, by omega, by go_num, by show _ = _; rw [HTK.out, HEQ.out], IX.out, AX.out, GX.out, BX.out, FX.out⟩
                case measure => simp [intOf]; omega
            · have HS2 : Hid (st = Pl.roundZ N wo far) := by
                show _ = _
                rw [HST.out, List.take_of_length_le (by have := HL2.out; omega)]; rfl
              rw [← HS2.out] at HRD
              have kn := HB.out.cell
              have ka := HA.out.cell 0
              have hknd : ¬ ((k : Int) < (n2 : Int)) := by omega
              have FX := Lib.hid (HF.out.alloc HF.out.size (.cells #[.bool st.2] 4))
              have IX := Lib.hid (HI.out.alloc (.cells #[.bool st.2] 4))
              have AX := Lib.hid (Blk.new_ wr wr.heap.size 4 #[.bool st.2] rfl)
              have GX := Lib.hid (HG.out.alloc (.cells #[.bool st.2] 4))
              have BX := Lib.hid (HB.out.alloc (.cells #[.bool st.2] 4))
              have HGX : Hid (gf < wr.heap.size) := HG.out.lt
              have HMM : Hid (Pl.msr st.1 + (if st.2 = true then 1 else 0) < Pl.msr far + 1) := by
                show _ < _
                have h2 := HRD.out.1.le
                have h3 := HRD.out.1.lt
                cases hb : st.2
                · simp; omega
                · have := h3 hb; simp; omega
              have HCL : Hid (st.2 = false → ∀ i k l, Pl.ZE N wo i k l → Pl.ClosedE st.1 i k l) := by
                intro hb
                rw [HRD.out.1.eq hb]
                exact HRD.out.2 hb
              have HZN := Lib.hid HRD.out.1.inv
              clear HRD HST HS2 HYE HZ HC HI HA HG HB HF
              go_wp2_with fail
              go_roundg (Pl.msr st.1 + (if st.2 = true then 1 else 0))
              case rel => exact ⟨st.1, st.2, wr.heap.size, rfl, Nat.le_refl _, HGX.out, IX.out, AX.out, GX.out, BX.out, HZN.out, HCL.out, FX.out⟩
              case measure => have h1 := HMM.out; have h2 := HMS.out; rw [if_pos (by first | rfl | trivial)] at h2; omega
end Go.Proofs.Ytpamgeemmbbkkaa
