/- Package large: the long division of words. Condition: the words read; the divisor has at least two. Package large: divWords answers as integers. Condition: the words read; the divisor is not 0. -/
import Derived.Test.YtoblpcljhblnmaaGreatDoorLgN1
namespace Go.Proofs.YtoblpcljhblnmaaGreatDoor
open Go.RowKit
set_option maxRecDepth 100000
set_option maxHeartbeats 12800000 in
theorem divw_long (A : Option Addr) (c : Nat) (B : Option Addr) (d : Nat) (a b : Nat) (w : World) (hn : Pl.nw a ≤ 17592186044416) (ha : Reads w w.heap.size 1 A (Pl.nw a) (u32s (Pl.digs a))) (hb : Reads w w.heap.size 1 B (Pl.nw b) (u32s (Pl.digs b))) (hle : b ≤ a) (h2 : 2 ≤ Pl.nw b) :
    Calls Tryz.prog 173 #[.slice A (Pl.nw a) c, .slice B (Pl.nw b) d] w (DivSaid a b w) := by
  have HCMP := Lib.hid (cmpw_any A (Pl.nw a) c (Pl.digs a) B (Pl.nw b) d (Pl.digs b) w (by omega) (by have := Pl.nw_mono hle; omega) ha hb (Pl.digs_can _) (Pl.digs_can _))
  rw [Pl.lv_digs, Pl.lv_digs] at HCMP
  have H := Lib.hid ha
  have H' := Lib.hid hb
  have HLE := Lib.hid hle
  have hnm := Pl.nw_mono hle
  have HLA : Hid (Pl.lv (Pl.digs a) = a ∧ (Pl.digs a).length = Pl.nw a ∧ Pl.W32 (Pl.digs a)) := ⟨Pl.lv_digs _, rfl, (Pl.digs_can _).1⟩
  have HLB : Hid (Pl.lv (Pl.digs b) = b ∧ (Pl.digs b).length = Pl.nw b ∧ Pl.Can (Pl.digs b)) := ⟨Pl.lv_digs _, rfl, Pl.digs_can _⟩
  have HNA : Hid (Pl.nw a = Pl.nw a) := rfl
  clear ha hb hle
  have HFIN : Hid (∀ {P Q : Nat → Nat → Prop}, P (Pl.nw a) (Pl.nw b) → P (Pl.nw a) (Pl.nw b)) := fun h => h
  clear HFIN HNA
  generalize Pl.digs a = la at *
  generalize Pl.digs b = lb at *
  generalize hNN : Pl.nw a = N at *
  generalize hnn : Pl.nw b = n at *
  have HNN := Lib.hid (And.intro hNN hnn)
  clear hNN hnn
  obtain ⟨n1, hn1⟩ : ∃ n1 : Nat, n = n1 + 1 := ⟨n - 1, by omega⟩
  have wn1 : IntKind.i64.wrap ((n : Int) - 1) = (n1 : Int) := by rw [show (n : Int) - 1 = (n1 : Int) by omega]; exact IntWalk.i64_in _ (by omega)
  have hn1n : n1 < n := by omega
  have HN1 := Lib.hid hn1
  clear hn1
  obtain ⟨bB, oB, hBe, hbB, hkl, y1⟩ := u32_at H'.out (k := n1) hn1n
  have hxb := HLB.out.2.2.1.at_ hkl
  have hx0 : lb[n1] ≠ 0 := by
    have hne : lb ≠ [] := by intro e; rw [e] at hkl; simp at hkl
    have := HLB.out.2.2.2 hne
    rw [List.getLast_eq_getElem] at this
    have e : lb.length - 1 = n1 := by have := HLB.out.2.1; have := HN1.out; omega
    simpa only [e] using this
  have HX : Hid (∃ x, x = lb[n1]) := ⟨_, rfl⟩
  obtain ⟨x, hx⟩ := HX.out
  rw [← hx] at y1 hxb hx0
  have HXE := Lib.hid hx
  have HY := Lib.hid y1
  subst hBe
  have HLD := Lib.hid (fun W => lead_any x hxb hx0 W)
  have HBB := Lib.hid hbB
  clear hx HX y1 hx0 hbB
  go_enter Tryz.func173, Tryz.ntmps173
  go_wp2_with fail
  refine HCMP.out.mono ?_
  rintro e w1 ⟨r, rfl, hcmp, hbl⟩
  have HB1 := Lib.hid hbl
  have hr : ¬ r < 0 := fun h => by have := hcmp.1.1 h; have := HLE.out; omega
  have hn1b : ((n : Int) == 1) = false := by simp; omega
  have hn10 : (0 : Int) ≤ (n1 : Int) := by omega
  have hn11 : (n1 : Int) < (n : Int) := by omega
  have y1 := (hbl.cell (p := ⟨bB, oB + n1, none⟩) HBB.out).trans HY.out
  have hbr : bB < w1.heap.size := by have := hbl.size; have := HBB.out; omega
  have HA1 := Lib.hid (H.out.go hbl)
  have HBR1 := Lib.hid (H'.out.go hbl)
  clear HCMP hcmp hbl HY HBB
  obtain ⟨s, hs31, hs1, hs2, hsc⟩ := HLD.out w1
  have HSC := Lib.hid hsc
  have HSS := Lib.hid (And.intro hs1 hs2)
  clear hsc hs1 hs2 HLD
  go_wp2_with fail
  refine HSC.out.mono ?_
  rintro e w2 ⟨rfl, rfl⟩
  clear HSC y1 hr
  have HSHA := Lib.hid (shifted_any A N c la s w2.drew (by omega) HA1.out HLA.out.2.2 hs31)
  have HSHB := Lib.hid (fun W (z : Reads W W.heap.size 1 (some ⟨bB, oB, none⟩) n (u32s lb)) => shifted_any (some ⟨bB, oB, none⟩) n d lb s W (by omega) z HLB.out.2.2.1 hs31)
  have hsl := fun g W => u32_to (n := n + 1) (c := n + 1) (A := some ⟨g, 0, none⟩) (n : Int) n rfl (by omega) (Nat.le_refl _) W
  go_wp2_with fail
  have hSw : (fun _ : World => True) w2.drew := trivial
  refine wp_region_mid (fun _ : World => True) 11 (by kernel_rfl) ?_
  refine wpAnyM_take 0 rfl (by kernel_rfl) (by kernel_rfl) (by kernel_rfl) (by kernel_rfl) (by kernel_rfl) (fun _ _ _ h => h) hSw (by kernel_rfl) (fun w' hSx => by skip; go_simp; first | done | with_reducible rfl) ?_
  simp only [Act.put, List.setIfInBounds_toArray]
  refine wpAnyM_take 1 rfl (by kernel_rfl) (by kernel_rfl) (by kernel_rfl) (by kernel_rfl) (by kernel_rfl) (fun _ _ _ h => h) hSw (by kernel_rfl) (fun w' hSx => by skip; go_simp; first | done | with_reducible rfl) ?_
  simp only [Act.put]
  refine wpAnyM_take 3 rfl (by kernel_rfl) (by kernel_rfl) (by kernel_rfl) (by kernel_rfl) (by kernel_rfl) (fun _ _ _ h => h) hSw (by kernel_rfl) (fun w' hSx => by skip; go_simp; first | done | with_reducible rfl) ?_
  simp only [Act.put]
  refine wpAnyM_take 4 rfl (by kernel_rfl) (by kernel_rfl) (by kernel_rfl) (by kernel_rfl) (by kernel_rfl) (fun _ _ _ h => h) hSw (by kernel_rfl) (fun w' hSx => by skip; go_simp; first | done | with_reducible rfl) ?_
  simp only [Act.put]
  refine wpAnyM_take 6 rfl (by kernel_rfl) (by kernel_rfl) (by kernel_rfl) (by kernel_rfl) (by kernel_rfl) (fun _ _ _ h => h) hSw (by kernel_rfl) (fun w' hSx => by skip; go_simp; first | done | with_reducible rfl) ?_
  simp only [Act.put]
  refine wpAnyM_take 7 rfl (by kernel_rfl) (by kernel_rfl) (by kernel_rfl) (by kernel_rfl) (by kernel_rfl) (fun _ _ _ h => h) hSw (by kernel_rfl) (fun w' hSx => by skip; go_simp; first | done | with_reducible rfl) ?_
  simp only [Act.put]
  refine wpAnyM_ready [2] (by kernel_rfl) (by simp) ?_
  refine AllReadyM.cons (by rfl) (fun K hK => ?_) AllReadyM.nil
  go_simp
  refine HSHA.out.mono ?_
  rintro e w3 ⟨gu, us, rfl, hul, huw, huv, hub, hug, hbl3⟩
  have d3 := (Below.refl w2.heap.size w2).drew.trans (hbl3.mono (Nat.le_refl _))
  have HB3 := Lib.hid (HB1.out.trans (d3.mono HB1.out.size))
  have HBR3 := Lib.hid (HBR1.out.go d3)
  have HU := Lib.hid (And.intro hul (And.intro huw (And.intro huv (And.intro hub hug))))
  have hSw : (fun _ : World => True) w3 := trivial
  refine hK.out _ _ hSw ?_
  clear hK K hul huw huv hub hug hbl3 d3 HSHA
  refine wpAnyM_ready [5] (by kernel_rfl) (by simp) ?_
  refine AllReadyM.cons (by rfl) (fun K hK => ?_) AllReadyM.nil
  go_simp
  refine (HSHB.out w3 HBR3.out).mono ?_
  rintro e w4 ⟨gv, v0, rfl, hvl, hvw, hvv, hvb, hvg, hbl4⟩
  have HB4 := Lib.hid (HB3.out.trans (hbl4.mono HB3.out.size))
  have HU4 := Lib.hid (HU.out.2.2.2.1.go hbl4)
  have HV := Lib.hid (And.intro hvl (And.intro hvw (And.intro hvv (And.intro hvb hvg))))
  have hSw : (fun _ : World => True) w4 := trivial
  refine hK.out _ _ hSw ?_
  have hsg := hsl gv
  clear hK K hvl hvw hvv hvb hvg hbl4 HSHB hsl
  refine wpAnyM_take 8 rfl (by kernel_rfl) (by kernel_rfl) (by kernel_rfl) (by kernel_rfl) (by kernel_rfl) (fun _ _ _ h => h) hSw (by kernel_rfl) (fun w' hSx => by skip; go_simp; first | done | with_reducible rfl) ?_
  simp only [Act.put]
  refine wpAnyM_take 9 rfl (by kernel_rfl) (by kernel_rfl) (by kernel_rfl) (by kernel_rfl) (by kernel_rfl) (fun _ _ _ h => h) hSw (by kernel_rfl) (fun w' hSx => by skip; go_simp; first | done | with_reducible rfl) ?_
  simp only [Act.put]
  refine wpAnyM_take 10 rfl (by kernel_rfl) (by kernel_rfl) (by kernel_rfl) (by kernel_rfl) (by kernel_rfl) (fun _ _ _ h => h) hSw (by kernel_rfl) (fun w' hSx => by skip; go_simp; first | done | with_reducible rfl) ?_
  simp only [Act.put]
  refine wpAnyM_done (by kernel_rfl) ?_ _
  obtain ⟨m, hm⟩ : ∃ m : Nat, N = m + n := ⟨N - n, by omega⟩
  obtain ⟨z, hz⟩ : ∃ z : Nat, z = m + 1 := ⟨_, rfl⟩
  have wm : IntKind.i64.wrap ((N : Int) - (n : Int)) = (m : Int) := by rw [show (N : Int) - (n : Int) = (m : Int) by omega]; exact IntWalk.i64_in _ (by omega)
  have wz : IntKind.i64.wrap ((m : Int) + 1) = (z : Int) := by rw [show (m : Int) + 1 = (z : Int) by omega]; exact IntWalk.i64_in _ (by omega)
  have hmk := fun W => make_u32 z (by omega) W
  have HM := Lib.hid (And.intro hm hz)
  have hmz : m < z := by omega
  clear hm hz hSw
  clear hSw
  go_wp2_with fail
  clear hmk wz wn1 hn1b hsg
  have hug := HU.out.2.2.2.2
  have huw := HU.out.2.2.2.1.lt
  have hvg := HV.out.2.2.2.2
  have hvw := HV.out.2.2.2.1.lt
  have hs2 : w.heap.size ≤ w2.heap.size := HB1.out.size
  have d5 := below_one w4 (.cells (u32s (List.replicate z 0)).toArray 225)
  have HDW : Hid (DivW w (w4.alloc (.cells (u32s (List.replicate z 0)).toArray 225)) gu us gv v0 w4.heap.size (List.replicate z 0)) :=
    ⟨HU4.out.go d5, HV.out.2.2.2.1.go d5, WB.new_ w4 z, HU.out.2.1, HV.out.2.1, Pl.W32.zeros z, HB4.out.trans (d5.mono HB4.out.size), ⟨Nat.le_trans hs2 hug, by omega, hvw⟩⟩
  obtain ⟨gq, hgq⟩ : ∃ gq : Nat, gq = w4.heap.size := ⟨_, rfl⟩
  rw [← hgq] at HDW ⊢
  generalize (w4.alloc (.cells (u32s (List.replicate z 0)).toArray 225)) = w5 at *
  obtain ⟨p, hp⟩ : ∃ p : Nat, p = 2 ^ s := ⟨_, rfl⟩
  have HP := Lib.hid hp
  have hvl0 : n1 < v0.length := by have := HV.out.1; omega
  have hset : Pl.lv (v0.take n) = b * p ∧ 2147483648 ≤ v0[n1] := by
    have h := Pl.div_setup (k := n1) (by rw [HLB.out.2.1, HN1.out]) HLB.out.2.2.1 hs31 (by rw [← HXE.out]; exact HSS.out.1) (by rw [← HXE.out]; exact HSS.out.2) (by rw [HV.out.1, HN1.out]) HV.out.2.1 HV.out.2.2.1
    have e : v0.take n = v0.take (n1 + 1) := by rw [HN1.out]
    exact ⟨by rw [e, h.1, HLB.out.1, hp], h.2⟩
  have HVL := Lib.hid HV.out.1
  have HVS := Lib.hid hset
  have HI0 : Hid (DivI a (b * p) N n m p z us (List.replicate z 0)) := by
    have hul := HU.out.1
    have hm1 := HM.out.1
    have hz1 := HM.out.2
    have hn2 := HN1.out
    have e1 : us.take (z + n) = us := List.take_of_length_le (by omega)
    have huv := HU.out.2.2.1
    rw [HLA.out.1, ← hp] at huv
    refine ⟨hul, by simp; omega, ?_, ?_, fun h => by omega⟩
    · rw [e1, List.drop_of_length_le (by simp), Pl.lv_nil, huv]; simp
    · rw [e1, huv, hz1, hp]
      rw [← HLA.out.1]
      refine Pl.div_init (k := n1) (by rw [HLA.out.2.1]; omega) HLA.out.2.2 hs31 ?_
      have hlen : lb.length = n1 + 1 := by have := HLB.out.2.1; omega
      have h3 := (Pl.lv_lt_top HLB.out.2.2.1 (k := n1) hlen).2
      rw [HLB.out.1, ← HXE.out] at h3
      have h4 := Nat.mul_le_mul_right (2 ^ s) h3
      have h5 := Nat.mul_le_mul_right (4294967296 ^ n1) HSS.out.1
      rw [Nat.mul_right_comm] at h4
      exact Nat.le_trans h5 h4
  clear hset hgq hug huw hvg hvw hs2 d5 hp HU4 HV HU HB4 HB3 HBR3
  clear HA1 HBR1 HB1 H H' wm
  obtain ⟨k, hk⟩ : ∃ k : Nat, n1 = k + 1 := ⟨n1 - 1, by have := HN1.out; omega⟩
  have HK := Lib.hid hk
  have hkn : k < n1 := by omega
  clear hk
  have wn1 : IntKind.i64.wrap ((n : Int) - 1) = (n1 : Int) := by rw [show (n : Int) - 1 = (n1 : Int) by have := HN1.out; omega]; exact IntWalk.i64_in _ (by omega)
  have wn2 : IntKind.i64.wrap ((n : Int) - 2) = (k : Int) := by rw [show (n : Int) - 2 = (k : Int) by have := HN1.out; have := HK.out; omega]; exact IntWalk.i64_in _ (by omega)
  have hmz2 : (m : Int) = (z : Int) - 1 := by have := HM.out.2; omega
  have HMZ := Lib.hid hmz2
  clear hmz2
  go_loopg [12] (z + 1) (fun gh jv wr => ∃ (j : Nat) (us qs : List Nat), j ≤ z ∧ gh = j + 1 ∧ jv = .int .i64 ((j : Int) - 1) ∧ Hid (DivW w wr gu us gv v0 gq qs) ∧ Hid (DivI a (b * p) N n m p j us qs))
  case atStart => exact ⟨z, us, _, Nat.le_refl _, rfl, congrArg (Value.int .i64) HMZ.out, HDW.out, HI0.out⟩
  case round =>
    clear HDW HI0
    obtain ⟨j, us, qs, hj, rfl, rfl, HW, HI⟩ := hrel
    by_cases hj0 : j = 0
    · subst hj0
      have hmk := fun W => make_u32 n (by omega) W
      go_wp2_with fail
      have d6 := below_one wr (.cells (u32s (List.replicate n 0)).toArray 225)
      have HW6 := Lib.hid (HW.out.go d6)
      have HR6 := Lib.hid (WB.new_ wr n)
      have hgq2 := HW.out.q.lt
      obtain ⟨gr, hgr⟩ : ∃ gr : Nat, gr = wr.heap.size := ⟨_, rfl⟩
      rw [← hgr] at HR6 hgq2 ⊢
      generalize (wr.alloc (.cells (u32s (List.replicate n 0)).toArray 225)) = w6 at *
      have hul := HI.out.ul
      have hun : n < us.length := by have := HM.out; omega
      have hu0 : 0 < us.length := by omega
      have HUN : Hid (us[n] = 0) := by
        have h := HI.out.top (by omega)
        simp only [Nat.zero_add] at h
        exact h
      have hpq : p * 2 ^ (32 - s) = 4294967296 := by rw [HP.out, ← Nat.pow_add, show s + (32 - s) = 32 by omega]
      have HPQ := Lib.hid hpq
      clear hmk hgr d6 hul hpq HW
      have HUL := Lib.hid HI.out.ul
      refine tail_any hn hnm hs31 HP HPQ HUL hun hu0 hgq2 HW6 HR6 (Lib.hid ?_)
      intro u21 u250 u251 u252 u253 u254 u255 u256 u257 u258 u259 u260 u261 u262 u263 u264 u265 u266 u267 u268 u269 u270 u271 u272 pre wx HPR HW HRR
      clear HW6 HR6 HUL
      have hp0 : 0 < p := by rw [HP.out]; exact Nat.pow_pos (by omega)
      have heq := HI.out.eq
      have hlt := HI.out.lt
      simp only [Nat.pow_zero, Nat.mul_one, Nat.zero_add, List.drop_zero] at heq hlt
      have hde := Pl.div_end hp0 heq hlt
      have hun2 := HPR.out.2.2 hun
      have hR := Pl.unshift_end (us := us) (r := pre) (n := n) HPQ.out hun HUN.out hun2 hde.2 (by omega)
      have HFN : Hid (Pl.lv qs = a / b ∧ Pl.lv pre = a % b ∧ pre.length = n ∧ Pl.W32 pre) := ⟨hde.1, hR, HPR.out.1, HPR.out.2.1⟩
      have HQL := Lib.hid HI.out.ql
      have HMM := Lib.hid HM.out
      clear heq hlt hde hun2 hR HPR
      go_wp2_with fail
      go_ret2
      have hq := HW.out.q.reads
      have hr := HRR.out.reads
      have hml := HMM.out
      rw [HQL.out] at hq
      rw [HFN.out.2.2.1] at hr
      refine ⟨some ⟨gq, 0, none⟩, z, z, qs, some ⟨gr, 0, none⟩, n, n, pre, rfl, Nat.le_refl _, Nat.le_refl _, HW.out.qw, HFN.out.2.2.2, HFN.out.1, HFN.out.2.1, by rw [HNN.out.1]; omega, by rw [HNN.out.1, HNN.out.2]; exact Nat.le_max_right _ _, by rw [hml.2]; exact hq, hr, HW.out.bel⟩
    · obtain ⟨i, rfl⟩ : ∃ i, j = i + 1 := ⟨j - 1, by omega⟩
      have e1 : (((i + 1 : Nat) : Int) - 1) = (i : Int) := by omega
      rw [e1]
      clear e1 hj0
      have hN1 := HN1.out
      have hK1 := HK.out
      have hM1 := HM.out
      have hul := HI.out.ul
      obtain ⟨e0, he0⟩ : ∃ e : Nat, e = i + n := ⟨_, rfl⟩
      obtain ⟨e1, he1⟩ : ∃ e : Nat, e = i + n1 := ⟨_, rfl⟩
      obtain ⟨e2, he2⟩ : ∃ e : Nat, e = i + k := ⟨_, rfl⟩
      have HEE := Lib.hid (And.intro he0 (And.intro he1 he2))
      have we0 : IntKind.i64.wrap ((i : Int) + (n : Int)) = (e0 : Int) := by rw [show (i : Int) + (n : Int) = (e0 : Int) by omega]; exact IntWalk.i64_in _ (by omega)
      have we1 : IntKind.i64.wrap ((e0 : Int) - 1) = (e1 : Int) := by rw [show (e0 : Int) - 1 = (e1 : Int) by omega]; exact IntWalk.i64_in _ (by omega)
      have we2 : IntKind.i64.wrap ((e0 : Int) - 2) = (e2 : Int) := by rw [show (e0 : Int) - 2 = (e2 : Int) by omega]; exact IntWalk.i64_in _ (by omega)
      obtain ⟨zu, hzu⟩ : ∃ zu : Nat, zu = N + 1 := ⟨_, rfl⟩
      have he0l : e0 < us.length := by omega
      have he1l : e1 < us.length := by omega
      have he2l : e2 < us.length := by omega
      have hvl := HVL.out
      have hvl1 : n1 < v0.length := by omega
      have hvl2 : k < v0.length := by omega
      have b0 : (e0 : Int) < (N : Int) + 1 := by omega
      have b1 : (e1 : Int) < (N : Int) + 1 := by omega
      have b2 : (e2 : Int) < (N : Int) + 1 := by omega
      have b3 : (n1 : Int) < (n : Int) := by omega
      have b4 : (k : Int) < (n : Int) := by omega
      have b5 : (0 : Int) ≤ (i : Int) := by omega
      have c0 := HW.out.u.at_ he0l
      have c1 := HW.out.u.at_ he1l
      have c2 := HW.out.u.at_ he2l
      have c3 := HW.out.v.at_ hvl1
      have c4 := HW.out.v.at_ hvl2
      have r0 := HW.out.uw.at_ he0l
      have r1 := HW.out.uw.at_ he1l
      have r2 := HW.out.uw.at_ he2l
      have r3 := HW.out.vw.at_ hvl1
      have r4 := HW.out.vw.at_ hvl2
      have l0 := HW.out.u.lt
      have l1 := HW.out.v.lt
      have hdig : Pl.Dig (Pl.lv (Pl.win us i k)) (b * p) us[e0] us[e1] us[e2] v0[n1] v0[k] (4294967296 ^ k) (Pl.lv ((Pl.win us i k).take k)) (Pl.lv ((v0.take n).take k)) (Pl.lv (Pl.win us i k) / (b * p)) := by
        have h := Pl.dig_of (us := us) (vs := v0.take n) (j := i) (k := k) HW.out.uw (HW.out.vw.take n) (by omega) (by rw [List.length_take]; omega) (by rw [List.getElem_take]; have := HVS.out.2; simp only [hK1] at this; exact this) (by rw [HVS.out.1]; have := HI.out.lt; rw [show i + 1 + n = i + 1 + (k + 2) by omega] at this; exact this)
        rw [HVS.out.1] at h
        simp only [List.getElem_take] at h
        have q0 : us[i + (k + 2)]'(by omega) = us[e0] := by congr 1; omega
        have q1 : us[i + (k + 1)]'(by omega) = us[e1] := by congr 1; omega
        have q2 : us[i + k]'(by omega) = us[e2] := by congr 1; omega
        have q3 : v0[k + 1]'(by omega) = v0[n1] := by congr 1; omega
        rw [q0, q1, q2, q3] at h
        exact h
      have HDG := Lib.hid hdig
      have h31 := hdig.vh31
      clear hdig
      obtain ⟨x0, hx0⟩ : ∃ x, us[e0] = x := ⟨_, rfl⟩
      obtain ⟨x1, hx1⟩ : ∃ x, us[e1] = x := ⟨_, rfl⟩
      obtain ⟨x2, hx2⟩ : ∃ x, us[e2] = x := ⟨_, rfl⟩
      obtain ⟨vh, hvh⟩ : ∃ x, v0[n1] = x := ⟨_, rfl⟩
      obtain ⟨vl, hvl⟩ : ∃ x, v0[k] = x := ⟨_, rfl⟩
      rw [hx0, hx1, hx2, hvh, hvl] at HDG
      rw [hx0] at c0 r0
      rw [hx1] at c1 r1
      rw [hx2] at c2 r2
      rw [hvh] at c3 r3 h31
      rw [hvl] at c4 r4
      have HX2 := Lib.hid (And.intro hx2 (And.intro hvh hvl))
      have HX0 := Lib.hid hx0
      clear hx0 hx1 hx2 hvh hvl
      clear he0 he1 he2 hN1 hK1 hM1 hul hzu
      obtain ⟨tp, htp⟩ : ∃ tp : Nat, tp = x0 * 4294967296 + x1 := ⟨_, rfl⟩
      have hor : bits .or .u64 ((x0 : Int) * 4294967296) (x1 : Int) = (tp : Int) := by rw [htp]; exact or_hi x0 x1 r0 r1
      obtain ⟨g0, hg0⟩ : ∃ g : Nat, g = tp / vh := ⟨_, rfl⟩
      obtain ⟨s0, hs0⟩ : ∃ g : Nat, g = tp % vh := ⟨_, rfl⟩
      have htd : (tp : Int).tdiv (vh : Int) = (g0 : Int) := by rw [hg0]; rfl
      have htm : (tp : Int).tmod (vh : Int) = (s0 : Int) := by rw [hs0]; rfl
      have hgb : g0 ≤ 8589934592 := by
        rw [hg0]
        have h1 : tp / vh ≤ tp / 2147483648 := Nat.div_le_div_left h31 (by omega)
        omega
      have wg0 : IntKind.u64.wrap (g0 : Int) = (g0 : Int) := IntWalk.u64_in _ (by omega)
      have hvh0 : ((vh : Int) == 0) = false := by simp; omega
      have hsb : s0 < vh := by rw [hs0]; exact Nat.mod_lt _ (by omega)
      have HE0 : Hid (g0 * vh + s0 = x0 * 4294967296 + x1 ∧ Pl.lv (Pl.win us i k) / (b * p) ≤ g0) := by
        have h1 : g0 * vh + s0 = x0 * 4294967296 + x1 := by rw [hg0, hs0, ← htp, Nat.mul_comm]; exact Nat.div_add_mod _ _
        refine ⟨h1, ?_⟩
        rcases Nat.lt_or_ge g0 (Pl.lv (Pl.win us i k) / (b * p)) with hlt | hge
        · exfalso
          exact Pl.dig_low HDG.out h1 hsb hlt
        · exact hge
      clear htp hg0 hs0
      go_wp2_with fail
      go_quiet (fail)
      have HW1 := Lib.hid (HW.out.drewN nq)
      go_wp2_with fail
      go_quiet (fail)
      have HW2 := Lib.hid (HW1.out.drewN nq)
      clear HW1 c0 c1 c2 c3 c4 l0 l1 hor htd htm hvh0 wg0
      have hs0B : s0 < 4294967296 := by omega
      generalize hQ : Pl.lv (Pl.win us i k) / (b * p) = Q at *
      have HQQ := Lib.hid hQ
      clear hQ
      have HW0 := Lib.hid HW.out.uw
      clear HW
      go_upto_block 2 with fail
      refine est_any wn1 wn2 we0 we2 he2l hvl1 hvl2 b2 b3 b4 r2 r3 r4 HX2 HDG HE0 hs0B hgb HW2 (Lib.hid ?_)
      intro u106 u107 u108 u109 u110 u111 u112 u113 u114 u115 u116 u117 u118 u119 u120 u121 u122 u123 u124 u125 u126 u127 u128 u129 u130 u131 u132 u133 u134 u135 u136 u137 u138 u139 u140 u141 g rest wx hgB HQ1 HW
      clear HE0 HW2 hgb hsb hs0B
      go_wp2_with fail
      have HVT : Hid (Pl.lv (v0.take n) = b * p) := HVS.out.1
      go_loopw [16, 17, 143] (fun bs cs iv wr => ∃ (t cy : Nat) (bw : Int) (pre : List Nat), t ≤ n ∧ iv = .int .i64 (t : Int) ∧ bs = .int .i64 bw ∧ (-1 ≤ bw ∧ bw ≤ 0) ∧ cs = .int .u64 (cy : Int) ∧ cy < 4294967296 ∧ Hid (pre.length = t ∧ Pl.W32 pre ∧ (Pl.lv pre : Int) + 4294967296 ^ t * (bw - cy) = (Pl.lv ((Pl.win us i k).take t) : Int) - g * (Pl.lv (v0.take t) : Int)) ∧ Hid (DivW w wr gu (Pl.wn us i pre) gv v0 gq qs)) (fun _ _ iv _ => n - (intOf iv).toNat)
      case atStart => exact ⟨0, 0, 0, [], Nat.zero_le _, rfl, rfl, by omega, rfl, by omega, Lib.hid ⟨rfl, Pl.W32.nil, by simp [Pl.lv]⟩, by rw [Pl.wn_nil]; exact HW.out⟩
      case round =>
        obtain ⟨t, cy, bw, pre, ht, rfl, rfl, ⟨hb1, hb2⟩, rfl, hcy, HP, HX⟩ := hrel
        clear HW
        by_cases htn : t < n
        · have hvt : t < v0.length := by have := HVL.out; omega
          have y0 := HX.out.v.at_ hvt
          have hyb := HX.out.vw.at_ hvt
          obtain ⟨y, hy⟩ : ∃ y, v0[t] = y := ⟨_, rfl⟩
          rw [hy] at y0 hyb
          have HYE := Lib.hid hy
          obtain ⟨et, het⟩ : ∃ e : Nat, e = t + i := ⟨_, rfl⟩
          have wet : IntKind.i64.wrap ((t : Int) + (i : Int)) = (et : Int) := by rw [show (t : Int) + (i : Int) = (et : Int) by omega]; exact IntWalk.i64_in _ (by have := HM.out; omega)
          have hetl : i + pre.length < us.length := by have := HP.out.1; have := HI.out.ul; have := HM.out; omega
          have heti : et = i + pre.length := by have := HP.out.1; omega
          have y1 : wr.cell? ⟨gu, et, none⟩ = some (.int .u32 (us[i + pre.length] : Nat)) := by
            have h := Pl.wn_get (us := us) (pre := pre) (j := i) hetl
            have hl : i + pre.length < (Pl.wn us i pre).length := (List.getElem?_eq_some_iff.1 h).1
            have h2 := HX.out.u.at_ hl
            rw [List.getElem?_eq_getElem hl] at h
            rw [Option.some.inj h] at h2
            rw [heti]; exact h2
          have hxb2 : us[i + pre.length] < 4294967296 := HW0.out.at_ hetl
          obtain ⟨xt, hxt⟩ : ∃ x, us[i + pre.length] = x := ⟨_, rfl⟩
          rw [hxt] at y1 hxb2
          have HXT := Lib.hid hxt
          have l0 := HX.out.u.lt
          have l1 := HX.out.v.lt
          have f1 := HX.out.u.frozen et
          have hk0 : (0 : Int) ≤ (t : Int) := by omega
          have hk1 : (t : Int) < (n : Int) := by omega
          have hk2 : (0 : Int) ≤ (et : Int) := by omega
          have hk3 : (et : Int) < (N : Int) + 1 := by have := HI.out.ul; omega
          obtain ⟨m1, hm1⟩ : ∃ m1 : Nat, m1 = g * y := ⟨_, rfl⟩
          have hm1b : m1 ≤ 18446744065119617025 := by rw [hm1]; exact Nat.mul_le_mul (show g ≤ 4294967295 by omega) (show y ≤ 4294967295 by omega)
          have wm1 : IntKind.u64.wrap ((g : Int) * (y : Int)) = (m1 : Int) := by rw [hm1, Int.natCast_mul]; exact IntWalk.u64_in _ (by rw [← Int.natCast_mul, ← hm1]; omega)
          obtain ⟨c1, hc1⟩ : ∃ c1 : Nat, c1 = cy + m1 := ⟨_, rfl⟩
          have wc1 : IntKind.u64.wrap ((cy : Int) + (m1 : Int)) = (c1 : Int) := by rw [show (cy : Int) + (m1 : Int) = (c1 : Int) by omega]; exact IntWalk.u64_in _ (by omega)
          have hc1b : c1 < 18446744073709551616 := by omega
          obtain ⟨cm, hcm⟩ : ∃ cm : Nat, cm = c1 % 4294967296 := ⟨_, rfl⟩
          obtain ⟨cq, hcq⟩ : ∃ cq : Nat, cq = c1 / 4294967296 := ⟨_, rfl⟩
          have wand : bits .and .u64 (c1 : Int) 4294967295 = (cm : Int) := by rw [hcm]; exact and_low c1 hc1b
          have wcm : IntKind.i64.wrap (cm : Int) = (cm : Int) := IntWalk.i64_in _ (by omega)
          have wcq : (c1 : Int) / 4294967296 = (cq : Int) := by omega
          have wxt : IntKind.i64.wrap (xt : Int) = (xt : Int) := IntWalk.i64_in _ (by omega)
          have wsub : IntKind.i64.wrap ((xt : Int) - (cm : Int)) = (xt : Int) - (cm : Int) := IntWalk.i64_in _ (by omega)
          obtain ⟨b1, hb1e⟩ : ∃ b1 : Int, b1 = bw + xt - cm := ⟨_, rfl⟩
          have wadd : IntKind.i64.wrap (bw + ((xt : Int) - (cm : Int))) = b1 := by rw [show bw + ((xt : Int) - (cm : Int)) = b1 by omega]; exact IntWalk.i64_in _ (by omega)
          obtain ⟨rr, hrr⟩ : ∃ rr : Nat, rr = (b1 % 4294967296).toNat := ⟨_, rfl⟩
          obtain ⟨qq, hqq⟩ : ∃ qq : Int, qq = b1 / 4294967296 := ⟨_, rfl⟩
          have em : b1 % 4294967296 = (rr : Int) := by omega
          have ed : b1 / 4294967296 = qq := hqq.symm
          have hrrb : rr < 4294967296 := by omega
          have hqqb : -1 ≤ qq ∧ qq ≤ 0 := by omega
          have hcqb : cq < 4294967296 := by omega
          have HP2 : Hid ((pre ++ [rr]).length = t + 1 ∧ Pl.W32 (pre ++ [rr]) ∧ (Pl.lv (pre ++ [rr]) : Int) + 4294967296 ^ (t + 1) * (qq - cq) = (Pl.lv ((Pl.win us i k).take (t + 1)) : Int) - g * (Pl.lv (v0.take (t + 1)) : Int)) := by
            refine ⟨by simp [HP.out.1], HP.out.2.1.append (Pl.W32.one hrrb), ?_⟩
            have h := Pl.sub_mul_step (g := g) (x := xt) (y := y) (c1 := c1) (b1 := b1) HP.out.1 HP.out.2.2 (by rw [hc1, hm1]) (by rw [← hcm]; exact hb1e)
            rw [← hrr, ← hqq, ← hcq] at h
            have hwl : (Pl.win us i k).length = k + 3 := Pl.win_len (by have := HI.out.ul; have := HM.out; have := HN1.out; have := HK.out; omega)
            have hwt : t < (Pl.win us i k).length := by have := HN1.out; have := HK.out; omega
            have hwg := Pl.win_get (us := us) (j := i) (k := k) (i := t) (by have := HI.out.ul; have := HM.out; have := HN1.out; have := HK.out; omega) (by have := HN1.out; have := HK.out; omega)
            have hix : us[i + t]'(by have := HI.out.ul; have := HM.out; omega) = xt := by
              rw [← HXT.out]; congr 1; have := HP.out.1; omega
            rw [hix] at hwg
            rw [h, Pl.lv_take_succ hwt, hwg, Pl.lv_take_succ hvt, HYE.out, Int.natCast_add, Int.natCast_add, Int.natCast_mul, Int.natCast_mul, Int.natCast_pow]
            rfl
          have HX2' : Hid (DivW w (wr.setCell ⟨gu, et, none⟩ (.int .u32 (rr : Int))) gu (Pl.wn us i (pre ++ [rr])) gv v0 gq qs) := by
            have h := HX.out.setU et hrrb
            rw [heti, Pl.wn_set hetl, ← heti] at h
            exact h
          clear HP HX hy hxt het heti hm1 hc1 hcm hcq hb1e hrr hqq
          go_wp2_with fail
          refine ⟨⟨t + 1, cq, qq, pre ++ [rr], by omega, by go_num, rfl, hqqb, rfl, hcqb, HP2, HX2'⟩, ?_⟩
          simp [intOf]; omega
        · have htt : n = t := by omega
          subst htt
          have hj1 : ¬ (n : Int) < (n : Int) := by omega
          have hpl : pre.length = n := HP.out.1
          have hul := HI.out.ul
          have hM1 := HM.out
          have hN1 := HN1.out
          have hK1 := HK.out
          have hee := HEE.out.1
          have heti : e0 = i + pre.length := by omega
          have hetl : i + pre.length < us.length := by omega
          have y1 : wr.cell? ⟨gu, e0, none⟩ = some (.int .u32 (x0 : Int)) := by
            have h := Pl.wn_get (us := us) (pre := pre) (j := i) hetl
            have hl : i + pre.length < (Pl.wn us i pre).length := (List.getElem?_eq_some_iff.1 h).1
            have h2 := HX.out.u.at_ hl
            rw [List.getElem?_eq_getElem hl] at h
            rw [Option.some.inj h] at h2
            have h3 : us[i + pre.length] = x0 := by rw [← HX0.out]; congr 1; omega
            rw [h3] at h2
            rw [heti]; exact h2
          have l0 := HX.out.u.lt
          have f1 := HX.out.u.frozen e0
          have hk2 : (0 : Int) ≤ (e0 : Int) := by omega
          have wx0 : IntKind.i64.wrap (x0 : Int) = (x0 : Int) := IntWalk.i64_in _ (by omega)
          have wcy : IntKind.i64.wrap (cy : Int) = (cy : Int) := IntWalk.i64_in _ (by omega)
          have wsub : IntKind.i64.wrap ((x0 : Int) - (cy : Int)) = (x0 : Int) - (cy : Int) := IntWalk.i64_in _ (by omega)
          obtain ⟨bF, hbF⟩ : ∃ bF : Int, bF = bw + ((x0 : Int) - (cy : Int)) := ⟨_, rfl⟩
          have wadd : IntKind.i64.wrap (bw + ((x0 : Int) - (cy : Int))) = bF := by rw [← hbF]; exact IntWalk.i64_in _ (by omega)
          have hwl : (Pl.win us i k).length = k + 3 := Pl.win_len (by omega)
          have hwg := Pl.win_get (us := us) (j := i) (k := k) (i := n) (by omega) (by omega)
          have hix : us[i + n]'(by omega) = x0 := by rw [← HX0.out]; congr 1; omega
          rw [hix] at hwg
          have hwt : n < (Pl.win us i k).length := by omega
          have hwin : Pl.lv (Pl.win us i k) = Pl.lv ((Pl.win us i k).take n) + 4294967296 ^ n * x0 := by
            have h := Pl.lv_take_succ hwt
            rw [hwg, List.take_of_length_le (by omega)] at h
            exact h
          have hkey : (Pl.lv pre : Int) + ((4294967296 ^ n : Nat) : Int) * bF = (Pl.lv (Pl.win us i k) : Int) - g * (b * p : Nat) := by
            have h := HP.out.2.2
            rw [HVT.out] at h
            have e1 : ((4294967296 ^ n : Nat) : Int) = (4294967296 : Int) ^ n := Int.natCast_pow _ _
            rw [e1, hwin, hbF, Int.natCast_add, Int.natCast_mul, e1, show bw + ((x0 : Int) - (cy : Int)) = (bw - cy) + x0 by omega, Int.mul_add]
            generalize (4294967296 : Int) ^ n * (bw - ↑cy) = X1 at *
            generalize (4294967296 : Int) ^ n * (x0 : Int) = X2 at *
            omega
          have hVB : b * p ≤ 4294967296 ^ n := by
            have h := Pl.lv_lt (HX.out.vw.take n)
            rw [HVT.out, List.length_take, Nat.min_eq_left (by have := HVL.out; omega)] at h
            omega
          have hDB : Pl.lv pre < 4294967296 ^ n := by have h := Pl.lv_lt HP.out.2.1; rw [hpl] at h; exact h
          have hV0 : 0 < b * p := by
            rcases Nat.eq_zero_or_pos (b * p) with h | h
            · have := HDG.out.lt; rw [h] at this; omega
            · exact h
          have hQR : Pl.lv (Pl.win us i k) < (Q + 1) * (b * p) := HDG.out.q2
          obtain ⟨v9, cq0⟩ := HX.out.q.ex (k := i) (by have := HI.out.ql; omega)
          have fq0 := HX.out.q.frozen i
          have lq0 := HX.out.q.lt
          have neq : ¬ gu = gq := by have := HX.out.ord; omega
          have hki : (i : Int) < (z : Int) := by omega
          have wi1 : IntKind.i64.wrap ((i : Int) - 1) = (i : Int) - 1 := IntWalk.i64_in _ (by omega)
          have HKEY := Lib.hid hkey
          have HBND := Lib.hid (And.intro hVB (And.intro hDB (And.intro hV0 hQR)))
          clear hkey hVB hDB hV0 hQR hwin hwg hix hwt hwl heti
          by_cases hneg : bF < 0
          · have hw := Pl.sub_wrong HDG.out.q1 HQ1.out.1 HQ1.out.2 HBND.out.1 HBND.out.2.1 HKEY.out hneg
            obtain ⟨zz, hzz⟩ : ∃ zz : Nat, zz = 4294967295 := ⟨_, rfl⟩
            have em : bF % 4294967296 = (zz : Int) := by rw [hw.2.1, hzz]; rfl
            have hbd : decide (bF < 0) = true := decide_eq_true hneg
            obtain ⟨g', hg'⟩ : ∃ g' : Nat, g' = g - 1 := ⟨_, rfl⟩
            have hgQ : g' = Q := by have := hw.1; omega
            have wg1 : IntKind.u64.wrap ((g : Int) - 1) = (g' : Int) := by rw [show (g : Int) - 1 = (g' : Int) by have := hw.1; omega]; exact IntWalk.u64_in _ (by omega)
            have hg'B : g' < 4294967296 := by omega
            have hgm : (g' : Int) % 4294967296 = (g' : Int) := by omega
            have hzb : zz < 4294967296 := by omega
            have HF : Hid (DivW w (wr.setCell ⟨gu, e0, none⟩ (.int .u32 (zz : Int))) gu (Pl.wn us i (pre ++ [zz])) gv v0 gq qs) := by
              have h := HX.out.setU e0 hzb
              have e9 : e0 = i + pre.length := by omega
              rw [e9, Pl.wn_set hetl, ← e9] at h
              exact h
            have HADD : Hid (Pl.lv pre + b * p = (Pl.lv (Pl.win us i k) - Q * (b * p)) + 4294967296 ^ n) := hw.2.2
            have HPW := Lib.hid HP.out.2.1
            have HZZ := Lib.hid hzz
            have HGQ := Lib.hid hgQ
            have HPL := Lib.hid hpl
            clear hw hneg hzz HX HP hul hM1 hN1 hK1 hee hbF hgQ hg' hpl cq0 fq0 lq0 hetl
            go_wp2_with fail
            clear y1 f1 l0 wx0 wcy wsub wadd
            generalize (wr.setCell ⟨gu, e0, none⟩ (.int .u32 (zz : Int))) = wf at *
            go_loopw [19, 204] (fun cs iv wr => ∃ (t cy : Nat) (p2 : List Nat), t ≤ n ∧ iv = .int .i64 (t : Int) ∧ cs = .int .u64 (cy : Int) ∧ cy ≤ 1 ∧ Hid (p2.length = t ∧ Pl.W32 p2 ∧ Pl.lv p2 + 4294967296 ^ t * cy = Pl.lv (pre.take t) + Pl.lv (v0.take t)) ∧ Hid (DivW w wr gu (Pl.wn (Pl.wn us i (pre ++ [zz])) i p2) gv v0 gq qs)) (fun _ iv _ => n - (intOf iv).toNat)
            case atStart => exact ⟨0, 0, [], Nat.zero_le _, rfl, rfl, by omega, Lib.hid ⟨rfl, Pl.W32.nil, by simp [Pl.lv]⟩, by rw [Pl.wn_nil]; exact HF.out⟩
            case round =>
              obtain ⟨t, c9, p2, ht, rfl, rfl, hc9, HP, HX⟩ := hrel
              clear HF
              have hul1 : (Pl.wn us i (pre ++ [zz])).length = us.length := Pl.wn_len (by have := HPL.out; have := HI.out.ul; have := HM.out; simp; omega)
              by_cases htn : t < n
              · have hvt : t < v0.length := by have := HVL.out; omega
                have y0 := HX.out.v.at_ hvt
                have hyb := HX.out.vw.at_ hvt
                obtain ⟨y, hy⟩ : ∃ y, v0[t] = y := ⟨_, rfl⟩
                rw [hy] at y0 hyb
                have HYE := Lib.hid hy
                obtain ⟨et, het⟩ : ∃ e : Nat, e = t + i := ⟨_, rfl⟩
                have wet : IntKind.i64.wrap ((t : Int) + (i : Int)) = (et : Int) := by rw [show (t : Int) + (i : Int) = (et : Int) by omega]; exact IntWalk.i64_in _ (by have := HM.out; omega)
                have hpt : t < pre.length := by have := HPL.out; omega
                have hetl : i + p2.length < (Pl.wn us i (pre ++ [zz])).length := by have := HP.out.1; have := HI.out.ul; have := HM.out; omega
                have heti : et = i + p2.length := by have := HP.out.1; omega
                have y1 : wr.cell? ⟨gu, et, none⟩ = some (.int .u32 (pre[t] : Nat)) := by
                  have h := Pl.wn_get (us := Pl.wn us i (pre ++ [zz])) (pre := p2) (j := i) hetl
                  have hl : i + p2.length < (Pl.wn (Pl.wn us i (pre ++ [zz])) i p2).length := (List.getElem?_eq_some_iff.1 h).1
                  have h2 := HX.out.u.at_ hl
                  rw [List.getElem?_eq_getElem hl] at h
                  rw [Option.some.inj h] at h2
                  have h4 := wn_in (us := us) (p1 := pre ++ [zz]) (i := i) (t := t) (by have := HI.out.ul; have := HM.out; omega) (by simp; omega)
                  have h5 : (Pl.wn us i (pre ++ [zz]))[i + p2.length]? = some pre[t] := by
                    rw [HP.out.1, h4, List.getElem_append_left hpt]
                  rw [List.getElem?_eq_getElem hetl] at h5
                  rw [Option.some.inj h5] at h2
                  rw [heti]; exact h2
                have hxb2 : pre[t] < 4294967296 := HPW.out.at_ hpt
                obtain ⟨xt, hxt⟩ : ∃ x, pre[t] = x := ⟨_, rfl⟩
                rw [hxt] at y1 hxb2
                have HXT := Lib.hid hxt
                have l0 := HX.out.u.lt
                have l1 := HX.out.v.lt
                have f1 := HX.out.u.frozen et
                have hk0 : (0 : Int) ≤ (t : Int) := by omega
                have hk1 : (t : Int) < (n : Int) := by omega
                have hk2 : (0 : Int) ≤ (et : Int) := by omega
                have hk3 : (et : Int) < (N : Int) + 1 := by have := HI.out.ul; omega
                have ws1 : IntKind.u64.wrap ((xt : Int) + (y : Int)) = (xt : Int) + (y : Int) := IntWalk.u64_in _ (by omega)
                obtain ⟨s4, hs4⟩ : ∃ s4 : Nat, s4 = c9 + (xt + y) := ⟨_, rfl⟩
                have ws2 : IntKind.u64.wrap ((c9 : Int) + ((xt : Int) + (y : Int))) = (s4 : Int) := by rw [show (c9 : Int) + ((xt : Int) + (y : Int)) = (s4 : Int) by omega]; exact IntWalk.u64_in _ (by omega)
                obtain ⟨rr, hrr⟩ : ∃ rr : Nat, rr = s4 % 4294967296 := ⟨_, rfl⟩
                obtain ⟨qq, hqq⟩ : ∃ qq : Nat, qq = s4 / 4294967296 := ⟨_, rfl⟩
                have em4 : (s4 : Int) % 4294967296 = (rr : Int) := by omega
                have ed4 : (s4 : Int) / 4294967296 = (qq : Int) := by omega
                have hrrb : rr < 4294967296 := by omega
                have hqqb : qq ≤ 1 := by omega
                have HP2 : Hid ((p2 ++ [rr]).length = t + 1 ∧ Pl.W32 (p2 ++ [rr]) ∧ Pl.lv (p2 ++ [rr]) + 4294967296 ^ (t + 1) * qq = Pl.lv (pre.take (t + 1)) + Pl.lv (v0.take (t + 1))) := by
                  refine ⟨by simp [HP.out.1], HP.out.2.1.append (Pl.W32.one hrrb), ?_⟩
                  have h := Pl.word_step HP.out.1 HP.out.2.2 hs4
                  rw [← hrr, ← hqq] at h
                  rw [h, Pl.lv_take_succ hpt, Pl.lv_take_succ hvt, HXT.out, HYE.out, Nat.mul_add]
                  generalize 4294967296 ^ t * xt = X1
                  generalize 4294967296 ^ t * y = X2
                  omega
                have HETI := Lib.hid heti
                clear hy hxt het hs4 hrr hqq heti
                go_wp2_with fail
                go_quiet (fail)
                have HX9 := Lib.hid (HX.out.drewN nq)
                have HX2' : Hid (DivW w ((wr.drewN nq).setCell ⟨gu, et, none⟩ (.int .u32 (rr : Int))) gu (Pl.wn (Pl.wn us i (pre ++ [zz])) i (p2 ++ [rr])) gv v0 gq qs) := by
                  have h := HX9.out.setU et hrrb
                  rw [HETI.out, Pl.wn_set hetl, ← HETI.out] at h
                  exact h
                clear HP HX
                go_wp2_with fail
                refine ⟨⟨t + 1, qq, p2 ++ [rr], by omega, by go_num, rfl, hqqb, HP2, HX2'⟩, ?_⟩
                simp [intOf]; omega
              · have htt : n = t := by omega
                subst htt
                have hj1 : ¬ (n : Int) < (n : Int) := by omega
                have hp2l : p2.length = n := HP.out.1
                have hpl := HPL.out
                have hul := HI.out.ul
                have hM1 := HM.out
                have hN1 := HN1.out
                have hK1 := HK.out
                have hee := HEE.out.1
                have hb9 := HBND.out
                have hval := HP.out.2.2
                rw [HVT.out, List.take_of_length_le (by omega)] at hval
                have hadd := HADD.out
                have hpb := Pl.lv_lt HP.out.2.1
                rw [hp2l] at hpb
                have hR : Pl.lv (Pl.win us i k) - Q * (b * p) < b * p := by
                  have h2 := hb9.2.2.2
                  rw [Nat.succ_mul] at h2
                  omega
                have hc1 : c9 = 1 ∧ Pl.lv p2 = Pl.lv (Pl.win us i k) - Q * (b * p) := by
                  have h1 := hb9.1
                  rcases (show c9 = 0 ∨ c9 = 1 by omega) with e | e
                  · rw [e, Nat.mul_zero, Nat.add_zero] at hval
                    exfalso
                    generalize 4294967296 ^ n = BN at *
                    omega
                  · refine ⟨e, ?_⟩
                    rw [e, Nat.mul_one] at hval
                    generalize 4294967296 ^ n = BN at *
                    omega
                have hetl : i + p2.length < (Pl.wn us i (pre ++ [zz])).length := by omega
                have heti : e0 = i + p2.length := by omega
                have y1 : wr.cell? ⟨gu, e0, none⟩ = some (.int .u32 (zz : Nat)) := by
                  have h := Pl.wn_get (us := Pl.wn us i (pre ++ [zz])) (pre := p2) (j := i) hetl
                  have hl : i + p2.length < (Pl.wn (Pl.wn us i (pre ++ [zz])) i p2).length := (List.getElem?_eq_some_iff.1 h).1
                  have h2 := HX.out.u.at_ hl
                  rw [List.getElem?_eq_getElem hl] at h
                  rw [Option.some.inj h] at h2
                  have h4 := wn_in (us := us) (p1 := pre ++ [zz]) (i := i) (t := pre.length) (by omega) (by simp)
                  have h5 : (Pl.wn us i (pre ++ [zz]))[i + p2.length]? = some zz := by
                    rw [hp2l, ← hpl, h4, List.getElem_append_right (Nat.le_refl _)]
                    simp
                  rw [List.getElem?_eq_getElem hetl] at h5
                  rw [Option.some.inj h5] at h2
                  rw [heti]; exact h2
                have l0 := HX.out.u.lt
                have f1 := HX.out.u.frozen e0
                have hk2 : (0 : Int) ≤ (e0 : Int) := by omega
                obtain ⟨z0, hz0⟩ : ∃ z0 : Nat, z0 = 0 := ⟨_, rfl⟩
                have ecy : (c9 : Int) % 4294967296 = (c9 : Int) := by omega
                have wz0 : IntKind.u32.wrap ((zz : Int) + (c9 : Int)) = (z0 : Int) := by rw [HZZ.out, hc1.1, hz0]; rfl
                obtain ⟨v9, cq0⟩ := HX.out.q.ex (k := i) (by have := HI.out.ql; omega)
                have fq0 := HX.out.q.frozen i
                have lq0 := HX.out.q.lt
                have HF : Hid (DivW w ((wr.setCell ⟨gu, e0, none⟩ (.int .u32 (z0 : Int))).setCell ⟨gq, i, none⟩ (.int .u32 (g' : Int))) gu (Pl.wn us i (p2 ++ [0])) gv v0 gq (qs.set i g')) := by
                  have h := HX.out.setU e0 (x := z0) (by omega)
                  rw [heti, Pl.wn_set hetl, ← heti, wn_wn (by simp; omega) (by omega)] at h
                  have h2 := h.setQ i hg'B
                  rw [hz0] at h2 ⊢
                  exact h2
                have HIN : Hid (DivI a (b * p) N n m p i (Pl.wn us i (p2 ++ [0])) (qs.set i g')) := by
                  refine HI.out.next (k := k) (by omega) hp2l HW0.out ?_ ?_ (by omega) (by omega)
                  · rw [HGQ.out, hc1.2]
                    have := HDG.out.q1
                    omega
                  · rw [hc1.2]; exact hR
                clear hc1 hR hpb hadd hval hb9 hee hz0 HX HP hul hM1 hN1 hK1 hpl hp2l hul1 heti hetl
                go_wp2_with fail
                go_roundg (i + 1)
                case measure => exact Nat.lt_succ_self _
                case rel => exact ⟨i, _, _, by omega, rfl, rfl, HF.out, HIN.out⟩
          · have hr := Pl.sub_right HDG.out.q1 HDG.out.q2 HQ1.out.1 HBND.out.1 HKEY.out (by omega)
            obtain ⟨zz, hzz⟩ : ∃ zz : Nat, zz = 0 := ⟨_, rfl⟩
            have em : bF % 4294967296 = (zz : Int) := by rw [hr.2.1, hzz]; rfl
            have hbd : decide (bF < 0) = false := decide_eq_false hneg
            have hgm : (g : Int) % 4294967296 = (g : Int) := by omega
            have hlenl : i + pre.length < us.length := hetl
            have HF : Hid (DivW w ((wr.setCell ⟨gu, e0, none⟩ (.int .u32 (zz : Int))).setCell ⟨gq, i, none⟩ (.int .u32 (g : Int))) gu (Pl.wn us i (pre ++ [0])) gv v0 gq (qs.set i g)) := by
              have h := HX.out.setU e0 (x := zz) (by omega)
              have e9 : e0 = i + pre.length := by omega
              rw [e9, Pl.wn_set hlenl, ← e9] at h
              have h2 := h.setQ i hgB
              rw [hzz] at h2 ⊢
              exact h2
            have HIN : Hid (DivI a (b * p) N n m p i (Pl.wn us i (pre ++ [0])) (qs.set i g)) := by
              refine HI.out.next (k := k) (by omega) hpl HW0.out ?_ ?_ (by omega) (by omega)
              · rw [hr.1]; exact hr.2.2
              · have h1 := hr.2.2
                have h2 := HBND.out.2.2.2
                rw [Nat.succ_mul] at h2
                omega
            clear hr hneg hzz HX HP hul hM1 hN1 hK1 hee hbF
            go_wp2_with fail
            go_roundg (i + 1)
            case measure => exact Nat.lt_succ_self _
            case rel => exact ⟨i, _, _, by omega, rfl, rfl, HF.out, HIN.out⟩
end Go.Proofs.YtoblpcljhblnmaaGreatDoor
namespace Go.Proofs.YtoblpcljhblnmaaGreatDoor
open Go.RowKit
theorem divw_any (A : Option Addr) (c : Nat) (B : Option Addr) (d : Nat) (a b : Nat) (w : World) (hn : Pl.nw a ≤ 17592186044416) (hm : Pl.nw b ≤ 17592186044416) (hac : Pl.nw a ≤ c) (ha : Reads w w.heap.size 1 A (Pl.nw a) (u32s (Pl.digs a))) (hb : Reads w w.heap.size 1 B (Pl.nw b) (u32s (Pl.digs b))) (h0 : b ≠ 0) :
    Calls Tryz.prog 173 #[.slice A (Pl.nw a) c, .slice B (Pl.nw b) d] w (DivSaid a b w) := by
  rcases Nat.lt_or_ge a b with h | h
  · exact divw_short A c B d a b w hn hm hac ha hb h
  · have hp := Pl.nw_pos h0
    by_cases h1 : Pl.nw b = 1
    · exact divw_one A c B d a b w hn ha hb h h1
    · exact divw_long A c B d a b w hn ha hb h (by omega)
end Go.Proofs.YtoblpcljhblnmaaGreatDoor
