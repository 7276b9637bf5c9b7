/- RightsPaid: the law returns true. Condition: the network and the prices read. -/
import Derived.Test.YtoblpcljhblnmaaGreatDoorPay
import Derived.Test.YtoblpcljhblnmaaGreatDoorRing
import Derived.Test.YtoblpcljhblnmaaGreatDoorFine
import Derived.Test.YtoblpcljhblnmaaGreatDoorWithin
namespace Go.Proofs.YtoblpcljhblnmaaGreatDoor
open Go.RowKit
set_option maxRecDepth 100000
theorem Pl.pay_back (N : Pl.Net) (bus : List Int) (ps : List Rat) (f t : ByteArray) (p : Int) : Pl.pay N bus ps ⟨f, t, p⟩ + Pl.pay N bus ps ⟨t, f, p⟩ = 0 := by
  unfold Pl.pay
  simp only
  generalize ps.getD (Pl.lab bus (Pl.nodeAt N.nodes t)).toNat 0 = a
  generalize ps.getD (Pl.lab bus (Pl.nodeAt N.nodes f)).toNat 0 = b
  grind
theorem Pl.pay_sum (N : Pl.Net) (bus : List Int) (ps : List Rat) (f t : ByteArray) (p q : Int) : Pl.pay N bus ps ⟨f, t, p⟩ + Pl.pay N bus ps ⟨f, t, q⟩ = Pl.pay N bus ps ⟨f, t, q + p⟩ := by
  unfold Pl.pay
  simp only
  rw [Rat.intCast_add]
  generalize ps.getD (Pl.lab bus (Pl.nodeAt N.nodes t)).toNat 0 = a
  generalize ps.getD (Pl.lab bus (Pl.nodeAt N.nodes f)).toNat 0 = b
  grind
/-- the fixed right and prices -/
def rp1 : List Pl.RI := [⟨tN1, tN2, 10⟩]
def rpV : List (List UInt8) := [[53], [56]]
theorem rp1_E : Pl.rightsE (RN 10) rp1 = 0 := by decide +kernel
theorem rpV_E : Pl.ratsE rpV = 0 := by decide +kernel
theorem rpV_txt : rpV = [(5 : Rat), 8].map Pl.ratTxt := by decide +kernel
theorem rp1_top {bus isl : List Int} {mb mi : Nat} (h : Pl.TopOk (RN 10) bus isl mb mi) : bus = [0, 1] ∧ mb = 2 := Pl.two_free h.buses
theorem map_txt_inj : ∀ {l m : List Rat}, l.map Pl.ratTxt = m.map Pl.ratTxt → l = m
  | [], [], _ => rfl
  | a :: l, b :: m, h => by
    injection h with h1 h2
    rw [Pl.ratTxt_inj h1, map_txt_inj h2]
  | [], b :: m, h => by cases h
  | a :: l, [], h => by cases h
theorem rp1_pay {ps : List Rat} (h : rpV = ps.map Pl.ratTxt) : rp1.map (Pl.pay (RN 10) [0, 1] ps) = [(30 : Rat)] := by
  have e : ps = [5, 8] := map_txt_inj (h.symm.trans rpV_txt)
  subst e
  have n1 : Pl.lab [0, 1] (Pl.nodeAt (RN 10).nodes tN1) = 0 := by decide +kernel
  have n2 : Pl.lab [0, 1] (Pl.nodeAt (RN 10).nodes tN2) = 1 := by decide +kernel
  unfold rp1 Pl.pay
  rw [List.map_cons, List.map_nil, n1, n2]
  decide +kernel
theorem lt_limK {a k : Nat} (ha : a < 100) (h : 2 ≤ k) : a < Pl.limK k := Nat.lt_of_lt_of_le (Nat.lt_of_lt_of_eq ha (by decide)) (Nat.pow_le_pow_right (n := 10) (i := 2) (by omega) h)
theorem fits30 : Pl.Fits 30 := ⟨by unfold Pl.lim; exact lt_limK (a := (30 : Rat).num.natAbs) (by decide) (by omega), by unfold Pl.lim; exact lt_limK (a := (30 : Rat).den) (by decide) (by omega)⟩
theorem rp1_good : PayGood (RN 10) rp1 rpV := by
  refine ⟨rp1_E, fun bus isl mb mi ht => ?_⟩
  obtain ⟨rfl, rfl⟩ := rp1_top ht
  refine ⟨rfl, rpV_E, fun ps hp _ q hq => ?_⟩
  rw [rp1_pay hp, List.mem_singleton] at hq
  subst hq
  exact fits30
theorem txt30 : [(30 : Rat)].map Pl.ratTxt = [[51, 48]] := by decide +kernel
section
variable {w : World} {g r : Nat} {t : TypeId} {cs : Array Value} {a0 a1 a2 u0 u1 u2 : Value}
theorem Blk.put3 (h : Blk w r t #[a0, a1, a2]) : Blk (((w.setCell ⟨r, 0, none⟩ u0).setCell ⟨r, 1, none⟩ u1).setCell ⟨r, 2, none⟩ u2) r t #[u0, u1, u2] := ((h.set_ 0 u0).set_ 1 u1).set_ 2 u2
theorem Blk.far3 (h : Blk w g t cs) (hg : g ≠ r) : Blk (((w.setCell ⟨r, 0, none⟩ u0).setCell ⟨r, 1, none⟩ u1).setCell ⟨r, 2, none⟩ u2) g t cs := ((h.far (p := ⟨r, 0, none⟩) hg u0).far (p := ⟨r, 1, none⟩) hg u1).far (p := ⟨r, 2, none⟩) hg u2
theorem below_put3 {B : Nat} {w0 : World} (h : Below B w0 w) (hr : B ≤ r) : Below B w0 (((w.setCell ⟨r, 0, none⟩ u0).setCell ⟨r, 1, none⟩ u1).setCell ⟨r, 2, none⟩ u2) := ((h.setCell hr _).setCell hr _).setCell hr _
theorem Blk.at0 (h : Blk w r t #[a0, a1, a2]) : Blk (w.setCell ⟨r, 0, none⟩ u0) r t #[u0, a1, a2] := h.set_ 0 u0
theorem Blk.at1 (h : Blk w r t #[a0, a1, a2]) : Blk (w.setCell ⟨r, 1, none⟩ u0) r t #[a0, u0, a2] := h.set_ 1 u0
theorem Blk.at2 (h : Blk w r t #[a0, a1, a2]) : Blk (w.setCell ⟨r, 2, none⟩ u0) r t #[a0, a1, u0] := h.set_ 2 u0
end
theorem four_cells {w : World} {B g : Nat} {s0 s1 s2 s3 : List UInt8} (h : Reads w B 1 (some ⟨g, 0, none⟩) 4 (txs [s0, s1, s2, s3])) : g < B ∧ w.cell? ⟨g, 0, none⟩ = some (tx s0) ∧ w.cell? ⟨g, 1, none⟩ = some (tx s1) ∧ w.cell? ⟨g, 2, none⟩ = some (tx s2) ∧ w.cell? ⟨g, 3, none⟩ = some (tx s3) := by
  obtain ⟨b, o, e, hb, hc⟩ := h.where_ (by omega) (by omega)
  injection e with e
  injection e with e1 e2
  subst e1 e2
  exact ⟨hb, by simpa using hc 0 (tx s0) rfl, by simpa using hc 1 (tx s1) rfl, by simpa using hc 2 (tx s2) rfl, by simpa using hc 3 (tx s3) rfl⟩
theorem within_c (n lo hi : Int) (w : World) (h1 : lo ≤ hi) (h2 : -1000000000000000 ≤ lo) (h3 : hi ≤ 1000000000000000) :
    Calls Tryz.prog 14 #[.int .i64 n, .int .i64 lo, .int .i64 hi] w fun e w' => (∃ p, e = .returned (.int .i64 p) ∧ lo ≤ p ∧ p ≤ hi) ∧ Below w.heap.size w w' :=
  (within_any2 n lo hi w h1 h2 h3).mono fun _ _ ⟨h, h'⟩ => by subst h'; exact ⟨⟨_, h, Pl.withinF_bd n lo hi h1⟩, Below.refl _ _⟩
/-- rat.Add of fitting numbers -/
theorem radd_txt {p q : Rat} (fp : Pl.Fits p) (fq : Pl.Fits q) (w : World) (hl : LV w) :
    Calls Tryz.prog 15 #[tx (Pl.ratTxt p), tx (Pl.ratTxt q)] w fun e w' => (∃ s E, e = .returned (.tuple #[tx s, .int .i64 E]) ∧ (E = 0 → s = Pl.ratTxt (p + q))) ∧ Below w.heap.size w w' := by
  refine (raddT_any _ _ w (by have := ratTxt_len fp; omega) (by have := ratTxt_len fq; omega) hl).mono ?_
  intro e w' h
  rcases h with ⟨h1, _⟩ | ⟨p', q', e1, _, e2, _, h, hb⟩
  · exact absurd (Pl.ratsE_ok.2 fun l hl => by
      simp only [List.mem_cons, List.not_mem_nil, or_false] at hl
      rcases hl with rfl | rfl
      · exact Pl.ratE_txt fp
      · exact Pl.ratE_txt fq) h1
  · rw [← Pl.ratTxt_inj e1, ← Pl.ratTxt_inj e2] at h
    rcases h with ⟨_, rfl⟩ | ⟨_, rfl⟩
    · exact ⟨⟨_, 0, rfl, fun _ => rfl⟩, hb⟩
    · exact ⟨⟨_, 2, rfl, fun h => by cases h⟩, hb⟩
theorem txt0 : Pl.ratTxt 0 = [48] := by decide +kernel
set_option maxHeartbeats 12800000 in
theorem rightsPaid_any (M : MNet) (x : Pl.RI) (P : Option Addr) (np cp : Nat) (ls : List (List UInt8)) (more : Int) (w : World) (hM : NetIn w w.heap.size M) (hnp : np ≤ 9223372036854775807)
    (hr : Reads w w.heap.size 1 P np (txs ls)) (hs : ∀ s ∈ ls, s.length ≤ 9223372036854775807) (hv : LV w) :
    Calls Tryz.prog 3 #[vNet M, .agg #[.string x.from_, .string x.to_, .int .i64 x.power], .slice P np cp, .int .i64 more] w fun e w' => e = .returned (.bool true) ∧ Below w.heap.size w w' := by
  have HM0 := Lib.hid hM
  have HR := Lib.hid hr
  have HS := Lib.hid hs
  have HV := Lib.hid hv
  clear hM hr hs hv
  obtain ⟨fx, tx9, px⟩ := x
  simp only
  obtain ⟨N, A0, n0, c0, A1, n1, c1, A2, n2, c2, A3, n3, c3, A4, n4, c4, A5, n5, c5⟩ := M
  unfold vNet netC
  simp only
  go_enter Tryz.func3, Tryz.ntmps3
  go_wp2_with fail
  have hD := ((Below.refl w.heap.size w).alloc (Nat.le_refl _) (.cells #[.slice A0 n0 c0, .slice A1 n1 c1, .slice A2 n2 c2, .slice A3 n3 c3, .slice A4 n4 c4, .slice A5 n5 c5] 29)).alloc (by rw [World.size_alloc]; omega) (.cells #[.string fx, .string tx9, .int .i64 px] 31)
  have BN := Lib.hid ((Blk.new_ w w.heap.size 29 #[.slice A0 n0 c0, .slice A1 n1 c1, .slice A2 n2 c2, .slice A3 n3 c3, .slice A4 n4 c4, .slice A5 n5 c5] rfl).alloc (.cells #[.string fx, .string tx9, .int .i64 px] 31))
  have BX := Lib.hid (Blk.new_ (w.alloc (.cells #[.slice A0 n0 c0, .slice A1 n1 c1, .slice A2 n2 c2, .slice A3 n3 c3, .slice A4 n4 c4, .slice A5 n5 c5] 29)) (w.heap.size + 1) 31 #[.string fx, .string tx9, .int .i64 px] (by rw [World.size_alloc]))
  have D := Lib.hid hD
  obtain ⟨bn, hbn, hbn2⟩ : ∃ bn : Nat, bn = w.heap.size ∧ w.heap.size ≤ bn := ⟨_, rfl, Nat.le_refl _⟩
  rw [← hbn] at BN BX ⊢
  obtain ⟨bx, hbx, hbx2⟩ : ∃ bx : Nat, bx = bn + 1 ∧ bn < bx := ⟨_, rfl, by omega⟩
  rw [← hbx] at BX ⊢
  clear hD hbn hbx
  generalize (w.alloc (.cells #[.slice A0 n0 c0, .slice A1 n1 c1, .slice A2 n2 c2, .slice A3 n3 c3, .slice A4 n4 c4, .slice A5 n5 c5] 29)).alloc (.cells #[.string fx, .string tx9, .int .i64 px] 31) = w1 at *
  refine (ring_any 10 w1).mono ?_
  rintro e w2 ⟨M9, A9, rfl, hN9, hM9, _, hb5⟩
  obtain ⟨N9, B0, m0, d0, B1, m1, d1, B2, m2, d2, B3, m3, d3, B4, m4, d4, B5, m5, d5⟩ := M9
  simp only at hN9
  subst hN9
  have HM9 := Lib.hid hM9
  replace BN := Lib.hid (BN.out.go hb5)
  replace BX := Lib.hid (BX.out.go hb5)
  replace D := Lib.hid (D.out.trans (hb5.mono D.out.size))
  clear hM9 hb5
  unfold vNet netC
  simp only
  go_wp2_with fail
  have hb5 := below_oneS w2 (.cells #[.slice B0 m0 d0, .slice B1 m1 d1, .slice B2 m2 d2, .slice B3 m3 d3, .slice B4 m4 d4, .slice B5 m5 d5] 29)
  replace BN := Lib.hid (BN.out.go hb5)
  replace BX := Lib.hid (BX.out.go hb5)
  replace HM9 := Lib.hid (HM9.out.go hb5)
  replace D := Lib.hid (D.out.trans (hb5.mono D.out.size))
  clear hb5
  have sz0 : (w2.alloc (.cells #[.slice B0 m0 d0, .slice B1 m1 d1, .slice B2 m2 d2, .slice B3 m3 d3, .slice B4 m4 d4, .slice B5 m5 d5] 29)).heap.size = w2.heap.size + 1 := World.size_alloc _ _
  generalize w2.alloc (.cells #[.slice B0 m0 d0, .slice B1 m1 d1, .slice B2 m2 d2, .slice B3 m3 d3, .slice B4 m4 d4, .slice B5 m5 d5] 29) = v1 at *
  have hb5 := below_oneS v1 (.cells #[.string ⟨#[78, 49]⟩, .string ⟨#[78, 50]⟩, .int .i64 10] 31)
  have BI := Lib.hid (Blk.new_ v1 v1.heap.size 31 #[.string ⟨#[78, 49]⟩, .string ⟨#[78, 50]⟩, .int .i64 10] rfl)
  replace BN := Lib.hid (BN.out.go hb5)
  replace BX := Lib.hid (BX.out.go hb5)
  replace HM9 := Lib.hid (HM9.out.go hb5)
  replace D := Lib.hid (D.out.trans (hb5.mono D.out.size))
  clear hb5
  have sz1 : (v1.alloc (.cells #[.string ⟨#[78, 49]⟩, .string ⟨#[78, 50]⟩, .int .i64 10] 31)).heap.size = v1.heap.size + 1 := World.size_alloc _ _
  rw [sz0] at BI
  generalize v1.alloc (.cells #[.string ⟨#[78, 49]⟩, .string ⟨#[78, 50]⟩, .int .i64 10] 31) = v2 at *
  have hb5 := below_oneS v2 (.cells #[.string ⟨#[53]⟩, .string ⟨#[56]⟩] 41)
  replace BI := Lib.hid (BI.out.go hb5)
  have BV := Lib.hid (Blk.new_ v2 v2.heap.size 41 #[.string ⟨#[53]⟩, .string ⟨#[56]⟩] rfl)
  replace BN := Lib.hid (BN.out.go hb5)
  replace BX := Lib.hid (BX.out.go hb5)
  replace HM9 := Lib.hid (HM9.out.go hb5)
  replace D := Lib.hid (D.out.trans (hb5.mono D.out.size))
  clear hb5
  have sz2 : (v2.alloc (.cells #[.string ⟨#[53]⟩, .string ⟨#[56]⟩] 41)).heap.size = v2.heap.size + 1 := World.size_alloc _ _
  rw [sz1, sz0] at BV
  generalize v2.alloc (.cells #[.string ⟨#[53]⟩, .string ⟨#[56]⟩] 41) = v3 at *
  obtain ⟨bi, hbi⟩ : ∃ b : Nat, b = w2.heap.size + 1 := ⟨_, rfl⟩
  rw [← hbi] at BI BV ⊢
  obtain ⟨bv, hbv⟩ : ∃ b : Nat, b = bi + 1 := ⟨_, rfl⟩
  rw [← hbv] at BV ⊢
  obtain ⟨bm, hbm⟩ : ∃ b : Nat, b = w2.heap.size := ⟨_, rfl⟩
  rw [← hbm]
  clear sz0 sz1 sz2 hbi hbv hbm
  have hq9 : Elems riC 3 v3 v3.heap.size (some ⟨bi, 0, none⟩) 1 rp1 := ⟨lit_reads9 _ _ _ _ 1 3 BI.out rfl, rfl⟩
  have hq8 : Reads v3 v3.heap.size 1 (some ⟨bv, 0, none⟩) 2 (txs rpV) := lit_reads9 _ _ _ _ 2 1 BV.out rfl
  refine (payoutS_any ⟨RN 10, B0, m0, d0, B1, m1, d1, B2, m2, d2, B3, m3, d3, B4, m4, d4, B5, m5, d5⟩ (some ⟨bi, 0, none⟩) 1 1 rp1 (some ⟨bv, 0, none⟩) 2 2 rpV v3 HM9.out hq9 (by omega) hq8 (by omega) (by intro s hs; unfold rpV at hs; simp at hs; rcases hs with rfl | rfl <;> simp) (HV.out.go D.out)).mono ?_
  rintro e w4 ⟨⟨hc, hb5⟩, hno⟩
  rcases hc with he | ⟨bus, isl, mb, mi, ht, ps, g, _, hps, _, _, _, rfl, hrd⟩
  · exact absurd he (hno rp1_good)
  obtain ⟨rfl, rfl⟩ := rp1_top ht
  rw [rp1_pay hps] at hrd
  rw [show rp1.length = 1 from rfl] at hrd ⊢
  have HG := Lib.hid hrd
  replace BN := Lib.hid (BN.out.go hb5)
  replace BX := Lib.hid (BX.out.go hb5)
  replace D := Lib.hid (D.out.trans (hb5.mono D.out.size))
  clear hrd hb5 hno hps ht BI BV HM9 hq9 hq8
  go_wp2_with fail
  have hb5 := below_oneS w4 (.cells #[.string ⟨#[51, 48]⟩] 41)
  have BE := Lib.hid (Blk.new_ w4 w4.heap.size 41 #[.string ⟨#[51, 48]⟩] rfl)
  replace BN := Lib.hid (BN.out.go hb5)
  replace BX := Lib.hid (BX.out.go hb5)
  replace HG := Lib.hid (HG.out.go hb5)
  replace D := Lib.hid (D.out.trans (hb5.mono D.out.size))
  clear hb5
  obtain ⟨be, hbe⟩ : ∃ b : Nat, b = w4.heap.size := ⟨_, rfl⟩
  rw [← hbe] at BE ⊢
  clear hbe
  generalize w4.alloc (.cells #[.string ⟨#[51, 48]⟩] 41) = w5 at *
  have hq9 : Reads w5 w5.heap.size 1 (some ⟨be, 0, none⟩) 1 (txs [[51, 48]]) := lit_reads9 _ _ _ _ 1 1 BE.out (by rfl)
  refine (eqvec_any (some ⟨g, 0, none⟩) (some ⟨be, 0, none⟩) 1 1 1 1 _ _ w5 (by omega) HG.out hq9 txt30).mono ?_
  rintro e w6 ⟨rfl, hb5⟩
  replace BN := Lib.hid (BN.out.go hb5)
  replace BX := Lib.hid (BX.out.go hb5)
  replace D := Lib.hid (D.out.trans (hb5.mono D.out.size))
  clear hb5 hq9 HG BE
  go_wp2_with fail
  have hb5 := (Below.refl w6.heap.size w6).drew
  replace BN := Lib.hid (BN.out.go hb5)
  replace BX := Lib.hid (BX.out.go hb5)
  replace D := Lib.hid (D.out.trans (hb5.mono D.out.size))
  clear hb5
  have HB0 := Lib.hid (Below.refl w6.drew.heap.size w6.drew)
  have hlt_BN := BN.out.lt
  have hlt_BX := BX.out.lt
  have hlt_D := D.out.size
  generalize hw9 : w6.drew = w05 at *
  have hSw : (fun w' : World => Blk w' (bx) 31 #[.string fx, .string tx9, .int .i64 px] ∧ True) w05 := ⟨BX.out.go HB0.out, trivial⟩
  refine wp_region_mid (fun w' : World => Blk w' (bx) 31 #[.string fx, .string tx9, .int .i64 px] ∧ True) 6 (by kernel_rfl) ?_
  rw [hw9]
  clear hw9
  refine wpAnyM_takeB 0 [4, 5] rfl (by kernel_rfl) (by kernel_rfl) (by kernel_rfl) (by kernel_rfl) (by kernel_rfl) (fun _ _ _ h => h) hSw (by kernel_rfl) (fun w' hSx => by have c0 := hSx.1.cell; have l0 := hSx.1.lt; go_simp; first | done | with_reducible rfl) ?_
  simp only [Act.put, List.setIfInBounds_toArray]
  refine wpAnyM_takeB 1 [5] rfl (by kernel_rfl) (by kernel_rfl) (by kernel_rfl) (by kernel_rfl) (by kernel_rfl) (fun _ _ _ h => h) hSw (by kernel_rfl) (fun w' hSx => by have c0 := hSx.1.cell; have l0 := hSx.1.lt; go_simp; first | done | with_reducible rfl) ?_
  simp only [Act.put]
  refine wpAnyM_ready [2, 3] (by kernel_rfl) (by simp) ?_
  refine AllReadyM.cons (by rfl) (fun K hK => ?_) (AllReadyM.cons (by rfl) (fun K hK => ?_) AllReadyM.nil)
  · go_simp
    have hb5 := below_oneS w05 (.cells #[.string ⟨#[]⟩, .string ⟨#[]⟩, .int .i64 0] 31)
    obtain ⟨by9, hg2⟩ : ∃ g : Nat, g = w05.heap.size := ⟨_, rfl⟩
    have BY := Lib.hid (Blk.new_ w05 by9 31 #[.string ⟨#[]⟩, .string ⟨#[]⟩, .int .i64 0] hg2)
    have hS_BY : w05.heap.size ≤ by9 := by have := HB0.out.size; omega
    rw [← hg2]
    replace HB0 := Lib.hid (Below.trans HB0.out (hb5.mono HB0.out.size))
    clear hb5 hg2
    generalize w05.alloc (.cells #[.string ⟨#[]⟩, .string ⟨#[]⟩, .int .i64 0] 31) = wq1 at *
    clear hSw
    have hSw : (fun w' : World => Blk w' (bx) 31 #[.string fx, .string tx9, .int .i64 px] ∧ True) wq1 := ⟨BX.out.go HB0.out, trivial⟩
    refine hK.out _ _ hSw ?_
    clear hK K
    refine wpAnyM_ready [3] (by kernel_rfl) (by simp) ?_
    refine AllReadyM.cons (by rfl) (fun K hK => ?_) AllReadyM.nil
    go_simp
    have hb5 := below_oneS wq1 (.cells #[.string ⟨#[]⟩, .string ⟨#[]⟩, .int .i64 0] 31)
    obtain ⟨bz, hg2⟩ : ∃ g : Nat, g = wq1.heap.size := ⟨_, rfl⟩
    have BZ := Lib.hid (Blk.new_ wq1 bz 31 #[.string ⟨#[]⟩, .string ⟨#[]⟩, .int .i64 0] hg2)
    have hn_BY_BZ : ¬ by9 = bz := by have := BY.out.lt; omega
    have hS_BZ : w05.heap.size ≤ bz := by have := HB0.out.size; omega
    rw [← hg2]
    replace BY := Lib.hid (BY.out.go hb5)
    replace HB0 := Lib.hid (Below.trans HB0.out (hb5.mono HB0.out.size))
    clear hb5 hg2
    generalize wq1.alloc (.cells #[.string ⟨#[]⟩, .string ⟨#[]⟩, .int .i64 0] 31) = wq2 at *
    clear hSw
    have hSw : (fun w' : World => Blk w' (bx) 31 #[.string fx, .string tx9, .int .i64 px] ∧ True) wq2 := ⟨BX.out.go HB0.out, trivial⟩
    refine hK.out _ _ hSw ?_
    clear hK K
    refine wpAnyM_ready [4] (by kernel_rfl) (by simp) ?_
    refine AllReadyM.cons (by rfl) (fun K hK => ?_) AllReadyM.nil
    replace BN := Lib.hid (BN.out.go HB0.out)
    replace BX := Lib.hid (BX.out.go HB0.out)
    replace D := Lib.hid (D.out.trans (HB0.out.mono D.out.size))
    have cc9 := BY.out.cell
    have cf9 := BY.out.frozen
    have cl9 := BY.out.lt
    go_simp
    clear cc9 cf9 cl9
    replace BN := Lib.hid (BN.out.far3 (r := by9) (by omega) (u0 := .string fx) (u1 := .string tx9) (u2 := .int .i64 px))
    replace BX := Lib.hid (BX.out.far3 (r := by9) (by omega) (u0 := .string fx) (u1 := .string tx9) (u2 := .int .i64 px))
    replace D := Lib.hid (below_put3 D.out (r := by9) (by omega) (u0 := .string fx) (u1 := .string tx9) (u2 := .int .i64 px))
    replace BZ := Lib.hid (BZ.out.far3 (r := by9) (by omega) (u0 := .string fx) (u1 := .string tx9) (u2 := .int .i64 px))
    replace BY := Lib.hid (BY.out.put3 (u0 := .string fx) (u1 := .string tx9) (u2 := .int .i64 px))
    generalize (((wq2.setCell ⟨by9, 0, none⟩ (.string fx)).setCell ⟨by9, 1, none⟩ (.string tx9)).setCell ⟨by9, 2, none⟩ (.int .i64 px)) = wq3 at *
    replace HB0 := Lib.hid (Below.refl wq3.heap.size wq3)
    clear hSw
    have hSw : (fun w' : World => Blk w' (bx) 31 #[.string fx, .string tx9, .int .i64 px] ∧ True) wq3 := ⟨BX.out, trivial⟩
    refine hK.out _ _ hSw ?_
    clear hK K
    refine wpAnyM_ready [5] (by kernel_rfl) (by simp) ?_
    refine AllReadyM.cons (by rfl) (fun K hK => ?_) AllReadyM.nil
    have cc9 := BZ.out.cell
    have cf9 := BZ.out.frozen
    have cl9 := BZ.out.lt
    go_simp
    clear cc9 cf9 cl9
    replace BN := Lib.hid (BN.out.far3 (r := bz) (by omega) (u0 := .string fx) (u1 := .string tx9) (u2 := .int .i64 px))
    replace BX := Lib.hid (BX.out.far3 (r := bz) (by omega) (u0 := .string fx) (u1 := .string tx9) (u2 := .int .i64 px))
    replace D := Lib.hid (below_put3 D.out (r := bz) (by omega) (u0 := .string fx) (u1 := .string tx9) (u2 := .int .i64 px))
    replace BY := Lib.hid (BY.out.far3 (r := bz) (by omega) (u0 := .string fx) (u1 := .string tx9) (u2 := .int .i64 px))
    replace BZ := Lib.hid (BZ.out.put3 (u0 := .string fx) (u1 := .string tx9) (u2 := .int .i64 px))
    generalize (((wq3.setCell ⟨bz, 0, none⟩ (.string fx)).setCell ⟨bz, 1, none⟩ (.string tx9)).setCell ⟨bz, 2, none⟩ (.int .i64 px)) = wq4 at *
    replace HB0 := Lib.hid (Below.refl wq4.heap.size wq4)
    clear hSw
    have hSw : (fun w' : World => Blk w' (bx) 31 #[.string fx, .string tx9, .int .i64 px] ∧ True) wq4 := ⟨BX.out, trivial⟩
    refine hK.out _ _ hSw ?_
    clear hK K
    refine wpAnyM_done (by kernel_rfl) ?_ _
    clear HB0 hSw
    generalize wq4 = w7 at *
    have q2 : bx < by9 := by omega
    have q3 : bx < bz := by omega
    have q4 : ¬ by9 = bz := by omega
    have q5 : w.heap.size ≤ by9 := by omega
    have q6 : w.heap.size ≤ bz := by omega
    go_upto_region 6 with fail
    have hb5 := (Below.refl w7.heap.size w7).drew
    replace BN := Lib.hid (BN.out.go hb5)
    replace BX := Lib.hid (BX.out.go hb5)
    replace D := Lib.hid (D.out.trans (hb5.mono D.out.size))
    replace BY := Lib.hid (BY.out.go hb5)
    replace BZ := Lib.hid (BZ.out.go hb5)
    clear hb5
    have HB0 := Lib.hid (Below.refl w7.drew.heap.size w7.drew)
    have hlt_BN := BN.out.lt
    have hlt_BX := BX.out.lt
    have hlt_BY := BY.out.lt
    have hlt_BZ := BZ.out.lt
    have hlt_D := D.out.size
    generalize hw9 : w7.drew = w06 at *
    have hSw : (fun w' : World => Blk w' (bx) 31 #[.string fx, .string tx9, .int .i64 px] ∧ True) w06 := ⟨BX.out.go HB0.out, trivial⟩
    refine wp_region_mid (fun w' : World => Blk w' (bx) 31 #[.string fx, .string tx9, .int .i64 px] ∧ True) 8 (by kernel_rfl) ?_
    rw [hw9]
    clear hw9
    refine wpAnyM_takeB 0 [1, 4, 5, 6, 7] rfl (by kernel_rfl) (by kernel_rfl) (by kernel_rfl) (by kernel_rfl) (by kernel_rfl) (fun _ _ _ h => h) hSw (by kernel_rfl) (fun w' hSx => by have c0 := hSx.1.cell; have l0 := hSx.1.lt; go_simp; first | done | with_reducible rfl) ?_
    simp only [Act.put, List.setIfInBounds_toArray]
    refine wpAnyM_takeB 1 [4, 5, 6, 7] rfl (by kernel_rfl) (by kernel_rfl) (by kernel_rfl) (by kernel_rfl) (by kernel_rfl) (fun _ _ _ h => h) hSw (by kernel_rfl) (fun w' hSx => by have c0 := hSx.1.cell; have l0 := hSx.1.lt; go_simp; first | done | with_reducible rfl) ?_
    simp only [Act.put]
    refine wpAnyM_takeB 2 [3, 6, 7] rfl (by kernel_rfl) (by kernel_rfl) (by kernel_rfl) (by kernel_rfl) (by kernel_rfl) (fun _ _ _ h => h) hSw (by kernel_rfl) (fun w' hSx => by have c0 := hSx.1.cell; have l0 := hSx.1.lt; go_simp; first | done | with_reducible rfl) ?_
    simp only [Act.put]
    refine wpAnyM_takeB 3 [6, 7] rfl (by kernel_rfl) (by kernel_rfl) (by kernel_rfl) (by kernel_rfl) (by kernel_rfl) (fun _ _ _ h => h) hSw (by kernel_rfl) (fun w' hSx => by have c0 := hSx.1.cell; have l0 := hSx.1.lt; go_simp; first | done | with_reducible rfl) ?_
    simp only [Act.put]
    refine wpAnyM_takeB 4 [5, 6, 7] rfl (by kernel_rfl) (by kernel_rfl) (by kernel_rfl) (by kernel_rfl) (by kernel_rfl) (fun _ _ _ h => h) hSw (by kernel_rfl) (fun w' hSx => by have c0 := hSx.1.cell; have l0 := hSx.1.lt; go_simp; first | done | with_reducible rfl) ?_
    simp only [Act.put]
    refine wpAnyM_ready [5] (by kernel_rfl) (by simp) ?_
    refine AllReadyM.cons (by rfl) (fun K hK => ?_) AllReadyM.nil
    replace BN := Lib.hid (BN.out.go HB0.out)
    replace BX := Lib.hid (BX.out.go HB0.out)
    replace D := Lib.hid (D.out.trans (HB0.out.mono D.out.size))
    replace BY := Lib.hid (BY.out.go HB0.out)
    replace BZ := Lib.hid (BZ.out.go HB0.out)
    have cc9 := BY.out.cell
    have cf9 := BY.out.frozen
    have cl9 := BY.out.lt
    go_simp
    clear cc9 cf9 cl9
    replace BN := Lib.hid (BN.out.far (p := ⟨by9, 0, none⟩) (show bn ≠ by9 by omega) (.string tx9))
    replace BX := Lib.hid (BX.out.far (p := ⟨by9, 0, none⟩) (show bx ≠ by9 by omega) (.string tx9))
    replace D := Lib.hid (D.out.setCell (p := ⟨by9, 0, none⟩) (show w.heap.size ≤ by9 by omega) (.string tx9))
    replace BZ := Lib.hid (BZ.out.far (p := ⟨by9, 0, none⟩) (show bz ≠ by9 by omega) (.string tx9))
    replace BY := Lib.hid (BY.out.at0 (u0 := .string tx9))
    generalize w06.setCell ⟨by9, 0, none⟩ (.string tx9) = wq1 at *
    replace HB0 := Lib.hid (Below.refl wq1.heap.size wq1)
    clear hSw
    have hSw : (fun w' : World => Blk w' (bx) 31 #[.string fx, .string tx9, .int .i64 px] ∧ True) wq1 := ⟨BX.out, trivial⟩
    refine hK.out _ _ hSw ?_
    clear hK K
    refine wpAnyM_takeB 6 [7] rfl (by kernel_rfl) (by kernel_rfl) (by kernel_rfl) (by kernel_rfl) (by kernel_rfl) (fun _ _ _ h => h) hSw (by kernel_rfl) (fun w' hSx => by have c0 := hSx.1.cell; have l0 := hSx.1.lt; go_simp; first | done | with_reducible rfl) ?_
    simp only [Act.put]
    refine wpAnyM_ready [7] (by kernel_rfl) (by simp) ?_
    refine AllReadyM.cons (by rfl) (fun K hK => ?_) AllReadyM.nil
    have cc9 := BY.out.cell
    have cf9 := BY.out.frozen
    have cl9 := BY.out.lt
    go_simp
    clear cc9 cf9 cl9
    replace BN := Lib.hid (BN.out.far (p := ⟨by9, 1, none⟩) (show bn ≠ by9 by omega) (.string fx))
    replace BX := Lib.hid (BX.out.far (p := ⟨by9, 1, none⟩) (show bx ≠ by9 by omega) (.string fx))
    replace D := Lib.hid (D.out.setCell (p := ⟨by9, 1, none⟩) (show w.heap.size ≤ by9 by omega) (.string fx))
    replace BZ := Lib.hid (BZ.out.far (p := ⟨by9, 1, none⟩) (show bz ≠ by9 by omega) (.string fx))
    replace BY := Lib.hid (BY.out.at1 (u0 := .string fx))
    generalize wq1.setCell ⟨by9, 1, none⟩ (.string fx) = wq2 at *
    replace HB0 := Lib.hid (Below.refl wq2.heap.size wq2)
    clear hSw
    have hSw : (fun w' : World => Blk w' (bx) 31 #[.string fx, .string tx9, .int .i64 px] ∧ True) wq2 := ⟨BX.out, trivial⟩
    refine hK.out _ _ hSw ?_
    clear hK K
    refine wpAnyM_done (by kernel_rfl) ?_ _
    clear HB0 hSw
    generalize wq2 = w8 at *
    obtain ⟨pz, hpz, hpz1, hpz2⟩ : ∃ p : Int, p = Pl.withinF more 1 1000 ∧ 1 ≤ p ∧ p ≤ 1000 := ⟨_, rfl, Pl.withinF_bd more 1 1000 (by omega)⟩
    go_upto_region 7 with fail
    have cc9 := BZ.out.cell
    have cf9 := BZ.out.frozen
    have cl9 := BZ.out.lt
    go_wp2_with fail
    refine (within_any2 more 1 1000 w8 (by omega) (by omega) (by omega)).mono ?_
    rintro e w8' ⟨rfl, rfl⟩
    rw [← hpz]
    clear hpz
    go_upto_region 8 with fail
    clear cc9 cf9 cl9
    replace BN := Lib.hid (BN.out.far (p := ⟨bz, 2, none⟩) (show bn ≠ bz by omega) (.int .i64 pz))
    replace BX := Lib.hid (BX.out.far (p := ⟨bz, 2, none⟩) (show bx ≠ bz by omega) (.int .i64 pz))
    replace BY := Lib.hid (BY.out.far (p := ⟨bz, 2, none⟩) (show by9 ≠ bz by omega) (.int .i64 pz))
    replace D := Lib.hid (D.out.setCell (p := ⟨bz, 2, none⟩) (show w.heap.size ≤ bz by omega) (.int .i64 pz))
    replace BZ := Lib.hid (BZ.out.at2 (u0 := .int .i64 pz))
    generalize w8.setCell ⟨bz, 2, none⟩ (.int .i64 pz) = w8b at *
    have cc9 := BX.out.cell
    have cl9 := BX.out.lt
    go_upto_region 9 with fail
    clear cc9 cl9
    have hb5 := below_oneS w8b (.cells #[.string fx, .string tx9, .int .i64 px] 31)
    have r1 := BN.out.lt
    have r2 := BX.out.lt
    have r3 := BY.out.lt
    have r4 := BZ.out.lt
    have r5 := D.out.size
    have BW := Lib.hid (Blk.new_ w8b w8b.heap.size 31 #[.string fx, .string tx9, .int .i64 px] rfl)
    replace BN := Lib.hid (BN.out.go hb5)
    replace BX := Lib.hid (BX.out.go hb5)
    replace BY := Lib.hid (BY.out.go hb5)
    replace BZ := Lib.hid (BZ.out.go hb5)
    replace D := Lib.hid (D.out.trans (hb5.mono D.out.size))
    clear hb5
    obtain ⟨bw, hbw, s1, s2, s3, s4, s5⟩ : ∃ b : Nat, b = w8b.heap.size ∧ bn < b ∧ bx < b ∧ by9 < b ∧ bz < b ∧ w.heap.size ≤ b := ⟨_, rfl, r1, r2, r3, r4, r5⟩
    rw [← hbw] at BW ⊢
    clear hbw r1 r2 r3 r4 r5
    generalize w8b.alloc (.cells #[.string fx, .string tx9, .int .i64 px] 31) = w9 at *
    have hb5 := (Below.refl w9.heap.size w9).drew
    replace BN := Lib.hid (BN.out.go hb5)
    replace BX := Lib.hid (BX.out.go hb5)
    replace D := Lib.hid (D.out.trans (hb5.mono D.out.size))
    replace BY := Lib.hid (BY.out.go hb5)
    replace BZ := Lib.hid (BZ.out.go hb5)
    replace BW := Lib.hid (BW.out.go hb5)
    clear hb5
    have HB0 := Lib.hid (Below.refl w9.drew.heap.size w9.drew)
    have hlt_BN := BN.out.lt
    have hlt_BX := BX.out.lt
    have hlt_BY := BY.out.lt
    have hlt_BZ := BZ.out.lt
    have hlt_BW := BW.out.lt
    have hlt_D := D.out.size
    generalize hw9 : w9.drew = w09 at *
    have hSw : (fun w' : World => Blk w' (bx) 31 #[.string fx, .string tx9, .int .i64 px] ∧ Blk w' (bz) 31 #[.string fx, .string tx9, .int .i64 pz] ∧ True) w09 := ⟨BX.out.go HB0.out, BZ.out.go HB0.out, trivial⟩
    refine wp_region_mid (fun w' : World => Blk w' (bx) 31 #[.string fx, .string tx9, .int .i64 px] ∧ Blk w' (bz) 31 #[.string fx, .string tx9, .int .i64 pz] ∧ True) 8 (by kernel_rfl) ?_
    rw [hw9]
    clear hw9
    refine wpAnyM_takeB 0 [1, 5, 6, 7] rfl (by kernel_rfl) (by kernel_rfl) (by kernel_rfl) (by kernel_rfl) (by kernel_rfl) (fun _ _ _ h => h) hSw (by kernel_rfl) (fun w' hSx => by have c0 := hSx.1.cell; have l0 := hSx.1.lt; have c1 := hSx.2.1.cell; have l1 := hSx.2.1.lt; go_simp; first | done | with_reducible rfl) ?_
    simp only [Act.put, List.setIfInBounds_toArray]
    refine wpAnyM_takeB 1 [5, 6, 7] rfl (by kernel_rfl) (by kernel_rfl) (by kernel_rfl) (by kernel_rfl) (by kernel_rfl) (fun _ _ _ h => h) hSw (by kernel_rfl) (fun w' hSx => by have c0 := hSx.1.cell; have l0 := hSx.1.lt; have c1 := hSx.2.1.cell; have l1 := hSx.2.1.lt; go_simp; first | done | with_reducible rfl) ?_
    simp only [Act.put]
    refine wpAnyM_takeB 2 [3, 4, 5, 6, 7] rfl (by kernel_rfl) (by kernel_rfl) (by kernel_rfl) (by kernel_rfl) (by kernel_rfl) (fun _ _ _ h => h) hSw (by kernel_rfl) (fun w' hSx => by have c0 := hSx.1.cell; have l0 := hSx.1.lt; have c1 := hSx.2.1.cell; have l1 := hSx.2.1.lt; go_simp; first | done | with_reducible rfl) ?_
    simp only [Act.put]
    refine wpAnyM_takeB 3 [4, 5, 6, 7] rfl (by kernel_rfl) (by kernel_rfl) (by kernel_rfl) (by kernel_rfl) (by kernel_rfl) (fun _ _ _ h => h) hSw (by kernel_rfl) (fun w' hSx => by have c0 := hSx.1.cell; have l0 := hSx.1.lt; have c1 := hSx.2.1.cell; have l1 := hSx.2.1.lt; go_simp; first | done | with_reducible rfl) ?_
    simp only [Act.put]
    refine wpAnyM_ready [4] (by kernel_rfl) (by simp) ?_
    refine AllReadyM.cons (by rfl) (fun K hK => ?_) AllReadyM.nil
    go_simp
    refine (within_c px 1 1000 w09 (by omega) (by omega) (by omega)).mono ?_
    rintro e wq1 ⟨⟨pv, rfl, hpv1, hpv2⟩, hb5⟩
    replace HB0 := Lib.hid (Below.trans HB0.out (hb5.mono HB0.out.size))
    clear hb5
    clear hSw
    have hSw : (fun w' : World => Blk w' (bx) 31 #[.string fx, .string tx9, .int .i64 px] ∧ Blk w' (bz) 31 #[.string fx, .string tx9, .int .i64 pz] ∧ True) wq1 := ⟨BX.out.go HB0.out, BZ.out.go HB0.out, trivial⟩
    refine hK.out _ _ hSw ?_
    clear hK K
    refine wpAnyM_takeB 5 [6, 7] rfl (by kernel_rfl) (by kernel_rfl) (by kernel_rfl) (by kernel_rfl) (by kernel_rfl) (fun _ _ _ h => h) hSw (by kernel_rfl) (fun w' hSx => by have c0 := hSx.1.cell; have l0 := hSx.1.lt; have c1 := hSx.2.1.cell; have l1 := hSx.2.1.lt; go_simp; first | done | with_reducible rfl) ?_
    simp only [Act.put]
    refine wpAnyM_takeB 6 [7] rfl (by kernel_rfl) (by kernel_rfl) (by kernel_rfl) (by kernel_rfl) (by kernel_rfl) (fun _ _ _ h => h) hSw (by kernel_rfl) (fun w' hSx => by have c0 := hSx.1.cell; have l0 := hSx.1.lt; have c1 := hSx.2.1.cell; have l1 := hSx.2.1.lt; go_simp; first | done | with_reducible rfl) ?_
    simp only [Act.put]
    refine wpAnyM_ready [7] (by kernel_rfl) (by simp) ?_
    refine AllReadyM.cons (by rfl) (fun K hK => ?_) AllReadyM.nil
    replace BN := Lib.hid (BN.out.go HB0.out)
    replace BX := Lib.hid (BX.out.go HB0.out)
    replace D := Lib.hid (D.out.trans (HB0.out.mono D.out.size))
    replace BY := Lib.hid (BY.out.go HB0.out)
    replace BZ := Lib.hid (BZ.out.go HB0.out)
    replace BW := Lib.hid (BW.out.go HB0.out)
    have cc9 := BW.out.cell
    have cf9 := BW.out.frozen
    have cl9 := BW.out.lt
    go_simp
    clear cc9 cf9 cl9
    rw [show IntKind.wrap .i64 (pz + pv) = pz + pv from by rw [IntKind.wrap_i64]; omega]
    replace BN := Lib.hid (BN.out.far (p := ⟨bw, 2, none⟩) (show bn ≠ bw by omega) (.int .i64 (pz + pv)))
    replace BX := Lib.hid (BX.out.far (p := ⟨bw, 2, none⟩) (show bx ≠ bw by omega) (.int .i64 (pz + pv)))
    replace D := Lib.hid (D.out.setCell (p := ⟨bw, 2, none⟩) (show w.heap.size ≤ bw by omega) (.int .i64 (pz + pv)))
    replace BY := Lib.hid (BY.out.far (p := ⟨bw, 2, none⟩) (show by9 ≠ bw by omega) (.int .i64 (pz + pv)))
    replace BZ := Lib.hid (BZ.out.far (p := ⟨bw, 2, none⟩) (show bz ≠ bw by omega) (.int .i64 (pz + pv)))
    replace BW := Lib.hid (BW.out.at2 (u0 := .int .i64 (pz + pv)))
    generalize wq1.setCell ⟨bw, 2, none⟩ (.int .i64 (pz + pv)) = wq2 at *
    replace HB0 := Lib.hid (Below.refl wq2.heap.size wq2)
    clear hSw
    have hSw : (fun w' : World => Blk w' (bx) 31 #[.string fx, .string tx9, .int .i64 px] ∧ Blk w' (bz) 31 #[.string fx, .string tx9, .int .i64 pz] ∧ True) wq2 := ⟨BX.out, BZ.out, trivial⟩
    refine hK.out _ _ hSw ?_
    clear hK K
    refine wpAnyM_done (by kernel_rfl) ?_ _
    clear HB0 hSw
    generalize wq2 = wA at *
    go_upto_region 10 with fail
    have cc1 := BW.out.cell
    have cl1 := BW.out.lt
    have cc2 := BZ.out.cell
    have cl2 := BZ.out.lt
    have cl3 := BX.out.lt
    have cf3 := BX.out.frozen
    have cc3 := BX.out.cell
    have ep : pz + pv - pz = pv := by omega
    go_upto_region 11 with fail
    try rw [ep]
    clear cc1 cl1 cc2 cl2 cc3 cl3 cf3 ep
    replace BN := Lib.hid (BN.out.far (p := ⟨bx, 2, none⟩) (show bn ≠ bx by omega) (.int .i64 pv))
    replace BY := Lib.hid (BY.out.far (p := ⟨bx, 2, none⟩) (show by9 ≠ bx by omega) (.int .i64 pv))
    replace BZ := Lib.hid (BZ.out.far (p := ⟨bx, 2, none⟩) (show bz ≠ bx by omega) (.int .i64 pv))
    replace BW := Lib.hid (BW.out.far (p := ⟨bx, 2, none⟩) (show bw ≠ bx by omega) (.int .i64 pv))
    replace D := Lib.hid (D.out.setCell (p := ⟨bx, 2, none⟩) (show w.heap.size ≤ bx by omega) (.int .i64 pv))
    replace BX := Lib.hid (BX.out.at2 (u0 := .int .i64 pv))
    generalize wA.setCell ⟨bx, 2, none⟩ (.int .i64 pv) = wB at *
    have cc1 := BX.out.cell
    have cl1 := BX.out.lt
    have cc2 := BY.out.cell
    have cl2 := BY.out.lt
    have cf2 := BY.out.frozen
    go_upto_region 12 with fail
    clear cc1 cl1 cc2 cl2 cf2
    replace BN := Lib.hid (BN.out.far (p := ⟨by9, 2, none⟩) (show bn ≠ by9 by omega) (.int .i64 pv))
    replace BX := Lib.hid (BX.out.far (p := ⟨by9, 2, none⟩) (show bx ≠ by9 by omega) (.int .i64 pv))
    replace BZ := Lib.hid (BZ.out.far (p := ⟨by9, 2, none⟩) (show bz ≠ by9 by omega) (.int .i64 pv))
    replace BW := Lib.hid (BW.out.far (p := ⟨by9, 2, none⟩) (show bw ≠ by9 by omega) (.int .i64 pv))
    replace D := Lib.hid (D.out.setCell (p := ⟨by9, 2, none⟩) (show w.heap.size ≤ by9 by omega) (.int .i64 pv))
    replace BY := Lib.hid (BY.out.at2 (u0 := .int .i64 pv))
    generalize wB.setCell ⟨by9, 2, none⟩ (.int .i64 pv) = wC at *
    have cc0 := BN.out.cell
    have cl0 := BN.out.lt
    have cc1 := BX.out.cell
    have cl1 := BX.out.lt
    have cc2 := BY.out.cell
    have cl2 := BY.out.lt
    have cc3 := BZ.out.cell
    have cl3 := BZ.out.lt
    have cc4 := BW.out.cell
    have cl4 := BW.out.lt
    go_wp2_with fail
    clear cc0 cl0 cc1 cl1 cc2 cl2 cc3 cl3 cc4 cl4
    have hb5 := below_oneS wC (.cells #[.string fx, .string tx9, .int .i64 pv, .string tx9, .string fx, .int .i64 pv, .string fx, .string tx9, .int .i64 pz, .string fx, .string tx9, .int .i64 (pz + pv)] 31)
    have BL := Lib.hid (Blk.new_ wC wC.heap.size 31 #[.string fx, .string tx9, .int .i64 pv, .string tx9, .string fx, .int .i64 pv, .string fx, .string tx9, .int .i64 pz, .string fx, .string tx9, .int .i64 (pz + pv)] rfl)
    replace D := Lib.hid (D.out.trans (hb5.mono D.out.size))
    clear hb5 BN BX BY BZ BW
    obtain ⟨bl, hbl⟩ : ∃ b : Nat, b = wC.heap.size := ⟨_, rfl⟩
    rw [← hbl] at BL ⊢
    clear hbl
    generalize wC.alloc (.cells #[.string fx, .string tx9, .int .i64 pv, .string tx9, .string fx, .int .i64 pv, .string fx, .string tx9, .int .i64 pz, .string fx, .string tx9, .int .i64 (pz + pv)] 31) = wD at *
    have hq9 : Elems riC 3 wD wD.heap.size (some ⟨bl, 0, none⟩) 4 [⟨fx, tx9, pv⟩, ⟨tx9, fx, pv⟩, ⟨fx, tx9, pz⟩, ⟨fx, tx9, pz + pv⟩] := ⟨lit_reads9 _ _ _ _ 4 3 BL.out rfl, rfl⟩
    obtain ⟨l4, hl4⟩ : ∃ l : List Pl.RI, l = [⟨fx, tx9, pv⟩, ⟨tx9, fx, pv⟩, ⟨fx, tx9, pz⟩, ⟨fx, tx9, pz + pv⟩] := ⟨_, rfl⟩
    rw [← hl4] at hq9
    have HL4 := Lib.hid hl4
    have H4 : Hid (l4.length = 4) := by show _ = _; rw [hl4]; rfl
    clear hl4 BL
    refine (payoutS_any ⟨N, A0, n0, c0, A1, n1, c1, A2, n2, c2, A3, n3, c3, A4, n4, c4, A5, n5, c5⟩ (some ⟨bl, 0, none⟩) 4 4 l4 P np cp ls wD (HM0.out.go D.out) hq9 (by omega) (HR.out.go D.out) hnp HS.out (HV.out.go D.out)).mono ?_
    rintro e wE ⟨⟨hc, hb5⟩, _⟩
    replace D := Lib.hid (D.out.trans (hb5.mono D.out.size))
    clear hb5 hq9
    rcases hc with ⟨E, hE, rfl⟩ | ⟨bus, isl, mb, mi, _, ps, g4, _, _, _, _, hfit, rfl, hrd⟩
    · have e1 : (E != 0) = true := by simpa using hE
      clear hE
      go_wp2_with fail
      go_ret
      exact ⟨rfl, D.out⟩
    rw [H4.out] at hrd ⊢
    rw [HL4.out] at hrd hfit
    simp only [List.map_cons, List.map_nil] at hrd hfit
    have s1 := Pl.pay_back N bus ps fx tx9 pv
    have s2 := Pl.pay_sum N bus ps fx tx9 pv pz
    generalize Pl.pay N bus ps ⟨fx, tx9, pv⟩ = a0 at *
    generalize Pl.pay N bus ps ⟨tx9, fx, pv⟩ = a1 at *
    generalize Pl.pay N bus ps ⟨fx, tx9, pz⟩ = a2 at *
    generalize Pl.pay N bus ps ⟨fx, tx9, pz + pv⟩ = a3 at *
    have HS1 := Lib.hid s1
    have HS2 := Lib.hid s2
    have f0 := Lib.hid (hfit a0 (by simp))
    have f1 := Lib.hid (hfit a1 (by simp))
    have f2 := Lib.hid (hfit a2 (by simp))
    have HG := Lib.hid hrd
    clear s1 s2 hfit hrd HL4 H4 HM0 HR HS
    go_upto_region 15 with fail
    have hb5 := (Below.refl wE.heap.size wE).drew
    replace D := Lib.hid (D.out.trans (hb5.mono D.out.size))
    replace HG := Lib.hid (HG.out.go hb5)
    clear hb5
    have HB0 := Lib.hid (Below.refl wE.drew.heap.size wE.drew)
    have hlt_D := D.out.size
    generalize hw9 : wE.drew = w015 at *
    have hSw : (fun w' : World => Below w015.heap.size w015 w') w015 := HB0.out
    refine wp_region_mid (fun w' : World => Below w015.heap.size w015 w') 12 (by kernel_rfl) ?_
    rw [hw9]
    clear hw9
    refine wpAnyM_takeB 0 [1, 2, 6, 7, 8, 9, 10, 11] rfl (by kernel_rfl) (by kernel_rfl) (by kernel_rfl) (by kernel_rfl) (by kernel_rfl) (fun _ _ _ h => h) hSw (by kernel_rfl) (fun w' hSx => by obtain ⟨l0, c0, c1, c2, c3⟩ := four_cells (HG.out.go hSx); go_simp; first | done | with_reducible rfl) ?_
    simp only [Act.put, List.setIfInBounds_toArray]
    refine wpAnyM_takeB 1 [2, 6, 7, 8, 9, 10, 11] rfl (by kernel_rfl) (by kernel_rfl) (by kernel_rfl) (by kernel_rfl) (by kernel_rfl) (fun _ _ _ h => h) hSw (by kernel_rfl) (fun w' hSx => by obtain ⟨l0, c0, c1, c2, c3⟩ := four_cells (HG.out.go hSx); go_simp; first | done | with_reducible rfl) ?_
    simp only [Act.put]
    refine wpAnyM_takeB 2 [6, 7, 8, 9, 10, 11] rfl (by kernel_rfl) (by kernel_rfl) (by kernel_rfl) (by kernel_rfl) (by kernel_rfl) (fun _ _ _ h => h) hSw (by kernel_rfl) (fun w' hSx => by obtain ⟨l0, c0, c1, c2, c3⟩ := four_cells (HG.out.go hSx); go_simp; first | done | with_reducible rfl) ?_
    simp only [Act.put]
    refine wpAnyM_takeB 3 [4, 5, 6, 7, 8, 9, 10, 11] rfl (by kernel_rfl) (by kernel_rfl) (by kernel_rfl) (by kernel_rfl) (by kernel_rfl) (fun _ _ _ h => h) hSw (by kernel_rfl) (fun w' hSx => by obtain ⟨l0, c0, c1, c2, c3⟩ := four_cells (HG.out.go hSx); go_simp; first | done | with_reducible rfl) ?_
    simp only [Act.put]
    refine wpAnyM_takeB 4 [5, 6, 7, 8, 9, 10, 11] rfl (by kernel_rfl) (by kernel_rfl) (by kernel_rfl) (by kernel_rfl) (by kernel_rfl) (fun _ _ _ h => h) hSw (by kernel_rfl) (fun w' hSx => by obtain ⟨l0, c0, c1, c2, c3⟩ := four_cells (HG.out.go hSx); go_simp; first | done | with_reducible rfl) ?_
    simp only [Act.put]
    refine wpAnyM_takeB 5 [6, 7, 8, 9, 10, 11] rfl (by kernel_rfl) (by kernel_rfl) (by kernel_rfl) (by kernel_rfl) (by kernel_rfl) (fun _ _ _ h => h) hSw (by kernel_rfl) (fun w' hSx => by obtain ⟨l0, c0, c1, c2, c3⟩ := four_cells (HG.out.go hSx); go_simp; first | done | with_reducible rfl) ?_
    simp only [Act.put]
    refine wpAnyM_ready [6] (by kernel_rfl) (by simp) ?_
    refine AllReadyM.cons (by rfl) (fun K hK => ?_) AllReadyM.nil
    go_simp
    refine (radd_txt f0.out f1.out w015 (HV.out.go (D.out.trans (HB0.out.mono D.out.size)))).mono ?_
    rintro e wq1 ⟨⟨s1, E1, rfl, hs9⟩, hb5⟩
    replace HB0 := Lib.hid (Below.trans HB0.out (hb5.mono HB0.out.size))
    have HT1 := Lib.hid hs9
    clear hs9
    clear hb5
    clear hSw
    have hSw : (fun w' : World => Below w015.heap.size w015 w') wq1 := HB0.out
    refine hK.out _ _ hSw ?_
    clear hK K
    refine wpAnyM_takeB 7 [8, 9, 10, 11] rfl (by kernel_rfl) (by kernel_rfl) (by kernel_rfl) (by kernel_rfl) (by kernel_rfl) (fun _ _ _ h => h) hSw (by kernel_rfl) (fun w' hSx => by obtain ⟨l0, c0, c1, c2, c3⟩ := four_cells (HG.out.go hSx); go_simp; first | done | with_reducible rfl) ?_
    simp only [Act.put]
    refine wpAnyM_takeB 8 [10, 11] rfl (by kernel_rfl) (by kernel_rfl) (by kernel_rfl) (by kernel_rfl) (by kernel_rfl) (fun _ _ _ h => h) hSw (by kernel_rfl) (fun w' hSx => by obtain ⟨l0, c0, c1, c2, c3⟩ := four_cells (HG.out.go hSx); go_simp; first | done | with_reducible rfl) ?_
    simp only [Act.put]
    refine wpAnyM_takeB 9 [11] rfl (by kernel_rfl) (by kernel_rfl) (by kernel_rfl) (by kernel_rfl) (by kernel_rfl) (fun _ _ _ h => h) hSw (by kernel_rfl) (fun w' hSx => by obtain ⟨l0, c0, c1, c2, c3⟩ := four_cells (HG.out.go hSx); go_simp; first | done | with_reducible rfl) ?_
    simp only [Act.put]
    refine wpAnyM_takeB 10 [11] rfl (by kernel_rfl) (by kernel_rfl) (by kernel_rfl) (by kernel_rfl) (by kernel_rfl) (fun _ _ _ h => h) hSw (by kernel_rfl) (fun w' hSx => by obtain ⟨l0, c0, c1, c2, c3⟩ := four_cells (HG.out.go hSx); go_simp; first | done | with_reducible rfl) ?_
    simp only [Act.put]
    refine wpAnyM_takeB 11 [] rfl (by kernel_rfl) (by kernel_rfl) (by kernel_rfl) (by kernel_rfl) (by kernel_rfl) (fun _ _ _ h => h) hSw (by kernel_rfl) (fun w' hSx => by obtain ⟨l0, c0, c1, c2, c3⟩ := four_cells (HG.out.go hSx); go_simp; first | done | with_reducible rfl) ?_
    simp only [Act.put]
    refine wpAnyM_done (by kernel_rfl) ?_ _
    simp only [List.getElem_toArray, List.getElem_cons_succ, List.getElem_cons_zero]
    replace D := Lib.hid (D.out.trans (HB0.out.mono D.out.size))
    replace HG := Lib.hid (HG.out.go HB0.out)
    clear HB0 hSw
    generalize wq1 = wF at *
    go_upto_region 16 with fail
    have hb5 := (Below.refl wF.heap.size wF).drew
    replace D := Lib.hid (D.out.trans (hb5.mono D.out.size))
    replace HG := Lib.hid (HG.out.go hb5)
    clear hb5
    have HB0 := Lib.hid (Below.refl wF.drew.heap.size wF.drew)
    have hlt_D := D.out.size
    generalize hw9 : wF.drew = w016 at *
    have hSw : (fun w' : World => Below w016.heap.size w016 w') w016 := HB0.out
    refine wp_region_mid (fun w' : World => Below w016.heap.size w016 w') 12 (by kernel_rfl) ?_
    rw [hw9]
    clear hw9
    refine wpAnyM_takeB 0 [1, 2, 6, 7, 8, 9, 10, 11] rfl (by kernel_rfl) (by kernel_rfl) (by kernel_rfl) (by kernel_rfl) (by kernel_rfl) (fun _ _ _ h => h) hSw (by kernel_rfl) (fun w' hSx => by obtain ⟨l0, c0, c1, c2, c3⟩ := four_cells (HG.out.go hSx); go_simp; first | done | with_reducible rfl) ?_
    simp only [Act.put, List.setIfInBounds_toArray]
    refine wpAnyM_takeB 1 [2, 6, 7, 8, 9, 10, 11] rfl (by kernel_rfl) (by kernel_rfl) (by kernel_rfl) (by kernel_rfl) (by kernel_rfl) (fun _ _ _ h => h) hSw (by kernel_rfl) (fun w' hSx => by obtain ⟨l0, c0, c1, c2, c3⟩ := four_cells (HG.out.go hSx); go_simp; first | done | with_reducible rfl) ?_
    simp only [Act.put]
    refine wpAnyM_takeB 2 [6, 7, 8, 9, 10, 11] rfl (by kernel_rfl) (by kernel_rfl) (by kernel_rfl) (by kernel_rfl) (by kernel_rfl) (fun _ _ _ h => h) hSw (by kernel_rfl) (fun w' hSx => by obtain ⟨l0, c0, c1, c2, c3⟩ := four_cells (HG.out.go hSx); go_simp; first | done | with_reducible rfl) ?_
    simp only [Act.put]
    refine wpAnyM_takeB 3 [4, 5, 6, 7, 8, 9, 10, 11] rfl (by kernel_rfl) (by kernel_rfl) (by kernel_rfl) (by kernel_rfl) (by kernel_rfl) (fun _ _ _ h => h) hSw (by kernel_rfl) (fun w' hSx => by obtain ⟨l0, c0, c1, c2, c3⟩ := four_cells (HG.out.go hSx); go_simp; first | done | with_reducible rfl) ?_
    simp only [Act.put]
    refine wpAnyM_takeB 4 [5, 6, 7, 8, 9, 10, 11] rfl (by kernel_rfl) (by kernel_rfl) (by kernel_rfl) (by kernel_rfl) (by kernel_rfl) (fun _ _ _ h => h) hSw (by kernel_rfl) (fun w' hSx => by obtain ⟨l0, c0, c1, c2, c3⟩ := four_cells (HG.out.go hSx); go_simp; first | done | with_reducible rfl) ?_
    simp only [Act.put]
    refine wpAnyM_takeB 5 [6, 7, 8, 9, 10, 11] rfl (by kernel_rfl) (by kernel_rfl) (by kernel_rfl) (by kernel_rfl) (by kernel_rfl) (fun _ _ _ h => h) hSw (by kernel_rfl) (fun w' hSx => by obtain ⟨l0, c0, c1, c2, c3⟩ := four_cells (HG.out.go hSx); go_simp; first | done | with_reducible rfl) ?_
    simp only [Act.put]
    refine wpAnyM_ready [6] (by kernel_rfl) (by simp) ?_
    refine AllReadyM.cons (by rfl) (fun K hK => ?_) AllReadyM.nil
    go_simp
    refine (radd_txt f0.out f2.out w016 (HV.out.go (D.out.trans (HB0.out.mono D.out.size)))).mono ?_
    rintro e wq1 ⟨⟨s2, E2, rfl, hs9⟩, hb5⟩
    replace HB0 := Lib.hid (Below.trans HB0.out (hb5.mono HB0.out.size))
    have HT2 := Lib.hid hs9
    clear hs9
    clear hb5
    clear hSw
    have hSw : (fun w' : World => Below w016.heap.size w016 w') wq1 := HB0.out
    refine hK.out _ _ hSw ?_
    clear hK K
    refine wpAnyM_takeB 7 [8, 9, 10, 11] rfl (by kernel_rfl) (by kernel_rfl) (by kernel_rfl) (by kernel_rfl) (by kernel_rfl) (fun _ _ _ h => h) hSw (by kernel_rfl) (fun w' hSx => by obtain ⟨l0, c0, c1, c2, c3⟩ := four_cells (HG.out.go hSx); go_simp; first | done | with_reducible rfl) ?_
    simp only [Act.put]
    refine wpAnyM_takeB 8 [10, 11] rfl (by kernel_rfl) (by kernel_rfl) (by kernel_rfl) (by kernel_rfl) (by kernel_rfl) (fun _ _ _ h => h) hSw (by kernel_rfl) (fun w' hSx => by obtain ⟨l0, c0, c1, c2, c3⟩ := four_cells (HG.out.go hSx); go_simp; first | done | with_reducible rfl) ?_
    simp only [Act.put]
    refine wpAnyM_takeB 9 [11] rfl (by kernel_rfl) (by kernel_rfl) (by kernel_rfl) (by kernel_rfl) (by kernel_rfl) (fun _ _ _ h => h) hSw (by kernel_rfl) (fun w' hSx => by obtain ⟨l0, c0, c1, c2, c3⟩ := four_cells (HG.out.go hSx); go_simp; first | done | with_reducible rfl) ?_
    simp only [Act.put]
    refine wpAnyM_takeB 10 [11] rfl (by kernel_rfl) (by kernel_rfl) (by kernel_rfl) (by kernel_rfl) (by kernel_rfl) (fun _ _ _ h => h) hSw (by kernel_rfl) (fun w' hSx => by obtain ⟨l0, c0, c1, c2, c3⟩ := four_cells (HG.out.go hSx); go_simp; first | done | with_reducible rfl) ?_
    simp only [Act.put]
    refine wpAnyM_takeB 11 [] rfl (by kernel_rfl) (by kernel_rfl) (by kernel_rfl) (by kernel_rfl) (by kernel_rfl) (fun _ _ _ h => h) hSw (by kernel_rfl) (fun w' hSx => by obtain ⟨l0, c0, c1, c2, c3⟩ := four_cells (HG.out.go hSx); go_simp; first | done | with_reducible rfl) ?_
    simp only [Act.put]
    refine wpAnyM_done (by kernel_rfl) ?_ _
    simp only [List.getElem_toArray, List.getElem_cons_succ, List.getElem_cons_zero]
    replace D := Lib.hid (D.out.trans (HB0.out.mono D.out.size))
    replace HG := Lib.hid (HG.out.go HB0.out)
    clear HB0 hSw
    generalize wq1 = wG at *
    go_wp2_with fail
    have hb5 := below_oneS wG (.cells #[.int .i64 E1, .int .i64 E2] 37)
    have BF := Lib.hid (Blk.new_ wG wG.heap.size 37 #[.int .i64 E1, .int .i64 E2] rfl)
    replace D := Lib.hid (D.out.trans (hb5.mono D.out.size))
    replace HG := Lib.hid (HG.out.go hb5)
    clear hb5
    obtain ⟨bf, hbf⟩ : ∃ b : Nat, b = wG.heap.size := ⟨_, rfl⟩
    rw [← hbf] at BF ⊢
    clear hbf
    generalize wG.alloc (.cells #[.int .i64 E1, .int .i64 E2] 37) = wH at *
    have hq9 : Reads wH wH.heap.size 1 (some ⟨bf, 0, none⟩) 2 (ints [E1, E2]) := lit_reads9 _ _ _ _ 2 1 BF.out rfl
    refine (fine_any (some ⟨bf, 0, none⟩) 2 2 [E1, E2] wH.heap.size wH (by omega) hq9).mono ?_
    rintro e wI ⟨rfl, rfl⟩
    clear hq9
    by_cases hE : E1 = 0 ∧ E2 = 0
    · obtain ⟨rfl, rfl⟩ := hE
      have e1 : s1 = [48] := by rw [HT1.out rfl, HS1.out]; exact txt0
      have e2 : s2 = Pl.ratTxt a3 := by rw [HT2.out rfl, HS2.out]
      subst e1
      rw [e2]
      clear e2
      obtain ⟨lg, _, _, _, c3x⟩ := four_cells HG.out
      rw [show allOk [0, 0] = true from rfl]
      unfold tx at c3x ⊢
      generalize (⟨⟨Pl.ratTxt a3⟩⟩ : ByteArray) = t3 at *
      have et : (t3.toList == t3.toList) = true := by simp
      go_wp2_with fail
      go_ret
      exact ⟨by rfl, D.out⟩
    · have e0 : allOk [E1, E2] = false := by
        cases h : allOk [E1, E2] with
        | false => rfl
        | true => exact absurd (allOk_true.1 h) (fun h9 => hE ⟨h9 E1 (by simp), h9 E2 (by simp)⟩)
      rw [e0]
      clear e0 hE
      go_wp2_with fail
      go_ret
      exact ⟨rfl, D.out⟩
  · go_simp
    have hb5 := below_oneS w05 (.cells #[.string ⟨#[]⟩, .string ⟨#[]⟩, .int .i64 0] 31)
    obtain ⟨bz, hg2⟩ : ∃ g : Nat, g = w05.heap.size := ⟨_, rfl⟩
    have BZ := Lib.hid (Blk.new_ w05 bz 31 #[.string ⟨#[]⟩, .string ⟨#[]⟩, .int .i64 0] hg2)
    have hS_BZ : w05.heap.size ≤ bz := by have := HB0.out.size; omega
    rw [← hg2]
    replace HB0 := Lib.hid (Below.trans HB0.out (hb5.mono HB0.out.size))
    clear hb5 hg2
    generalize w05.alloc (.cells #[.string ⟨#[]⟩, .string ⟨#[]⟩, .int .i64 0] 31) = wq5 at *
    clear hSw
    have hSw : (fun w' : World => Blk w' (bx) 31 #[.string fx, .string tx9, .int .i64 px] ∧ True) wq5 := ⟨BX.out.go HB0.out, trivial⟩
    refine hK.out _ _ hSw ?_
    clear hK K
    refine wpAnyM_ready [2] (by kernel_rfl) (by simp) ?_
    refine AllReadyM.cons (by rfl) (fun K hK => ?_) AllReadyM.nil
    go_simp
    have hb5 := below_oneS wq5 (.cells #[.string ⟨#[]⟩, .string ⟨#[]⟩, .int .i64 0] 31)
    obtain ⟨by9, hg2⟩ : ∃ g : Nat, g = wq5.heap.size := ⟨_, rfl⟩
    have BY := Lib.hid (Blk.new_ wq5 by9 31 #[.string ⟨#[]⟩, .string ⟨#[]⟩, .int .i64 0] hg2)
    have hn_BZ_BY : ¬ bz = by9 := by have := BZ.out.lt; omega
    have hS_BY : w05.heap.size ≤ by9 := by have := HB0.out.size; omega
    rw [← hg2]
    replace BZ := Lib.hid (BZ.out.go hb5)
    replace HB0 := Lib.hid (Below.trans HB0.out (hb5.mono HB0.out.size))
    clear hb5 hg2
    generalize wq5.alloc (.cells #[.string ⟨#[]⟩, .string ⟨#[]⟩, .int .i64 0] 31) = wq6 at *
    clear hSw
    have hSw : (fun w' : World => Blk w' (bx) 31 #[.string fx, .string tx9, .int .i64 px] ∧ True) wq6 := ⟨BX.out.go HB0.out, trivial⟩
    refine hK.out _ _ hSw ?_
    clear hK K
    refine wpAnyM_ready [4] (by kernel_rfl) (by simp) ?_
    refine AllReadyM.cons (by rfl) (fun K hK => ?_) AllReadyM.nil
    replace BN := Lib.hid (BN.out.go HB0.out)
    replace BX := Lib.hid (BX.out.go HB0.out)
    replace D := Lib.hid (D.out.trans (HB0.out.mono D.out.size))
    have cc9 := BY.out.cell
    have cf9 := BY.out.frozen
    have cl9 := BY.out.lt
    go_simp
    clear cc9 cf9 cl9
    replace BN := Lib.hid (BN.out.far3 (r := by9) (by omega) (u0 := .string fx) (u1 := .string tx9) (u2 := .int .i64 px))
    replace BX := Lib.hid (BX.out.far3 (r := by9) (by omega) (u0 := .string fx) (u1 := .string tx9) (u2 := .int .i64 px))
    replace D := Lib.hid (below_put3 D.out (r := by9) (by omega) (u0 := .string fx) (u1 := .string tx9) (u2 := .int .i64 px))
    replace BZ := Lib.hid (BZ.out.far3 (r := by9) (by omega) (u0 := .string fx) (u1 := .string tx9) (u2 := .int .i64 px))
    replace BY := Lib.hid (BY.out.put3 (u0 := .string fx) (u1 := .string tx9) (u2 := .int .i64 px))
    generalize (((wq6.setCell ⟨by9, 0, none⟩ (.string fx)).setCell ⟨by9, 1, none⟩ (.string tx9)).setCell ⟨by9, 2, none⟩ (.int .i64 px)) = wq7 at *
    replace HB0 := Lib.hid (Below.refl wq7.heap.size wq7)
    clear hSw
    have hSw : (fun w' : World => Blk w' (bx) 31 #[.string fx, .string tx9, .int .i64 px] ∧ True) wq7 := ⟨BX.out, trivial⟩
    refine hK.out _ _ hSw ?_
    clear hK K
    refine wpAnyM_ready [5] (by kernel_rfl) (by simp) ?_
    refine AllReadyM.cons (by rfl) (fun K hK => ?_) AllReadyM.nil
    have cc9 := BZ.out.cell
    have cf9 := BZ.out.frozen
    have cl9 := BZ.out.lt
    go_simp
    clear cc9 cf9 cl9
    replace BN := Lib.hid (BN.out.far3 (r := bz) (by omega) (u0 := .string fx) (u1 := .string tx9) (u2 := .int .i64 px))
    replace BX := Lib.hid (BX.out.far3 (r := bz) (by omega) (u0 := .string fx) (u1 := .string tx9) (u2 := .int .i64 px))
    replace D := Lib.hid (below_put3 D.out (r := bz) (by omega) (u0 := .string fx) (u1 := .string tx9) (u2 := .int .i64 px))
    replace BY := Lib.hid (BY.out.far3 (r := bz) (by omega) (u0 := .string fx) (u1 := .string tx9) (u2 := .int .i64 px))
    replace BZ := Lib.hid (BZ.out.put3 (u0 := .string fx) (u1 := .string tx9) (u2 := .int .i64 px))
    generalize (((wq7.setCell ⟨bz, 0, none⟩ (.string fx)).setCell ⟨bz, 1, none⟩ (.string tx9)).setCell ⟨bz, 2, none⟩ (.int .i64 px)) = wq8 at *
    replace HB0 := Lib.hid (Below.refl wq8.heap.size wq8)
    clear hSw
    have hSw : (fun w' : World => Blk w' (bx) 31 #[.string fx, .string tx9, .int .i64 px] ∧ True) wq8 := ⟨BX.out, trivial⟩
    refine hK.out _ _ hSw ?_
    clear hK K
    refine wpAnyM_done (by kernel_rfl) ?_ _
    clear HB0 hSw
    generalize wq8 = w7 at *
    have q2 : bx < by9 := by omega
    have q3 : bx < bz := by omega
    have q4 : ¬ by9 = bz := by omega
    have q5 : w.heap.size ≤ by9 := by omega
    have q6 : w.heap.size ≤ bz := by omega
    go_upto_region 6 with fail
    have hb5 := (Below.refl w7.heap.size w7).drew
    replace BN := Lib.hid (BN.out.go hb5)
    replace BX := Lib.hid (BX.out.go hb5)
    replace D := Lib.hid (D.out.trans (hb5.mono D.out.size))
    replace BY := Lib.hid (BY.out.go hb5)
    replace BZ := Lib.hid (BZ.out.go hb5)
    clear hb5
    have HB0 := Lib.hid (Below.refl w7.drew.heap.size w7.drew)
    have hlt_BN := BN.out.lt
    have hlt_BX := BX.out.lt
    have hlt_BY := BY.out.lt
    have hlt_BZ := BZ.out.lt
    have hlt_D := D.out.size
    generalize hw9 : w7.drew = w06 at *
    have hSw : (fun w' : World => Blk w' (bx) 31 #[.string fx, .string tx9, .int .i64 px] ∧ True) w06 := ⟨BX.out.go HB0.out, trivial⟩
    refine wp_region_mid (fun w' : World => Blk w' (bx) 31 #[.string fx, .string tx9, .int .i64 px] ∧ True) 8 (by kernel_rfl) ?_
    rw [hw9]
    clear hw9
    refine wpAnyM_takeB 0 [1, 4, 5, 6, 7] rfl (by kernel_rfl) (by kernel_rfl) (by kernel_rfl) (by kernel_rfl) (by kernel_rfl) (fun _ _ _ h => h) hSw (by kernel_rfl) (fun w' hSx => by have c0 := hSx.1.cell; have l0 := hSx.1.lt; go_simp; first | done | with_reducible rfl) ?_
    simp only [Act.put, List.setIfInBounds_toArray]
    refine wpAnyM_takeB 1 [4, 5, 6, 7] rfl (by kernel_rfl) (by kernel_rfl) (by kernel_rfl) (by kernel_rfl) (by kernel_rfl) (fun _ _ _ h => h) hSw (by kernel_rfl) (fun w' hSx => by have c0 := hSx.1.cell; have l0 := hSx.1.lt; go_simp; first | done | with_reducible rfl) ?_
    simp only [Act.put]
    refine wpAnyM_takeB 2 [3, 6, 7] rfl (by kernel_rfl) (by kernel_rfl) (by kernel_rfl) (by kernel_rfl) (by kernel_rfl) (fun _ _ _ h => h) hSw (by kernel_rfl) (fun w' hSx => by have c0 := hSx.1.cell; have l0 := hSx.1.lt; go_simp; first | done | with_reducible rfl) ?_
    simp only [Act.put]
    refine wpAnyM_takeB 3 [6, 7] rfl (by kernel_rfl) (by kernel_rfl) (by kernel_rfl) (by kernel_rfl) (by kernel_rfl) (fun _ _ _ h => h) hSw (by kernel_rfl) (fun w' hSx => by have c0 := hSx.1.cell; have l0 := hSx.1.lt; go_simp; first | done | with_reducible rfl) ?_
    simp only [Act.put]
    refine wpAnyM_takeB 4 [5, 6, 7] rfl (by kernel_rfl) (by kernel_rfl) (by kernel_rfl) (by kernel_rfl) (by kernel_rfl) (fun _ _ _ h => h) hSw (by kernel_rfl) (fun w' hSx => by have c0 := hSx.1.cell; have l0 := hSx.1.lt; go_simp; first | done | with_reducible rfl) ?_
    simp only [Act.put]
    refine wpAnyM_ready [5] (by kernel_rfl) (by simp) ?_
    refine AllReadyM.cons (by rfl) (fun K hK => ?_) AllReadyM.nil
    replace BN := Lib.hid (BN.out.go HB0.out)
    replace BX := Lib.hid (BX.out.go HB0.out)
    replace D := Lib.hid (D.out.trans (HB0.out.mono D.out.size))
    replace BY := Lib.hid (BY.out.go HB0.out)
    replace BZ := Lib.hid (BZ.out.go HB0.out)
    have cc9 := BY.out.cell
    have cf9 := BY.out.frozen
    have cl9 := BY.out.lt
    go_simp
    clear cc9 cf9 cl9
    replace BN := Lib.hid (BN.out.far (p := ⟨by9, 0, none⟩) (show bn ≠ by9 by omega) (.string tx9))
    replace BX := Lib.hid (BX.out.far (p := ⟨by9, 0, none⟩) (show bx ≠ by9 by omega) (.string tx9))
    replace D := Lib.hid (D.out.setCell (p := ⟨by9, 0, none⟩) (show w.heap.size ≤ by9 by omega) (.string tx9))
    replace BZ := Lib.hid (BZ.out.far (p := ⟨by9, 0, none⟩) (show bz ≠ by9 by omega) (.string tx9))
    replace BY := Lib.hid (BY.out.at0 (u0 := .string tx9))
    generalize w06.setCell ⟨by9, 0, none⟩ (.string tx9) = wq1 at *
    replace HB0 := Lib.hid (Below.refl wq1.heap.size wq1)
    clear hSw
    have hSw : (fun w' : World => Blk w' (bx) 31 #[.string fx, .string tx9, .int .i64 px] ∧ True) wq1 := ⟨BX.out, trivial⟩
    refine hK.out _ _ hSw ?_
    clear hK K
    refine wpAnyM_takeB 6 [7] rfl (by kernel_rfl) (by kernel_rfl) (by kernel_rfl) (by kernel_rfl) (by kernel_rfl) (fun _ _ _ h => h) hSw (by kernel_rfl) (fun w' hSx => by have c0 := hSx.1.cell; have l0 := hSx.1.lt; go_simp; first | done | with_reducible rfl) ?_
    simp only [Act.put]
    refine wpAnyM_ready [7] (by kernel_rfl) (by simp) ?_
    refine AllReadyM.cons (by rfl) (fun K hK => ?_) AllReadyM.nil
    have cc9 := BY.out.cell
    have cf9 := BY.out.frozen
    have cl9 := BY.out.lt
    go_simp
    clear cc9 cf9 cl9
    replace BN := Lib.hid (BN.out.far (p := ⟨by9, 1, none⟩) (show bn ≠ by9 by omega) (.string fx))
    replace BX := Lib.hid (BX.out.far (p := ⟨by9, 1, none⟩) (show bx ≠ by9 by omega) (.string fx))
    replace D := Lib.hid (D.out.setCell (p := ⟨by9, 1, none⟩) (show w.heap.size ≤ by9 by omega) (.string fx))
    replace BZ := Lib.hid (BZ.out.far (p := ⟨by9, 1, none⟩) (show bz ≠ by9 by omega) (.string fx))
    replace BY := Lib.hid (BY.out.at1 (u0 := .string fx))
    generalize wq1.setCell ⟨by9, 1, none⟩ (.string fx) = wq2 at *
    replace HB0 := Lib.hid (Below.refl wq2.heap.size wq2)
    clear hSw
    have hSw : (fun w' : World => Blk w' (bx) 31 #[.string fx, .string tx9, .int .i64 px] ∧ True) wq2 := ⟨BX.out, trivial⟩
    refine hK.out _ _ hSw ?_
    clear hK K
    refine wpAnyM_done (by kernel_rfl) ?_ _
    clear HB0 hSw
    generalize wq2 = w8 at *
    obtain ⟨pz, hpz, hpz1, hpz2⟩ : ∃ p : Int, p = Pl.withinF more 1 1000 ∧ 1 ≤ p ∧ p ≤ 1000 := ⟨_, rfl, Pl.withinF_bd more 1 1000 (by omega)⟩
    go_upto_region 7 with fail
    have cc9 := BZ.out.cell
    have cf9 := BZ.out.frozen
    have cl9 := BZ.out.lt
    go_wp2_with fail
    refine (within_any2 more 1 1000 w8 (by omega) (by omega) (by omega)).mono ?_
    rintro e w8' ⟨rfl, rfl⟩
    rw [← hpz]
    clear hpz
    go_upto_region 8 with fail
    clear cc9 cf9 cl9
    replace BN := Lib.hid (BN.out.far (p := ⟨bz, 2, none⟩) (show bn ≠ bz by omega) (.int .i64 pz))
    replace BX := Lib.hid (BX.out.far (p := ⟨bz, 2, none⟩) (show bx ≠ bz by omega) (.int .i64 pz))
    replace BY := Lib.hid (BY.out.far (p := ⟨bz, 2, none⟩) (show by9 ≠ bz by omega) (.int .i64 pz))
    replace D := Lib.hid (D.out.setCell (p := ⟨bz, 2, none⟩) (show w.heap.size ≤ bz by omega) (.int .i64 pz))
    replace BZ := Lib.hid (BZ.out.at2 (u0 := .int .i64 pz))
    generalize w8.setCell ⟨bz, 2, none⟩ (.int .i64 pz) = w8b at *
    have cc9 := BX.out.cell
    have cl9 := BX.out.lt
    go_upto_region 9 with fail
    clear cc9 cl9
    have hb5 := below_oneS w8b (.cells #[.string fx, .string tx9, .int .i64 px] 31)
    have r1 := BN.out.lt
    have r2 := BX.out.lt
    have r3 := BY.out.lt
    have r4 := BZ.out.lt
    have r5 := D.out.size
    have BW := Lib.hid (Blk.new_ w8b w8b.heap.size 31 #[.string fx, .string tx9, .int .i64 px] rfl)
    replace BN := Lib.hid (BN.out.go hb5)
    replace BX := Lib.hid (BX.out.go hb5)
    replace BY := Lib.hid (BY.out.go hb5)
    replace BZ := Lib.hid (BZ.out.go hb5)
    replace D := Lib.hid (D.out.trans (hb5.mono D.out.size))
    clear hb5
    obtain ⟨bw, hbw, s1, s2, s3, s4, s5⟩ : ∃ b : Nat, b = w8b.heap.size ∧ bn < b ∧ bx < b ∧ by9 < b ∧ bz < b ∧ w.heap.size ≤ b := ⟨_, rfl, r1, r2, r3, r4, r5⟩
    rw [← hbw] at BW ⊢
    clear hbw r1 r2 r3 r4 r5
    generalize w8b.alloc (.cells #[.string fx, .string tx9, .int .i64 px] 31) = w9 at *
    have hb5 := (Below.refl w9.heap.size w9).drew
    replace BN := Lib.hid (BN.out.go hb5)
    replace BX := Lib.hid (BX.out.go hb5)
    replace D := Lib.hid (D.out.trans (hb5.mono D.out.size))
    replace BY := Lib.hid (BY.out.go hb5)
    replace BZ := Lib.hid (BZ.out.go hb5)
    replace BW := Lib.hid (BW.out.go hb5)
    clear hb5
    have HB0 := Lib.hid (Below.refl w9.drew.heap.size w9.drew)
    have hlt_BN := BN.out.lt
    have hlt_BX := BX.out.lt
    have hlt_BY := BY.out.lt
    have hlt_BZ := BZ.out.lt
    have hlt_BW := BW.out.lt
    have hlt_D := D.out.size
    generalize hw9 : w9.drew = w09 at *
    have hSw : (fun w' : World => Blk w' (bx) 31 #[.string fx, .string tx9, .int .i64 px] ∧ Blk w' (bz) 31 #[.string fx, .string tx9, .int .i64 pz] ∧ True) w09 := ⟨BX.out.go HB0.out, BZ.out.go HB0.out, trivial⟩
    refine wp_region_mid (fun w' : World => Blk w' (bx) 31 #[.string fx, .string tx9, .int .i64 px] ∧ Blk w' (bz) 31 #[.string fx, .string tx9, .int .i64 pz] ∧ True) 8 (by kernel_rfl) ?_
    rw [hw9]
    clear hw9
    refine wpAnyM_takeB 0 [1, 5, 6, 7] rfl (by kernel_rfl) (by kernel_rfl) (by kernel_rfl) (by kernel_rfl) (by kernel_rfl) (fun _ _ _ h => h) hSw (by kernel_rfl) (fun w' hSx => by have c0 := hSx.1.cell; have l0 := hSx.1.lt; have c1 := hSx.2.1.cell; have l1 := hSx.2.1.lt; go_simp; first | done | with_reducible rfl) ?_
    simp only [Act.put, List.setIfInBounds_toArray]
    refine wpAnyM_takeB 1 [5, 6, 7] rfl (by kernel_rfl) (by kernel_rfl) (by kernel_rfl) (by kernel_rfl) (by kernel_rfl) (fun _ _ _ h => h) hSw (by kernel_rfl) (fun w' hSx => by have c0 := hSx.1.cell; have l0 := hSx.1.lt; have c1 := hSx.2.1.cell; have l1 := hSx.2.1.lt; go_simp; first | done | with_reducible rfl) ?_
    simp only [Act.put]
    refine wpAnyM_takeB 2 [3, 4, 5, 6, 7] rfl (by kernel_rfl) (by kernel_rfl) (by kernel_rfl) (by kernel_rfl) (by kernel_rfl) (fun _ _ _ h => h) hSw (by kernel_rfl) (fun w' hSx => by have c0 := hSx.1.cell; have l0 := hSx.1.lt; have c1 := hSx.2.1.cell; have l1 := hSx.2.1.lt; go_simp; first | done | with_reducible rfl) ?_
    simp only [Act.put]
    refine wpAnyM_takeB 3 [4, 5, 6, 7] rfl (by kernel_rfl) (by kernel_rfl) (by kernel_rfl) (by kernel_rfl) (by kernel_rfl) (fun _ _ _ h => h) hSw (by kernel_rfl) (fun w' hSx => by have c0 := hSx.1.cell; have l0 := hSx.1.lt; have c1 := hSx.2.1.cell; have l1 := hSx.2.1.lt; go_simp; first | done | with_reducible rfl) ?_
    simp only [Act.put]
    refine wpAnyM_ready [4] (by kernel_rfl) (by simp) ?_
    refine AllReadyM.cons (by rfl) (fun K hK => ?_) AllReadyM.nil
    go_simp
    refine (within_c px 1 1000 w09 (by omega) (by omega) (by omega)).mono ?_
    rintro e wq1 ⟨⟨pv, rfl, hpv1, hpv2⟩, hb5⟩
    replace HB0 := Lib.hid (Below.trans HB0.out (hb5.mono HB0.out.size))
    clear hb5
    clear hSw
    have hSw : (fun w' : World => Blk w' (bx) 31 #[.string fx, .string tx9, .int .i64 px] ∧ Blk w' (bz) 31 #[.string fx, .string tx9, .int .i64 pz] ∧ True) wq1 := ⟨BX.out.go HB0.out, BZ.out.go HB0.out, trivial⟩
    refine hK.out _ _ hSw ?_
    clear hK K
    refine wpAnyM_takeB 5 [6, 7] rfl (by kernel_rfl) (by kernel_rfl) (by kernel_rfl) (by kernel_rfl) (by kernel_rfl) (fun _ _ _ h => h) hSw (by kernel_rfl) (fun w' hSx => by have c0 := hSx.1.cell; have l0 := hSx.1.lt; have c1 := hSx.2.1.cell; have l1 := hSx.2.1.lt; go_simp; first | done | with_reducible rfl) ?_
    simp only [Act.put]
    refine wpAnyM_takeB 6 [7] rfl (by kernel_rfl) (by kernel_rfl) (by kernel_rfl) (by kernel_rfl) (by kernel_rfl) (fun _ _ _ h => h) hSw (by kernel_rfl) (fun w' hSx => by have c0 := hSx.1.cell; have l0 := hSx.1.lt; have c1 := hSx.2.1.cell; have l1 := hSx.2.1.lt; go_simp; first | done | with_reducible rfl) ?_
    simp only [Act.put]
    refine wpAnyM_ready [7] (by kernel_rfl) (by simp) ?_
    refine AllReadyM.cons (by rfl) (fun K hK => ?_) AllReadyM.nil
    replace BN := Lib.hid (BN.out.go HB0.out)
    replace BX := Lib.hid (BX.out.go HB0.out)
    replace D := Lib.hid (D.out.trans (HB0.out.mono D.out.size))
    replace BY := Lib.hid (BY.out.go HB0.out)
    replace BZ := Lib.hid (BZ.out.go HB0.out)
    replace BW := Lib.hid (BW.out.go HB0.out)
    have cc9 := BW.out.cell
    have cf9 := BW.out.frozen
    have cl9 := BW.out.lt
    go_simp
    clear cc9 cf9 cl9
    rw [show IntKind.wrap .i64 (pz + pv) = pz + pv from by rw [IntKind.wrap_i64]; omega]
    replace BN := Lib.hid (BN.out.far (p := ⟨bw, 2, none⟩) (show bn ≠ bw by omega) (.int .i64 (pz + pv)))
    replace BX := Lib.hid (BX.out.far (p := ⟨bw, 2, none⟩) (show bx ≠ bw by omega) (.int .i64 (pz + pv)))
    replace D := Lib.hid (D.out.setCell (p := ⟨bw, 2, none⟩) (show w.heap.size ≤ bw by omega) (.int .i64 (pz + pv)))
    replace BY := Lib.hid (BY.out.far (p := ⟨bw, 2, none⟩) (show by9 ≠ bw by omega) (.int .i64 (pz + pv)))
    replace BZ := Lib.hid (BZ.out.far (p := ⟨bw, 2, none⟩) (show bz ≠ bw by omega) (.int .i64 (pz + pv)))
    replace BW := Lib.hid (BW.out.at2 (u0 := .int .i64 (pz + pv)))
    generalize wq1.setCell ⟨bw, 2, none⟩ (.int .i64 (pz + pv)) = wq2 at *
    replace HB0 := Lib.hid (Below.refl wq2.heap.size wq2)
    clear hSw
    have hSw : (fun w' : World => Blk w' (bx) 31 #[.string fx, .string tx9, .int .i64 px] ∧ Blk w' (bz) 31 #[.string fx, .string tx9, .int .i64 pz] ∧ True) wq2 := ⟨BX.out, BZ.out, trivial⟩
    refine hK.out _ _ hSw ?_
    clear hK K
    refine wpAnyM_done (by kernel_rfl) ?_ _
    clear HB0 hSw
    generalize wq2 = wA at *
    go_upto_region 10 with fail
    have cc1 := BW.out.cell
    have cl1 := BW.out.lt
    have cc2 := BZ.out.cell
    have cl2 := BZ.out.lt
    have cl3 := BX.out.lt
    have cf3 := BX.out.frozen
    have cc3 := BX.out.cell
    have ep : pz + pv - pz = pv := by omega
    go_upto_region 11 with fail
    try rw [ep]
    clear cc1 cl1 cc2 cl2 cc3 cl3 cf3 ep
    replace BN := Lib.hid (BN.out.far (p := ⟨bx, 2, none⟩) (show bn ≠ bx by omega) (.int .i64 pv))
    replace BY := Lib.hid (BY.out.far (p := ⟨bx, 2, none⟩) (show by9 ≠ bx by omega) (.int .i64 pv))
    replace BZ := Lib.hid (BZ.out.far (p := ⟨bx, 2, none⟩) (show bz ≠ bx by omega) (.int .i64 pv))
    replace BW := Lib.hid (BW.out.far (p := ⟨bx, 2, none⟩) (show bw ≠ bx by omega) (.int .i64 pv))
    replace D := Lib.hid (D.out.setCell (p := ⟨bx, 2, none⟩) (show w.heap.size ≤ bx by omega) (.int .i64 pv))
    replace BX := Lib.hid (BX.out.at2 (u0 := .int .i64 pv))
    generalize wA.setCell ⟨bx, 2, none⟩ (.int .i64 pv) = wB at *
    have cc1 := BX.out.cell
    have cl1 := BX.out.lt
    have cc2 := BY.out.cell
    have cl2 := BY.out.lt
    have cf2 := BY.out.frozen
    go_upto_region 12 with fail
    clear cc1 cl1 cc2 cl2 cf2
    replace BN := Lib.hid (BN.out.far (p := ⟨by9, 2, none⟩) (show bn ≠ by9 by omega) (.int .i64 pv))
    replace BX := Lib.hid (BX.out.far (p := ⟨by9, 2, none⟩) (show bx ≠ by9 by omega) (.int .i64 pv))
    replace BZ := Lib.hid (BZ.out.far (p := ⟨by9, 2, none⟩) (show bz ≠ by9 by omega) (.int .i64 pv))
    replace BW := Lib.hid (BW.out.far (p := ⟨by9, 2, none⟩) (show bw ≠ by9 by omega) (.int .i64 pv))
    replace D := Lib.hid (D.out.setCell (p := ⟨by9, 2, none⟩) (show w.heap.size ≤ by9 by omega) (.int .i64 pv))
    replace BY := Lib.hid (BY.out.at2 (u0 := .int .i64 pv))
    generalize wB.setCell ⟨by9, 2, none⟩ (.int .i64 pv) = wC at *
    have cc0 := BN.out.cell
    have cl0 := BN.out.lt
    have cc1 := BX.out.cell
    have cl1 := BX.out.lt
    have cc2 := BY.out.cell
    have cl2 := BY.out.lt
    have cc3 := BZ.out.cell
    have cl3 := BZ.out.lt
    have cc4 := BW.out.cell
    have cl4 := BW.out.lt
    go_wp2_with fail
    clear cc0 cl0 cc1 cl1 cc2 cl2 cc3 cl3 cc4 cl4
    have hb5 := below_oneS wC (.cells #[.string fx, .string tx9, .int .i64 pv, .string tx9, .string fx, .int .i64 pv, .string fx, .string tx9, .int .i64 pz, .string fx, .string tx9, .int .i64 (pz + pv)] 31)
    have BL := Lib.hid (Blk.new_ wC wC.heap.size 31 #[.string fx, .string tx9, .int .i64 pv, .string tx9, .string fx, .int .i64 pv, .string fx, .string tx9, .int .i64 pz, .string fx, .string tx9, .int .i64 (pz + pv)] rfl)
    replace D := Lib.hid (D.out.trans (hb5.mono D.out.size))
    clear hb5 BN BX BY BZ BW
    obtain ⟨bl, hbl⟩ : ∃ b : Nat, b = wC.heap.size := ⟨_, rfl⟩
    rw [← hbl] at BL ⊢
    clear hbl
    generalize wC.alloc (.cells #[.string fx, .string tx9, .int .i64 pv, .string tx9, .string fx, .int .i64 pv, .string fx, .string tx9, .int .i64 pz, .string fx, .string tx9, .int .i64 (pz + pv)] 31) = wD at *
    have hq9 : Elems riC 3 wD wD.heap.size (some ⟨bl, 0, none⟩) 4 [⟨fx, tx9, pv⟩, ⟨tx9, fx, pv⟩, ⟨fx, tx9, pz⟩, ⟨fx, tx9, pz + pv⟩] := ⟨lit_reads9 _ _ _ _ 4 3 BL.out rfl, rfl⟩
    obtain ⟨l4, hl4⟩ : ∃ l : List Pl.RI, l = [⟨fx, tx9, pv⟩, ⟨tx9, fx, pv⟩, ⟨fx, tx9, pz⟩, ⟨fx, tx9, pz + pv⟩] := ⟨_, rfl⟩
    rw [← hl4] at hq9
    have HL4 := Lib.hid hl4
    have H4 : Hid (l4.length = 4) := by show _ = _; rw [hl4]; rfl
    clear hl4 BL
    refine (payoutS_any ⟨N, A0, n0, c0, A1, n1, c1, A2, n2, c2, A3, n3, c3, A4, n4, c4, A5, n5, c5⟩ (some ⟨bl, 0, none⟩) 4 4 l4 P np cp ls wD (HM0.out.go D.out) hq9 (by omega) (HR.out.go D.out) hnp HS.out (HV.out.go D.out)).mono ?_
    rintro e wE ⟨⟨hc, hb5⟩, _⟩
    replace D := Lib.hid (D.out.trans (hb5.mono D.out.size))
    clear hb5 hq9
    rcases hc with ⟨E, hE, rfl⟩ | ⟨bus, isl, mb, mi, _, ps, g4, _, _, _, _, hfit, rfl, hrd⟩
    · have e1 : (E != 0) = true := by simpa using hE
      clear hE
      go_wp2_with fail
      go_ret
      exact ⟨rfl, D.out⟩
    rw [H4.out] at hrd ⊢
    rw [HL4.out] at hrd hfit
    simp only [List.map_cons, List.map_nil] at hrd hfit
    have s1 := Pl.pay_back N bus ps fx tx9 pv
    have s2 := Pl.pay_sum N bus ps fx tx9 pv pz
    generalize Pl.pay N bus ps ⟨fx, tx9, pv⟩ = a0 at *
    generalize Pl.pay N bus ps ⟨tx9, fx, pv⟩ = a1 at *
    generalize Pl.pay N bus ps ⟨fx, tx9, pz⟩ = a2 at *
    generalize Pl.pay N bus ps ⟨fx, tx9, pz + pv⟩ = a3 at *
    have HS1 := Lib.hid s1
    have HS2 := Lib.hid s2
    have f0 := Lib.hid (hfit a0 (by simp))
    have f1 := Lib.hid (hfit a1 (by simp))
    have f2 := Lib.hid (hfit a2 (by simp))
    have HG := Lib.hid hrd
    clear s1 s2 hfit hrd HL4 H4 HM0 HR HS
    go_upto_region 15 with fail
    have hb5 := (Below.refl wE.heap.size wE).drew
    replace D := Lib.hid (D.out.trans (hb5.mono D.out.size))
    replace HG := Lib.hid (HG.out.go hb5)
    clear hb5
    have HB0 := Lib.hid (Below.refl wE.drew.heap.size wE.drew)
    have hlt_D := D.out.size
    generalize hw9 : wE.drew = w015 at *
    have hSw : (fun w' : World => Below w015.heap.size w015 w') w015 := HB0.out
    refine wp_region_mid (fun w' : World => Below w015.heap.size w015 w') 12 (by kernel_rfl) ?_
    rw [hw9]
    clear hw9
    refine wpAnyM_takeB 0 [1, 2, 6, 7, 8, 9, 10, 11] rfl (by kernel_rfl) (by kernel_rfl) (by kernel_rfl) (by kernel_rfl) (by kernel_rfl) (fun _ _ _ h => h) hSw (by kernel_rfl) (fun w' hSx => by obtain ⟨l0, c0, c1, c2, c3⟩ := four_cells (HG.out.go hSx); go_simp; first | done | with_reducible rfl) ?_
    simp only [Act.put, List.setIfInBounds_toArray]
    refine wpAnyM_takeB 1 [2, 6, 7, 8, 9, 10, 11] rfl (by kernel_rfl) (by kernel_rfl) (by kernel_rfl) (by kernel_rfl) (by kernel_rfl) (fun _ _ _ h => h) hSw (by kernel_rfl) (fun w' hSx => by obtain ⟨l0, c0, c1, c2, c3⟩ := four_cells (HG.out.go hSx); go_simp; first | done | with_reducible rfl) ?_
    simp only [Act.put]
    refine wpAnyM_takeB 2 [6, 7, 8, 9, 10, 11] rfl (by kernel_rfl) (by kernel_rfl) (by kernel_rfl) (by kernel_rfl) (by kernel_rfl) (fun _ _ _ h => h) hSw (by kernel_rfl) (fun w' hSx => by obtain ⟨l0, c0, c1, c2, c3⟩ := four_cells (HG.out.go hSx); go_simp; first | done | with_reducible rfl) ?_
    simp only [Act.put]
    refine wpAnyM_takeB 3 [4, 5, 6, 7, 8, 9, 10, 11] rfl (by kernel_rfl) (by kernel_rfl) (by kernel_rfl) (by kernel_rfl) (by kernel_rfl) (fun _ _ _ h => h) hSw (by kernel_rfl) (fun w' hSx => by obtain ⟨l0, c0, c1, c2, c3⟩ := four_cells (HG.out.go hSx); go_simp; first | done | with_reducible rfl) ?_
    simp only [Act.put]
    refine wpAnyM_takeB 4 [5, 6, 7, 8, 9, 10, 11] rfl (by kernel_rfl) (by kernel_rfl) (by kernel_rfl) (by kernel_rfl) (by kernel_rfl) (fun _ _ _ h => h) hSw (by kernel_rfl) (fun w' hSx => by obtain ⟨l0, c0, c1, c2, c3⟩ := four_cells (HG.out.go hSx); go_simp; first | done | with_reducible rfl) ?_
    simp only [Act.put]
    refine wpAnyM_takeB 5 [6, 7, 8, 9, 10, 11] rfl (by kernel_rfl) (by kernel_rfl) (by kernel_rfl) (by kernel_rfl) (by kernel_rfl) (fun _ _ _ h => h) hSw (by kernel_rfl) (fun w' hSx => by obtain ⟨l0, c0, c1, c2, c3⟩ := four_cells (HG.out.go hSx); go_simp; first | done | with_reducible rfl) ?_
    simp only [Act.put]
    refine wpAnyM_ready [6] (by kernel_rfl) (by simp) ?_
    refine AllReadyM.cons (by rfl) (fun K hK => ?_) AllReadyM.nil
    go_simp
    refine (radd_txt f0.out f1.out w015 (HV.out.go (D.out.trans (HB0.out.mono D.out.size)))).mono ?_
    rintro e wq1 ⟨⟨s1, E1, rfl, hs9⟩, hb5⟩
    replace HB0 := Lib.hid (Below.trans HB0.out (hb5.mono HB0.out.size))
    have HT1 := Lib.hid hs9
    clear hs9
    clear hb5
    clear hSw
    have hSw : (fun w' : World => Below w015.heap.size w015 w') wq1 := HB0.out
    refine hK.out _ _ hSw ?_
    clear hK K
    refine wpAnyM_takeB 7 [8, 9, 10, 11] rfl (by kernel_rfl) (by kernel_rfl) (by kernel_rfl) (by kernel_rfl) (by kernel_rfl) (fun _ _ _ h => h) hSw (by kernel_rfl) (fun w' hSx => by obtain ⟨l0, c0, c1, c2, c3⟩ := four_cells (HG.out.go hSx); go_simp; first | done | with_reducible rfl) ?_
    simp only [Act.put]
    refine wpAnyM_takeB 8 [10, 11] rfl (by kernel_rfl) (by kernel_rfl) (by kernel_rfl) (by kernel_rfl) (by kernel_rfl) (fun _ _ _ h => h) hSw (by kernel_rfl) (fun w' hSx => by obtain ⟨l0, c0, c1, c2, c3⟩ := four_cells (HG.out.go hSx); go_simp; first | done | with_reducible rfl) ?_
    simp only [Act.put]
    refine wpAnyM_takeB 9 [11] rfl (by kernel_rfl) (by kernel_rfl) (by kernel_rfl) (by kernel_rfl) (by kernel_rfl) (fun _ _ _ h => h) hSw (by kernel_rfl) (fun w' hSx => by obtain ⟨l0, c0, c1, c2, c3⟩ := four_cells (HG.out.go hSx); go_simp; first | done | with_reducible rfl) ?_
    simp only [Act.put]
    refine wpAnyM_takeB 10 [11] rfl (by kernel_rfl) (by kernel_rfl) (by kernel_rfl) (by kernel_rfl) (by kernel_rfl) (fun _ _ _ h => h) hSw (by kernel_rfl) (fun w' hSx => by obtain ⟨l0, c0, c1, c2, c3⟩ := four_cells (HG.out.go hSx); go_simp; first | done | with_reducible rfl) ?_
    simp only [Act.put]
    refine wpAnyM_takeB 11 [] rfl (by kernel_rfl) (by kernel_rfl) (by kernel_rfl) (by kernel_rfl) (by kernel_rfl) (fun _ _ _ h => h) hSw (by kernel_rfl) (fun w' hSx => by obtain ⟨l0, c0, c1, c2, c3⟩ := four_cells (HG.out.go hSx); go_simp; first | done | with_reducible rfl) ?_
    simp only [Act.put]
    refine wpAnyM_done (by kernel_rfl) ?_ _
    simp only [List.getElem_toArray, List.getElem_cons_succ, List.getElem_cons_zero]
    replace D := Lib.hid (D.out.trans (HB0.out.mono D.out.size))
    replace HG := Lib.hid (HG.out.go HB0.out)
    clear HB0 hSw
    generalize wq1 = wF at *
    go_upto_region 16 with fail
    have hb5 := (Below.refl wF.heap.size wF).drew
    replace D := Lib.hid (D.out.trans (hb5.mono D.out.size))
    replace HG := Lib.hid (HG.out.go hb5)
    clear hb5
    have HB0 := Lib.hid (Below.refl wF.drew.heap.size wF.drew)
    have hlt_D := D.out.size
    generalize hw9 : wF.drew = w016 at *
    have hSw : (fun w' : World => Below w016.heap.size w016 w') w016 := HB0.out
    refine wp_region_mid (fun w' : World => Below w016.heap.size w016 w') 12 (by kernel_rfl) ?_
    rw [hw9]
    clear hw9
    refine wpAnyM_takeB 0 [1, 2, 6, 7, 8, 9, 10, 11] rfl (by kernel_rfl) (by kernel_rfl) (by kernel_rfl) (by kernel_rfl) (by kernel_rfl) (fun _ _ _ h => h) hSw (by kernel_rfl) (fun w' hSx => by obtain ⟨l0, c0, c1, c2, c3⟩ := four_cells (HG.out.go hSx); go_simp; first | done | with_reducible rfl) ?_
    simp only [Act.put, List.setIfInBounds_toArray]
    refine wpAnyM_takeB 1 [2, 6, 7, 8, 9, 10, 11] rfl (by kernel_rfl) (by kernel_rfl) (by kernel_rfl) (by kernel_rfl) (by kernel_rfl) (fun _ _ _ h => h) hSw (by kernel_rfl) (fun w' hSx => by obtain ⟨l0, c0, c1, c2, c3⟩ := four_cells (HG.out.go hSx); go_simp; first | done | with_reducible rfl) ?_
    simp only [Act.put]
    refine wpAnyM_takeB 2 [6, 7, 8, 9, 10, 11] rfl (by kernel_rfl) (by kernel_rfl) (by kernel_rfl) (by kernel_rfl) (by kernel_rfl) (fun _ _ _ h => h) hSw (by kernel_rfl) (fun w' hSx => by obtain ⟨l0, c0, c1, c2, c3⟩ := four_cells (HG.out.go hSx); go_simp; first | done | with_reducible rfl) ?_
    simp only [Act.put]
    refine wpAnyM_takeB 3 [4, 5, 6, 7, 8, 9, 10, 11] rfl (by kernel_rfl) (by kernel_rfl) (by kernel_rfl) (by kernel_rfl) (by kernel_rfl) (fun _ _ _ h => h) hSw (by kernel_rfl) (fun w' hSx => by obtain ⟨l0, c0, c1, c2, c3⟩ := four_cells (HG.out.go hSx); go_simp; first | done | with_reducible rfl) ?_
    simp only [Act.put]
    refine wpAnyM_takeB 4 [5, 6, 7, 8, 9, 10, 11] rfl (by kernel_rfl) (by kernel_rfl) (by kernel_rfl) (by kernel_rfl) (by kernel_rfl) (fun _ _ _ h => h) hSw (by kernel_rfl) (fun w' hSx => by obtain ⟨l0, c0, c1, c2, c3⟩ := four_cells (HG.out.go hSx); go_simp; first | done | with_reducible rfl) ?_
    simp only [Act.put]
    refine wpAnyM_takeB 5 [6, 7, 8, 9, 10, 11] rfl (by kernel_rfl) (by kernel_rfl) (by kernel_rfl) (by kernel_rfl) (by kernel_rfl) (fun _ _ _ h => h) hSw (by kernel_rfl) (fun w' hSx => by obtain ⟨l0, c0, c1, c2, c3⟩ := four_cells (HG.out.go hSx); go_simp; first | done | with_reducible rfl) ?_
    simp only [Act.put]
    refine wpAnyM_ready [6] (by kernel_rfl) (by simp) ?_
    refine AllReadyM.cons (by rfl) (fun K hK => ?_) AllReadyM.nil
    go_simp
    refine (radd_txt f0.out f2.out w016 (HV.out.go (D.out.trans (HB0.out.mono D.out.size)))).mono ?_
    rintro e wq1 ⟨⟨s2, E2, rfl, hs9⟩, hb5⟩
    replace HB0 := Lib.hid (Below.trans HB0.out (hb5.mono HB0.out.size))
    have HT2 := Lib.hid hs9
    clear hs9
    clear hb5
    clear hSw
    have hSw : (fun w' : World => Below w016.heap.size w016 w') wq1 := HB0.out
    refine hK.out _ _ hSw ?_
    clear hK K
    refine wpAnyM_takeB 7 [8, 9, 10, 11] rfl (by kernel_rfl) (by kernel_rfl) (by kernel_rfl) (by kernel_rfl) (by kernel_rfl) (fun _ _ _ h => h) hSw (by kernel_rfl) (fun w' hSx => by obtain ⟨l0, c0, c1, c2, c3⟩ := four_cells (HG.out.go hSx); go_simp; first | done | with_reducible rfl) ?_
    simp only [Act.put]
    refine wpAnyM_takeB 8 [10, 11] rfl (by kernel_rfl) (by kernel_rfl) (by kernel_rfl) (by kernel_rfl) (by kernel_rfl) (fun _ _ _ h => h) hSw (by kernel_rfl) (fun w' hSx => by obtain ⟨l0, c0, c1, c2, c3⟩ := four_cells (HG.out.go hSx); go_simp; first | done | with_reducible rfl) ?_
    simp only [Act.put]
    refine wpAnyM_takeB 9 [11] rfl (by kernel_rfl) (by kernel_rfl) (by kernel_rfl) (by kernel_rfl) (by kernel_rfl) (fun _ _ _ h => h) hSw (by kernel_rfl) (fun w' hSx => by obtain ⟨l0, c0, c1, c2, c3⟩ := four_cells (HG.out.go hSx); go_simp; first | done | with_reducible rfl) ?_
    simp only [Act.put]
    refine wpAnyM_takeB 10 [11] rfl (by kernel_rfl) (by kernel_rfl) (by kernel_rfl) (by kernel_rfl) (by kernel_rfl) (fun _ _ _ h => h) hSw (by kernel_rfl) (fun w' hSx => by obtain ⟨l0, c0, c1, c2, c3⟩ := four_cells (HG.out.go hSx); go_simp; first | done | with_reducible rfl) ?_
    simp only [Act.put]
    refine wpAnyM_takeB 11 [] rfl (by kernel_rfl) (by kernel_rfl) (by kernel_rfl) (by kernel_rfl) (by kernel_rfl) (fun _ _ _ h => h) hSw (by kernel_rfl) (fun w' hSx => by obtain ⟨l0, c0, c1, c2, c3⟩ := four_cells (HG.out.go hSx); go_simp; first | done | with_reducible rfl) ?_
    simp only [Act.put]
    refine wpAnyM_done (by kernel_rfl) ?_ _
    simp only [List.getElem_toArray, List.getElem_cons_succ, List.getElem_cons_zero]
    replace D := Lib.hid (D.out.trans (HB0.out.mono D.out.size))
    replace HG := Lib.hid (HG.out.go HB0.out)
    clear HB0 hSw
    generalize wq1 = wG at *
    go_wp2_with fail
    have hb5 := below_oneS wG (.cells #[.int .i64 E1, .int .i64 E2] 37)
    have BF := Lib.hid (Blk.new_ wG wG.heap.size 37 #[.int .i64 E1, .int .i64 E2] rfl)
    replace D := Lib.hid (D.out.trans (hb5.mono D.out.size))
    replace HG := Lib.hid (HG.out.go hb5)
    clear hb5
    obtain ⟨bf, hbf⟩ : ∃ b : Nat, b = wG.heap.size := ⟨_, rfl⟩
    rw [← hbf] at BF ⊢
    clear hbf
    generalize wG.alloc (.cells #[.int .i64 E1, .int .i64 E2] 37) = wH at *
    have hq9 : Reads wH wH.heap.size 1 (some ⟨bf, 0, none⟩) 2 (ints [E1, E2]) := lit_reads9 _ _ _ _ 2 1 BF.out rfl
    refine (fine_any (some ⟨bf, 0, none⟩) 2 2 [E1, E2] wH.heap.size wH (by omega) hq9).mono ?_
    rintro e wI ⟨rfl, rfl⟩
    clear hq9
    by_cases hE : E1 = 0 ∧ E2 = 0
    · obtain ⟨rfl, rfl⟩ := hE
      have e1 : s1 = [48] := by rw [HT1.out rfl, HS1.out]; exact txt0
      have e2 : s2 = Pl.ratTxt a3 := by rw [HT2.out rfl, HS2.out]
      subst e1
      rw [e2]
      clear e2
      obtain ⟨lg, _, _, _, c3x⟩ := four_cells HG.out
      rw [show allOk [0, 0] = true from rfl]
      unfold tx at c3x ⊢
      generalize (⟨⟨Pl.ratTxt a3⟩⟩ : ByteArray) = t3 at *
      have et : (t3.toList == t3.toList) = true := by simp
      go_wp2_with fail
      go_ret
      exact ⟨by rfl, D.out⟩
    · have e0 : allOk [E1, E2] = false := by
        cases h : allOk [E1, E2] with
        | false => rfl
        | true => exact absurd (allOk_true.1 h) (fun h9 => hE ⟨h9 E1 (by simp), h9 E2 (by simp)⟩)
      rw [e0]
      clear e0 hE
      go_wp2_with fail
      go_ret
      exact ⟨rfl, D.out⟩
end Go.Proofs.YtoblpcljhblnmaaGreatDoor
