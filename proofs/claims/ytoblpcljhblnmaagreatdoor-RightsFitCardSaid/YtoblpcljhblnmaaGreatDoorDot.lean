/- large.Dot, large.Sum, Abs; slices.Clone at rational numbers. Condition: the words read; the partial results have at most 2^40 words. -/
import Derived.Test.YtoblpcljhblnmaaGreatDoorRatQ
import Derived.Test.YtoblpcljhblnmaaGreatDoorPMat
namespace Go.Proofs.YtoblpcljhblnmaaGreatDoor
open Go.RowKit

set_option maxRecDepth 100000
theorem rsz_zero : Pl.rsz 0 = 1 := by decide +kernel
theorem Pl.rsz_sumN {f : Nat → Rat} {K : Nat} : ∀ n, (∀ j, j < n → Pl.rsz (f j) ≤ K) → Pl.rsz (Pl.sumN n f) ≤ 1 + n * (K + 1)
  | 0, _ => by rw [Pl.sumN, rsz_zero]; omega
  | n + 1, h => by
    have h1 := Pl.rsz_sumN n (fun j hj => h j (by omega))
    have h2 := Pl.rsz_add (Pl.sumN n f) (f n)
    have h3 := h n (by omega)
    rw [Pl.sumN, Nat.add_mul]
    omega
def Pl.dotN (a b : List Rat) : Rat := Pl.sumN a.length fun j => a.getD j 0 * b.getD j 0
def CellsR (w : World) (b o : Nat) (x : Rt) : Prop := ∀ w', Below w.heap.size w w' → w'.cell? ⟨b, o, none⟩ = some (.bool x.N.b) ∧ w'.cell? ⟨b, o + 1, none⟩ = some (.slice x.N.A x.N.n x.N.c) ∧ w'.cell? ⟨b, o + 2, none⟩ = some (.bool x.D.b) ∧ w'.cell? ⟨b, o + 3, none⟩ = some (.slice x.D.A x.D.n x.D.c)
theorem CellsR.go {w w1 : World} {b o : Nat} {x : Rt} (h : CellsR w b o x) (hb : Below w.heap.size w w1) : CellsR w1 b o x := fun w' hw => h w' (hb.trans (hw.mono hb.size))
theorem rats_cells {w : World} {n : Nat} {A : Option Addr} {L : List (Rat × Rt)} (h : RatsIs w w.heap.size A n L) {k : Nat} (hk : k < n) : ∃ (b o : Nat) (x : Rt), A = some ⟨b, o, none⟩ ∧ b < w.heap.size ∧ RatIs w w.heap.size ((L.map (·.1)).getD k 0) x ∧ CellsR w b (o + k * 4) x := by
  obtain ⟨b, o, rfl, hb, hl, c0, c1, c2, c3, hx⟩ := h.at hk
  refine ⟨b, o, L[k].2, rfl, hb, ?_, fun w' hw => ?_⟩
  · rw [List.getD_eq_getElem?_getD, List.getElem?_map, List.getElem?_eq_getElem hl]
    exact hx
  · exact ⟨(hw.cell (p := ⟨b, _, none⟩) hb).trans c0, (hw.cell (p := ⟨b, _, none⟩) hb).trans c1, (hw.cell (p := ⟨b, _, none⟩) hb).trans c2, (hw.cell (p := ⟨b, _, none⟩) hb).trans c3⟩
set_option maxHeartbeats 3200000 in
theorem dot_any (A : Option Addr) (n c : Nat) (B : Option Addr) (nb cb : Nat) (La Lb : List (Rat × Rt)) (S : Nat) (w : World) (hn : n ≤ nb) (hb1 : nb ≤ 1000) (ha : RatsIs w w.heap.size A n La) (hb : RatsIs w w.heap.size B nb Lb)
    (hsa : ∀ q ∈ La.map (·.1), Pl.rsz q ≤ S) (hsb : ∀ q ∈ Lb.map (·.1), Pl.rsz q ≤ S) (hS : 1 ≤ S ∧ 1 + n * (2 * S + 1) ≤ 1099511627776) (hS2 : S ≤ 274877906944) :
    Calls Tryz.prog 150 #[.slice A n c, .slice B nb cb] w (RtSaid (Pl.dotN (La.map (·.1)) (Lb.map (·.1))) w) := by
  have HA := Lib.hid ha
  have HB := Lib.hid hb
  have HGA : Hid (∀ k, Pl.rsz ((La.map (·.1)).getD k 0) ≤ S) := fun k => by
    rw [List.getD_eq_getElem?_getD]
    by_cases hk : k < (La.map (·.1)).length
    · rw [List.getElem?_eq_getElem hk]; exact hsa _ (List.getElem_mem hk)
    · rw [List.getElem?_eq_none (by omega), Option.getD_none, rsz_zero]; exact hS.1
  have HGB : Hid (∀ k, Pl.rsz ((Lb.map (·.1)).getD k 0) ≤ S) := fun k => by
    rw [List.getD_eq_getElem?_getD]
    by_cases hk : k < (Lb.map (·.1)).length
    · rw [List.getElem?_eq_getElem hk]; exact hsb _ (List.getElem_mem hk)
    · rw [List.getElem?_eq_none (by omega), Option.getD_none, rsz_zero]; exact hS.1
  have HLN : Hid ((La.map (·.1)).length = n) := by show _ = _; rw [List.length_map]; exact ha.len
  obtain ⟨hR, hD, hsz⟩ := box1 w #[.bool false, .slice none 0 0, .bool false, .slice none 0 0] 105
  have XR := Lib.hid hR
  have D := Lib.hid hD
  clear ha hb hsa hsb hR hD hsz
  unfold Pl.dotN
  rw [HLN.out]
  obtain ⟨qa, has⟩ : ∃ l, l = La.map (·.1) := ⟨_, rfl⟩
  obtain ⟨qb, hbs⟩ : ∃ l, l = Lb.map (·.1) := ⟨_, rfl⟩
  rw [← has] at HGA ⊢
  rw [← hbs] at HGB ⊢
  have HAS := Lib.hid has
  have HBS := Lib.hid hbs
  clear has hbs HLN
  obtain ⟨F, hF⟩ : ∃ F : Nat → Rat, F = fun j => qa.getD j 0 * qb.getD j 0 := ⟨_, rfl⟩
  rw [← hF]
  have HF := Lib.hid hF
  have HFS : Hid (∀ k, k ≤ n → Pl.rsz (Pl.sumN k F) ≤ 1099511627776) := fun k hk => by
    have h1 := Pl.rsz_sumN (f := F) (K := 2 * S) k (fun j _ => by
      rw [hF]
      show Pl.rsz (qa.getD j 0 * qb.getD j 0) ≤ _
      have h2 := Pl.rsz_mul (qa.getD j 0) (qb.getD j 0)
      have h3 := HGA.out j
      have h4 := HGB.out j
      omega)
    have h5 : k * (2 * S + 1) ≤ n * (2 * S + 1) := Nat.mul_le_mul_right _ hk
    omega
  clear hF
  go_enter Tryz.func150, Tryz.ntmps150
  go_wp2_with fail
  obtain ⟨rb, hrb⟩ : ∃ rb : Nat, rb = w.heap.size := ⟨_, rfl⟩
  have HRB : w.heap.size ≤ rb := by omega
  rw [← hrb] at XR ⊢
  clear hrb
  generalize w.alloc (.cells #[.bool false, .slice none 0 0, .bool false, .slice none 0 0] 105) = w1 at *
  refine (whole_any 0 w1 (by omega) (by omega)).mono ?_
  rintro e w2 ⟨s0, rfl, hs0, hb5⟩
  have HS0 : Hid (RatIs w2 w2.heap.size 0 s0) := Lib.hid hs0
  have lrb : rb < w2.heap.size := (XR.out.go hb5).lt
  replace XR := Lib.hid (XR.out.go hb5)
  replace D := Lib.hid (D.out.trans (hb5.mono D.out.size))
  clear hs0 hb5
  go_wp2_with fail
  have BS := Lib.hid (Blk.new_ w2 w2.heap.size 105 #[.bool s0.N.b, .slice s0.N.A s0.N.n s0.N.c, .bool s0.D.b, .slice s0.D.A s0.D.n s0.D.c] rfl)
  have hb5 := below_one w2 (.cells #[.bool s0.N.b, .slice s0.N.A s0.N.n s0.N.c, .bool s0.D.b, .slice s0.D.A s0.D.n s0.D.c] 105)
  replace XR := Lib.hid (XR.out.go hb5)
  replace HS0 := Lib.hid (HS0.out.go hb5)
  replace D := Lib.hid (D.out.trans (hb5.mono D.out.size))
  clear hb5
  obtain ⟨bs, e1, h4⟩ : ∃ bs : Nat, bs = w2.heap.size ∧ rb < bs := ⟨_, rfl, lrb⟩
  rw [← e1] at BS
  rw [← e1]
  clear e1 lrb
  generalize w2.alloc (.cells #[.bool s0.N.b, .slice s0.N.A s0.N.n s0.N.c, .bool s0.D.b, .slice s0.D.A s0.D.n s0.D.c] 105) = w3 at *
  go_loopw [10] (fun i wr => ∃ (k : Nat) (s : Rt), k ≤ n ∧ i = .int .i64 k ∧ Hid (Blk wr rb 105 #[.bool false, .slice none 0 0, .bool false, .slice none 0 0]) ∧ Hid (Blk wr bs 105 #[.bool s.N.b, .slice s.N.A s.N.n s.N.c, .bool s.D.b, .slice s.D.A s.D.n s.D.c]) ∧ Hid (RatIs wr wr.heap.size (Pl.sumN k F) s) ∧ Hid (Below w.heap.size w wr)) (fun i _ => n - (intOf i).toNat)
  case atStart => exact ⟨0, s0, Nat.zero_le _, rfl, XR, BS, HS0, D⟩
  case round =>
    clear XR BS HS0 D
    obtain ⟨k, s, hk, rfl, XR, BS, HS, D⟩ := hrel
    by_cases hlt : k < n
    · obtain ⟨ba, oa, x, rfl, hla, hnx, hca⟩ := rats_cells (HA.out.go D.out) hlt
      obtain ⟨bb, ob, y, rfl, hlb, hny, hcb⟩ := rats_cells (HB.out.go D.out) (show k < nb by omega)
      rw [← HAS.out] at hnx
      rw [← HBS.out] at hny
      have HX := Lib.hid hnx
      have HY := Lib.hid hny
      have HCA := Lib.hid hca
      have HCB := Lib.hid hcb
      have h5 := HGA.out k
      have h6 := HGB.out k
      have h7 := HFS.out k hk
      have HNX : Hid (Pl.sumN (k + 1) F = Pl.sumN k F + qa.getD k 0 * qb.getD k 0) := by show _ = _; rw [Pl.sumN, HF.out]
      obtain ⟨T0, hT0⟩ : ∃ t, t = Pl.sumN k F := ⟨_, rfl⟩
      rw [← hT0] at HS h7 HNX
      generalize qa.getD k 0 = p at *
      generalize qb.getD k 0 = q at *
      obtain ⟨c0, c1, c2, c3⟩ := hca wr (Below.refl _ _)
      clear hnx hny hca hcb hT0
      have hk1 : (k : Int) < (n : Int) := by omega
      have hk2 : (k : Int) < (nb : Int) := by omega
      go_wp2_with fail
      refine (rsign_any HX.out).mono ?_
      rintro e wx ⟨rfl, hb5⟩
      have HB5 := Lib.hid hb5
      replace XR := Lib.hid (XR.out.go hb5)
      replace BS := Lib.hid (BS.out.go hb5)
      replace HS := Lib.hid (HS.out.go hb5)
      replace HX := Lib.hid (HX.out.go hb5)
      replace HY := Lib.hid (HY.out.go hb5)
      replace D := Lib.hid (D.out.trans (hb5.mono D.out.size))
      replace HCA := Lib.hid (HCA.out.go HB5.out)
      replace HCB := Lib.hid (HCB.out.go HB5.out)
      clear hb5 HB5 c0 c1 c2 c3
      by_cases hp0 : p = 0
      · have e1 : (p.num.sign != 0) = false := by rw [hp0]; rfl
        have HNX2 : Hid (Pl.sumN (k + 1) F = T0) := by show _ = _; rw [HNX.out, hp0, Rat.zero_mul, Rat.add_zero]
        generalize p.num.sign = sg at *
        clear hp0
        go_wp2_with fail
        go_roundw
        case rel => exact ⟨k + 1, s, by omega, by go_num, XR, BS, by rw [HNX2.out]; exact HS, D⟩
        case measure => simp [intOf]; omega
      · have e1 : (p.num.sign != 0) = true := by
          rw [bne_iff_ne]
          intro h
          rw [Int.sign_eq_zero_iff_zero, Rat.num_eq_zero] at h
          exact hp0 h
        generalize p.num.sign = sg at *
        clear hp0
        obtain ⟨c0, c1, c2, c3⟩ := HCB.out wx (Below.refl _ _)
        go_wp2_with fail
        refine (rsign_any HY.out).mono ?_
        rintro e wy ⟨rfl, hb5⟩
        have HB5 := Lib.hid hb5
        replace XR := Lib.hid (XR.out.go hb5)
        replace BS := Lib.hid (BS.out.go hb5)
        replace HS := Lib.hid (HS.out.go hb5)
        replace HX := Lib.hid (HX.out.go hb5)
        replace HY := Lib.hid (HY.out.go hb5)
        replace D := Lib.hid (D.out.trans (hb5.mono D.out.size))
        replace HCA := Lib.hid (HCA.out.go HB5.out)
        replace HCB := Lib.hid (HCB.out.go HB5.out)
        clear hb5 HB5 c0 c1 c2 c3
        by_cases hq0 : q = 0
        · have e1 : (q.num.sign != 0) = false := by rw [hq0]; rfl
          have HNX2 : Hid (Pl.sumN (k + 1) F = T0) := by show _ = _; rw [HNX.out, hq0, Rat.mul_zero, Rat.add_zero]
          generalize q.num.sign = sh at *
          clear hq0
          go_wp2_with fail
          go_roundw
          case rel => exact ⟨k + 1, s, by omega, by go_num, XR, BS, by rw [HNX2.out]; exact HS, D⟩
          case measure => simp [intOf]; omega
        · have e1 : (q.num.sign != 0) = true := by
            rw [bne_iff_ne]
            intro h
            rw [Int.sign_eq_zero_iff_zero, Rat.num_eq_zero] at h
            exact hq0 h
          generalize q.num.sign = sh at *
          clear hq0
          go_wp2_with fail
          go_upto_region 6 with fail
          have hb5 := (Below.refl wy.heap.size wy).drew
          replace XR := Lib.hid (XR.out.go hb5)
          replace BS := Lib.hid (BS.out.go hb5)
          replace HS := Lib.hid (HS.out.go hb5)
          replace HX := Lib.hid (HX.out.go hb5)
          replace HY := Lib.hid (HY.out.go hb5)
          replace D := Lib.hid (D.out.trans (hb5.mono D.out.size))
          replace HCA := Lib.hid (HCA.out.go hb5)
          replace HCB := Lib.hid (HCB.out.go hb5)
          clear hb5
          have HB0 := Lib.hid (Below.refl wy.drew.heap.size wy.drew)
          have hlt_XR := XR.out.lt
          have hlt_BS := BS.out.lt
          have hlt_D := D.out.size
          generalize hw9 : wy.drew = w6 at *
          have hSw : (fun w' : World => Below w6.heap.size w6 w') w6 := HB0.out
          refine wp_region_mid (fun w' : World => Below w6.heap.size w6 w') 11 (by kernel_rfl) ?_
          rw [hw9]
          clear hw9
          refine Tk.go [(0, [10, 11]), (1, [3, 4, 9, 10, 11]), (2, [3, 4, 9, 10, 11]), (3, [4, 9, 10, 11]), (4, [9, 10, 11]), (5, [7, 8, 9, 10, 11]), (6, [7, 8, 9, 10, 11]), (7, [8, 9, 10, 11]), (8, [9, 10, 11])] ?_
          iterate 9 (refine Tk.cons rfl (by kernel_rfl) (fun _ _ _ h => h) hSw (by kernel_rfl) (fun w' hSx => by have c0 := (BS.out.go hSx).cell; have l0 := (BS.out.go hSx).lt; have hc := HCA.out _ hSx; have c1 := hc.1; have c2 := hc.2.1; have c3 := hc.2.2.1; have c4 := hc.2.2.2; clear hc; have hc := HCB.out _ hSx; have c5 := hc.1; have c6 := hc.2.1; have c7 := hc.2.2.1; have c8 := hc.2.2.2; clear hc; go_simp; first | done | with_reducible rfl) ?_; simp only [Act.put, List.setIfInBounds_toArray])
          refine Tk.nil ?_
          refine wpAnyM_ready [9] (by kernel_rfl) (by simp) ?_
          refine AllReadyM.cons (by rfl) (fun K hK => ?_) AllReadyM.nil
          go_simp
          refine (rmul_any (HX.out.go HB0.out) (HY.out.go HB0.out) (by omega) (by omega)).mono ?_
          rintro e wq1 ⟨v, rfl, hv9, hb5⟩
          clear HX HY
          replace HB0 := Lib.hid (Below.trans HB0.out (hb5.mono HB0.out.size))
          have HV9 := Lib.hid hv9
          clear hv9
          clear hb5
          clear hSw
          have hSw : (fun w' : World => Below w6.heap.size w6 w') wq1 := HB0.out
          refine hK.out _ _ hSw ?_
          clear hK K
          refine wpAnyM_ready [10] (by kernel_rfl) (by simp) ?_
          refine AllReadyM.cons (by rfl) (fun K hK => ?_) AllReadyM.nil
          go_simp
          refine (radd_any (HS.out.go HB0.out) HV9.out (by omega) (Nat.le_trans (Pl.rsz_mul p q) (by omega))).mono ?_
          rintro e wq2 ⟨s2, rfl, hz9, hb5⟩
          clear HS HV9
          replace HB0 := Lib.hid (Below.trans HB0.out (hb5.mono HB0.out.size))
          have HZ9 := Lib.hid hz9
          clear hz9
          clear hb5
          clear hSw
          have hSw : (fun w' : World => Below w6.heap.size w6 w') wq2 := HB0.out
          refine hK.out _ _ hSw ?_
          clear hK K
          refine wpAnyM_ready [11] (by kernel_rfl) (by simp) ?_
          refine AllReadyM.last (by rfl) (by decide) (fun K hK => ?_)
          clear HCA HCB
          replace XR := Lib.hid (XR.out.go HB0.out)
          replace BS := Lib.hid (BS.out.go HB0.out)
          replace D := Lib.hid (D.out.trans (HB0.out.mono D.out.size))
          have cc9 := BS.out.cell
          have cf9 := BS.out.frozen
          have cl9 := BS.out.lt
          go_simp
          clear cc9 cf9 cl9
          replace XR := Lib.hid (XR.out.far4 (r := bs) (by omega) (u0 := .bool s2.N.b) (u1 := .slice s2.N.A s2.N.n s2.N.c) (u2 := .bool s2.D.b) (u3 := .slice s2.D.A s2.D.n s2.D.c))
          replace D := Lib.hid (below_put4 D.out (r := bs) (by omega) (u0 := .bool s2.N.b) (u1 := .slice s2.N.A s2.N.n s2.N.c) (u2 := .bool s2.D.b) (u3 := .slice s2.D.A s2.D.n s2.D.c))
          replace HZ9 := Lib.hid (HZ9.out.put4 BS.out (noU32_num2 s.N s.D) (u0 := .bool s2.N.b) (u1 := .slice s2.N.A s2.N.n s2.N.c) (u2 := .bool s2.D.b) (u3 := .slice s2.D.A s2.D.n s2.D.c))
          replace BS := Lib.hid (BS.out.put4 (u0 := .bool s2.N.b) (u1 := .slice s2.N.A s2.N.n s2.N.c) (u2 := .bool s2.D.b) (u3 := .slice s2.D.A s2.D.n s2.D.c))
          generalize ((((wq2.setCell ⟨bs, 0, none⟩ (.bool s2.N.b)).setCell ⟨bs, 1, none⟩ (.slice s2.N.A s2.N.n s2.N.c)).setCell ⟨bs, 2, none⟩ (.bool s2.D.b)).setCell ⟨bs, 3, none⟩ (.slice s2.D.A s2.D.n s2.D.c)) = wq3 at *
          replace HB0 := Lib.hid (Below.refl wq3.heap.size wq3)
          refine hK.out _ _ ?_
          clear hK K
          refine wpAnyM_done (by kernel_rfl) ?_ _
          clear HB0 hSw
          go_wp2_with fail
          go_roundw
          case rel => exact ⟨k + 1, s2, by omega, by go_num, XR, BS, by rw [HNX.out]; exact HZ9, D⟩
          case measure => simp [intOf]; omega
    · obtain rfl : n = k := by omega
      have cbs := BS.out.cell
      have lbs := BS.out.lt
      have cxr := XR.out.cell
      have fxr := XR.out.frozen
      have lxr := XR.out.lt
      go_wp2_with fail
      have k4 := (XR.out.put4 (u0 := .bool s.N.b) (u1 := .slice s.N.A s.N.n s.N.c) (u2 := .bool s.D.b) (u3 := .slice s.D.A s.D.n s.D.c)).cell
      refine bodyPost_ret (v := s.v) (by simp [results, Tryz.results150, go_sem, k4]) rfl ⟨s, rfl, HS.out.put4 XR.out noU32_new2, below_put4 D.out (r := rb) (by omega)⟩
end Go.Proofs.YtoblpcljhblnmaaGreatDoor
