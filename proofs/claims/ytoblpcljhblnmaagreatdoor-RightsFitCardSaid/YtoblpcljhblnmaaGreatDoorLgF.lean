/- Package large: Add answers as integers. Condition: the words read; there are at most 2^45 of them. Package large: Mul answers as integers. Condition: the words read; there are at most 2^45 of them. Package large: Sub, Sign, Cmp, Of answer as integers. Condition: the words read; there are at most 2^45 of them. -/
import Derived.Test.YtoblpcljhblnmaaGreatDoorLgA
import Derived.Test.YtoblpcljhblnmaaGreatDoorMid
namespace Go.Proofs.YtoblpcljhblnmaaGreatDoor
open Go.RowKit
set_option maxRecDepth 100000
def NumSaid (z : Int) (w : World) (e : Ending) (w' : World) : Prop := ∃ (A : Option Addr) (c : Nat), e = .returned (vNum z A c) ∧ NumAt w' w'.heap.size z A c ∧ Below w.heap.size w w'
theorem sgn_add_same {a b : Int} (h : decide (a < 0) = decide (b < 0)) : sgn (decide (a < 0)) (a.natAbs + b.natAbs) = a + b := by
  rw [decide_eq_decide] at h
  unfold sgn
  by_cases ha : a < 0
  · simp only [ha, decide_true, if_true]; omega
  · simp only [ha, decide_false, if_false, Bool.false_eq_true]; omega
theorem sgn_add_ge {a b : Int} (h : decide (a < 0) ≠ decide (b < 0)) (hle : b.natAbs ≤ a.natAbs) : sgn (decide (a < 0)) (a.natAbs - b.natAbs) = a + b := by
  rw [ne_eq, decide_eq_decide] at h
  unfold sgn
  by_cases ha : a < 0
  · simp only [ha, decide_true, if_true]; omega
  · simp only [ha, decide_false, if_false, Bool.false_eq_true]; omega
def Ar2 (w : World) (g g' : Nat) (b1 : Bool) (A1 : Option Addr) (n1 c1 : Nat) (b2 : Bool) (A2 : Option Addr) (n2 c2 : Nat) : Prop :=
  Blk w g 103 #[.bool b1, .slice A1 n1 c1] ∧ Blk w g' 103 #[.bool b2, .slice A2 n2 c2]
theorem Ar2.go {w w' : World} {g g' : Nat} {b1 b2 : Bool} {A1 A2 : Option Addr} {n1 c1 n2 c2 : Nat} (h : Ar2 w g g' b1 A1 n1 c1 b2 A2 n2 c2) (hb : Below w.heap.size w w') : Ar2 w' g g' b1 A1 n1 c1 b2 A2 n2 c2 := ⟨h.1.go hb, h.2.go hb⟩
theorem Ar2.far {w : World} {g g' r : Nat} {b1 b2 : Bool} {A1 A2 : Option Addr} {n1 c1 n2 c2 : Nat} (h : Ar2 w g g' b1 A1 n1 c1 b2 A2 n2 c2) (h1 : g ≠ r) (h2 : g' ≠ r) (i : Nat) (u : Value) : Ar2 (w.setCell ⟨r, i, none⟩ u) g g' b1 A1 n1 c1 b2 A2 n2 c2 := ⟨h.1.far h1 u, h.2.far h2 u⟩
theorem boxes3 (w : World) (x y z : Array Value) (t : TypeId) : let w1 := ((w.alloc (.cells x t)).alloc (.cells y t)).alloc (.cells z t)
    Blk w1 w.heap.size t x ∧ Blk w1 (w.heap.size + 1) t y ∧ Blk w1 (w.heap.size + 1 + 1) t z ∧ Below w.heap.size w w1 ∧ w1.heap.size = w.heap.size + 1 + 1 + 1 :=
  ⟨((Blk.new_ w _ t x rfl).alloc _).alloc _, (Blk.new_ _ (w.heap.size + 1) t y (by simp)).alloc _, Blk.new_ _ (w.heap.size + 1 + 1) t z (by simp), (((Below.refl _ w).alloc (Nat.le_refl _) _).alloc (by simp) _).alloc (by simp; omega) _, by simp⟩
set_option maxHeartbeats 3200000 in
theorem add_any (a b : Int) (A : Option Addr) (c : Nat) (B : Option Addr) (d : Nat) (w : World) (ha : NumAt w w.heap.size a A c) (hb : NumAt w w.heap.size b B d) (sa : Pl.nw a.natAbs ≤ 35184372088832) (sb : Pl.nw b.natAbs ≤ 35184372088832) :
    Calls Tryz.prog 90 #[vNum a A c, vNum b B d] w (NumSaid (a + b) w) := by
  obtain ⟨hA, hB, hR, hD, hsz⟩ := boxes3 w #[.bool (decide (a < 0)), .slice A (Pl.nw a.natAbs) c] #[.bool (decide (b < 0)), .slice B (Pl.nw b.natAbs) d] #[.bool false, .slice none 0 0] 103
  have HADD := Lib.hid (fun W (x : NumAt W W.heap.size a A c) (y : NumAt W W.heap.size b B d) => addw_any A (Pl.nw a.natAbs) c (Pl.digs a.natAbs) B (Pl.nw b.natAbs) d (Pl.digs b.natAbs) W sa sb x.2 y.2 (Pl.digs_can _).1 (Pl.digs_can _).1)
  have HCMP := Lib.hid (fun W (x : NumAt W W.heap.size a A c) (y : NumAt W W.heap.size b B d) => cmpw_any A (Pl.nw a.natAbs) c (Pl.digs a.natAbs) B (Pl.nw b.natAbs) d (Pl.digs b.natAbs) W (by omega) (by omega) x.2 y.2 (Pl.digs_can _) (Pl.digs_can _))
  have HS1 := Lib.hid (fun W (x : NumAt W W.heap.size a A c) (y : NumAt W W.heap.size b B d) (hle : b.natAbs ≤ a.natAbs) => subw_any A (Pl.nw a.natAbs) c (Pl.digs a.natAbs) B (Pl.nw b.natAbs) d (Pl.digs b.natAbs) W sa (Pl.nw_mono hle) x.2 y.2 (Pl.digs_can _).1 (Pl.digs_can _).1 (by rw [Pl.lv_digs, Pl.lv_digs]; exact hle))
  have HS2 := Lib.hid (fun W (x : NumAt W W.heap.size a A c) (y : NumAt W W.heap.size b B d) (hle : a.natAbs ≤ b.natAbs) => subw_any B (Pl.nw b.natAbs) d (Pl.digs b.natAbs) A (Pl.nw a.natAbs) c (Pl.digs a.natAbs) W sb (Pl.nw_mono hle) y.2 x.2 (Pl.digs_can _).1 (Pl.digs_can _).1 (by rw [Pl.lv_digs, Pl.lv_digs]; exact hle))
  simp only [Pl.lv_digs] at HADD HCMP HS1 HS2
  have HNA := Lib.hid (ha.go hD)
  have HNB := Lib.hid (hb.go hD)
  have E1 : Hid (decide (a < 0) = decide (b < 0) → sgn (decide (a < 0)) (a.natAbs + b.natAbs) = a + b) := sgn_add_same
  have E2 : Hid (decide (a < 0) ≠ decide (b < 0) → b.natAbs ≤ a.natAbs → sgn (decide (a < 0)) (a.natAbs - b.natAbs) = a + b) := sgn_add_ge
  have E3 : Hid (decide (a < 0) ≠ decide (b < 0) → a.natAbs ≤ b.natAbs → sgn (decide (b < 0)) (b.natAbs - a.natAbs) = a + b) := fun h hle => by rw [sgn_add_ge (Ne.symm h) hle, Int.add_comm]
  clear ha hb
  unfold vNum
  generalize a + b = s at *
  generalize decide (a < 0) = b1 at *
  generalize decide (b < 0) = b2 at *
  have BR := Lib.hid hR
  have AR : Hid (Ar2 _ w.heap.size (w.heap.size + 1) b1 A (Pl.nw a.natAbs) c b2 B (Pl.nw b.natAbs) d) := ⟨hA, hB⟩
  have HD := Lib.hid hD
  have HSZ := Lib.hid hsz
  clear hA hB hR hD hsz
  by_cases hbb : b1 = b2
  · subst hbb
    have E := Lib.hid (E1.out rfl)
    clear E1 E2 E3 HCMP HS1 HS2
    go_enter Tryz.func90, Tryz.ntmps90
    have q1 := AR.out.1.cell
    have q2 := AR.out.2.cell
    have q3 := AR.out.1.lt
    have q4 := AR.out.2.lt
    go_wp2_with fail
    clear q1 q2 q3 q4
    generalize ((w.alloc (.cells #[.bool b1, .slice A (Pl.nw a.natAbs) c] 103)).alloc (.cells #[.bool b1, .slice B (Pl.nw b.natAbs) d] 103)).alloc (.cells #[.bool false, .slice none 0 0] 103) = w1 at *
    have hSw : (fun w' : World => Ar2 w' w.heap.size (w.heap.size + 1) b1 A (Pl.nw a.natAbs) c b1 B (Pl.nw b.natAbs) d) w1.drew := ⟨AR.out.1.drew, AR.out.2.drew⟩
    refine wp_region_mid (fun w' : World => Ar2 w' w.heap.size (w.heap.size + 1) b1 A (Pl.nw a.natAbs) c b1 B (Pl.nw b.natAbs) d) 9 (by kernel_rfl) ?_
    refine wpAnyM_take 0 rfl (by kernel_rfl) (by kernel_rfl) (by kernel_rfl) (by kernel_rfl) (by kernel_rfl) (fun _ _ _ h => h) hSw (by kernel_rfl) (fun w' hSx => by obtain ⟨h1, h2⟩ := hSx; have c1 := h1.cell; have c2 := h2.cell; have l1 := h1.lt; have l2 := h2.lt; go_simp; first | done | with_reducible rfl) ?_
    simp only [Act.put, List.setIfInBounds_toArray]
    refine wpAnyM_take 1 rfl (by kernel_rfl) (by kernel_rfl) (by kernel_rfl) (by kernel_rfl) (by kernel_rfl) (fun _ _ _ h => h) hSw (by kernel_rfl) (fun w' hSx => by obtain ⟨h1, h2⟩ := hSx; have c1 := h1.cell; have c2 := h2.cell; have l1 := h1.lt; have l2 := h2.lt; go_simp; first | done | with_reducible rfl) ?_
    simp only [Act.put]
    refine wpAnyM_take 2 rfl (by kernel_rfl) (by kernel_rfl) (by kernel_rfl) (by kernel_rfl) (by kernel_rfl) (fun _ _ _ h => h) hSw (by kernel_rfl) (fun w' hSx => by obtain ⟨h1, h2⟩ := hSx; have c1 := h1.cell; have c2 := h2.cell; have l1 := h1.lt; have l2 := h2.lt; go_simp; first | done | with_reducible rfl) ?_
    simp only [Act.put]
    refine wpAnyM_take 3 rfl (by kernel_rfl) (by kernel_rfl) (by kernel_rfl) (by kernel_rfl) (by kernel_rfl) (fun _ _ _ h => h) hSw (by kernel_rfl) (fun w' hSx => by obtain ⟨h1, h2⟩ := hSx; have c1 := h1.cell; have c2 := h2.cell; have l1 := h1.lt; have l2 := h2.lt; go_simp; first | done | with_reducible rfl) ?_
    simp only [Act.put]
    refine wpAnyM_take 4 rfl (by kernel_rfl) (by kernel_rfl) (by kernel_rfl) (by kernel_rfl) (by kernel_rfl) (fun _ _ _ h => h) hSw (by kernel_rfl) (fun w' hSx => by obtain ⟨h1, h2⟩ := hSx; have c1 := h1.cell; have c2 := h2.cell; have l1 := h1.lt; have l2 := h2.lt; go_simp; first | done | with_reducible rfl) ?_
    simp only [Act.put]
    refine wpAnyM_take 5 rfl (by kernel_rfl) (by kernel_rfl) (by kernel_rfl) (by kernel_rfl) (by kernel_rfl) (fun _ _ _ h => h) hSw (by kernel_rfl) (fun w' hSx => by obtain ⟨h1, h2⟩ := hSx; have c1 := h1.cell; have c2 := h2.cell; have l1 := h1.lt; have l2 := h2.lt; go_simp; first | done | with_reducible rfl) ?_
    simp only [Act.put]
    refine wpAnyM_ready [6] (by kernel_rfl) (by simp) ?_
    refine AllReadyM.cons (by rfl) (fun K hK => ?_) AllReadyM.nil
    go_simp
    refine (HADD.out _ (show NumAt w1.drew w1.drew.heap.size a A c from HNA.out) (show NumAt w1.drew w1.drew.heap.size b B d from HNB.out)).mono ?_
    rintro e w5 ⟨A5, n5, c5, l5, rfl, hn5, hb5, hW5, hv5, hr5, hbl5⟩
    have d5 := (Below.refl w1.heap.size w1).drew.trans (hbl5.mono (Nat.le_refl _))
    have AR5 := Lib.hid (AR.out.go d5)
    have BR5 := Lib.hid (BR.out.go d5)
    have F5 := Lib.hid (HD.out.trans (d5.mono HD.out.size))
    have HNO := Lib.hid (norm_any b1 A5 n5 c5 l5 w5 (by omega) hn5 hr5 hW5)
    rw [hv5, E.out] at HNO
    have hSw : (fun w' : World => Ar2 w' w.heap.size (w.heap.size + 1) b1 A (Pl.nw a.natAbs) c b1 B (Pl.nw b.natAbs) d) w5 := AR5.out
    refine hK.out _ _ hSw ?_
    clear hK K hbl5 d5 hr5 hW5 hv5
    refine wpAnyM_ready [7] (by kernel_rfl) (by simp) ?_
    refine AllReadyM.cons (by rfl) (fun K hK => ?_) AllReadyM.nil
    go_simp
    refine HNO.out.mono ?_
    rintro e w6 ⟨rfl, hna6, hbl6⟩
    have AR6 := Lib.hid (AR5.out.go hbl6)
    have BR6 := Lib.hid (BR5.out.go hbl6)
    have F6 := Lib.hid (F5.out.trans (hbl6.mono F5.out.size))
    have HN6 := Lib.hid hna6
    have hSw : (fun w' : World => Ar2 w' w.heap.size (w.heap.size + 1) b1 A (Pl.nw a.natAbs) c b1 B (Pl.nw b.natAbs) d) w6 := AR6.out
    refine hK.out _ _ hSw ?_
    clear hK K hbl6 hna6 HNO
    have f6 := BR6.out.frozen
    have g6 := BR6.out.cell
    have l6 := BR6.out.lt
    unfold vNum
    refine wpAnyM_ready [8] (by kernel_rfl) (by simp) ?_
    refine AllReadyM.cons (by rfl) (fun K hK => ?_) AllReadyM.nil
    go_simp
    refine hK.out _ _ ((AR6.out.far (r := w.heap.size + 1 + 1) (by omega) (by omega) _ _).far (r := w.heap.size + 1 + 1) (by omega) (by omega) _ _) ?_
    clear hK K hSw f6 g6 l6
    refine wpAnyM_done (by kernel_rfl) ?_ _
    have F7 := Lib.hid (num_put BR6.out HN6.out F6.out (by omega))
    generalize ((w6.setCell ⟨w.heap.size + 1 + 1, 0, none⟩ (.bool (decide (s < 0)))).setCell ⟨w.heap.size + 1 + 1, 1, none⟩ (.slice A5 (Pl.nw s.natAbs) c5)) = w7 at *
    have k7 := F7.out.1.cell
    have k8 := F7.out.1.lt
    go_wp2_with fail
    refine bodyPost_ret (v := vNum s A5 c5) (by simp [results, Tryz.results90, go_sem, vNum, k7]) rfl ⟨A5, c5, rfl, F7.out.2⟩
  · have hbe : (b1 == b2) = false := by cases b1 <;> cases b2 <;> simp_all
    have HBB := Lib.hid hbb
    clear E1 HADD hbb
    go_enter Tryz.func90, Tryz.ntmps90
    have q1 := AR.out.1.cell
    have q2 := AR.out.2.cell
    have q3 := AR.out.1.lt
    have q4 := AR.out.2.lt
    go_wp2_with fail
    clear q1 q2 q3 q4
    generalize ((w.alloc (.cells #[.bool b1, .slice A (Pl.nw a.natAbs) c] 103)).alloc (.cells #[.bool b2, .slice B (Pl.nw b.natAbs) d] 103)).alloc (.cells #[.bool false, .slice none 0 0] 103) = w1 at *
    refine (HCMP.out _ HNA.out HNB.out).mono ?_
    rintro e w2 ⟨r, rfl, hcmp, hbl⟩
    have AR2 := Lib.hid (AR.out.go hbl)
    have BR2 := Lib.hid (BR.out.go hbl)
    have F2 := Lib.hid (HD.out.trans (hbl.mono HD.out.size))
    have HNA2 := Lib.hid (HNA.out.go hbl)
    have HNB2 := Lib.hid (HNB.out.go hbl)
    clear hbl HNA HNB HD AR BR HCMP
    by_cases hr0 : 0 ≤ r
    · have hle : b.natAbs ≤ a.natAbs := by have := hcmp.1; omega
      have HL := Lib.hid hle
      have E := Lib.hid (E2.out HBB.out hle)
      clear hle hcmp E2 E3
      go_wp2_with fail
      have hSw : (fun w' : World => Ar2 w' w.heap.size (w.heap.size + 1) b1 A (Pl.nw a.natAbs) c b2 B (Pl.nw b.natAbs) d) w2.drew := ⟨AR2.out.1.drew, AR2.out.2.drew⟩
      refine wp_region_mid (fun w' : World => Ar2 w' w.heap.size (w.heap.size + 1) b1 A (Pl.nw a.natAbs) c b2 B (Pl.nw b.natAbs) d) 9 (by kernel_rfl) ?_
      refine wpAnyM_take 0 rfl (by kernel_rfl) (by kernel_rfl) (by kernel_rfl) (by kernel_rfl) (by kernel_rfl) (fun _ _ _ h => h) hSw (by kernel_rfl) (fun w' hSx => by obtain ⟨h1, h2⟩ := hSx; have c1 := h1.cell; have c2 := h2.cell; have l1 := h1.lt; have l2 := h2.lt; go_simp; first | done | with_reducible rfl) ?_
      simp only [Act.put, List.setIfInBounds_toArray]
      refine wpAnyM_take 1 rfl (by kernel_rfl) (by kernel_rfl) (by kernel_rfl) (by kernel_rfl) (by kernel_rfl) (fun _ _ _ h => h) hSw (by kernel_rfl) (fun w' hSx => by obtain ⟨h1, h2⟩ := hSx; have c1 := h1.cell; have c2 := h2.cell; have l1 := h1.lt; have l2 := h2.lt; go_simp; first | done | with_reducible rfl) ?_
      simp only [Act.put]
      refine wpAnyM_take 2 rfl (by kernel_rfl) (by kernel_rfl) (by kernel_rfl) (by kernel_rfl) (by kernel_rfl) (fun _ _ _ h => h) hSw (by kernel_rfl) (fun w' hSx => by obtain ⟨h1, h2⟩ := hSx; have c1 := h1.cell; have c2 := h2.cell; have l1 := h1.lt; have l2 := h2.lt; go_simp; first | done | with_reducible rfl) ?_
      simp only [Act.put]
      refine wpAnyM_take 3 rfl (by kernel_rfl) (by kernel_rfl) (by kernel_rfl) (by kernel_rfl) (by kernel_rfl) (fun _ _ _ h => h) hSw (by kernel_rfl) (fun w' hSx => by obtain ⟨h1, h2⟩ := hSx; have c1 := h1.cell; have c2 := h2.cell; have l1 := h1.lt; have l2 := h2.lt; go_simp; first | done | with_reducible rfl) ?_
      simp only [Act.put]
      refine wpAnyM_take 4 rfl (by kernel_rfl) (by kernel_rfl) (by kernel_rfl) (by kernel_rfl) (by kernel_rfl) (fun _ _ _ h => h) hSw (by kernel_rfl) (fun w' hSx => by obtain ⟨h1, h2⟩ := hSx; have c1 := h1.cell; have c2 := h2.cell; have l1 := h1.lt; have l2 := h2.lt; go_simp; first | done | with_reducible rfl) ?_
      simp only [Act.put]
      refine wpAnyM_take 5 rfl (by kernel_rfl) (by kernel_rfl) (by kernel_rfl) (by kernel_rfl) (by kernel_rfl) (fun _ _ _ h => h) hSw (by kernel_rfl) (fun w' hSx => by obtain ⟨h1, h2⟩ := hSx; have c1 := h1.cell; have c2 := h2.cell; have l1 := h1.lt; have l2 := h2.lt; go_simp; first | done | with_reducible rfl) ?_
      simp only [Act.put]
      refine wpAnyM_ready [6] (by kernel_rfl) (by simp) ?_
      refine AllReadyM.cons (by rfl) (fun K hK => ?_) AllReadyM.nil
      go_simp
      refine (HS1.out _ (show NumAt w2.drew w2.drew.heap.size a A c from HNA2.out) (show NumAt w2.drew w2.drew.heap.size b B d from HNB2.out) HL.out).mono ?_
      rintro e w5 ⟨A5, n5, c5, l5, rfl, hn5, hb5, hW5, hv5, hr5, hbl5⟩
      have d5 := (Below.refl w2.heap.size w2).drew.trans (hbl5.mono (Nat.le_refl _))
      have AR5 := Lib.hid (AR2.out.go d5)
      have BR5 := Lib.hid (BR2.out.go d5)
      have F5 := Lib.hid (F2.out.trans (d5.mono F2.out.size))
      have HNO := Lib.hid (norm_any b1 A5 n5 c5 l5 w5 (by omega) hn5 hr5 hW5)
      rw [hv5, E.out] at HNO
      have hSw : (fun w' : World => Ar2 w' w.heap.size (w.heap.size + 1) b1 A (Pl.nw a.natAbs) c b2 B (Pl.nw b.natAbs) d) w5 := AR5.out
      refine hK.out _ _ hSw ?_
      clear hK K hbl5 d5 hr5 hW5 hv5
      refine wpAnyM_ready [7] (by kernel_rfl) (by simp) ?_
      refine AllReadyM.cons (by rfl) (fun K hK => ?_) AllReadyM.nil
      go_simp
      refine HNO.out.mono ?_
      rintro e w6 ⟨rfl, hna6, hbl6⟩
      have AR6 := Lib.hid (AR5.out.go hbl6)
      have BR6 := Lib.hid (BR5.out.go hbl6)
      have F6 := Lib.hid (F5.out.trans (hbl6.mono F5.out.size))
      have HN6 := Lib.hid hna6
      have hSw : (fun w' : World => Ar2 w' w.heap.size (w.heap.size + 1) b1 A (Pl.nw a.natAbs) c b2 B (Pl.nw b.natAbs) d) w6 := AR6.out
      refine hK.out _ _ hSw ?_
      clear hK K hbl6 hna6 HNO
      have f6 := BR6.out.frozen
      have g6 := BR6.out.cell
      have l6 := BR6.out.lt
      unfold vNum
      refine wpAnyM_ready [8] (by kernel_rfl) (by simp) ?_
      refine AllReadyM.cons (by rfl) (fun K hK => ?_) AllReadyM.nil
      go_simp
      refine hK.out _ _ ((AR6.out.far (r := w.heap.size + 1 + 1) (by omega) (by omega) _ _).far (r := w.heap.size + 1 + 1) (by omega) (by omega) _ _) ?_
      clear hK K hSw f6 g6 l6
      refine wpAnyM_done (by kernel_rfl) ?_ _
      have F7 := Lib.hid (num_put BR6.out HN6.out F6.out (by omega))
      generalize ((w6.setCell ⟨w.heap.size + 1 + 1, 0, none⟩ (.bool (decide (s < 0)))).setCell ⟨w.heap.size + 1 + 1, 1, none⟩ (.slice A5 (Pl.nw s.natAbs) c5)) = w7 at *
      have k7 := F7.out.1.cell
      have k8 := F7.out.1.lt
      go_wp2_with fail
      refine bodyPost_ret (v := vNum s A5 c5) (by simp [results, Tryz.results90, go_sem, vNum, k7]) rfl ⟨A5, c5, rfl, F7.out.2⟩
    · have hle : a.natAbs ≤ b.natAbs := by have := hcmp.1; omega
      have HL := Lib.hid hle
      have E := Lib.hid (E3.out HBB.out hle)
      clear hle hcmp E2 E3
      go_wp2_with fail
      have hSw : (fun w' : World => Ar2 w' w.heap.size (w.heap.size + 1) b1 A (Pl.nw a.natAbs) c b2 B (Pl.nw b.natAbs) d) w2.drew := ⟨AR2.out.1.drew, AR2.out.2.drew⟩
      refine wp_region_mid (fun w' : World => Ar2 w' w.heap.size (w.heap.size + 1) b1 A (Pl.nw a.natAbs) c b2 B (Pl.nw b.natAbs) d) 9 (by kernel_rfl) ?_
      refine wpAnyM_take 0 rfl (by kernel_rfl) (by kernel_rfl) (by kernel_rfl) (by kernel_rfl) (by kernel_rfl) (fun _ _ _ h => h) hSw (by kernel_rfl) (fun w' hSx => by obtain ⟨h1, h2⟩ := hSx; have c1 := h1.cell; have c2 := h2.cell; have l1 := h1.lt; have l2 := h2.lt; go_simp; first | done | with_reducible rfl) ?_
      simp only [Act.put, List.setIfInBounds_toArray]
      refine wpAnyM_take 1 rfl (by kernel_rfl) (by kernel_rfl) (by kernel_rfl) (by kernel_rfl) (by kernel_rfl) (fun _ _ _ h => h) hSw (by kernel_rfl) (fun w' hSx => by obtain ⟨h1, h2⟩ := hSx; have c1 := h1.cell; have c2 := h2.cell; have l1 := h1.lt; have l2 := h2.lt; go_simp; first | done | with_reducible rfl) ?_
      simp only [Act.put]
      refine wpAnyM_take 2 rfl (by kernel_rfl) (by kernel_rfl) (by kernel_rfl) (by kernel_rfl) (by kernel_rfl) (fun _ _ _ h => h) hSw (by kernel_rfl) (fun w' hSx => by obtain ⟨h1, h2⟩ := hSx; have c1 := h1.cell; have c2 := h2.cell; have l1 := h1.lt; have l2 := h2.lt; go_simp; first | done | with_reducible rfl) ?_
      simp only [Act.put]
      refine wpAnyM_take 3 rfl (by kernel_rfl) (by kernel_rfl) (by kernel_rfl) (by kernel_rfl) (by kernel_rfl) (fun _ _ _ h => h) hSw (by kernel_rfl) (fun w' hSx => by obtain ⟨h1, h2⟩ := hSx; have c1 := h1.cell; have c2 := h2.cell; have l1 := h1.lt; have l2 := h2.lt; go_simp; first | done | with_reducible rfl) ?_
      simp only [Act.put]
      refine wpAnyM_take 4 rfl (by kernel_rfl) (by kernel_rfl) (by kernel_rfl) (by kernel_rfl) (by kernel_rfl) (fun _ _ _ h => h) hSw (by kernel_rfl) (fun w' hSx => by obtain ⟨h1, h2⟩ := hSx; have c1 := h1.cell; have c2 := h2.cell; have l1 := h1.lt; have l2 := h2.lt; go_simp; first | done | with_reducible rfl) ?_
      simp only [Act.put]
      refine wpAnyM_take 5 rfl (by kernel_rfl) (by kernel_rfl) (by kernel_rfl) (by kernel_rfl) (by kernel_rfl) (fun _ _ _ h => h) hSw (by kernel_rfl) (fun w' hSx => by obtain ⟨h1, h2⟩ := hSx; have c1 := h1.cell; have c2 := h2.cell; have l1 := h1.lt; have l2 := h2.lt; go_simp; first | done | with_reducible rfl) ?_
      simp only [Act.put]
      refine wpAnyM_ready [6] (by kernel_rfl) (by simp) ?_
      refine AllReadyM.cons (by rfl) (fun K hK => ?_) AllReadyM.nil
      go_simp
      refine (HS2.out _ (show NumAt w2.drew w2.drew.heap.size a A c from HNA2.out) (show NumAt w2.drew w2.drew.heap.size b B d from HNB2.out) HL.out).mono ?_
      rintro e w5 ⟨A5, n5, c5, l5, rfl, hn5, hb5, hW5, hv5, hr5, hbl5⟩
      have d5 := (Below.refl w2.heap.size w2).drew.trans (hbl5.mono (Nat.le_refl _))
      have AR5 := Lib.hid (AR2.out.go d5)
      have BR5 := Lib.hid (BR2.out.go d5)
      have F5 := Lib.hid (F2.out.trans (d5.mono F2.out.size))
      have HNO := Lib.hid (norm_any b2 A5 n5 c5 l5 w5 (by omega) hn5 hr5 hW5)
      rw [hv5, E.out] at HNO
      have hSw : (fun w' : World => Ar2 w' w.heap.size (w.heap.size + 1) b1 A (Pl.nw a.natAbs) c b2 B (Pl.nw b.natAbs) d) w5 := AR5.out
      refine hK.out _ _ hSw ?_
      clear hK K hbl5 d5 hr5 hW5 hv5
      refine wpAnyM_ready [7] (by kernel_rfl) (by simp) ?_
      refine AllReadyM.cons (by rfl) (fun K hK => ?_) AllReadyM.nil
      go_simp
      refine HNO.out.mono ?_
      rintro e w6 ⟨rfl, hna6, hbl6⟩
      have AR6 := Lib.hid (AR5.out.go hbl6)
      have BR6 := Lib.hid (BR5.out.go hbl6)
      have F6 := Lib.hid (F5.out.trans (hbl6.mono F5.out.size))
      have HN6 := Lib.hid hna6
      have hSw : (fun w' : World => Ar2 w' w.heap.size (w.heap.size + 1) b1 A (Pl.nw a.natAbs) c b2 B (Pl.nw b.natAbs) d) w6 := AR6.out
      refine hK.out _ _ hSw ?_
      clear hK K hbl6 hna6 HNO
      have f6 := BR6.out.frozen
      have g6 := BR6.out.cell
      have l6 := BR6.out.lt
      unfold vNum
      refine wpAnyM_ready [8] (by kernel_rfl) (by simp) ?_
      refine AllReadyM.cons (by rfl) (fun K hK => ?_) AllReadyM.nil
      go_simp
      refine hK.out _ _ ((AR6.out.far (r := w.heap.size + 1 + 1) (by omega) (by omega) _ _).far (r := w.heap.size + 1 + 1) (by omega) (by omega) _ _) ?_
      clear hK K hSw f6 g6 l6
      refine wpAnyM_done (by kernel_rfl) ?_ _
      have F7 := Lib.hid (num_put BR6.out HN6.out F6.out (by omega))
      generalize ((w6.setCell ⟨w.heap.size + 1 + 1, 0, none⟩ (.bool (decide (s < 0)))).setCell ⟨w.heap.size + 1 + 1, 1, none⟩ (.slice A5 (Pl.nw s.natAbs) c5)) = w7 at *
      have k7 := F7.out.1.cell
      have k8 := F7.out.1.lt
      go_wp2_with fail
      refine bodyPost_ret (v := vNum s A5 c5) (by simp [results, Tryz.results90, go_sem, vNum, k7]) rfl ⟨A5, c5, rfl, F7.out.2⟩
end Go.Proofs.YtoblpcljhblnmaaGreatDoor
namespace Go.Proofs.YtoblpcljhblnmaaGreatDoor
open Go.RowKit
set_option maxRecDepth 100000
theorem sgn_mul (a b : Int) : sgn (decide (a < 0) != decide (b < 0)) (a.natAbs * b.natAbs) = a * b := by
  unfold sgn
  have key : ((a.natAbs * b.natAbs : Nat) : Int) = (a.natAbs : Int) * (b.natAbs : Int) := Int.natCast_mul _ _
  rw [key]
  by_cases ha : a < 0 <;> by_cases hb : b < 0
  · have e1 : (a.natAbs : Int) = -a := by omega
    have e2 : (b.natAbs : Int) = -b := by omega
    simp only [ha, hb, decide_true, bne_self_eq_false, Bool.false_eq_true, if_false, e1, e2, Int.neg_mul_neg]
  · have e1 : (a.natAbs : Int) = -a := by omega
    have e2 : (b.natAbs : Int) = b := by omega
    simp [ha, hb, e1, e2, Int.neg_mul]
  · have e1 : (a.natAbs : Int) = a := by omega
    have e2 : (b.natAbs : Int) = -b := by omega
    simp [ha, hb, e1, e2, Int.mul_neg]
  · have e1 : (a.natAbs : Int) = a := by omega
    have e2 : (b.natAbs : Int) = b := by omega
    simp [ha, hb, e1, e2]
structure MulW (w0 w : World) (b1 : Bool) (A1 : Option Addr) (n1 c1 : Nat) (b2 : Bool) (A2 : Option Addr) (n2 c2 : Nat) (g : Nat) (o : List Nat) : Prop where
  ar : Ar2 w w0.heap.size (w0.heap.size + 1) b1 A1 n1 c1 b2 A2 n2 c2
  res : Blk w (w0.heap.size + 1 + 1) 103 #[.bool false, .slice none 0 0]
  out : WB w g o
  w32 : Pl.W32 o
  bel : Below w0.heap.size w0 w
  gt : w0.heap.size + 1 + 1 < g
theorem MulW.set_ {w0 w : World} {b1 : Bool} {A1 : Option Addr} {n1 c1 : Nat} {b2 : Bool} {A2 : Option Addr} {n2 c2 g : Nat} {o : List Nat} (h : MulW w0 w b1 A1 n1 c1 b2 A2 n2 c2 g o) (k : Nat) {x : Nat} (hx : x < 4294967296) : MulW w0 (w.setCell ⟨g, k, none⟩ (.int .u32 (x : Int))) b1 A1 n1 c1 b2 A2 n2 c2 g (o.set k x) := by
  have := h.gt
  exact ⟨h.ar.far (by omega) (by omega) _ _, h.res.far (by show _ ≠ g; omega) _, h.out.set_ k x, h.w32.set k hx, h.bel.setCell (by show _ ≤ g; omega) _, h.gt⟩
set_option maxHeartbeats 6400000 in
theorem mul_any (a b : Int) (A : Option Addr) (c : Nat) (B : Option Addr) (d : Nat) (w : World) (ha : NumAt w w.heap.size a A c) (hb : NumAt w w.heap.size b B d) (sa : Pl.nw a.natAbs ≤ 35184372088832) (sb : Pl.nw b.natAbs ≤ 35184372088832) :
    Calls Tryz.prog 89 #[vNum a A c, vNum b B d] w (NumSaid (a * b) w) := by
  obtain ⟨hA, hB, hR, hD, hsz⟩ := boxes3 w #[.bool (decide (a < 0)), .slice A (Pl.nw a.natAbs) c] #[.bool (decide (b < 0)), .slice B (Pl.nw b.natAbs) d] #[.bool false, .slice none 0 0] 103
  have HNA := Lib.hid (ha.go hD)
  have HNB := Lib.hid (hb.go hD)
  have E := Lib.hid (sgn_mul a b)
  have HLA : Hid (Pl.lv (Pl.digs a.natAbs) = a.natAbs ∧ (Pl.digs a.natAbs).length = Pl.nw a.natAbs ∧ Pl.W32 (Pl.digs a.natAbs)) := ⟨Pl.lv_digs _, rfl, (Pl.digs_can _).1⟩
  have HLB : Hid (Pl.lv (Pl.digs b.natAbs) = b.natAbs ∧ (Pl.digs b.natAbs).length = Pl.nw b.natAbs ∧ Pl.W32 (Pl.digs b.natAbs)) := ⟨Pl.lv_digs _, rfl, (Pl.digs_can _).1⟩
  have HRA := Lib.hid HNA.out.2
  have HRB := Lib.hid HNB.out.2
  clear ha hb HNA HNB
  unfold vNum
  generalize Pl.digs a.natAbs = la at *
  generalize Pl.digs b.natAbs = lb at *
  generalize a * b = s at *
  generalize decide (a < 0) = b1 at *
  generalize decide (b < 0) = b2 at *
  generalize Pl.nw a.natAbs = n at *
  generalize Pl.nw b.natAbs = m at *
  obtain ⟨z, hz⟩ : ∃ z : Nat, z = n + m := ⟨_, rfl⟩
  have wz : IntKind.i64.wrap ((n : Int) + (m : Int)) = (z : Int) := by rw [show (z : Int) = (n : Int) + m by omega]; exact IntWalk.i64_in _ (by omega)
  have hmk := fun W => make_u32 z (by omega) W
  have HZ := Lib.hid hz
  have hzn : n ≤ z := by omega
  have hzb : z ≤ 70368744177664 := by omega
  clear hz
  have q1 := hA.cell
  have q2 := hB.cell
  have q3 := hA.lt
  have q4 := hB.lt
  have HAR := Lib.hid (And.intro hA (And.intro hB (And.intro hR (And.intro hD hsz))))
  clear hA hB hR hD hsz
  go_enter Tryz.func89, Tryz.ntmps89
  go_wp2_with fail
  have D9 := (Below.refl (((w.alloc (.cells #[.bool b1, .slice A n c] 103)).alloc (.cells #[.bool b2, .slice B m d] 103)).alloc (.cells #[.bool false, .slice none 0 0] 103)).heap.size (((w.alloc (.cells #[.bool b1, .slice A n c] 103)).alloc (.cells #[.bool b2, .slice B m d] 103)).alloc (.cells #[.bool false, .slice none 0 0] 103))).alloc (Nat.le_refl _) (.cells (u32s (List.replicate z 0)).toArray 225)
  have HM : Hid (MulW w _ b1 A n c b2 B m d (w.heap.size + 1 + 1 + 1) (List.replicate z 0)) := ⟨⟨HAR.out.1.go D9, HAR.out.2.1.go D9⟩, HAR.out.2.2.1.go D9, by have := WB.new_ (((w.alloc (.cells #[.bool b1, .slice A n c] 103)).alloc (.cells #[.bool b2, .slice B m d] 103)).alloc (.cells #[.bool false, .slice none 0 0] 103)) z; rw [HAR.out.2.2.2.2] at this; exact this, Pl.W32.zeros z, HAR.out.2.2.2.1.trans (D9.mono HAR.out.2.2.2.1.size), Nat.lt_succ_self _⟩
  have HB1 : Hid ((((w.alloc (.cells #[.bool b1, .slice A n c] 103)).alloc (.cells #[.bool b2, .slice B m d] 103)).alloc (.cells #[.bool false, .slice none 0 0] 103)).heap.size = w.heap.size + 1 + 1 + 1) := HAR.out.2.2.2.2
  generalize ((((w.alloc (.cells #[.bool b1, .slice A n c] 103)).alloc (.cells #[.bool b2, .slice B m d] 103)).alloc (.cells #[.bool false, .slice none 0 0] 103)).alloc (.cells (u32s (List.replicate z 0)).toArray 225)) = w1 at *
  generalize (((w.alloc (.cells #[.bool b1, .slice A n c] 103)).alloc (.cells #[.bool b2, .slice B m d] 103)).alloc (.cells #[.bool false, .slice none 0 0] 103)) = w3 at *
  have HRA2 := Lib.hid (HRA.out.below D9)
  have HRB2 := Lib.hid (HRB.out.below D9)
  have hs1 : w3.heap.size ≤ w1.heap.size := D9.size
  clear HAR q1 q2 q3 q4 D9 HRA HRB hmk wz
  go_loopw [22] (fun iv wr => ∃ (i : Nat) (o : List Nat), i ≤ n ∧ iv = .int .i64 (i : Int) ∧ Hid (MulW w wr b1 A n c b2 B m d (w.heap.size + 1 + 1 + 1) o) ∧ Hid (o.length = z ∧ Pl.lv o = Pl.lv (la.take i) * Pl.lv lb ∧ ∀ j (hj : j < o.length), i + m ≤ j → o[j] = 0) ∧ Hid (Below w3.heap.size w1 wr)) (fun iv _ => n - (intOf iv).toNat)
  case atStart => exact ⟨0, _, Nat.zero_le _, rfl, HM.out, Lib.hid ⟨by simp, by rw [Pl.lv_zeros, List.take_zero]; simp [Pl.lv], fun j hj _ => by simp⟩, Below.refl _ _⟩
  case round =>
    obtain ⟨i, o, hi, rfl, HW, HO, HD⟩ := hrel
    clear HM
    by_cases hlt : i < n
    · obtain ⟨bA, oA, rfl, hbA, hil, y0⟩ := u32_at (HRA2.out.below HD.out) hlt
      have hbr : bA < wr.heap.size := by have := HD.out.size; omega
      have hxb := HLA.out.2.2.at_ hil
      have HX : Hid (∃ x, x = la[i]) := ⟨_, rfl⟩
      obtain ⟨x, hx⟩ := HX.out
      rw [← hx] at y0 hxb
      have HXE := Lib.hid hx
      clear hx HX
      have i0 : (0 : Int) ≤ (i : Int) := by omega
      have i1 : (i : Int) < (n : Int) := by omega
      have q1 := HW.out.ar.1.cell
      have q2 := HW.out.ar.2.cell
      have q3 := HW.out.ar.1.lt
      have q4 := HW.out.ar.2.lt
      go_wp2_with fail
      clear q1 q2 q3 q4 y0
      go_loopw [8, 30] (fun cv kv wq => ∃ (k cy : Nat) (p : List Nat), k ≤ m ∧ kv = .int .i64 (k : Int) ∧ cv = .int .u64 (cy : Int) ∧ cy < 4294967296 ∧ Hid (MulW w wq b1 (some ⟨bA, oA, none⟩) n c b2 B m d (w.heap.size + 1 + 1 + 1) p) ∧ Hid (p.length = z ∧ Pl.lv p + 4294967296 ^ (i + k) * cy = Pl.lv (la.take i) * Pl.lv lb + 4294967296 ^ i * (x * Pl.lv (lb.take k)) ∧ ∀ j (hj : j < p.length), i + m ≤ j → p[j] = 0) ∧ Hid (Below w3.heap.size w1 wq)) (fun _ kv _ => m - (intOf kv).toNat)
      case atStart => exact ⟨0, 0, o, Nat.zero_le _, rfl, rfl, by omega, HW.out, Lib.hid ⟨HO.out.1, by rw [List.take_zero, HO.out.2.1]; simp [Pl.lv], HO.out.2.2⟩, HD.out⟩
      case round =>
        obtain ⟨k, cy, p, hk, rfl, rfl, hcy, HWQ, HP, HQ⟩ := hrel
        clear HW HO HD
        by_cases hkm : k < m
        · obtain ⟨bB, oB, rfl, hbB, hkl, y1⟩ := u32_at (HRB2.out.below HQ.out) hkm
          have hbr2 : bB < wr.heap.size := by have := HQ.out.size; omega
          have hyb := HLB.out.2.2.at_ hkl
          have HY : Hid (∃ y, y = lb[k]) := ⟨_, rfl⟩
          obtain ⟨y, hy⟩ := HY.out
          rw [← hy] at y1 hyb
          have HYE := Lib.hid hy
          clear hy HY
          have k0 : (0 : Int) ≤ (k : Int) := by omega
          have k1 : (k : Int) < (m : Int) := by omega
          obtain ⟨e, he⟩ : ∃ e : Nat, e = i + k := ⟨_, rfl⟩
          have wik : IntKind.i64.wrap ((i : Int) + (k : Int)) = (e : Int) := by rw [show (e : Int) = (i : Int) + k by omega]; exact IntWalk.i64_in _ (by omega)
          have hez : e < z := by have := HZ.out; omega
          have hel : e < p.length := by rw [HP.out.1]; exact hez
          have e0 : (0 : Int) ≤ (e : Int) := by omega
          have e1 : (e : Int) < (z : Int) := by omega
          have c0 := HWQ.out.out.at_ hel
          have f0 := HWQ.out.out.frozen e
          have l0 := HWQ.out.out.lt
          have hpe := HWQ.out.w32.at_ hel
          have HV : Hid (∃ v, v = p[e]) := ⟨_, rfl⟩
          obtain ⟨v, hv⟩ := HV.out
          rw [← hv] at c0 hpe
          have HVE := Lib.hid hv
          clear hv HV
          obtain ⟨u, hu⟩ : ∃ u : Nat, u = x * y := ⟨_, rfl⟩
          have hub : u ≤ 18446744065119617025 := by
            rw [hu]
            exact Nat.mul_le_mul (show x ≤ 4294967295 by omega) (show y ≤ 4294967295 by omega)
          have wu : IntKind.u64.wrap ((x : Int) * (y : Int)) = (u : Int) := by rw [hu, Int.natCast_mul]; exact IntWalk.u64_in _ (by rw [← Int.natCast_mul, ← hu]; omega)
          have wv : IntKind.u64.wrap ((v : Int) + (u : Int)) = (v : Int) + (u : Int) := IntWalk.u64_in _ (by omega)
          obtain ⟨t, ht⟩ : ∃ t : Nat, t = cy + v + u := ⟨_, rfl⟩
          have wt : IntKind.u64.wrap ((cy : Int) + ((v : Int) + (u : Int))) = (t : Int) := by rw [show (t : Int) = (cy : Int) + ((v : Int) + (u : Int)) by omega]; exact IntWalk.u64_in _ (by omega)
          obtain ⟨r, hr⟩ : ∃ r, r = t % 4294967296 := ⟨_, rfl⟩
          obtain ⟨q, hq⟩ : ∃ q, q = t / 4294967296 := ⟨_, rfl⟩
          have em : (t : Int) % 4294967296 = (r : Int) := by omega
          have ed : (t : Int) / 4294967296 = (q : Int) := by omega
          have hq1 : q < 4294967296 := by omega
          have hrb : r < 4294967296 := by omega
          have HW2 := Lib.hid (HWQ.out.set_ e hrb)
          have HP2 : Hid ((p.set e r).length = z ∧ Pl.lv (p.set e r) + 4294967296 ^ (i + (k + 1)) * q = Pl.lv (la.take i) * Pl.lv lb + 4294967296 ^ i * (x * Pl.lv (lb.take (k + 1))) ∧ ∀ j (hj : j < (p.set e r).length), i + m ≤ j → (p.set e r)[j] = 0) := by
            refine ⟨by rw [List.length_set]; exact HP.out.1, ?_, fun j hj hjm => ?_⟩
            · have h1 := HP.out.2.1
              rw [← he] at h1
              have h2 := Pl.mul_step hel h1 (s := t) (z := u) (by rw [← HVE.out]; exact ht)
              rw [← hr, ← hq] at h2
              rw [show i + (k + 1) = e + 1 by omega, h2, Pl.lv_take_succ hkl, ← HYE.out, hu, he, Nat.pow_add, Nat.mul_add, Nat.mul_add]
              have h3 : 4294967296 ^ i * 4294967296 ^ k * (x * y) = 4294967296 ^ i * (x * (4294967296 ^ k * y)) := by
                rw [Nat.mul_assoc, Nat.mul_left_comm (4294967296 ^ k)]
              rw [h3]
              omega
            · rw [List.getElem_set_ne (by omega)]
              exact HP.out.2.2 j (by rw [List.length_set] at hj; exact hj) hjm
          have HQ2 : Hid (Below w3.heap.size w1 (wr.setCell ⟨w.heap.size + 1 + 1 + 1, e, none⟩ (.int .u32 (r : Int)))) := HQ.out.setCell (by rw [HB1.out]; exact Nat.le_refl _) _
          clear HP HWQ HQ hr hq ht hu he
          go_wp2_with fail
          refine ⟨⟨k + 1, q, _, by omega, by go_num, rfl, hq1, HW2, HP2, HQ2⟩, ?_⟩
          simp [intOf]; omega
        · have hkk : k = m := by omega
          subst hkk
          have k1 : ¬ (k : Int) < (k : Int) := by omega
          obtain ⟨e, he⟩ : ∃ e : Nat, e = i + k := ⟨_, rfl⟩
          have wik : IntKind.i64.wrap ((i : Int) + (k : Int)) = (e : Int) := by rw [show (e : Int) = (i : Int) + k by omega]; exact IntWalk.i64_in _ (by omega)
          have hez : e < z := by have := HZ.out; omega
          have hel : e < p.length := by rw [HP.out.1]; exact hez
          have e0 : (0 : Int) ≤ (e : Int) := by omega
          have e1 : (e : Int) < (z : Int) := by omega
          obtain ⟨v0, c0⟩ := HWQ.out.out.ex hel
          have f0 := HWQ.out.out.frozen e
          have l0 := HWQ.out.out.lt
          have q2 := HWQ.out.ar.2.cell
          have q4 := HWQ.out.ar.2.lt
          have em : (cy : Int) % 4294967296 = (cy : Int) := by omega
          have HW2 := Lib.hid (HWQ.out.set_ e hcy)
          have HP2 : Hid ((p.set e cy).length = z ∧ Pl.lv (p.set e cy) = Pl.lv (la.take (i + 1)) * Pl.lv lb ∧ ∀ j (hj : j < (p.set e cy).length), i + 1 + k ≤ j → (p.set e cy)[j] = 0) := by
            refine ⟨by rw [List.length_set]; exact HP.out.1, ?_, fun j hj hjm => ?_⟩
            · have h1 := HP.out.2.1
              have h2 := Pl.lv_set hel cy
              rw [HP.out.2.2 e hel (by omega)] at h2
              rw [take_all HLB.out.2.1 (Nat.le_refl _), ← he] at h1
              rw [Pl.lv_take_succ hil, ← HXE.out, Nat.add_mul, Nat.mul_assoc]
              omega
            · rw [List.getElem_set_ne (by omega)]
              exact HP.out.2.2 j (by rw [List.length_set] at hj; exact hj) (by omega)
          have HQ2 : Hid (Below w3.heap.size w1 (wr.setCell ⟨w.heap.size + 1 + 1 + 1, e, none⟩ (.int .u32 (cy : Int)))) := HQ.out.setCell (by rw [HB1.out]; exact Nat.le_refl _) _
          clear HP HWQ HQ he
          go_wp2_with fail
          refine ⟨⟨i + 1, _, by omega, by go_num, HW2, HP2, HQ2⟩, ?_⟩
          simp [intOf]; omega
    · have hii : i = n := by omega
      subst hii
      have i1 : ¬ (i : Int) < (i : Int) := by omega
      have q1 := HW.out.ar.1.cell
      have q2 := HW.out.ar.2.cell
      have q3 := HW.out.ar.1.lt
      have q4 := HW.out.ar.2.lt
      have HNO := Lib.hid (norm_any (b1 != b2) (some ⟨w.heap.size + 1 + 1 + 1, 0, none⟩) z z o wr (by omega) (Nat.le_refl _) (by have := HW.out.out.reads; rw [HO.out.1] at this; exact this) HW.out.w32)
      have hv : sgn (b1 != b2) (Pl.lv o) = s := by
        rw [HO.out.2.1, take_all HLA.out.2.1 (Nat.le_refl _), HLA.out.1, HLB.out.1]
        exact E.out
      rw [hv] at HNO
      clear hv
      go_wp2_with fail
      refine HNO.out.mono ?_
      rintro e w6 ⟨rfl, hna6, hbl6⟩
      have BR6 := Lib.hid (HW.out.res.go hbl6)
      have F6 := Lib.hid (HW.out.bel.trans (hbl6.mono HW.out.bel.size))
      have HN6 := Lib.hid hna6
      clear HNO hna6 hbl6 HW HO HD q1 q2 q3 q4
      have f6 := BR6.out.frozen
      have g6 := BR6.out.cell
      have l6 := BR6.out.lt
      unfold vNum
      go_wp2_with fail
      have F7 := Lib.hid (num_put BR6.out HN6.out F6.out (by omega))
      have k7 := F7.out.1.cell
      refine bodyPost_ret (v := vNum s (some ⟨w.heap.size + 1 + 1 + 1, 0, none⟩) z) (by simp [results, Tryz.results89, go_sem, vNum, k7]) rfl ⟨_, z, rfl, F7.out.2⟩
end Go.Proofs.YtoblpcljhblnmaaGreatDoor
namespace Go.Proofs.YtoblpcljhblnmaaGreatDoor
open Go.RowKit
set_option maxRecDepth 100000
set_option maxHeartbeats 3200000 in
theorem isub_any (a b : Int) (A : Option Addr) (c : Nat) (B : Option Addr) (d : Nat) (w : World) (ha : NumAt w w.heap.size a A c) (hb : NumAt w w.heap.size b B d) (sa : Pl.nw a.natAbs ≤ 35184372088832) (sb : Pl.nw b.natAbs ≤ 35184372088832) :
    Calls Tryz.prog 137 #[vNum a A c, vNum b B d] w (NumSaid (a - b) w) := by
  obtain ⟨hA, hB, hR, hD, hsz⟩ := boxes3 w #[.bool (decide (a < 0)), .slice A (Pl.nw a.natAbs) c] #[.bool (decide (b < 0)), .slice B (Pl.nw b.natAbs) d] #[.bool false, .slice none 0 0] 103
  have sy : Pl.nw (-b).natAbs ≤ 35184372088832 := by rw [Int.natAbs_neg]; exact sb
  have HNEG := Lib.hid (fun W (x : NumAt W W.heap.size b B d) => neg_any b B d W (by omega) x)
  have E : Hid (a + -b = a - b) := by show _ = _; omega
  have HNA := Lib.hid (ha.go hD)
  have HNB := Lib.hid (hb.go hD)
  generalize -b = y at *
  have HADD := Lib.hid (fun W (x : NumAt W W.heap.size a A c) (z : NumAt W W.heap.size y B d) => add_any a y A c B d W x z sa sy)
  rw [E.out] at HADD
  clear ha hb E
  unfold vNum at HNEG HADD
  unfold vNum
  generalize a - b = s at *
  generalize decide (a < 0) = b1 at *
  generalize decide (b < 0) = b2 at *
  have BR := Lib.hid hR
  have AR : Hid (Ar2 _ w.heap.size (w.heap.size + 1) b1 A (Pl.nw a.natAbs) c b2 B (Pl.nw b.natAbs) d) := ⟨hA, hB⟩
  have HD := Lib.hid hD
  have HSZ := Lib.hid hsz
  clear hA hB hR hD hsz
  go_enter Tryz.func137, Tryz.ntmps137
  go_wp2_with fail
  generalize ((w.alloc (.cells #[.bool b1, .slice A (Pl.nw a.natAbs) c] 103)).alloc (.cells #[.bool b2, .slice B (Pl.nw b.natAbs) d] 103)).alloc (.cells #[.bool false, .slice none 0 0] 103) = w1 at *
  have hSw : (fun w' : World => Ar2 w' w.heap.size (w.heap.size + 1) b1 A (Pl.nw a.natAbs) c b2 B (Pl.nw b.natAbs) d) w1.drew := ⟨AR.out.1.drew, AR.out.2.drew⟩
  refine wp_region_mid (fun w' : World => Ar2 w' w.heap.size (w.heap.size + 1) b1 A (Pl.nw a.natAbs) c b2 B (Pl.nw b.natAbs) d) 5 (by kernel_rfl) ?_
  refine wpAnyM_take 0 rfl (by kernel_rfl) (by kernel_rfl) (by kernel_rfl) (by kernel_rfl) (by kernel_rfl) (fun _ _ _ h => h) hSw (by kernel_rfl) (fun w' hSx => by obtain ⟨h1, h2⟩ := hSx; have c1 := h1.cell; have c2 := h2.cell; have l1 := h1.lt; have l2 := h2.lt; go_simp; first | done | with_reducible rfl) ?_
  simp only [Act.put, List.setIfInBounds_toArray]
  refine wpAnyM_take 1 rfl (by kernel_rfl) (by kernel_rfl) (by kernel_rfl) (by kernel_rfl) (by kernel_rfl) (fun _ _ _ h => h) hSw (by kernel_rfl) (fun w' hSx => by obtain ⟨h1, h2⟩ := hSx; have c1 := h1.cell; have c2 := h2.cell; have l1 := h1.lt; have l2 := h2.lt; go_simp; first | done | with_reducible rfl) ?_
  simp only [Act.put]
  refine wpAnyM_ready [2] (by kernel_rfl) (by simp) ?_
  refine AllReadyM.cons (by rfl) (fun K hK => ?_) AllReadyM.nil
  go_simp
  refine (HNEG.out _ (show NumAt w1.drew w1.drew.heap.size b B d from HNB.out)).mono ?_
  rintro e w5 ⟨rfl, hna5, hbl5⟩
  have d5 := (Below.refl w1.heap.size w1).drew.trans (hbl5.mono (Nat.le_refl _))
  have AR5 := Lib.hid (AR.out.go d5)
  have BR5 := Lib.hid (BR.out.go d5)
  have F5 := Lib.hid (HD.out.trans (d5.mono HD.out.size))
  have HA5 := Lib.hid (HNA.out.go d5)
  have HY5 := Lib.hid hna5
  have hSw : (fun w' : World => Ar2 w' w.heap.size (w.heap.size + 1) b1 A (Pl.nw a.natAbs) c b2 B (Pl.nw b.natAbs) d) w5 := AR5.out
  refine hK.out _ _ hSw ?_
  clear hK K hbl5 d5 hna5 HNEG
  refine wpAnyM_ready [3] (by kernel_rfl) (by simp) ?_
  refine AllReadyM.cons (by rfl) (fun K hK => ?_) AllReadyM.nil
  go_simp
  refine (HADD.out w5 HA5.out HY5.out).mono ?_
  rintro e w6 ⟨A6, c6, rfl, hna6, hbl6⟩
  have AR6 := Lib.hid (AR5.out.go hbl6)
  have BR6 := Lib.hid (BR5.out.go hbl6)
  have F6 := Lib.hid (F5.out.trans (hbl6.mono F5.out.size))
  have HN6 := Lib.hid hna6
  have hSw : (fun w' : World => Ar2 w' w.heap.size (w.heap.size + 1) b1 A (Pl.nw a.natAbs) c b2 B (Pl.nw b.natAbs) d) w6 := AR6.out
  refine hK.out _ _ hSw ?_
  clear hK K hbl6 hna6 HADD
  have f6 := BR6.out.frozen
  have g6 := BR6.out.cell
  have l6 := BR6.out.lt
  unfold vNum
  refine wpAnyM_ready [4] (by kernel_rfl) (by simp) ?_
  refine AllReadyM.cons (by rfl) (fun K hK => ?_) AllReadyM.nil
  go_simp
  refine hK.out _ _ ((AR6.out.far (r := w.heap.size + 1 + 1) (by omega) (by omega) _ _).far (r := w.heap.size + 1 + 1) (by omega) (by omega) _ _) ?_
  clear hK K hSw f6 g6 l6
  refine wpAnyM_done (by kernel_rfl) ?_ _
  have F7 := Lib.hid (num_put BR6.out HN6.out F6.out (by omega))
  generalize ((w6.setCell ⟨w.heap.size + 1 + 1, 0, none⟩ (.bool (decide (s < 0)))).setCell ⟨w.heap.size + 1 + 1, 1, none⟩ (.slice A6 (Pl.nw s.natAbs) c6)) = w7 at *
  have k7 := F7.out.1.cell
  have k8 := F7.out.1.lt
  go_wp2_with fail
  refine bodyPost_ret (v := vNum s A6 c6) (by simp [results, Tryz.results137, go_sem, vNum, k7]) rfl ⟨A6, c6, rfl, F7.out.2⟩
theorem sign_any (z : Int) (A : Option Addr) (c : Nat) (w : World) : Calls Tryz.prog 121 #[vNum z A c] w fun e w' => e = .returned (.int .i64 z.sign) ∧ Below w.heap.size w w' := by
  have B0 := Lib.hid (Blk.new_ w w.heap.size 103 #[.bool (decide (z < 0)), .slice A (Pl.nw z.natAbs) c] rfl)
  have D := Lib.hid ((Below.refl w.heap.size w).alloc (Nat.le_refl _) (.cells #[.bool (decide (z < 0)), .slice A (Pl.nw z.natAbs) c] 103))
  have b0 := B0.out.cell
  have l0 := B0.out.lt
  unfold vNum
  by_cases h0 : z = 0
  · have hn : Pl.nw z.natAbs = 0 := by rw [h0]; exact Pl.nw_zero
    have hs : z.sign = 0 := by rw [h0]; rfl
    rw [hn] at b0 l0 D ⊢
    rw [hs]
    clear hn hs h0
    generalize decide (z < 0) = b at *
    go_enter Tryz.func121, Tryz.ntmps121
    go_wp2_with fail
    go_ret
    exact ⟨rfl, D.out⟩
  · have hn : ((Pl.nw z.natAbs : Int) == 0) = false := by
      have : Pl.nw z.natAbs ≠ 0 := fun e => by have := Pl.digs_nil.1 (List.eq_nil_of_length_eq_zero e); omega
      simpa using this
    by_cases hz : z < 0
    · have hs : z.sign = -1 := Int.sign_eq_neg_one_of_neg hz
      have hd : decide (z < 0) = true := decide_eq_true hz
      rw [hd] at b0 l0 D ⊢
      rw [hs]
      generalize Pl.nw z.natAbs = n at *
      clear hs hz h0 hd
      go_enter Tryz.func121, Tryz.ntmps121
      go_wp2_with fail
      go_ret
      exact ⟨rfl, D.out⟩
    · have hs : z.sign = 1 := Int.sign_eq_one_of_pos (by omega)
      have hd : decide (z < 0) = false := decide_eq_false hz
      rw [hd] at b0 l0 D ⊢
      rw [hs]
      generalize Pl.nw z.natAbs = n at *
      clear hs hz h0 hd
      go_enter Tryz.func121, Tryz.ntmps121
      go_wp2_with fail
      go_ret
      exact ⟨rfl, D.out⟩
end Go.Proofs.YtoblpcljhblnmaaGreatDoor
