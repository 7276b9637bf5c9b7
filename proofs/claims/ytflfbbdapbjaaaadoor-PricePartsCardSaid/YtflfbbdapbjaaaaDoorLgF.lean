/- Package large: Add answers as integers. Condition: the words read; there are at most 2^45 of them. -/
import Derived.Test.YtflfbbdapbjaaaaDoorLgE
import Derived.Test.YtflfbbdapbjaaaaDoorMid
namespace Go.Proofs.YtflfbbdapbjaaaaDoor
open Go.RowKit
set_option maxRecDepth 100000
/-- what a function returns that gives a number -/
def NumSaid (z : Int) (w : World) (e : Ending) (w' : World) : Prop := ∃ (A : Option Addr) (c : Nat), e = .returned (vNum z A c) ∧ NumAt w' w'.heap.size z A c ∧ Below w.heap.size w w'
theorem sgn_add_same {a b : Int} (h : decide (a < 0) = decide (b < 0)) : sgn (decide (a < 0)) (a.natAbs + b.natAbs) = a + b := by
  rw [decide_eq_decide] at h
  unfold sgn
  by_cases ha : a < 0
  · simp only [ha, decide_true, if_true]; omega
  · simp only [ha, decide_false, if_false, Bool.false_eq_true]; omega
theorem sgn_add_ge {a b : Int} (h : decide (a < 0) ≠ decide (b < 0)) (hle : b.natAbs ≤ a.natAbs) : sgn (decide (a < 0)) (a.natAbs - b.natAbs) = a + b := by
  rw [ne_eq, decide_eq_decide] at h
  unfold sgn
  by_cases ha : a < 0
  · simp only [ha, decide_true, if_true]; omega
  · simp only [ha, decide_false, if_false, Bool.false_eq_true]; omega
/-- two boxed numbers -/
def Ar2 (w : World) (g g' : Nat) (b1 : Bool) (A1 : Option Addr) (n1 c1 : Nat) (b2 : Bool) (A2 : Option Addr) (n2 c2 : Nat) : Prop :=
  Blk w g 40 #[.bool b1, .slice A1 n1 c1] ∧ Blk w g' 40 #[.bool b2, .slice A2 n2 c2]
theorem Ar2.go {w w' : World} {g g' : Nat} {b1 b2 : Bool} {A1 A2 : Option Addr} {n1 c1 n2 c2 : Nat} (h : Ar2 w g g' b1 A1 n1 c1 b2 A2 n2 c2) (hb : Below w.heap.size w w') : Ar2 w' g g' b1 A1 n1 c1 b2 A2 n2 c2 := ⟨h.1.go hb, h.2.go hb⟩
theorem Ar2.far {w : World} {g g' r : Nat} {b1 b2 : Bool} {A1 A2 : Option Addr} {n1 c1 n2 c2 : Nat} (h : Ar2 w g g' b1 A1 n1 c1 b2 A2 n2 c2) (h1 : g ≠ r) (h2 : g' ≠ r) (i : Nat) (u : Value) : Ar2 (w.setCell ⟨r, i, none⟩ u) g g' b1 A1 n1 c1 b2 A2 n2 c2 := ⟨h.1.far h1 u, h.2.far h2 u⟩
theorem boxes3 (w : World) (x y z : Array Value) (t : TypeId) : let w1 := ((w.alloc (.cells x t)).alloc (.cells y t)).alloc (.cells z t)
    Blk w1 w.heap.size t x ∧ Blk w1 (w.heap.size + 1) t y ∧ Blk w1 (w.heap.size + 1 + 1) t z ∧ Below w.heap.size w w1 ∧ w1.heap.size = w.heap.size + 1 + 1 + 1 :=
  ⟨((Blk.new_ w _ t x rfl).alloc _).alloc _, (Blk.new_ _ (w.heap.size + 1) t y (by simp)).alloc _, Blk.new_ _ (w.heap.size + 1 + 1) t z (by simp), (((Below.refl _ w).alloc (Nat.le_refl _) _).alloc (by simp) _).alloc (by simp; omega) _, by simp⟩
set_option maxHeartbeats 3200000 in
theorem add_any (a b : Int) (A : Option Addr) (c : Nat) (B : Option Addr) (d : Nat) (w : World) (ha : NumAt w w.heap.size a A c) (hb : NumAt w w.heap.size b B d) (sa : Pl.nw a.natAbs ≤ 35184372088832) (sb : Pl.nw b.natAbs ≤ 35184372088832) :
    Calls Tryd.prog 16 #[vNum a A c, vNum b B d] w (NumSaid (a + b) w) := by
  obtain ⟨hA, hB, hR, hD, hsz⟩ := boxes3 w #[.bool (decide (a < 0)), .slice A (Pl.nw a.natAbs) c] #[.bool (decide (b < 0)), .slice B (Pl.nw b.natAbs) d] #[.bool false, .slice none 0 0] 40
  have HADD := Lib.hid (fun W (x : NumAt W W.heap.size a A c) (y : NumAt W W.heap.size b B d) => addw_any A (Pl.nw a.natAbs) c (Pl.digs a.natAbs) B (Pl.nw b.natAbs) d (Pl.digs b.natAbs) W sa sb x.2 y.2 (Pl.digs_can _).1 (Pl.digs_can _).1)
  have HCMP := Lib.hid (fun W (x : NumAt W W.heap.size a A c) (y : NumAt W W.heap.size b B d) => cmpw_any A (Pl.nw a.natAbs) c (Pl.digs a.natAbs) B (Pl.nw b.natAbs) d (Pl.digs b.natAbs) W (by omega) (by omega) x.2 y.2 (Pl.digs_can _) (Pl.digs_can _))
  have HS1 := Lib.hid (fun W (x : NumAt W W.heap.size a A c) (y : NumAt W W.heap.size b B d) (hle : b.natAbs ≤ a.natAbs) => subw_any A (Pl.nw a.natAbs) c (Pl.digs a.natAbs) B (Pl.nw b.natAbs) d (Pl.digs b.natAbs) W sa (Pl.nw_mono hle) x.2 y.2 (Pl.digs_can _).1 (Pl.digs_can _).1 (by rw [Pl.lv_digs, Pl.lv_digs]; exact hle))
  have HS2 := Lib.hid (fun W (x : NumAt W W.heap.size a A c) (y : NumAt W W.heap.size b B d) (hle : a.natAbs ≤ b.natAbs) => subw_any B (Pl.nw b.natAbs) d (Pl.digs b.natAbs) A (Pl.nw a.natAbs) c (Pl.digs a.natAbs) W sb (Pl.nw_mono hle) y.2 x.2 (Pl.digs_can _).1 (Pl.digs_can _).1 (by rw [Pl.lv_digs, Pl.lv_digs]; exact hle))
  simp only [Pl.lv_digs] at HADD HCMP HS1 HS2
  have HNA := Lib.hid (ha.go hD)
  have HNB := Lib.hid (hb.go hD)
  have E1 : Hid (decide (a < 0) = decide (b < 0) → sgn (decide (a < 0)) (a.natAbs + b.natAbs) = a + b) := sgn_add_same
  have E2 : Hid (decide (a < 0) ≠ decide (b < 0) → b.natAbs ≤ a.natAbs → sgn (decide (a < 0)) (a.natAbs - b.natAbs) = a + b) := sgn_add_ge
  have E3 : Hid (decide (a < 0) ≠ decide (b < 0) → a.natAbs ≤ b.natAbs → sgn (decide (b < 0)) (b.natAbs - a.natAbs) = a + b) := fun h hle => by rw [sgn_add_ge (Ne.symm h) hle, Int.add_comm]
  clear ha hb
  unfold vNum
  generalize a + b = s at *
  generalize decide (a < 0) = b1 at *
  generalize decide (b < 0) = b2 at *
  have BR := Lib.hid hR
  have AR : Hid (Ar2 _ w.heap.size (w.heap.size + 1) b1 A (Pl.nw a.natAbs) c b2 B (Pl.nw b.natAbs) d) := ⟨hA, hB⟩
  have HD := Lib.hid hD
  have HSZ := Lib.hid hsz
  clear hA hB hR hD hsz
  by_cases hbb : b1 = b2
  · subst hbb
    have E := Lib.hid (E1.out rfl)
    clear E1 E2 E3 HCMP HS1 HS2
    go_enter Tryd.func16, Tryd.ntmps16
    have q1 := AR.out.1.cell
    have q2 := AR.out.2.cell
    have q3 := AR.out.1.lt
    have q4 := AR.out.2.lt
    go_wp2_with fail
    clear q1 q2 q3 q4
    generalize ((w.alloc (.cells #[.bool b1, .slice A (Pl.nw a.natAbs) c] 40)).alloc (.cells #[.bool b1, .slice B (Pl.nw b.natAbs) d] 40)).alloc (.cells #[.bool false, .slice none 0 0] 40) = w1 at *
    have hSw : (fun w' : World => Ar2 w' w.heap.size (w.heap.size + 1) b1 A (Pl.nw a.natAbs) c b1 B (Pl.nw b.natAbs) d) w1.drew := ⟨AR.out.1.drew, AR.out.2.drew⟩
    refine wp_region_mid (fun w' : World => Ar2 w' w.heap.size (w.heap.size + 1) b1 A (Pl.nw a.natAbs) c b1 B (Pl.nw b.natAbs) d) 9 (by kernel_rfl) ?_
    refine wpAnyM_take 0 rfl (by kernel_rfl) (by kernel_rfl) (by kernel_rfl) (by kernel_rfl) (by kernel_rfl) (fun _ _ _ h => h) hSw (by kernel_rfl) (fun w' hSx => by obtain ⟨h1, h2⟩ := hSx; have c1 := h1.cell; have c2 := h2.cell; have l1 := h1.lt; have l2 := h2.lt; go_simp; first | done | with_reducible rfl) ?_
    simp only [Act.put, List.setIfInBounds_toArray]
    refine wpAnyM_take 1 rfl (by kernel_rfl) (by kernel_rfl) (by kernel_rfl) (by kernel_rfl) (by kernel_rfl) (fun _ _ _ h => h) hSw (by kernel_rfl) (fun w' hSx => by obtain ⟨h1, h2⟩ := hSx; have c1 := h1.cell; have c2 := h2.cell; have l1 := h1.lt; have l2 := h2.lt; go_simp; first | done | with_reducible rfl) ?_
    simp only [Act.put]
    refine wpAnyM_take 2 rfl (by kernel_rfl) (by kernel_rfl) (by kernel_rfl) (by kernel_rfl) (by kernel_rfl) (fun _ _ _ h => h) hSw (by kernel_rfl) (fun w' hSx => by obtain ⟨h1, h2⟩ := hSx; have c1 := h1.cell; have c2 := h2.cell; have l1 := h1.lt; have l2 := h2.lt; go_simp; first | done | with_reducible rfl) ?_
    simp only [Act.put]
    refine wpAnyM_take 3 rfl (by kernel_rfl) (by kernel_rfl) (by kernel_rfl) (by kernel_rfl) (by kernel_rfl) (fun _ _ _ h => h) hSw (by kernel_rfl) (fun w' hSx => by obtain ⟨h1, h2⟩ := hSx; have c1 := h1.cell; have c2 := h2.cell; have l1 := h1.lt; have l2 := h2.lt; go_simp; first | done | with_reducible rfl) ?_
    simp only [Act.put]
    refine wpAnyM_take 4 rfl (by kernel_rfl) (by kernel_rfl) (by kernel_rfl) (by kernel_rfl) (by kernel_rfl) (fun _ _ _ h => h) hSw (by kernel_rfl) (fun w' hSx => by obtain ⟨h1, h2⟩ := hSx; have c1 := h1.cell; have c2 := h2.cell; have l1 := h1.lt; have l2 := h2.lt; go_simp; first | done | with_reducible rfl) ?_
    simp only [Act.put]
    refine wpAnyM_take 5 rfl (by kernel_rfl) (by kernel_rfl) (by kernel_rfl) (by kernel_rfl) (by kernel_rfl) (fun _ _ _ h => h) hSw (by kernel_rfl) (fun w' hSx => by obtain ⟨h1, h2⟩ := hSx; have c1 := h1.cell; have c2 := h2.cell; have l1 := h1.lt; have l2 := h2.lt; go_simp; first | done | with_reducible rfl) ?_
    simp only [Act.put]
    refine wpAnyM_ready [6] (by kernel_rfl) (by simp) ?_
    refine AllReadyM.cons (by rfl) (fun K hK => ?_) AllReadyM.nil
    go_simp
    refine (HADD.out _ (show NumAt w1.drew w1.drew.heap.size a A c from HNA.out) (show NumAt w1.drew w1.drew.heap.size b B d from HNB.out)).mono ?_
    rintro e w5 ⟨A5, n5, c5, l5, rfl, hn5, hb5, hW5, hv5, hr5, hbl5⟩
    have d5 := (Below.refl w1.heap.size w1).drew.trans (hbl5.mono (Nat.le_refl _))
    have AR5 := Lib.hid (AR.out.go d5)
    have BR5 := Lib.hid (BR.out.go d5)
    have F5 := Lib.hid (HD.out.trans (d5.mono HD.out.size))
    have HNO := Lib.hid (norm_any b1 A5 n5 c5 l5 w5 (by omega) hn5 hr5 hW5)
    rw [hv5, E.out] at HNO
    have hSw : (fun w' : World => Ar2 w' w.heap.size (w.heap.size + 1) b1 A (Pl.nw a.natAbs) c b1 B (Pl.nw b.natAbs) d) w5 := AR5.out
    refine hK.out _ _ hSw ?_
    clear hK K hbl5 d5 hr5 hW5 hv5
    refine wpAnyM_ready [7] (by kernel_rfl) (by simp) ?_
    refine AllReadyM.cons (by rfl) (fun K hK => ?_) AllReadyM.nil
    go_simp
    refine HNO.out.mono ?_
    rintro e w6 ⟨rfl, hna6, hbl6⟩
    have AR6 := Lib.hid (AR5.out.go hbl6)
    have BR6 := Lib.hid (BR5.out.go hbl6)
    have F6 := Lib.hid (F5.out.trans (hbl6.mono F5.out.size))
    have HN6 := Lib.hid hna6
    have hSw : (fun w' : World => Ar2 w' w.heap.size (w.heap.size + 1) b1 A (Pl.nw a.natAbs) c b1 B (Pl.nw b.natAbs) d) w6 := AR6.out
    refine hK.out _ _ hSw ?_
    clear hK K hbl6 hna6 HNO
    have f6 := BR6.out.frozen
    have g6 := BR6.out.cell
    have l6 := BR6.out.lt
    unfold vNum
    refine wpAnyM_ready [8] (by kernel_rfl) (by simp) ?_
    refine AllReadyM.cons (by rfl) (fun K hK => ?_) AllReadyM.nil
    go_simp
    refine hK.out _ _ ((AR6.out.far (r := w.heap.size + 1 + 1) (by omega) (by omega) _ _).far (r := w.heap.size + 1 + 1) (by omega) (by omega) _ _) ?_
    clear hK K hSw f6 g6 l6
    refine wpAnyM_done (by kernel_rfl) ?_ _
    have F7 := Lib.hid (num_put BR6.out HN6.out F6.out (by omega))
    generalize ((w6.setCell ⟨w.heap.size + 1 + 1, 0, none⟩ (.bool (decide (s < 0)))).setCell ⟨w.heap.size + 1 + 1, 1, none⟩ (.slice A5 (Pl.nw s.natAbs) c5)) = w7 at *
    have k7 := F7.out.1.cell
    have k8 := F7.out.1.lt
    go_wp2_with fail
    refine bodyPost_ret (v := vNum s A5 c5) (by simp [results, Tryd.results16, go_sem, vNum, k7]) rfl ⟨A5, c5, rfl, F7.out.2⟩
  · have hbe : (b1 == b2) = false := by cases b1 <;> cases b2 <;> simp_all
    have HBB := Lib.hid hbb
    clear E1 HADD hbb
    go_enter Tryd.func16, Tryd.ntmps16
    have q1 := AR.out.1.cell
    have q2 := AR.out.2.cell
    have q3 := AR.out.1.lt
    have q4 := AR.out.2.lt
    go_wp2_with fail
    clear q1 q2 q3 q4
    generalize ((w.alloc (.cells #[.bool b1, .slice A (Pl.nw a.natAbs) c] 40)).alloc (.cells #[.bool b2, .slice B (Pl.nw b.natAbs) d] 40)).alloc (.cells #[.bool false, .slice none 0 0] 40) = w1 at *
    refine (HCMP.out _ HNA.out HNB.out).mono ?_
    rintro e w2 ⟨r, rfl, hcmp, hbl⟩
    have AR2 := Lib.hid (AR.out.go hbl)
    have BR2 := Lib.hid (BR.out.go hbl)
    have F2 := Lib.hid (HD.out.trans (hbl.mono HD.out.size))
    have HNA2 := Lib.hid (HNA.out.go hbl)
    have HNB2 := Lib.hid (HNB.out.go hbl)
    clear hbl HNA HNB HD AR BR HCMP
    by_cases hr0 : 0 ≤ r
    · have hle : b.natAbs ≤ a.natAbs := by have := hcmp.1; omega
      have HL := Lib.hid hle
      have E := Lib.hid (E2.out HBB.out hle)
      clear hle hcmp E2 E3
      go_wp2_with fail
      have hSw : (fun w' : World => Ar2 w' w.heap.size (w.heap.size + 1) b1 A (Pl.nw a.natAbs) c b2 B (Pl.nw b.natAbs) d) w2.drew := ⟨AR2.out.1.drew, AR2.out.2.drew⟩
      refine wp_region_mid (fun w' : World => Ar2 w' w.heap.size (w.heap.size + 1) b1 A (Pl.nw a.natAbs) c b2 B (Pl.nw b.natAbs) d) 9 (by kernel_rfl) ?_
      refine wpAnyM_take 0 rfl (by kernel_rfl) (by kernel_rfl) (by kernel_rfl) (by kernel_rfl) (by kernel_rfl) (fun _ _ _ h => h) hSw (by kernel_rfl) (fun w' hSx => by obtain ⟨h1, h2⟩ := hSx; have c1 := h1.cell; have c2 := h2.cell; have l1 := h1.lt; have l2 := h2.lt; go_simp; first | done | with_reducible rfl) ?_
      simp only [Act.put, List.setIfInBounds_toArray]
      refine wpAnyM_take 1 rfl (by kernel_rfl) (by kernel_rfl) (by kernel_rfl) (by kernel_rfl) (by kernel_rfl) (fun _ _ _ h => h) hSw (by kernel_rfl) (fun w' hSx => by obtain ⟨h1, h2⟩ := hSx; have c1 := h1.cell; have c2 := h2.cell; have l1 := h1.lt; have l2 := h2.lt; go_simp; first | done | with_reducible rfl) ?_
      simp only [Act.put]
      refine wpAnyM_take 2 rfl (by kernel_rfl) (by kernel_rfl) (by kernel_rfl) (by kernel_rfl) (by kernel_rfl) (fun _ _ _ h => h) hSw (by kernel_rfl) (fun w' hSx => by obtain ⟨h1, h2⟩ := hSx; have c1 := h1.cell; have c2 := h2.cell; have l1 := h1.lt; have l2 := h2.lt; go_simp; first | done | with_reducible rfl) ?_
      simp only [Act.put]
      refine wpAnyM_take 3 rfl (by kernel_rfl) (by kernel_rfl) (by kernel_rfl) (by kernel_rfl) (by kernel_rfl) (fun _ _ _ h => h) hSw (by kernel_rfl) (fun w' hSx => by obtain ⟨h1, h2⟩ := hSx; have c1 := h1.cell; have c2 := h2.cell; have l1 := h1.lt; have l2 := h2.lt; go_simp; first | done | with_reducible rfl) ?_
      simp only [Act.put]
      refine wpAnyM_take 4 rfl (by kernel_rfl) (by kernel_rfl) (by kernel_rfl) (by kernel_rfl) (by kernel_rfl) (fun _ _ _ h => h) hSw (by kernel_rfl) (fun w' hSx => by obtain ⟨h1, h2⟩ := hSx; have c1 := h1.cell; have c2 := h2.cell; have l1 := h1.lt; have l2 := h2.lt; go_simp; first | done | with_reducible rfl) ?_
      simp only [Act.put]
      refine wpAnyM_take 5 rfl (by kernel_rfl) (by kernel_rfl) (by kernel_rfl) (by kernel_rfl) (by kernel_rfl) (fun _ _ _ h => h) hSw (by kernel_rfl) (fun w' hSx => by obtain ⟨h1, h2⟩ := hSx; have c1 := h1.cell; have c2 := h2.cell; have l1 := h1.lt; have l2 := h2.lt; go_simp; first | done | with_reducible rfl) ?_
      simp only [Act.put]
      refine wpAnyM_ready [6] (by kernel_rfl) (by simp) ?_
      refine AllReadyM.cons (by rfl) (fun K hK => ?_) AllReadyM.nil
      go_simp
      refine (HS1.out _ (show NumAt w2.drew w2.drew.heap.size a A c from HNA2.out) (show NumAt w2.drew w2.drew.heap.size b B d from HNB2.out) HL.out).mono ?_
      rintro e w5 ⟨A5, n5, c5, l5, rfl, hn5, hb5, hW5, hv5, hr5, hbl5⟩
      have d5 := (Below.refl w2.heap.size w2).drew.trans (hbl5.mono (Nat.le_refl _))
      have AR5 := Lib.hid (AR2.out.go d5)
      have BR5 := Lib.hid (BR2.out.go d5)
      have F5 := Lib.hid (F2.out.trans (d5.mono F2.out.size))
      have HNO := Lib.hid (norm_any b1 A5 n5 c5 l5 w5 (by omega) hn5 hr5 hW5)
      rw [hv5, E.out] at HNO
      have hSw : (fun w' : World => Ar2 w' w.heap.size (w.heap.size + 1) b1 A (Pl.nw a.natAbs) c b2 B (Pl.nw b.natAbs) d) w5 := AR5.out
      refine hK.out _ _ hSw ?_
      clear hK K hbl5 d5 hr5 hW5 hv5
      refine wpAnyM_ready [7] (by kernel_rfl) (by simp) ?_
      refine AllReadyM.cons (by rfl) (fun K hK => ?_) AllReadyM.nil
      go_simp
      refine HNO.out.mono ?_
      rintro e w6 ⟨rfl, hna6, hbl6⟩
      have AR6 := Lib.hid (AR5.out.go hbl6)
      have BR6 := Lib.hid (BR5.out.go hbl6)
      have F6 := Lib.hid (F5.out.trans (hbl6.mono F5.out.size))
      have HN6 := Lib.hid hna6
      have hSw : (fun w' : World => Ar2 w' w.heap.size (w.heap.size + 1) b1 A (Pl.nw a.natAbs) c b2 B (Pl.nw b.natAbs) d) w6 := AR6.out
      refine hK.out _ _ hSw ?_
      clear hK K hbl6 hna6 HNO
      have f6 := BR6.out.frozen
      have g6 := BR6.out.cell
      have l6 := BR6.out.lt
      unfold vNum
      refine wpAnyM_ready [8] (by kernel_rfl) (by simp) ?_
      refine AllReadyM.cons (by rfl) (fun K hK => ?_) AllReadyM.nil
      go_simp
      refine hK.out _ _ ((AR6.out.far (r := w.heap.size + 1 + 1) (by omega) (by omega) _ _).far (r := w.heap.size + 1 + 1) (by omega) (by omega) _ _) ?_
      clear hK K hSw f6 g6 l6
      refine wpAnyM_done (by kernel_rfl) ?_ _
      have F7 := Lib.hid (num_put BR6.out HN6.out F6.out (by omega))
      generalize ((w6.setCell ⟨w.heap.size + 1 + 1, 0, none⟩ (.bool (decide (s < 0)))).setCell ⟨w.heap.size + 1 + 1, 1, none⟩ (.slice A5 (Pl.nw s.natAbs) c5)) = w7 at *
      have k7 := F7.out.1.cell
      have k8 := F7.out.1.lt
      go_wp2_with fail
      refine bodyPost_ret (v := vNum s A5 c5) (by simp [results, Tryd.results16, go_sem, vNum, k7]) rfl ⟨A5, c5, rfl, F7.out.2⟩
    · have hle : a.natAbs ≤ b.natAbs := by have := hcmp.1; omega
      have HL := Lib.hid hle
      have E := Lib.hid (E3.out HBB.out hle)
      clear hle hcmp E2 E3
      go_wp2_with fail
      have hSw : (fun w' : World => Ar2 w' w.heap.size (w.heap.size + 1) b1 A (Pl.nw a.natAbs) c b2 B (Pl.nw b.natAbs) d) w2.drew := ⟨AR2.out.1.drew, AR2.out.2.drew⟩
      refine wp_region_mid (fun w' : World => Ar2 w' w.heap.size (w.heap.size + 1) b1 A (Pl.nw a.natAbs) c b2 B (Pl.nw b.natAbs) d) 9 (by kernel_rfl) ?_
      refine wpAnyM_take 0 rfl (by kernel_rfl) (by kernel_rfl) (by kernel_rfl) (by kernel_rfl) (by kernel_rfl) (fun _ _ _ h => h) hSw (by kernel_rfl) (fun w' hSx => by obtain ⟨h1, h2⟩ := hSx; have c1 := h1.cell; have c2 := h2.cell; have l1 := h1.lt; have l2 := h2.lt; go_simp; first | done | with_reducible rfl) ?_
      simp only [Act.put, List.setIfInBounds_toArray]
      refine wpAnyM_take 1 rfl (by kernel_rfl) (by kernel_rfl) (by kernel_rfl) (by kernel_rfl) (by kernel_rfl) (fun _ _ _ h => h) hSw (by kernel_rfl) (fun w' hSx => by obtain ⟨h1, h2⟩ := hSx; have c1 := h1.cell; have c2 := h2.cell; have l1 := h1.lt; have l2 := h2.lt; go_simp; first | done | with_reducible rfl) ?_
      simp only [Act.put]
      refine wpAnyM_take 2 rfl (by kernel_rfl) (by kernel_rfl) (by kernel_rfl) (by kernel_rfl) (by kernel_rfl) (fun _ _ _ h => h) hSw (by kernel_rfl) (fun w' hSx => by obtain ⟨h1, h2⟩ := hSx; have c1 := h1.cell; have c2 := h2.cell; have l1 := h1.lt; have l2 := h2.lt; go_simp; first | done | with_reducible rfl) ?_
      simp only [Act.put]
      refine wpAnyM_take 3 rfl (by kernel_rfl) (by kernel_rfl) (by kernel_rfl) (by kernel_rfl) (by kernel_rfl) (fun _ _ _ h => h) hSw (by kernel_rfl) (fun w' hSx => by obtain ⟨h1, h2⟩ := hSx; have c1 := h1.cell; have c2 := h2.cell; have l1 := h1.lt; have l2 := h2.lt; go_simp; first | done | with_reducible rfl) ?_
      simp only [Act.put]
      refine wpAnyM_take 4 rfl (by kernel_rfl) (by kernel_rfl) (by kernel_rfl) (by kernel_rfl) (by kernel_rfl) (fun _ _ _ h => h) hSw (by kernel_rfl) (fun w' hSx => by obtain ⟨h1, h2⟩ := hSx; have c1 := h1.cell; have c2 := h2.cell; have l1 := h1.lt; have l2 := h2.lt; go_simp; first | done | with_reducible rfl) ?_
      simp only [Act.put]
      refine wpAnyM_take 5 rfl (by kernel_rfl) (by kernel_rfl) (by kernel_rfl) (by kernel_rfl) (by kernel_rfl) (fun _ _ _ h => h) hSw (by kernel_rfl) (fun w' hSx => by obtain ⟨h1, h2⟩ := hSx; have c1 := h1.cell; have c2 := h2.cell; have l1 := h1.lt; have l2 := h2.lt; go_simp; first | done | with_reducible rfl) ?_
      simp only [Act.put]
      refine wpAnyM_ready [6] (by kernel_rfl) (by simp) ?_
      refine AllReadyM.cons (by rfl) (fun K hK => ?_) AllReadyM.nil
      go_simp
      refine (HS2.out _ (show NumAt w2.drew w2.drew.heap.size a A c from HNA2.out) (show NumAt w2.drew w2.drew.heap.size b B d from HNB2.out) HL.out).mono ?_
      rintro e w5 ⟨A5, n5, c5, l5, rfl, hn5, hb5, hW5, hv5, hr5, hbl5⟩
      have d5 := (Below.refl w2.heap.size w2).drew.trans (hbl5.mono (Nat.le_refl _))
      have AR5 := Lib.hid (AR2.out.go d5)
      have BR5 := Lib.hid (BR2.out.go d5)
      have F5 := Lib.hid (F2.out.trans (d5.mono F2.out.size))
      have HNO := Lib.hid (norm_any b2 A5 n5 c5 l5 w5 (by omega) hn5 hr5 hW5)
      rw [hv5, E.out] at HNO
      have hSw : (fun w' : World => Ar2 w' w.heap.size (w.heap.size + 1) b1 A (Pl.nw a.natAbs) c b2 B (Pl.nw b.natAbs) d) w5 := AR5.out
      refine hK.out _ _ hSw ?_
      clear hK K hbl5 d5 hr5 hW5 hv5
      refine wpAnyM_ready [7] (by kernel_rfl) (by simp) ?_
      refine AllReadyM.cons (by rfl) (fun K hK => ?_) AllReadyM.nil
      go_simp
      refine HNO.out.mono ?_
      rintro e w6 ⟨rfl, hna6, hbl6⟩
      have AR6 := Lib.hid (AR5.out.go hbl6)
      have BR6 := Lib.hid (BR5.out.go hbl6)
      have F6 := Lib.hid (F5.out.trans (hbl6.mono F5.out.size))
      have HN6 := Lib.hid hna6
      have hSw : (fun w' : World => Ar2 w' w.heap.size (w.heap.size + 1) b1 A (Pl.nw a.natAbs) c b2 B (Pl.nw b.natAbs) d) w6 := AR6.out
      refine hK.out _ _ hSw ?_
      clear hK K hbl6 hna6 HNO
      have f6 := BR6.out.frozen
      have g6 := BR6.out.cell
      have l6 := BR6.out.lt
      unfold vNum
      refine wpAnyM_ready [8] (by kernel_rfl) (by simp) ?_
      refine AllReadyM.cons (by rfl) (fun K hK => ?_) AllReadyM.nil
      go_simp
      refine hK.out _ _ ((AR6.out.far (r := w.heap.size + 1 + 1) (by omega) (by omega) _ _).far (r := w.heap.size + 1 + 1) (by omega) (by omega) _ _) ?_
      clear hK K hSw f6 g6 l6
      refine wpAnyM_done (by kernel_rfl) ?_ _
      have F7 := Lib.hid (num_put BR6.out HN6.out F6.out (by omega))
      generalize ((w6.setCell ⟨w.heap.size + 1 + 1, 0, none⟩ (.bool (decide (s < 0)))).setCell ⟨w.heap.size + 1 + 1, 1, none⟩ (.slice A5 (Pl.nw s.natAbs) c5)) = w7 at *
      have k7 := F7.out.1.cell
      have k8 := F7.out.1.lt
      go_wp2_with fail
      refine bodyPost_ret (v := vNum s A5 c5) (by simp [results, Tryd.results16, go_sem, vNum, k7]) rfl ⟨A5, c5, rfl, F7.out.2⟩
end Go.Proofs.YtflfbbdapbjaaaaDoor
