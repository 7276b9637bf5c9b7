/- Package large: Sub, Sign, Cmp, Of answer as integers. Condition: the words read; there are at most 2^45 of them. -/
import Derived.Test.YtflfbbdapbjaaaaDoorLgG
namespace Go.Proofs.YtflfbbdapbjaaaaDoor
open Go.RowKit
set_option maxRecDepth 100000
set_option maxHeartbeats 3200000 in
theorem isub_any (a b : Int) (A : Option Addr) (c : Nat) (B : Option Addr) (d : Nat) (w : World) (ha : NumAt w w.heap.size a A c) (hb : NumAt w w.heap.size b B d) (sa : Pl.nw a.natAbs ≤ 35184372088832) (sb : Pl.nw b.natAbs ≤ 35184372088832) :
    Calls Tryd.prog 40 #[vNum a A c, vNum b B d] w (NumSaid (a - b) w) := by
  obtain ⟨hA, hB, hR, hD, hsz⟩ := boxes3 w #[.bool (decide (a < 0)), .slice A (Pl.nw a.natAbs) c] #[.bool (decide (b < 0)), .slice B (Pl.nw b.natAbs) d] #[.bool false, .slice none 0 0] 40
  have sy : Pl.nw (-b).natAbs ≤ 35184372088832 := by rw [Int.natAbs_neg]; exact sb
  have HNEG := Lib.hid (fun W (x : NumAt W W.heap.size b B d) => neg_any b B d W (by omega) x)
  have E : Hid (a + -b = a - b) := by show _ = _; omega
  have HNA := Lib.hid (ha.go hD)
  have HNB := Lib.hid (hb.go hD)
  generalize -b = y at *
  have HADD := Lib.hid (fun W (x : NumAt W W.heap.size a A c) (z : NumAt W W.heap.size y B d) => add_any a y A c B d W x z sa sy)
  rw [E.out] at HADD
  clear ha hb E
  unfold vNum at HNEG HADD
  unfold vNum
  generalize a - b = s at *
  generalize decide (a < 0) = b1 at *
  generalize decide (b < 0) = b2 at *
  have BR := Lib.hid hR
  have AR : Hid (Ar2 _ w.heap.size (w.heap.size + 1) b1 A (Pl.nw a.natAbs) c b2 B (Pl.nw b.natAbs) d) := ⟨hA, hB⟩
  have HD := Lib.hid hD
  have HSZ := Lib.hid hsz
  clear hA hB hR hD hsz
  go_enter Tryd.func40, Tryd.ntmps40
  go_wp2_with fail
  generalize ((w.alloc (.cells #[.bool b1, .slice A (Pl.nw a.natAbs) c] 40)).alloc (.cells #[.bool b2, .slice B (Pl.nw b.natAbs) d] 40)).alloc (.cells #[.bool false, .slice none 0 0] 40) = w1 at *
  have hSw : (fun w' : World => Ar2 w' w.heap.size (w.heap.size + 1) b1 A (Pl.nw a.natAbs) c b2 B (Pl.nw b.natAbs) d) w1.drew := ⟨AR.out.1.drew, AR.out.2.drew⟩
  refine wp_region_mid (fun w' : World => Ar2 w' w.heap.size (w.heap.size + 1) b1 A (Pl.nw a.natAbs) c b2 B (Pl.nw b.natAbs) d) 5 (by kernel_rfl) ?_
  refine wpAnyM_take 0 rfl (by kernel_rfl) (by kernel_rfl) (by kernel_rfl) (by kernel_rfl) (by kernel_rfl) (fun _ _ _ h => h) hSw (by kernel_rfl) (fun w' hSx => by obtain ⟨h1, h2⟩ := hSx; have c1 := h1.cell; have c2 := h2.cell; have l1 := h1.lt; have l2 := h2.lt; go_simp; first | done | with_reducible rfl) ?_
  simp only [Act.put, List.setIfInBounds_toArray]
  refine wpAnyM_take 1 rfl (by kernel_rfl) (by kernel_rfl) (by kernel_rfl) (by kernel_rfl) (by kernel_rfl) (fun _ _ _ h => h) hSw (by kernel_rfl) (fun w' hSx => by obtain ⟨h1, h2⟩ := hSx; have c1 := h1.cell; have c2 := h2.cell; have l1 := h1.lt; have l2 := h2.lt; go_simp; first | done | with_reducible rfl) ?_
  simp only [Act.put]
  refine wpAnyM_ready [2] (by kernel_rfl) (by simp) ?_
  refine AllReadyM.cons (by rfl) (fun K hK => ?_) AllReadyM.nil
  go_simp
  refine (HNEG.out _ (show NumAt w1.drew w1.drew.heap.size b B d from HNB.out)).mono ?_
  rintro e w5 ⟨rfl, hna5, hbl5⟩
  have d5 := (Below.refl w1.heap.size w1).drew.trans (hbl5.mono (Nat.le_refl _))
  have AR5 := Lib.hid (AR.out.go d5)
  have BR5 := Lib.hid (BR.out.go d5)
  have F5 := Lib.hid (HD.out.trans (d5.mono HD.out.size))
  have HA5 := Lib.hid (HNA.out.go d5)
  have HY5 := Lib.hid hna5
  have hSw : (fun w' : World => Ar2 w' w.heap.size (w.heap.size + 1) b1 A (Pl.nw a.natAbs) c b2 B (Pl.nw b.natAbs) d) w5 := AR5.out
  refine hK.out _ _ hSw ?_
  clear hK K hbl5 d5 hna5 HNEG
  refine wpAnyM_ready [3] (by kernel_rfl) (by simp) ?_
  refine AllReadyM.cons (by rfl) (fun K hK => ?_) AllReadyM.nil
  go_simp
  refine (HADD.out w5 HA5.out HY5.out).mono ?_
  rintro e w6 ⟨A6, c6, rfl, hna6, hbl6⟩
  have AR6 := Lib.hid (AR5.out.go hbl6)
  have BR6 := Lib.hid (BR5.out.go hbl6)
  have F6 := Lib.hid (F5.out.trans (hbl6.mono F5.out.size))
  have HN6 := Lib.hid hna6
  have hSw : (fun w' : World => Ar2 w' w.heap.size (w.heap.size + 1) b1 A (Pl.nw a.natAbs) c b2 B (Pl.nw b.natAbs) d) w6 := AR6.out
  refine hK.out _ _ hSw ?_
  clear hK K hbl6 hna6 HADD
  have f6 := BR6.out.frozen
  have g6 := BR6.out.cell
  have l6 := BR6.out.lt
  unfold vNum
  refine wpAnyM_ready [4] (by kernel_rfl) (by simp) ?_
  refine AllReadyM.cons (by rfl) (fun K hK => ?_) AllReadyM.nil
  go_simp
  refine hK.out _ _ ((AR6.out.far (r := w.heap.size + 1 + 1) (by omega) (by omega) _ _).far (r := w.heap.size + 1 + 1) (by omega) (by omega) _ _) ?_
  clear hK K hSw f6 g6 l6
  refine wpAnyM_done (by kernel_rfl) ?_ _
  have F7 := Lib.hid (num_put BR6.out HN6.out F6.out (by omega))
  generalize ((w6.setCell ⟨w.heap.size + 1 + 1, 0, none⟩ (.bool (decide (s < 0)))).setCell ⟨w.heap.size + 1 + 1, 1, none⟩ (.slice A6 (Pl.nw s.natAbs) c6)) = w7 at *
  have k7 := F7.out.1.cell
  have k8 := F7.out.1.lt
  go_wp2_with fail
  refine bodyPost_ret (v := vNum s A6 c6) (by simp [results, Tryd.results40, go_sem, vNum, k7]) rfl ⟨A6, c6, rfl, F7.out.2⟩
theorem sign_any (z : Int) (A : Option Addr) (c : Nat) (w : World) : Calls Tryd.prog 37 #[vNum z A c] w fun e w' => e = .returned (.int .i64 z.sign) ∧ Below w.heap.size w w' := by
  have B0 := Lib.hid (Blk.new_ w w.heap.size 40 #[.bool (decide (z < 0)), .slice A (Pl.nw z.natAbs) c] rfl)
  have D := Lib.hid ((Below.refl w.heap.size w).alloc (Nat.le_refl _) (.cells #[.bool (decide (z < 0)), .slice A (Pl.nw z.natAbs) c] 40))
  have b0 := B0.out.cell
  have l0 := B0.out.lt
  unfold vNum
  by_cases h0 : z = 0
  · have hn : Pl.nw z.natAbs = 0 := by rw [h0]; exact Pl.nw_zero
    have hs : z.sign = 0 := by rw [h0]; rfl
    rw [hn] at b0 l0 D ⊢
    rw [hs]
    clear hn hs h0
    generalize decide (z < 0) = b at *
    go_enter Tryd.func37, Tryd.ntmps37
    go_wp2_with fail
    go_ret
    exact ⟨rfl, D.out⟩
  · have hn : ((Pl.nw z.natAbs : Int) == 0) = false := by
      have : Pl.nw z.natAbs ≠ 0 := fun e => by have := Pl.digs_nil.1 (List.eq_nil_of_length_eq_zero e); omega
      simpa using this
    by_cases hz : z < 0
    · have hs : z.sign = -1 := Int.sign_eq_neg_one_of_neg hz
      have hd : decide (z < 0) = true := decide_eq_true hz
      rw [hd] at b0 l0 D ⊢
      rw [hs]
      generalize Pl.nw z.natAbs = n at *
      clear hs hz h0 hd
      go_enter Tryd.func37, Tryd.ntmps37
      go_wp2_with fail
      go_ret
      exact ⟨rfl, D.out⟩
    · have hs : z.sign = 1 := Int.sign_eq_one_of_pos (by omega)
      have hd : decide (z < 0) = false := decide_eq_false hz
      rw [hd] at b0 l0 D ⊢
      rw [hs]
      generalize Pl.nw z.natAbs = n at *
      clear hs hz h0 hd
      go_enter Tryd.func37, Tryd.ntmps37
      go_wp2_with fail
      go_ret
      exact ⟨rfl, D.out⟩
end Go.Proofs.YtflfbbdapbjaaaaDoor
