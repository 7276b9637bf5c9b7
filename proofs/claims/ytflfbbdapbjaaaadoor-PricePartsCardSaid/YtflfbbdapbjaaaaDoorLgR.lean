/- Package large: Gcd answers as integers. Condition: the words read; at most 10^6 words. -/
import Derived.Test.YtflfbbdapbjaaaaDoorLgP
import Derived.Test.YtflfbbdapbjaaaaDoorMidB
import Derived.Deep.LoopGhost
namespace Go.Proofs.YtflfbbdapbjaaaaDoor
open Go.RowKit
set_option maxRecDepth 100000
/-- the magnitude of a number -/
theorem NumIs.abs {w : World} {B : Nat} {z : Int} {x : Nm} (h : NumIs w B z x) : NumIs w B (z.natAbs : Int) ⟨false, x.A, x.n, x.c⟩ :=
  ⟨by simp, by simp only [Int.natAbs_natCast]; exact h.ln, by have := h.at_; unfold NumAt at this ⊢; rw [Int.natAbs_natCast]; exact this⟩
theorem sgn_false (n : Nat) : sgn false n = (n : Int) := by unfold sgn; simp
/-- what lies in memory ahead of a round -/
def GcdR (w wr : World) (G u v : Nat) (p q : Nm) : Prop :=
  Nat.gcd u v = G ∧ Blk wr w.heap.size 40 #[.bool p.b, .slice p.A p.n p.c] ∧ Blk wr (w.heap.size + 1) 40 #[.bool q.b, .slice q.A q.n q.c] ∧ Blk wr (w.heap.size + 1 + 1) 40 #[.bool false, .slice none 0 0] ∧ NumIs wr wr.heap.size (u : Int) p ∧ NumIs wr wr.heap.size (v : Int) q ∧ Below w.heap.size w wr
set_option maxHeartbeats 6400000 in
theorem gcd_any {a b : Int} {x y : Nm} {w : World} (hx : NumIs w w.heap.size a x) (hy : NumIs w w.heap.size b y) (sx : x.n ≤ 1000000) (sy : y.n ≤ 1000000) :
    Calls Tryd.prog 24 #[x.v, y.v] w (NmSaid ((Nat.gcd a.natAbs b.natAbs : Nat) : Int) w) := by
  obtain ⟨hA, hB, hR, hD, hsz⟩ := boxes3 w #[.bool false, .slice x.A x.n x.c] #[.bool false, .slice y.A y.n y.c] #[.bool false, .slice none 0 0] 40
  have HU := Lib.hid (hx.go hD).abs
  have HV := Lib.hid (hy.go hD).abs
  obtain ⟨G, hG⟩ : ∃ G : Nat, G = Nat.gcd a.natAbs b.natAbs := ⟨_, rfl⟩
  rw [← hG]
  have HG := Lib.hid hG
  have X0 := Lib.hid hA
  have X1 := Lib.hid hB
  have X4 := Lib.hid hR
  have D := Lib.hid hD
  clear hx hy hA hB hR hD hsz hG
  go_enter Tryd.func24, Tryd.ntmps24
  go_wp2_with fail
  generalize ((w.alloc (.cells #[.bool false, .slice x.A x.n x.c] 40)).alloc (.cells #[.bool false, .slice y.A y.n y.c] 40)).alloc (.cells #[.bool false, .slice none 0 0] 40) = w1 at *
  obtain ⟨g0, hg0⟩ : ∃ g : Nat, g = b.natAbs + 1 := ⟨_, rfl⟩
  go_loopg [5, 6] g0 (fun gh s5 s6 wr => ∃ (u v : Nat) (p q : Nm), gh = v + 1 ∧ p.n ≤ 1000000 ∧ q.n ≤ 1000000 ∧ Hid (GcdR w wr G u v p q))
  case atStart => exact ⟨a.natAbs, b.natAbs, ⟨false, x.A, x.n, x.c⟩, ⟨false, y.A, y.n, y.c⟩, hg0, sx, sy, ⟨HG.out.symm, X0.out, X1.out, X4.out, HU.out, HV.out, D.out⟩⟩
  case round =>
    clear X0 X1 X4 HU HV D hg0 HG
    obtain ⟨u, v, p, q, rfl, sp, sq, HM⟩ := hrel
    have HG := Lib.hid HM.out.1
    have X0 := Lib.hid HM.out.2.1
    have X1 := Lib.hid HM.out.2.2.1
    have X4 := Lib.hid HM.out.2.2.2.1
    have HU := Lib.hid HM.out.2.2.2.2.1
    have HV := Lib.hid HM.out.2.2.2.2.2.1
    have D := Lib.hid HM.out.2.2.2.2.2.2
    clear HM
    have HSG := Lib.hid (nsign_any HV.out)
    have c1 := X1.out.cell
    have l1 := X1.out.lt
    by_cases hv : v = 0
    · subst hv
      go_wp2_with fail
      refine HSG.out.mono ?_
      rintro e w2 ⟨rfl, hb5⟩
      replace X0 := Lib.hid (X0.out.go hb5)
      replace X1 := Lib.hid (X1.out.go hb5)
      replace X4 := Lib.hid (X4.out.go hb5)
      replace HU := Lib.hid (HU.out.go hb5)
      replace HV := Lib.hid (HV.out.go hb5)
      replace D := Lib.hid (D.out.trans (hb5.mono D.out.size))
      clear hb5 HSG c1 l1
      have c0 := X0.out.cell
      have l0 := X0.out.lt
      have c4 := X4.out.cell
      have l4 := X4.out.lt
      have f4 := X4.out.frozen
      go_wp2_with fail
      clear c0 l0 c4 l4 f4
      replace X0 := Lib.hid (X0.out.far2 (r := w.heap.size + 1 + 1) (by omega) (u0 := .bool p.b) (u1 := .slice p.A p.n p.c))
      replace X1 := Lib.hid (X1.out.far2 (r := w.heap.size + 1 + 1) (by omega) (u0 := .bool p.b) (u1 := .slice p.A p.n p.c))
      replace HU := Lib.hid (HU.out.put2 X4.out noU32_new (u0 := .bool p.b) (u1 := .slice p.A p.n p.c))
      replace HV := Lib.hid (HV.out.put2 X4.out noU32_new (u0 := .bool p.b) (u1 := .slice p.A p.n p.c))
      replace D := Lib.hid (below_put2 D.out (r := w.heap.size + 1 + 1) (by omega) (u0 := .bool p.b) (u1 := .slice p.A p.n p.c))
      replace X4 := Lib.hid (X4.out.put2 (u0 := .bool p.b) (u1 := .slice p.A p.n p.c))
      have k4 := X4.out.cell
      have hgu : u = G := by have := HG.out; rw [Nat.gcd_zero_right] at this; exact this
      rw [hgu] at HU
      refine bodyPost_ret (v := p.v) (by simp [results, Tryd.results24, go_sem, k4]) rfl ⟨p, rfl, HU.out, D.out⟩
    · have hsg : (v : Int).sign = 1 := Int.sign_eq_one_of_pos (by omega)
      rw [hsg] at HSG
      have HV0 := Lib.hid hv
      clear hv hsg
      go_wp2_with fail
      refine HSG.out.mono ?_
      rintro e w2 ⟨rfl, hb5⟩
      replace X0 := Lib.hid (X0.out.go hb5)
      replace X1 := Lib.hid (X1.out.go hb5)
      replace X4 := Lib.hid (X4.out.go hb5)
      replace HU := Lib.hid (HU.out.go hb5)
      replace HV := Lib.hid (HV.out.go hb5)
      replace D := Lib.hid (D.out.trans (hb5.mono D.out.size))
      clear hb5 HSG c1 l1
      have c0 := X0.out.cell
      have l0 := X0.out.lt
      have c1 := X1.out.cell
      have l1 := X1.out.lt
      go_wp2_with fail
      refine (ndivw_any HU.out HV.out (by have := HV0.out; omega) (by omega) (by omega)).mono ?_
      rintro e w3 ⟨Aq, nq, cq, lq, Ar, nr, cr, lr, rfl, hqc, hrc, hqn, hrn, HW, HRQ, HRR, hb5⟩
      clear HRQ
      replace X0 := Lib.hid (X0.out.go hb5)
      replace X1 := Lib.hid (X1.out.go hb5)
      replace X4 := Lib.hid (X4.out.go hb5)
      replace HU := Lib.hid (HU.out.go hb5)
      replace HV := Lib.hid (HV.out.go hb5)
      replace D := Lib.hid (D.out.trans (hb5.mono D.out.size))
      clear hb5 c0 l0 c1 l1
      simp only [Int.natAbs_natCast] at HW
      have HZ := Lib.hid (sgn_false (Pl.lv lr))
      rw [HW.out.2.2.2] at HZ
      have hsz : Pl.nw (u % v) ≤ q.n := by rw [HV.out.ln, Int.natAbs_natCast]; exact Pl.nw_mono (Nat.le_of_lt (Nat.mod_lt _ (by have := HV0.out; omega)))
      have hGn : Nat.gcd v (u % v) = G := by rw [Nat.gcd_comm, ← HG.out, Nat.gcd_comm u v]; exact (Nat.gcd_rec v u).symm
      have hmd : u % v < v := Nat.mod_lt _ (by have := HV0.out; omega)
      have HGN := Lib.hid (And.intro hGn (And.intro hmd hsz))
      clear hGn hmd hsz HG
      have HZ2 : Hid (sgn false (Pl.lv lr) = ((u % v : Nat) : Int)) := by rw [HW.out.2.2.2]; exact HZ.out
      generalize u % v = t at *
      clear HZ
      go_upto_region 4 with fail
      clear HU
      have hb5 := (Below.refl w3.heap.size w3).drew
      replace X0 := Lib.hid (X0.out.go hb5)
      replace X1 := Lib.hid (X1.out.go hb5)
      replace X4 := Lib.hid (X4.out.go hb5)
      replace HV := Lib.hid (HV.out.go hb5)
      replace D := Lib.hid (D.out.trans (hb5.mono D.out.size))
      replace HRR := Lib.hid (HRR.out.go hb5)
      clear hb5
      have HB0 := Lib.hid (Below.refl w3.drew.heap.size w3.drew)
      have hlt_X0 := X0.out.lt
      have hlt_X1 := X1.out.lt
      have hlt_X4 := X4.out.lt
      have hlt_D := D.out.size
      generalize hw9 : w3.drew = w4 at *
      have hSw : (fun w' : World => Blk w' (w.heap.size + 1) 40 #[.bool q.b, .slice q.A q.n q.c] ∧ True) w4 := ⟨X1.out.go HB0.out, trivial⟩
      refine wp_region_mid (fun w' : World => Blk w' (w.heap.size + 1) 40 #[.bool q.b, .slice q.A q.n q.c] ∧ True) 4 (by kernel_rfl) ?_
      rw [hw9]
      clear hw9
      refine wpAnyM_takeB 0 [4, 5] rfl (by kernel_rfl) (by kernel_rfl) (by kernel_rfl) (by kernel_rfl) (by kernel_rfl) (fun _ _ _ h => h) hSw (by kernel_rfl) (fun w' hSx => by have c0 := hSx.1.cell; have l0 := hSx.1.lt; go_simp; first | done | with_reducible rfl) ?_
      simp only [Act.put, List.setIfInBounds_toArray]
      refine wpAnyM_takeB 1 [2, 3, 4, 5] rfl (by kernel_rfl) (by kernel_rfl) (by kernel_rfl) (by kernel_rfl) (by kernel_rfl) (fun _ _ _ h => h) hSw (by kernel_rfl) (fun w' hSx => by have c0 := hSx.1.cell; have l0 := hSx.1.lt; go_simp; first | done | with_reducible rfl) ?_
      simp only [Act.put]
      refine wpAnyM_ready [2] (by kernel_rfl) (by simp) ?_
      refine AllReadyM.cons (by rfl) (fun K hK => ?_) AllReadyM.nil
      go_simp
      refine (clone_words Ar nr cr lr w4 (by omega) (HRR.out.go HB0.out)).mono ?_
      rintro e wq1 ⟨A2, c2, rfl, hc9, hr9, hb5⟩
      clear HRR
      replace HB0 := Lib.hid (Below.trans HB0.out (hb5.mono HB0.out.size))
      have HC2 := Lib.hid hr9
      clear hr9
      clear hb5
      clear hSw
      have hSw : (fun w' : World => Blk w' (w.heap.size + 1) 40 #[.bool q.b, .slice q.A q.n q.c] ∧ True) wq1 := ⟨X1.out.go HB0.out, trivial⟩
      refine hK.out _ _ hSw ?_
      clear hK K
      refine wpAnyM_ready [3] (by kernel_rfl) (by simp) ?_
      refine AllReadyM.cons (by rfl) (fun K hK => ?_) AllReadyM.nil
      go_simp
      refine (nnorm_any false A2 nr c2 lr wq1 (by omega) hc9 HC2.out HW.out.2.1 HZ2.out).mono ?_
      rintro e wq2 ⟨r1, rfl, hn9, hb5⟩
      clear HC2
      replace HB0 := Lib.hid (Below.trans HB0.out (hb5.mono HB0.out.size))
      have HN1 := Lib.hid hn9
      clear hn9
      clear hb5
      clear hSw
      have hSw : (fun w' : World => Blk w' (w.heap.size + 1) 40 #[.bool q.b, .slice q.A q.n q.c] ∧ True) wq2 := ⟨X1.out.go HB0.out, trivial⟩
      refine hK.out _ _ hSw ?_
      clear hK K
      refine wpAnyM_ready [4] (by kernel_rfl) (by simp) ?_
      refine AllReadyM.last (by rfl) (by decide) (fun K hK => ?_)
      replace X0 := Lib.hid (X0.out.go HB0.out)
      replace X1 := Lib.hid (X1.out.go HB0.out)
      replace X4 := Lib.hid (X4.out.go HB0.out)
      replace HV := Lib.hid (HV.out.go HB0.out)
      replace D := Lib.hid (D.out.trans (HB0.out.mono D.out.size))
      have cc9 := X0.out.cell
      have cf9 := X0.out.frozen
      have cl9 := X0.out.lt
      go_simp
      clear cc9 cf9 cl9
      replace X1 := Lib.hid (X1.out.far2 (r := w.heap.size) (by omega) (u0 := .bool q.b) (u1 := .slice q.A q.n q.c))
      replace X4 := Lib.hid (X4.out.far2 (r := w.heap.size) (by omega) (u0 := .bool q.b) (u1 := .slice q.A q.n q.c))
      replace HV := Lib.hid (HV.out.put2 X0.out (noU32_num _) (u0 := .bool q.b) (u1 := .slice q.A q.n q.c))
      replace D := Lib.hid (below_put2 D.out (r := w.heap.size) (Nat.le_refl _) (u0 := .bool q.b) (u1 := .slice q.A q.n q.c))
      replace HN1 := Lib.hid (HN1.out.put2 X0.out (noU32_num _) (u0 := .bool q.b) (u1 := .slice q.A q.n q.c))
      replace X0 := Lib.hid (X0.out.put2 (u0 := .bool q.b) (u1 := .slice q.A q.n q.c))
      generalize ((wq2.setCell ⟨w.heap.size, 0, none⟩ (.bool q.b)).setCell ⟨w.heap.size, 1, none⟩ (.slice q.A q.n q.c)) = wq3 at *
      replace HB0 := Lib.hid (Below.refl wq3.heap.size wq3)
      refine hK.out _ _ ?_
      clear hK K
      refine wpAnyM_ready [5] (by kernel_rfl) (by simp) ?_
      refine AllReadyM.last (by rfl) (by decide) (fun K hK => ?_)
      have cc9 := X1.out.cell
      have cf9 := X1.out.frozen
      have cl9 := X1.out.lt
      go_simp
      clear cc9 cf9 cl9
      replace X0 := Lib.hid (X0.out.far2 (r := w.heap.size + 1) (by omega) (u0 := .bool r1.b) (u1 := .slice r1.A r1.n r1.c))
      replace X4 := Lib.hid (X4.out.far2 (r := w.heap.size + 1) (by omega) (u0 := .bool r1.b) (u1 := .slice r1.A r1.n r1.c))
      replace HV := Lib.hid (HV.out.put2 X1.out (noU32_num _) (u0 := .bool r1.b) (u1 := .slice r1.A r1.n r1.c))
      replace D := Lib.hid (below_put2 D.out (r := w.heap.size + 1) (by omega) (u0 := .bool r1.b) (u1 := .slice r1.A r1.n r1.c))
      replace HN1 := Lib.hid (HN1.out.put2 X1.out (noU32_num _) (u0 := .bool r1.b) (u1 := .slice r1.A r1.n r1.c))
      replace X1 := Lib.hid (X1.out.put2 (u0 := .bool r1.b) (u1 := .slice r1.A r1.n r1.c))
      generalize ((wq3.setCell ⟨w.heap.size + 1, 0, none⟩ (.bool r1.b)).setCell ⟨w.heap.size + 1, 1, none⟩ (.slice r1.A r1.n r1.c)) = wq4 at *
      replace HB0 := Lib.hid (Below.refl wq4.heap.size wq4)
      refine hK.out _ _ ?_
      clear hK K
      refine wpAnyM_done (by kernel_rfl) ?_ _
      clear HB0 hSw
      go_wp2_with fail
      go_roundg (t + 1)
      case measure => have := HGN.out.2.1; omega
      case rel => exact ⟨v, t, q, r1, rfl, sq, (by have := HGN.out.2.2; have := HN1.out.ln; rw [Int.natAbs_natCast] at this; omega), ⟨HGN.out.1, X0.out, X1.out, X4.out, HV.out, HN1.out, D.out⟩⟩
end Go.Proofs.YtflfbbdapbjaaaaDoor
