/- Package large: rational numbers as values; Ratio gives lowest terms. Condition: the words read; the divisor is not 0; at most 10^6 words. -/
import Derived.Test.YtoblpcljhblnmaaGreatDoorLgQ
import Derived.Test.YtoblpcljhblnmaaGreatDoorLgP
import Derived.Test.YtoblpcljhblnmaaGreatDoorPRsz
namespace Go.Proofs.YtoblpcljhblnmaaGreatDoor
open Go.RowKit
set_option maxRecDepth 100000
structure Rt where
  N : Nm
  D : Nm
abbrev Rt.v (r : Rt) : Value := .agg #[.bool r.N.b, .slice r.N.A r.N.n r.N.c, .bool r.D.b, .slice r.D.A r.D.n r.D.c]
structure RatIs (w : World) (B : Nat) (q : Rat) (r : Rt) : Prop where
  n : NumIs w B q.num r.N
  d : NumIs w B (q.den : Int) r.D
section
variable {w w' : World} {B B' : Nat} {q : Rat} {r : Rt}
theorem RatIs.go (h : RatIs w w.heap.size q r) (hb : Below w.heap.size w w') : RatIs w' w'.heap.size q r := ⟨h.n.go hb, h.d.go hb⟩
theorem RatIs.sn (h : RatIs w B q r) : r.N.n ≤ Pl.rsz q := by rw [h.n.ln]; exact Pl.rsz_num q
theorem RatIs.sd (h : RatIs w B q r) : r.D.n ≤ Pl.rsz q := by rw [h.d.ln, Int.natAbs_natCast]; exact Pl.rsz_den q
end
def RtSaid (q : Rat) (w : World) (e : Ending) (w' : World) : Prop := ∃ r : Rt, e = .returned r.v ∧ RatIs w' w'.heap.size q r ∧ Below w.heap.size w w'
theorem boxes3t (w : World) (x y z : Array Value) (t t' t'' : TypeId) : let w1 := ((w.alloc (.cells x t)).alloc (.cells y t')).alloc (.cells z t'')
    Blk w1 w.heap.size t x ∧ Blk w1 (w.heap.size + 1) t' y ∧ Blk w1 (w.heap.size + 1 + 1) t'' z ∧ Below w.heap.size w w1 ∧ w1.heap.size = w.heap.size + 1 + 1 + 1 :=
  ⟨((Blk.new_ w _ t x rfl).alloc _).alloc _, (Blk.new_ _ (w.heap.size + 1) t' y (by simp)).alloc _, Blk.new_ _ (w.heap.size + 1 + 1) t'' z (by simp), (((Below.refl _ w).alloc (Nat.le_refl _) _).alloc (by simp) _).alloc (by simp; omega) _, by simp⟩
theorem one_word {w : World} {B : Nat} {d : Int} {y : Nm} (h : NumIs w B d y) (hd : 0 < d) : (y.n ≠ 1 ∧ d ≠ 1) ∨ (y.n = 1 ∧ ∃ b o, y.A = some ⟨b, o, none⟩ ∧ b < B ∧ w.cell? ⟨b, o, none⟩ = some (.int .u32 d)) := by
  by_cases h1 : y.n = 1
  · refine .inr ⟨h1, ?_⟩
    obtain ⟨b, o, e, hb, hl, hc⟩ := u32_at h.reads (k := 0) (by omega)
    refine ⟨b, o, e, hb, ?_⟩
    rw [Nat.add_zero] at hc
    rw [hc]
    have hn : d.natAbs ≠ 0 := by omega
    have e1 := Pl.lt_nw d.natAbs
    rw [← h.ln, h1, Nat.pow_one] at e1
    have e2 : (Pl.digs d.natAbs)[0]? = some (d.natAbs % 4294967296) := by rw [Pl.digs_pos hn]; rfl
    rw [List.getElem?_eq_getElem hl] at e2
    injection e2 with e2
    rw [e2, Nat.mod_eq_of_lt e1]
    congr 2
    omega
  · refine .inl ⟨h1, ?_⟩
    rintro rfl
    rw [h.ln] at h1
    exact h1 Pl.nw_one
def RatioM (w wx : World) (q : Rat) (n d : Int) (x y : Nm) : Prop :=
  0 < d ∧ Rat.divInt n d = q ∧ Blk wx w.heap.size 103 #[.bool x.b, .slice x.A x.n x.c] ∧ Blk wx (w.heap.size + 1) 103 #[.bool y.b, .slice y.A y.n y.c] ∧ Blk wx (w.heap.size + 1 + 1) 105 #[.bool false, .slice none 0 0, .bool false, .slice none 0 0] ∧ NumIs wx wx.heap.size n x ∧ NumIs wx wx.heap.size d y ∧ Below w.heap.size w wx
set_option maxHeartbeats 12800000 in
theorem ratio_any {n d : Int} {x y : Nm} {w : World} (hx : NumIs w w.heap.size n x) (hy : NumIs w w.heap.size d y) (hd : d ≠ 0) (sx : x.n ≤ 4398046511104) (sy : y.n ≤ 4398046511104) :
    Calls Tryz.prog 88 #[x.v, y.v] w (RtSaid (Rat.divInt n d) w) := by
  obtain ⟨hA, hB, hR, hD, hsz⟩ := boxes3t w #[.bool x.b, .slice x.A x.n x.c] #[.bool y.b, .slice y.A y.n y.c] #[.bool false, .slice none 0 0, .bool false, .slice none 0 0] 103 103 105
  have HN := Lib.hid (hx.go hD)
  have HD := Lib.hid (hy.go hD)
  obtain ⟨q, hq⟩ : ∃ q : Rat, q = Rat.divInt n d := ⟨_, rfl⟩
  rw [← hq]
  have HQ := Lib.hid hq.symm
  have HD0 := Lib.hid hd
  have X2 := Lib.hid hA
  have X3 := Lib.hid hB
  have X4 := Lib.hid hR
  have D := Lib.hid hD
  clear hx hy hA hB hR hD hsz hq hd
  go_enter Tryz.func88, Tryz.ntmps88
  go_upto_if 8 with fail
  generalize ((w.alloc (.cells #[.bool x.b, .slice x.A x.n x.c] 103)).alloc (.cells #[.bool y.b, .slice y.A y.n y.c] 103)).alloc (.cells #[.bool false, .slice none 0 0, .bool false, .slice none 0 0] 105) = w1 at *
  go_cut [] from 7 to 12 (fun wx => ∃ (n' d' : Int) (x' y' : Nm), x'.n ≤ 4398046511104 ∧ y'.n ≤ 4398046511104 ∧ Hid (RatioM w wx q n' d' x' y'))
  case first =>
    by_cases hdn : d < 0
    · have hyb : y.b = true := by rw [HD.out.sg]; exact decide_eq_true hdn
      have HDN := Lib.hid hdn
      clear hdn
      rw [hyb]
      clear hyb
      go_upto_region 2 with fail
      have hb5 := (Below.refl w1.heap.size w1).drew
      replace X2 := Lib.hid (X2.out.go hb5)
      replace X3 := Lib.hid (X3.out.go hb5)
      replace X4 := Lib.hid (X4.out.go hb5)
      replace HN := Lib.hid (HN.out.go hb5)
      replace HD := Lib.hid (HD.out.go hb5)
      replace D := Lib.hid (D.out.trans (hb5.mono D.out.size))
      clear hb5
      have HB0 := Lib.hid (Below.refl w1.drew.heap.size w1.drew)
      have hlt_X2 := X2.out.lt
      have hlt_X3 := X3.out.lt
      have hlt_X4 := X4.out.lt
      have hlt_D := D.out.size
      generalize hw9 : w1.drew = w2 at *
      have hSw : (fun w' : World => Blk w' (w.heap.size) 103 #[.bool x.b, .slice x.A x.n x.c] ∧ Blk w' (w.heap.size + 1) 103 #[.bool y.b, .slice y.A y.n y.c] ∧ True) w2 := ⟨X2.out.go HB0.out, X3.out.go HB0.out, trivial⟩
      refine wp_region_mid (fun w' : World => Blk w' (w.heap.size) 103 #[.bool x.b, .slice x.A x.n x.c] ∧ Blk w' (w.heap.size + 1) 103 #[.bool y.b, .slice y.A y.n y.c] ∧ True) 4 (by kernel_rfl) ?_
      rw [hw9]
      clear hw9
      refine Tk.go [(0, [1, 3, 4, 5]), (2, [3, 4, 5])] ?_
      iterate 2 (refine Tk.cons rfl (by kernel_rfl) (fun _ _ _ h => h) hSw (by kernel_rfl) (fun w' hSx => by have c0 := hSx.1.cell; have l0 := hSx.1.lt; have c1 := hSx.2.1.cell; have l1 := hSx.2.1.lt; go_simp; first | done | with_reducible rfl) ?_; simp only [Act.put, List.setIfInBounds_toArray])
      refine Tk.nil ?_
      refine wpAnyM_ready [1] (by kernel_rfl) (by simp) ?_
      refine AllReadyM.cons (by rfl) (fun K hK => ?_) AllReadyM.nil
      go_simp
      refine (nneg_any (HN.out.go HB0.out) (by omega)).mono ?_
      rintro e wq1 ⟨x2, rfl, hn9, hb5⟩
      replace HB0 := Lib.hid (Below.trans HB0.out (hb5.mono HB0.out.size))
      have HN2 := Lib.hid hn9
      clear hn9
      clear hb5
      clear hSw
      have hSw : (fun w' : World => Blk w' (w.heap.size) 103 #[.bool x.b, .slice x.A x.n x.c] ∧ Blk w' (w.heap.size + 1) 103 #[.bool y.b, .slice y.A y.n y.c] ∧ True) wq1 := ⟨X2.out.go HB0.out, X3.out.go HB0.out, trivial⟩
      refine hK.out _ _ hSw ?_
      clear hK K
      refine wpAnyM_ready [3] (by kernel_rfl) (by simp) ?_
      refine AllReadyM.cons (by rfl) (fun K hK => ?_) AllReadyM.nil
      go_simp
      refine (nneg_any (HD.out.go HB0.out) (by omega)).mono ?_
      rintro e wq2 ⟨y2, rfl, hn9, hb5⟩
      replace HN2 := Lib.hid (HN2.out.go hb5)
      replace HB0 := Lib.hid (Below.trans HB0.out (hb5.mono HB0.out.size))
      have HD2 := Lib.hid hn9
      clear hn9
      clear hb5
      clear hSw
      have hSw : (fun w' : World => Blk w' (w.heap.size) 103 #[.bool x.b, .slice x.A x.n x.c] ∧ Blk w' (w.heap.size + 1) 103 #[.bool y.b, .slice y.A y.n y.c] ∧ True) wq2 := ⟨X2.out.go HB0.out, X3.out.go HB0.out, trivial⟩
      refine hK.out _ _ hSw ?_
      clear hK K
      refine wpAnyM_ready [4] (by kernel_rfl) (by simp) ?_
      refine AllReadyM.last (by rfl) (by decide) (fun K hK => ?_)
      replace X2 := Lib.hid (X2.out.go HB0.out)
      replace X3 := Lib.hid (X3.out.go HB0.out)
      replace X4 := Lib.hid (X4.out.go HB0.out)
      replace HN := Lib.hid (HN.out.go HB0.out)
      replace HD := Lib.hid (HD.out.go HB0.out)
      replace D := Lib.hid (D.out.trans (HB0.out.mono D.out.size))
      have cc9 := X2.out.cell
      have cf9 := X2.out.frozen
      have cl9 := X2.out.lt
      go_simp
      clear cc9 cf9 cl9
      replace X3 := Lib.hid (X3.out.far2 (r := w.heap.size) (by omega) (u0 := .bool x2.b) (u1 := .slice x2.A x2.n x2.c))
      replace X4 := Lib.hid (X4.out.far2 (r := w.heap.size) (by omega) (u0 := .bool x2.b) (u1 := .slice x2.A x2.n x2.c))
      replace HN := Lib.hid (HN.out.put2 X2.out (noU32_num _) (u0 := .bool x2.b) (u1 := .slice x2.A x2.n x2.c))
      replace HD := Lib.hid (HD.out.put2 X2.out (noU32_num _) (u0 := .bool x2.b) (u1 := .slice x2.A x2.n x2.c))
      replace D := Lib.hid (below_put2 D.out (r := w.heap.size) (Nat.le_refl _) (u0 := .bool x2.b) (u1 := .slice x2.A x2.n x2.c))
      replace HN2 := Lib.hid (HN2.out.put2 X2.out (noU32_num _) (u0 := .bool x2.b) (u1 := .slice x2.A x2.n x2.c))
      replace HD2 := Lib.hid (HD2.out.put2 X2.out (noU32_num _) (u0 := .bool x2.b) (u1 := .slice x2.A x2.n x2.c))
      replace X2 := Lib.hid (X2.out.put2 (u0 := .bool x2.b) (u1 := .slice x2.A x2.n x2.c))
      generalize ((wq2.setCell ⟨w.heap.size, 0, none⟩ (.bool x2.b)).setCell ⟨w.heap.size, 1, none⟩ (.slice x2.A x2.n x2.c)) = wq3 at *
      replace HB0 := Lib.hid (Below.refl wq3.heap.size wq3)
      refine hK.out _ _ ?_
      clear hK K
      refine wpAnyM_ready [5] (by kernel_rfl) (by simp) ?_
      refine AllReadyM.last (by rfl) (by decide) (fun K hK => ?_)
      have cc9 := X3.out.cell
      have cf9 := X3.out.frozen
      have cl9 := X3.out.lt
      go_simp
      clear cc9 cf9 cl9
      replace X2 := Lib.hid (X2.out.far2 (r := w.heap.size + 1) (by omega) (u0 := .bool y2.b) (u1 := .slice y2.A y2.n y2.c))
      replace X4 := Lib.hid (X4.out.far2 (r := w.heap.size + 1) (by omega) (u0 := .bool y2.b) (u1 := .slice y2.A y2.n y2.c))
      replace HN := Lib.hid (HN.out.put2 X3.out (noU32_num _) (u0 := .bool y2.b) (u1 := .slice y2.A y2.n y2.c))
      replace HD := Lib.hid (HD.out.put2 X3.out (noU32_num _) (u0 := .bool y2.b) (u1 := .slice y2.A y2.n y2.c))
      replace D := Lib.hid (below_put2 D.out (r := w.heap.size + 1) (by omega) (u0 := .bool y2.b) (u1 := .slice y2.A y2.n y2.c))
      replace HN2 := Lib.hid (HN2.out.put2 X3.out (noU32_num _) (u0 := .bool y2.b) (u1 := .slice y2.A y2.n y2.c))
      replace HD2 := Lib.hid (HD2.out.put2 X3.out (noU32_num _) (u0 := .bool y2.b) (u1 := .slice y2.A y2.n y2.c))
      replace X3 := Lib.hid (X3.out.put2 (u0 := .bool y2.b) (u1 := .slice y2.A y2.n y2.c))
      generalize ((wq3.setCell ⟨w.heap.size + 1, 0, none⟩ (.bool y2.b)).setCell ⟨w.heap.size + 1, 1, none⟩ (.slice y2.A y2.n y2.c)) = wq4 at *
      replace HB0 := Lib.hid (Below.refl wq4.heap.size wq4)
      refine hK.out _ _ ?_
      clear hK K
      refine wpAnyM_done (by kernel_rfl) ?_ _
      clear HB0 hSw
      go_wp2_with fail
      go_meet
      exact ⟨-n, -d, x2, y2, (by have := HN2.out.ln; have := HN.out.ln; rw [Int.natAbs_neg] at *; omega), (by have := HD2.out.ln; have := HD.out.ln; rw [Int.natAbs_neg] at *; omega), ⟨by have := HDN.out; omega, by rw [Rat.neg_divInt_neg]; exact HQ.out, X2.out, X3.out, X4.out, HN2.out, HD2.out, D.out⟩⟩
    · have hyb : y.b = false := by rw [HD.out.sg]; exact decide_eq_false hdn
      have HDN := Lib.hid hdn
      clear hdn
      rw [hyb]
      clear hyb
      go_wp2_with fail
      go_meet
      exact ⟨n, d, x, y, sx, sy, ⟨by have := HDN.out; have := HD0.out; omega, HQ.out, X2.out, X3.out, X4.out, HN.out, HD.out, D.out⟩⟩
  case rest =>
    clear HN HD HQ HD0 X2 X3 X4 D sx sy
    obtain ⟨n, d, x, y, sx, sy, HM⟩ := hcut
    go_upto_region 3 with fail
    go_cut [23] from 13 to 23 (fun v wx => v = .bool (decide (d = 1)) ∧ Hid (RatioM w wx q n d x y))
    case first =>
      have c3 := HM.out.2.2.2.1.cell
      have l3 := HM.out.2.2.2.1.lt
      rcases one_word HM.out.2.2.2.2.2.2.1 HM.out.1 with ⟨h1, h2⟩ | ⟨h1, b, o, hyA, hb, hc⟩
      · have e1 : ((y.n : Int) == 1) = false := by simp; omega
        have e2 : decide (d = 1) = false := decide_eq_false h2
        have E2 := Lib.hid e2
        clear h1 h2 e2
        go_wp2_with fail
        go_meet
        exact ⟨by rw [E2.out], HM.out⟩
      · have E := Lib.hid hb
        rw [hyA, h1] at c3
        clear hyA h1
        by_cases h2 : d = 1
        · subst h2
          go_wp2_with fail
          go_meet
          exact ⟨rfl, HM.out⟩
        · have e1 : (d == 1) = false := by simpa using h2
          have E2 := Lib.hid (decide_eq_false h2)
          clear h2
          go_wp2_with fail
          go_meet
          exact ⟨by rw [E2.out], HM.out⟩
    case rest =>
      clear HM
      obtain ⟨rfl, HM⟩ := hcut
      have HD0 := Lib.hid HM.out.1
      have HQ := Lib.hid HM.out.2.1
      have X2 := Lib.hid HM.out.2.2.1
      have X3 := Lib.hid HM.out.2.2.2.1
      have X4 := Lib.hid HM.out.2.2.2.2.1
      have HN := Lib.hid HM.out.2.2.2.2.2.1
      have HD := Lib.hid HM.out.2.2.2.2.2.2.1
      have D := Lib.hid HM.out.2.2.2.2.2.2.2
      clear HM
      have c2 := X2.out.cell
      have l2 := X2.out.lt
      have c3 := X3.out.cell
      have l3 := X3.out.lt
      by_cases h1 : d = 1
      · subst h1
        have c4 := X4.out.cell
        have l4 := X4.out.lt
        have f4 := X4.out.frozen
        go_wp2_with fail
        clear c2 l2 c3 l3 c4 l4 f4
        replace X2 := Lib.hid (X2.out.far4 (r := w.heap.size + 1 + 1) (by omega) (u0 := .bool x.b) (u1 := .slice x.A x.n x.c) (u2 := .bool y.b) (u3 := .slice y.A y.n y.c))
        replace X3 := Lib.hid (X3.out.far4 (r := w.heap.size + 1 + 1) (by omega) (u0 := .bool x.b) (u1 := .slice x.A x.n x.c) (u2 := .bool y.b) (u3 := .slice y.A y.n y.c))
        replace HN := Lib.hid (HN.out.put4 X4.out noU32_new2 (u0 := .bool x.b) (u1 := .slice x.A x.n x.c) (u2 := .bool y.b) (u3 := .slice y.A y.n y.c))
        replace HD := Lib.hid (HD.out.put4 X4.out noU32_new2 (u0 := .bool x.b) (u1 := .slice x.A x.n x.c) (u2 := .bool y.b) (u3 := .slice y.A y.n y.c))
        replace D := Lib.hid (below_put4 D.out (r := w.heap.size + 1 + 1) (by omega) (u0 := .bool x.b) (u1 := .slice x.A x.n x.c) (u2 := .bool y.b) (u3 := .slice y.A y.n y.c))
        replace X4 := Lib.hid (X4.out.put4 (u0 := .bool x.b) (u1 := .slice x.A x.n x.c) (u2 := .bool y.b) (u3 := .slice y.A y.n y.c))
        have k4 := X4.out.cell
        have hlow := Pl.low_one n
        rw [HQ.out] at hlow
        refine bodyPost_ret (v := (Rt.mk x y).v) (by simp [results, Tryz.results88, go_sem, k4]) rfl ⟨⟨x, y⟩, rfl, ⟨by rw [hlow.1]; exact HN.out, by rw [hlow.2]; exact HD.out⟩, D.out⟩
      · have e1 : decide (d = 1) = false := decide_eq_false h1
        rw [e1]
        have HN1 := Lib.hid h1
        clear h1 e1
        go_wp2_with fail
        refine (gcd_any HN.out HD.out (by omega) (by omega)).mono ?_
        rintro e w3 ⟨g, rfl, hg, hb5⟩
        have HG := Lib.hid hg
        replace X2 := Lib.hid (X2.out.go hb5)
        replace X3 := Lib.hid (X3.out.go hb5)
        replace X4 := Lib.hid (X4.out.go hb5)
        replace HN := Lib.hid (HN.out.go hb5)
        replace HD := Lib.hid (HD.out.go hb5)
        replace D := Lib.hid (D.out.trans (hb5.mono D.out.size))
        clear hb5 hg c2 l2 c3 l3
        go_upto_region 6 with fail
        have hb5 := below_one w3 (.cells #[.bool g.b, .slice g.A g.n g.c] 103)
        obtain ⟨g5, hg5⟩ : ∃ g : Nat, g = w3.heap.size := ⟨_, rfl⟩
        have X5 := Lib.hid (Blk.new_ w3 g5 103 #[.bool g.b, .slice g.A g.n g.c] hg5)
        have hlt : w.heap.size + 3 ≤ g5 := by have := X4.out.lt; omega
        rw [← hg5]
        replace X2 := Lib.hid (X2.out.go hb5)
        replace X3 := Lib.hid (X3.out.go hb5)
        replace X4 := Lib.hid (X4.out.go hb5)
        replace HN := Lib.hid (HN.out.go hb5)
        replace HD := Lib.hid (HD.out.go hb5)
        replace D := Lib.hid (D.out.trans (hb5.mono D.out.size))
        replace HG := Lib.hid (HG.out.go hb5)
        generalize w3.alloc (.cells #[.bool g.b, .slice g.A g.n g.c] 103) = w4 at *
        clear hb5 hg5
        obtain ⟨G, hG⟩ : ∃ G : Nat, G = Nat.gcd n.natAbs d.natAbs := ⟨_, rfl⟩
        rw [← hG] at HG
        have hsg : g.n ≤ 4398046511104 := by
          rw [HG.out.ln, Int.natAbs_natCast, hG]
          refine Nat.le_trans (Pl.nw_mono (Nat.gcd_le_right _ (by have := HD0.out; omega))) ?_
          rw [← HD.out.ln]; exact sy
        have hG0 : 0 < G := by rw [hG]; exact Nat.gcd_pos_of_pos_right _ (by have := HD0.out; omega)
        have HGE := Lib.hid (And.intro hG hG0)
        clear hG hG0 HN1
        go_cut [40] from 30 to 40 (fun v wx => v = .bool (decide ((G : Int) = 1)) ∧ wx = w4)
        case first =>
          have c3 := X5.out.cell
          have l3 := X5.out.lt
          rcases one_word HG.out (by have := HGE.out.2; omega) with ⟨h1, h2⟩ | ⟨h1, b, o, hyA, hb, hc⟩
          · have e1 : ((g.n : Int) == 1) = false := by simp; omega
            have E2 := Lib.hid (decide_eq_false h2)
            clear h1 h2
            go_wp2_with fail
            go_meet
            exact ⟨by rw [E2.out], rfl⟩
          · have E := Lib.hid hb
            rw [hyA, h1] at c3
            clear hyA h1
            obtain ⟨GI, hGI⟩ : ∃ GI : Int, GI = (G : Int) := ⟨_, rfl⟩
            rw [← hGI] at hc
            have HGI := Lib.hid hGI
            clear hGI
            by_cases h2 : GI = 1
            · subst h2
              go_wp2_with fail
              go_meet
              exact ⟨by rw [← HGI.out]; rfl, rfl⟩
            · have e1 : (GI == 1) = false := by simpa using h2
              have E2 := Lib.hid (decide_eq_false h2)
              clear h2
              go_wp2_with fail
              go_meet
              exact ⟨by rw [← HGI.out, E2.out], rfl⟩
        case rest =>
          obtain ⟨rfl, rfl⟩ := hcut
          have c2 := X2.out.cell
          have l2 := X2.out.lt
          by_cases h1 : (G : Int) = 1
          · have e1 : decide ((G : Int) = 1) = true := decide_eq_true h1
            rw [e1]
            have HG1 := Lib.hid h1
            clear e1 h1
            have c3 := X3.out.cell
            have l3 := X3.out.lt
            have c4 := X4.out.cell
            have l4 := X4.out.lt
            have f4 := X4.out.frozen
            go_wp2_with fail
            clear c2 l2 c3 l3 c4 l4 f4
            replace X2 := Lib.hid (X2.out.far4 (r := w.heap.size + 1 + 1) (by omega) (u0 := .bool x.b) (u1 := .slice x.A x.n x.c) (u2 := .bool y.b) (u3 := .slice y.A y.n y.c))
            replace X3 := Lib.hid (X3.out.far4 (r := w.heap.size + 1 + 1) (by omega) (u0 := .bool x.b) (u1 := .slice x.A x.n x.c) (u2 := .bool y.b) (u3 := .slice y.A y.n y.c))
            replace HN := Lib.hid (HN.out.put4 X4.out noU32_new2 (u0 := .bool x.b) (u1 := .slice x.A x.n x.c) (u2 := .bool y.b) (u3 := .slice y.A y.n y.c))
            replace HD := Lib.hid (HD.out.put4 X4.out noU32_new2 (u0 := .bool x.b) (u1 := .slice x.A x.n x.c) (u2 := .bool y.b) (u3 := .slice y.A y.n y.c))
            replace D := Lib.hid (below_put4 D.out (r := w.heap.size + 1 + 1) (by omega) (u0 := .bool x.b) (u1 := .slice x.A x.n x.c) (u2 := .bool y.b) (u3 := .slice y.A y.n y.c))
            replace X4 := Lib.hid (X4.out.put4 (u0 := .bool x.b) (u1 := .slice x.A x.n x.c) (u2 := .bool y.b) (u3 := .slice y.A y.n y.c))
            have k4 := X4.out.cell
            have hlow := Pl.low_cop (n := n) HD0.out (by rw [← HGE.out.1]; have := HG1.out; omega)
            rw [HQ.out] at hlow
            refine bodyPost_ret (v := (Rt.mk x y).v) (by simp [results, Tryz.results88, go_sem, k4]) rfl ⟨⟨x, y⟩, rfl, ⟨by rw [hlow.1]; exact HN.out, by rw [hlow.2]; exact HD.out⟩, D.out⟩
          · have e1 : decide ((G : Int) = 1) = false := decide_eq_false h1
            rw [e1]
            clear e1 h1
            have hlow := Pl.low_div (n := n) HD0.out
            rw [HQ.out, ← HGE.out.1] at hlow
            have HL := Lib.hid hlow
            have hNS := HN.out.sg
            have HA := Lib.hid HN.out.abs
            have hq0 : n < 0 → n.natAbs / G ≠ 0 := fun hn => by
              have h2 := hlow.2.2.2 hn
              have h3 := hlow.1
              omega
            have HQ0 := Lib.hid hq0
            have f2 := X2.out.frozen
            clear hlow hq0 HN
            by_cases hn : n < 0
            · have hxb : x.b = true := by rw [hNS]; exact decide_eq_true hn
              have HNN := Lib.hid hn
              rw [hxb] at c2
              clear hxb hNS hn
              go_upto_region 10 with fail
              clear c2 l2 f2
              replace X4 := Lib.hid (X4.out.far1 (r := w.heap.size) (by omega) 0 (u0 := .bool false))
              replace X3 := Lib.hid (X3.out.far1 (r := w.heap.size) (by omega) 0 (u0 := .bool false))
              replace X5 := Lib.hid (X5.out.far1 (r := w.heap.size) (by omega) 0 (u0 := .bool false))
              replace HA := Lib.hid (HA.out.put1 X2.out (noU32_num x) 0 (u0 := .bool false))
              replace HG := Lib.hid (HG.out.put1 X2.out (noU32_num x) 0 (u0 := .bool false))
              replace HD := Lib.hid (HD.out.put1 X2.out (noU32_num x) 0 (u0 := .bool false))
              replace D := Lib.hid (below_put1 D.out (Nat.le_refl _) 0 (u0 := .bool false))
              replace X2 : Hid (Blk _ _ _ #[.bool false, .slice x.A x.n x.c]) := X2.out.put1 (u0 := .bool false)
              generalize wc.setCell ⟨w.heap.size, 0, none⟩ (.bool false) = w5 at *
              have c2 := X2.out.cell
              have l2 := X2.out.lt
              have f2 := X2.out.frozen
              have c5 := X5.out.cell
              have l5 := X5.out.lt
              have f5 := X5.out.frozen
              go_wp2_with fail
              refine (dm_any HA.out HG.out (by have := HGE.out.2; omega) sx hsg).mono ?_
              rintro e w6 ⟨q1, r1, rfl, hq1, hr1, hb5⟩
              have HQ1 := Lib.hid hq1
              clear hr1 hq1
              replace X2 := Lib.hid (X2.out.go hb5)
              replace X3 := Lib.hid (X3.out.go hb5)
              replace X4 := Lib.hid (X4.out.go hb5)
              replace HD := Lib.hid (HD.out.go hb5)
              replace D := Lib.hid (D.out.trans (hb5.mono D.out.size))
              replace HA := Lib.hid (HA.out.go hb5)
              replace HG := Lib.hid (HG.out.go hb5)
              replace X5 := Lib.hid (X5.out.go hb5)
              clear hb5
              clear c2 l2 f2 c5 l5 f5
              have c2 := X2.out.cell
              have l2 := X2.out.lt
              have f2 := X2.out.frozen
              go_upto_region 11 with fail
              clear c2 l2 f2
              replace X3 := Lib.hid (X3.out.far2 (r := w.heap.size) (by omega) (u0 := .bool q1.b) (u1 := .slice q1.A q1.n q1.c))
              replace X4 := Lib.hid (X4.out.far2 (r := w.heap.size) (by omega) (u0 := .bool q1.b) (u1 := .slice q1.A q1.n q1.c))
              replace HD := Lib.hid (HD.out.put2 X2.out (noU32_num ⟨false, x.A, x.n, x.c⟩) (u0 := .bool q1.b) (u1 := .slice q1.A q1.n q1.c))
              replace D := Lib.hid (below_put2 D.out (r := w.heap.size) (Nat.le_refl _) (u0 := .bool q1.b) (u1 := .slice q1.A q1.n q1.c))
              replace HG := Lib.hid (HG.out.put2 X2.out (noU32_num ⟨false, x.A, x.n, x.c⟩) (u0 := .bool q1.b) (u1 := .slice q1.A q1.n q1.c))
              replace X5 := Lib.hid (X5.out.far2 (r := w.heap.size) (by omega) (u0 := .bool q1.b) (u1 := .slice q1.A q1.n q1.c))
              replace HQ1 := Lib.hid (HQ1.out.put2 X2.out (noU32_num ⟨false, x.A, x.n, x.c⟩) (u0 := .bool q1.b) (u1 := .slice q1.A q1.n q1.c))
              replace X2 := Lib.hid (X2.out.put2 (u0 := .bool q1.b) (u1 := .slice q1.A q1.n q1.c))
              generalize (w6.setCell ⟨w.heap.size, 0, none⟩ (.bool q1.b)).setCell ⟨w.heap.size, 1, none⟩ (.slice q1.A q1.n q1.c) = w7 at *
              have c3 := X3.out.cell
              have l3 := X3.out.lt
              have f3 := X3.out.frozen
              have c5 := X5.out.cell
              have l5 := X5.out.lt
              have f5 := X5.out.frozen
              go_wp2_with fail
              refine (dm_any HD.out HG.out (by have := HGE.out.2; omega) sy hsg).mono ?_
              rintro e w8 ⟨q2, r2, rfl, hq2, hr2, hb5⟩
              have HQ2 := Lib.hid hq2
              clear hr2 hq2
              replace X2 := Lib.hid (X2.out.go hb5)
              replace X3 := Lib.hid (X3.out.go hb5)
              replace X4 := Lib.hid (X4.out.go hb5)
              replace HD := Lib.hid (HD.out.go hb5)
              replace D := Lib.hid (D.out.trans (hb5.mono D.out.size))
              replace HG := Lib.hid (HG.out.go hb5)
              replace X5 := Lib.hid (X5.out.go hb5)
              replace HQ1 := Lib.hid (HQ1.out.go hb5)
              clear hb5
              clear c3 l3 f3 c5 l5 f5
              have c3 := X3.out.cell
              have l3 := X3.out.lt
              have f3 := X3.out.frozen
              go_upto_region 12 with fail
              clear c3 l3 f3
              replace X2 := Lib.hid (X2.out.far2 (r := w.heap.size + 1) (by omega) (u0 := .bool q2.b) (u1 := .slice q2.A q2.n q2.c))
              replace X4 := Lib.hid (X4.out.far2 (r := w.heap.size + 1) (by omega) (u0 := .bool q2.b) (u1 := .slice q2.A q2.n q2.c))
              replace D := Lib.hid (below_put2 D.out (r := w.heap.size + 1) (by omega) (u0 := .bool q2.b) (u1 := .slice q2.A q2.n q2.c))
              replace HG := Lib.hid (HG.out.put2 X3.out (noU32_num _) (u0 := .bool q2.b) (u1 := .slice q2.A q2.n q2.c))
              replace X5 := Lib.hid (X5.out.far2 (r := w.heap.size + 1) (by omega) (u0 := .bool q2.b) (u1 := .slice q2.A q2.n q2.c))
              replace HQ1 := Lib.hid (HQ1.out.put2 X3.out (noU32_num _) (u0 := .bool q2.b) (u1 := .slice q2.A q2.n q2.c))
              replace HQ2 := Lib.hid (HQ2.out.put2 X3.out (noU32_num _) (u0 := .bool q2.b) (u1 := .slice q2.A q2.n q2.c))
              replace X3 := Lib.hid (X3.out.put2 (u0 := .bool q2.b) (u1 := .slice q2.A q2.n q2.c))
              generalize (w8.setCell ⟨w.heap.size + 1, 0, none⟩ (.bool q2.b)).setCell ⟨w.heap.size + 1, 1, none⟩ (.slice q2.A q2.n q2.c) = w9 at *
              have hq9 : (0 : Int) < (q1.n : Int) := by
                have h3 := HQ0.out HNN.out
                rcases Nat.eq_zero_or_pos q1.n with h4 | h4
                · exfalso
                  have h5 := HQ1.out.len0.1 h4
                  rw [← Int.natCast_ediv] at h5
                  omega
                · omega
              have hq8 : 0 < q1.n := by omega
              have c2 := X2.out.cell
              have l2 := X2.out.lt
              have f2 := X2.out.frozen
              go_upto_region 13 with fail
              clear c2 l2 f2
              replace X3 := Lib.hid (X3.out.far1 (r := w.heap.size) (by omega) 0 (u0 := .bool true))
              replace X4 := Lib.hid (X4.out.far1 (r := w.heap.size) (by omega) 0 (u0 := .bool true))
              replace HQ1 := Lib.hid (HQ1.out.put1 X2.out (noU32_num _) 0 (u0 := .bool true))
              replace HQ2 := Lib.hid (HQ2.out.put1 X2.out (noU32_num _) 0 (u0 := .bool true))
              replace D := Lib.hid (below_put1 D.out (Nat.le_refl _) 0 (u0 := .bool true))
              replace X2 : Hid (Blk _ _ _ #[.bool true, .slice q1.A q1.n q1.c]) := X2.out.put1 (u0 := .bool true)
              clear HG X5
              generalize w9.setCell ⟨w.heap.size, 0, none⟩ (.bool true) = w10 at *
              have c2 := X2.out.cell
              have l2 := X2.out.lt
              have f2 := X2.out.frozen
              have c3 := X3.out.cell
              have l3 := X3.out.lt
              have f3 := X3.out.frozen
              have c4 := X4.out.cell
              have l4 := X4.out.lt
              have f4 := X4.out.frozen
              go_wp2_with fail
              clear c2 l2 f2 c3 l3 f3 c4 l4 f4
              replace X2 := Lib.hid (X2.out.far4 (r := w.heap.size + 1 + 1) (by omega) (u0 := .bool true) (u1 := .slice q1.A q1.n q1.c) (u2 := .bool q2.b) (u3 := .slice q2.A q2.n q2.c))
              replace X3 := Lib.hid (X3.out.far4 (r := w.heap.size + 1 + 1) (by omega) (u0 := .bool true) (u1 := .slice q1.A q1.n q1.c) (u2 := .bool q2.b) (u3 := .slice q2.A q2.n q2.c))
              replace HQ1 := Lib.hid (HQ1.out.put4 X4.out noU32_new2 (u0 := .bool true) (u1 := .slice q1.A q1.n q1.c) (u2 := .bool q2.b) (u3 := .slice q2.A q2.n q2.c))
              replace HQ2 := Lib.hid (HQ2.out.put4 X4.out noU32_new2 (u0 := .bool true) (u1 := .slice q1.A q1.n q1.c) (u2 := .bool q2.b) (u3 := .slice q2.A q2.n q2.c))
              replace D := Lib.hid (below_put4 D.out (r := w.heap.size + 1 + 1) (by omega) (u0 := .bool true) (u1 := .slice q1.A q1.n q1.c) (u2 := .bool q2.b) (u3 := .slice q2.A q2.n q2.c))
              replace X4 := Lib.hid (X4.out.put4 (u0 := .bool true) (u1 := .slice q1.A q1.n q1.c) (u2 := .bool q2.b) (u3 := .slice q2.A q2.n q2.c))
              have k4 := X4.out.cell
              have hl := HL.out
              have hna : (((n.natAbs : Int) / (G : Int))).natAbs = q.num.natAbs := by rw [← Int.natCast_ediv, Int.natAbs_natCast]; exact hl.1.symm
              refine bodyPost_ret (v := (Rt.mk ⟨true, q1.A, q1.n, q1.c⟩ q2).v) (by simp [results, Tryz.results88, go_sem, k4]) rfl ⟨⟨⟨true, q1.A, q1.n, q1.c⟩, q2⟩, rfl, ⟨⟨?_, ?_, ?_⟩, by rw [hl.2.1]; exact HQ2.out⟩, D.out⟩
              · exact (decide_eq_true (hl.2.2.2 HNN.out)).symm
              · rw [← hna]; exact HQ1.out.ln
              · have h := HQ1.out.at_
                unfold NumAt at h ⊢
                rw [hna] at h
                exact h
            · have hxb : x.b = false := by rw [hNS]; exact decide_eq_false hn
              have HNN := Lib.hid hn
              rw [hxb] at c2
              clear hxb hNS hn
              go_upto_region 10 with fail
              clear c2 l2 f2
              replace X4 := Lib.hid (X4.out.far1 (r := w.heap.size) (by omega) 0 (u0 := .bool false))
              replace X3 := Lib.hid (X3.out.far1 (r := w.heap.size) (by omega) 0 (u0 := .bool false))
              replace X5 := Lib.hid (X5.out.far1 (r := w.heap.size) (by omega) 0 (u0 := .bool false))
              replace HA := Lib.hid (HA.out.put1 X2.out (noU32_num x) 0 (u0 := .bool false))
              replace HG := Lib.hid (HG.out.put1 X2.out (noU32_num x) 0 (u0 := .bool false))
              replace HD := Lib.hid (HD.out.put1 X2.out (noU32_num x) 0 (u0 := .bool false))
              replace D := Lib.hid (below_put1 D.out (Nat.le_refl _) 0 (u0 := .bool false))
              replace X2 : Hid (Blk _ _ _ #[.bool false, .slice x.A x.n x.c]) := X2.out.put1 (u0 := .bool false)
              generalize wc.setCell ⟨w.heap.size, 0, none⟩ (.bool false) = w5 at *
              have c2 := X2.out.cell
              have l2 := X2.out.lt
              have f2 := X2.out.frozen
              have c5 := X5.out.cell
              have l5 := X5.out.lt
              have f5 := X5.out.frozen
              go_wp2_with fail
              refine (dm_any HA.out HG.out (by have := HGE.out.2; omega) sx hsg).mono ?_
              rintro e w6 ⟨q1, r1, rfl, hq1, hr1, hb5⟩
              have HQ1 := Lib.hid hq1
              clear hr1 hq1
              replace X2 := Lib.hid (X2.out.go hb5)
              replace X3 := Lib.hid (X3.out.go hb5)
              replace X4 := Lib.hid (X4.out.go hb5)
              replace HD := Lib.hid (HD.out.go hb5)
              replace D := Lib.hid (D.out.trans (hb5.mono D.out.size))
              replace HA := Lib.hid (HA.out.go hb5)
              replace HG := Lib.hid (HG.out.go hb5)
              replace X5 := Lib.hid (X5.out.go hb5)
              clear hb5
              clear c2 l2 f2 c5 l5 f5
              have c2 := X2.out.cell
              have l2 := X2.out.lt
              have f2 := X2.out.frozen
              go_upto_region 11 with fail
              clear c2 l2 f2
              replace X3 := Lib.hid (X3.out.far2 (r := w.heap.size) (by omega) (u0 := .bool q1.b) (u1 := .slice q1.A q1.n q1.c))
              replace X4 := Lib.hid (X4.out.far2 (r := w.heap.size) (by omega) (u0 := .bool q1.b) (u1 := .slice q1.A q1.n q1.c))
              replace HD := Lib.hid (HD.out.put2 X2.out (noU32_num ⟨false, x.A, x.n, x.c⟩) (u0 := .bool q1.b) (u1 := .slice q1.A q1.n q1.c))
              replace D := Lib.hid (below_put2 D.out (r := w.heap.size) (Nat.le_refl _) (u0 := .bool q1.b) (u1 := .slice q1.A q1.n q1.c))
              replace HG := Lib.hid (HG.out.put2 X2.out (noU32_num ⟨false, x.A, x.n, x.c⟩) (u0 := .bool q1.b) (u1 := .slice q1.A q1.n q1.c))
              replace X5 := Lib.hid (X5.out.far2 (r := w.heap.size) (by omega) (u0 := .bool q1.b) (u1 := .slice q1.A q1.n q1.c))
              replace HQ1 := Lib.hid (HQ1.out.put2 X2.out (noU32_num ⟨false, x.A, x.n, x.c⟩) (u0 := .bool q1.b) (u1 := .slice q1.A q1.n q1.c))
              replace X2 := Lib.hid (X2.out.put2 (u0 := .bool q1.b) (u1 := .slice q1.A q1.n q1.c))
              generalize (w6.setCell ⟨w.heap.size, 0, none⟩ (.bool q1.b)).setCell ⟨w.heap.size, 1, none⟩ (.slice q1.A q1.n q1.c) = w7 at *
              have c3 := X3.out.cell
              have l3 := X3.out.lt
              have f3 := X3.out.frozen
              have c5 := X5.out.cell
              have l5 := X5.out.lt
              have f5 := X5.out.frozen
              go_wp2_with fail
              refine (dm_any HD.out HG.out (by have := HGE.out.2; omega) sy hsg).mono ?_
              rintro e w8 ⟨q2, r2, rfl, hq2, hr2, hb5⟩
              have HQ2 := Lib.hid hq2
              clear hr2 hq2
              replace X2 := Lib.hid (X2.out.go hb5)
              replace X3 := Lib.hid (X3.out.go hb5)
              replace X4 := Lib.hid (X4.out.go hb5)
              replace HD := Lib.hid (HD.out.go hb5)
              replace D := Lib.hid (D.out.trans (hb5.mono D.out.size))
              replace HG := Lib.hid (HG.out.go hb5)
              replace X5 := Lib.hid (X5.out.go hb5)
              replace HQ1 := Lib.hid (HQ1.out.go hb5)
              clear hb5
              clear c3 l3 f3 c5 l5 f5
              have c3 := X3.out.cell
              have l3 := X3.out.lt
              have f3 := X3.out.frozen
              go_upto_region 12 with fail
              clear c3 l3 f3
              replace X2 := Lib.hid (X2.out.far2 (r := w.heap.size + 1) (by omega) (u0 := .bool q2.b) (u1 := .slice q2.A q2.n q2.c))
              replace X4 := Lib.hid (X4.out.far2 (r := w.heap.size + 1) (by omega) (u0 := .bool q2.b) (u1 := .slice q2.A q2.n q2.c))
              replace D := Lib.hid (below_put2 D.out (r := w.heap.size + 1) (by omega) (u0 := .bool q2.b) (u1 := .slice q2.A q2.n q2.c))
              replace HG := Lib.hid (HG.out.put2 X3.out (noU32_num _) (u0 := .bool q2.b) (u1 := .slice q2.A q2.n q2.c))
              replace X5 := Lib.hid (X5.out.far2 (r := w.heap.size + 1) (by omega) (u0 := .bool q2.b) (u1 := .slice q2.A q2.n q2.c))
              replace HQ1 := Lib.hid (HQ1.out.put2 X3.out (noU32_num _) (u0 := .bool q2.b) (u1 := .slice q2.A q2.n q2.c))
              replace HQ2 := Lib.hid (HQ2.out.put2 X3.out (noU32_num _) (u0 := .bool q2.b) (u1 := .slice q2.A q2.n q2.c))
              replace X3 := Lib.hid (X3.out.put2 (u0 := .bool q2.b) (u1 := .slice q2.A q2.n q2.c))
              generalize (w8.setCell ⟨w.heap.size + 1, 0, none⟩ (.bool q2.b)).setCell ⟨w.heap.size + 1, 1, none⟩ (.slice q2.A q2.n q2.c) = w9 at *
              have c2 := X2.out.cell
              have l2 := X2.out.lt
              have f2 := X2.out.frozen
              go_upto_region 13 with fail
              clear c2 l2 f2
              replace X3 := Lib.hid (X3.out.far1 (r := w.heap.size) (by omega) 0 (u0 := .bool false))
              replace X4 := Lib.hid (X4.out.far1 (r := w.heap.size) (by omega) 0 (u0 := .bool false))
              replace HQ1 := Lib.hid (HQ1.out.put1 X2.out (noU32_num _) 0 (u0 := .bool false))
              replace HQ2 := Lib.hid (HQ2.out.put1 X2.out (noU32_num _) 0 (u0 := .bool false))
              replace D := Lib.hid (below_put1 D.out (Nat.le_refl _) 0 (u0 := .bool false))
              replace X2 : Hid (Blk _ _ _ #[.bool false, .slice q1.A q1.n q1.c]) := X2.out.put1 (u0 := .bool false)
              clear HG X5
              generalize w9.setCell ⟨w.heap.size, 0, none⟩ (.bool false) = w10 at *
              have c2 := X2.out.cell
              have l2 := X2.out.lt
              have f2 := X2.out.frozen
              have c3 := X3.out.cell
              have l3 := X3.out.lt
              have f3 := X3.out.frozen
              have c4 := X4.out.cell
              have l4 := X4.out.lt
              have f4 := X4.out.frozen
              go_wp2_with fail
              clear c2 l2 f2 c3 l3 f3 c4 l4 f4
              replace X2 := Lib.hid (X2.out.far4 (r := w.heap.size + 1 + 1) (by omega) (u0 := .bool false) (u1 := .slice q1.A q1.n q1.c) (u2 := .bool q2.b) (u3 := .slice q2.A q2.n q2.c))
              replace X3 := Lib.hid (X3.out.far4 (r := w.heap.size + 1 + 1) (by omega) (u0 := .bool false) (u1 := .slice q1.A q1.n q1.c) (u2 := .bool q2.b) (u3 := .slice q2.A q2.n q2.c))
              replace HQ1 := Lib.hid (HQ1.out.put4 X4.out noU32_new2 (u0 := .bool false) (u1 := .slice q1.A q1.n q1.c) (u2 := .bool q2.b) (u3 := .slice q2.A q2.n q2.c))
              replace HQ2 := Lib.hid (HQ2.out.put4 X4.out noU32_new2 (u0 := .bool false) (u1 := .slice q1.A q1.n q1.c) (u2 := .bool q2.b) (u3 := .slice q2.A q2.n q2.c))
              replace D := Lib.hid (below_put4 D.out (r := w.heap.size + 1 + 1) (by omega) (u0 := .bool false) (u1 := .slice q1.A q1.n q1.c) (u2 := .bool q2.b) (u3 := .slice q2.A q2.n q2.c))
              replace X4 := Lib.hid (X4.out.put4 (u0 := .bool false) (u1 := .slice q1.A q1.n q1.c) (u2 := .bool q2.b) (u3 := .slice q2.A q2.n q2.c))
              have k4 := X4.out.cell
              have hl := HL.out
              have hna : (((n.natAbs : Int) / (G : Int))).natAbs = q.num.natAbs := by rw [← Int.natCast_ediv, Int.natAbs_natCast]; exact hl.1.symm
              refine bodyPost_ret (v := (Rt.mk ⟨false, q1.A, q1.n, q1.c⟩ q2).v) (by simp [results, Tryz.results88, go_sem, k4]) rfl ⟨⟨⟨false, q1.A, q1.n, q1.c⟩, q2⟩, rfl, ⟨⟨?_, ?_, ?_⟩, by rw [hl.2.1]; exact HQ2.out⟩, D.out⟩
              · exact (decide_eq_false (fun h => by have := HNN.out; have := hl.2.2.1 h; omega)).symm
              · rw [← hna]; exact HQ1.out.ln
              · have h := HQ1.out.at_
                unfold NumAt at h ⊢
                rw [hna] at h
                exact h
end Go.Proofs.YtoblpcljhblnmaaGreatDoor
