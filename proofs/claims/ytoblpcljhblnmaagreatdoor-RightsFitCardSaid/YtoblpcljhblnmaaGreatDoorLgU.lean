/- Package large: the operations of rational numbers answer as core's. Condition: the words read; at most 400000 words. Package large: Sign, Floor of rational numbers, Whole, Frac. Condition: the words read; at most 400000 words. -/
import Derived.Test.YtoblpcljhblnmaaGreatDoorLgS
namespace Go.Proofs.YtoblpcljhblnmaaGreatDoor
open Go.RowKit
set_option maxRecDepth 100000
theorem n_mul {w w1 w2 : World} {B B1 B2 : Nat} {a b : Int} {m x y : Nm} (h : NumIs w B (a * b) m) (hx : NumIs w1 B1 a x) (hy : NumIs w2 B2 b y) : m.n ≤ x.n + y.n := by
  rw [h.ln, hx.ln, hy.ln]; exact Pl.nw_muli a b
theorem n_add {w w1 w2 : World} {B B1 B2 : Nat} {a b : Int} {m x y : Nm} (h : NumIs w B (a + b) m) (hx : NumIs w1 B1 a x) (hy : NumIs w2 B2 b y) : m.n ≤ max x.n y.n + 1 := by
  rw [h.ln, hx.ln, hy.ln]; exact Pl.nw_addi a b
theorem box1 (w : World) (x : Array Value) (t : TypeId) : let w1 := w.alloc (.cells x t)
    Blk w1 w.heap.size t x ∧ Below w.heap.size w w1 ∧ w1.heap.size = w.heap.size + 1 :=
  ⟨Blk.new_ w _ t x rfl, (Below.refl _ w).alloc (Nat.le_refl _) _, by simp⟩
theorem boxes2t (w : World) (x y : Array Value) (t t' : TypeId) : let w1 := (w.alloc (.cells x t)).alloc (.cells y t')
    Blk w1 w.heap.size t x ∧ Blk w1 (w.heap.size + 1) t' y ∧ Below w.heap.size w w1 ∧ w1.heap.size = w.heap.size + 1 + 1 :=
  ⟨(Blk.new_ w _ t x rfl).alloc _, Blk.new_ _ (w.heap.size + 1) t' y (by simp), ((Below.refl _ w).alloc (Nat.le_refl _) _).alloc (by simp) _, by simp⟩
theorem RatIs.put4 {w : World} {r0 : Nat} {t : TypeId} {cs : Array Value} {u0 u1 u2 u3 : Value} {q : Rat} {r : Rt} (h : RatIs w w.heap.size q r) (hb : Blk w r0 t cs) (hc : noU32 cs) : RatIs ((((w.setCell ⟨r0, 0, none⟩ u0).setCell ⟨r0, 1, none⟩ u1).setCell ⟨r0, 2, none⟩ u2).setCell ⟨r0, 3, none⟩ u3) ((((w.setCell ⟨r0, 0, none⟩ u0).setCell ⟨r0, 1, none⟩ u1).setCell ⟨r0, 2, none⟩ u2).setCell ⟨r0, 3, none⟩ u3).heap.size q r := ⟨h.n.put4 hb hc, h.d.put4 hb hc⟩
def Pl.cmpR (a b : Rat) : Int := (a.num * b.den - b.num * a.den).sign
theorem Pl.add_divInt (a b : Rat) : Rat.divInt (a.num * b.den + b.num * a.den) ((a.den : Int) * b.den) = a + b := by
  rw [Rat.add_def', ← Int.natCast_mul]; rfl
theorem Pl.mul_divInt (a b : Rat) : Rat.divInt (a.num * b.num) ((a.den : Int) * b.den) = a * b := by
  rw [Rat.mul_def', ← Int.natCast_mul]; rfl
theorem Pl.div_divInt (a b : Rat) : Rat.divInt (a.num * b.den) ((a.den : Int) * b.num) = a / b := by
  rw [Rat.div_def, Rat.inv_def]
  conv => rhs; rw [← Rat.num_divInt_den a]
  rw [Rat.divInt_mul_divInt]
theorem den_ne (a : Rat) : (a.den : Int) ≠ 0 := by have := a.den_nz; omega
set_option maxHeartbeats 3200000 in
theorem radd_any {a b : Rat} {x y : Rt} {w : World} (hx : RatIs w w.heap.size a x) (hy : RatIs w w.heap.size b y) (sx : Pl.rsz a ≤ 1099511627776) (sy : Pl.rsz b ≤ 1099511627776) :
    Calls Tryz.prog 41 #[x.v, y.v] w (RtSaid (a + b) w) := by
  obtain ⟨hA, hB, hR, hD, hsz⟩ := boxes3t w #[.bool x.N.b, .slice x.N.A x.N.n x.N.c, .bool x.D.b, .slice x.D.A x.D.n x.D.c] #[.bool y.N.b, .slice y.N.A y.N.n y.N.c, .bool y.D.b, .slice y.D.A y.D.n y.D.c] #[.bool false, .slice none 0 0, .bool false, .slice none 0 0] 105 105 105
  have X4 := Lib.hid hR
  have HAN := Lib.hid (hx.go hD).n
  have HAD := Lib.hid (hx.go hD).d
  have HBN := Lib.hid (hy.go hD).n
  have HBD := Lib.hid (hy.go hD).d
  have X2 := Lib.hid hA
  have X3 := Lib.hid hB
  have D := Lib.hid hD
  have s1 := hx.sn
  have s2 := hx.sd
  have s3 := hy.sn
  have s4 := hy.sd
  clear hx hy hA hB hR hD hsz
  go_enter Tryz.func41, Tryz.ntmps41
  go_upto_region 1 with fail
  generalize (((w.alloc (.cells #[.bool x.N.b, .slice x.N.A x.N.n x.N.c, .bool x.D.b, .slice x.D.A x.D.n x.D.c] 105)).alloc (.cells #[.bool y.N.b, .slice y.N.A y.N.n y.N.c, .bool y.D.b, .slice y.D.A y.D.n y.D.c] 105)).alloc (.cells #[.bool false, .slice none 0 0, .bool false, .slice none 0 0] 105)) = w1 at *
  have hb5 := (Below.refl w1.heap.size w1).drew
  replace X2 := Lib.hid (X2.out.go hb5)
  replace X3 := Lib.hid (X3.out.go hb5)
  replace X4 := Lib.hid (X4.out.go hb5)
  replace HAN := Lib.hid (HAN.out.go hb5)
  replace HAD := Lib.hid (HAD.out.go hb5)
  replace HBN := Lib.hid (HBN.out.go hb5)
  replace HBD := Lib.hid (HBD.out.go hb5)
  replace D := Lib.hid (D.out.trans (hb5.mono D.out.size))
  clear hb5
  have HB0 := Lib.hid (Below.refl w1.drew.heap.size w1.drew)
  have hlt_X2 := X2.out.lt
  have hlt_X3 := X3.out.lt
  have hlt_X4 := X4.out.lt
  have hlt_D := D.out.size
  generalize hw9 : w1.drew = w2 at *
  have hSw : (fun w' : World => Blk w' (w.heap.size) 105 #[.bool x.N.b, .slice x.N.A x.N.n x.N.c, .bool x.D.b, .slice x.D.A x.D.n x.D.c] ∧ Blk w' (w.heap.size + 1) 105 #[.bool y.N.b, .slice y.N.A y.N.n y.N.c, .bool y.D.b, .slice y.D.A y.D.n y.D.c] ∧ True) w2 := ⟨X2.out.go HB0.out, X3.out.go HB0.out, trivial⟩
  refine wp_region_mid (fun w' : World => Blk w' (w.heap.size) 105 #[.bool x.N.b, .slice x.N.A x.N.n x.N.c, .bool x.D.b, .slice x.D.A x.D.n x.D.c] ∧ Blk w' (w.heap.size + 1) 105 #[.bool y.N.b, .slice y.N.A y.N.n y.N.c, .bool y.D.b, .slice y.D.A y.D.n y.D.c] ∧ True) 17 (by kernel_rfl) ?_
  rw [hw9]
  clear hw9
  refine Tk.go [(0, [1, 4, 9, 10, 15, 16, 17]), (1, [4, 9, 10, 15, 16, 17]), (2, [3, 4, 9, 10, 15, 16, 17]), (3, [4, 9, 10, 15, 16, 17]), (5, [6, 9, 10, 15, 16, 17]), (6, [9, 10, 15, 16, 17]), (7, [8, 9, 10, 15, 16, 17]), (8, [9, 10, 15, 16, 17]), (11, [12, 15, 16, 17]), (12, [15, 16, 17]), (13, [14, 15, 16, 17]), (14, [15, 16, 17])] ?_
  iterate 12 (refine Tk.cons rfl (by kernel_rfl) (fun _ _ _ h => h) hSw (by kernel_rfl) (fun w' hSx => by have c0 := hSx.1.cell; have l0 := hSx.1.lt; have c1 := hSx.2.1.cell; have l1 := hSx.2.1.lt; go_simp; first | done | with_reducible rfl) ?_; simp only [Act.put, List.setIfInBounds_toArray])
  refine Tk.nil ?_
  refine wpAnyM_ready [4] (by kernel_rfl) (by simp) ?_
  refine AllReadyM.cons (by rfl) (fun K hK => ?_) AllReadyM.nil
  go_simp
  refine (nmul_any (HAN.out.go HB0.out) (HBD.out.go HB0.out) (by omega) (by omega)).mono ?_
  rintro e wq1 ⟨m1, rfl, hn9, hb5⟩
  replace HB0 := Lib.hid (Below.trans HB0.out (hb5.mono HB0.out.size))
  have HM1 := Lib.hid hn9
  clear hn9
  have t1 := n_mul HM1.out HAN.out HBD.out
  clear hb5
  clear hSw
  have hSw : (fun w' : World => Blk w' (w.heap.size) 105 #[.bool x.N.b, .slice x.N.A x.N.n x.N.c, .bool x.D.b, .slice x.D.A x.D.n x.D.c] ∧ Blk w' (w.heap.size + 1) 105 #[.bool y.N.b, .slice y.N.A y.N.n y.N.c, .bool y.D.b, .slice y.D.A y.D.n y.D.c] ∧ True) wq1 := ⟨X2.out.go HB0.out, X3.out.go HB0.out, trivial⟩
  refine hK.out _ _ hSw ?_
  clear hK K
  refine wpAnyM_ready [9] (by kernel_rfl) (by simp) ?_
  refine AllReadyM.cons (by rfl) (fun K hK => ?_) AllReadyM.nil
  go_simp
  refine (nmul_any (HBN.out.go HB0.out) (HAD.out.go HB0.out) (by omega) (by omega)).mono ?_
  rintro e wq2 ⟨m2, rfl, hn9, hb5⟩
  replace HM1 := Lib.hid (HM1.out.go hb5)
  replace HB0 := Lib.hid (Below.trans HB0.out (hb5.mono HB0.out.size))
  have HM2 := Lib.hid hn9
  clear hn9
  have t2 := n_mul HM2.out HBN.out HAD.out
  clear hb5
  clear hSw
  have hSw : (fun w' : World => Blk w' (w.heap.size) 105 #[.bool x.N.b, .slice x.N.A x.N.n x.N.c, .bool x.D.b, .slice x.D.A x.D.n x.D.c] ∧ Blk w' (w.heap.size + 1) 105 #[.bool y.N.b, .slice y.N.A y.N.n y.N.c, .bool y.D.b, .slice y.D.A y.D.n y.D.c] ∧ True) wq2 := ⟨X2.out.go HB0.out, X3.out.go HB0.out, trivial⟩
  refine hK.out _ _ hSw ?_
  clear hK K
  refine wpAnyM_ready [10] (by kernel_rfl) (by simp) ?_
  refine AllReadyM.cons (by rfl) (fun K hK => ?_) AllReadyM.nil
  go_simp
  refine (nadd_any HM1.out HM2.out (by omega) (by omega)).mono ?_
  rintro e wq3 ⟨m3, rfl, hn9, hb5⟩
  replace HM1 := Lib.hid (HM1.out.go hb5)
  replace HM2 := Lib.hid (HM2.out.go hb5)
  replace HB0 := Lib.hid (Below.trans HB0.out (hb5.mono HB0.out.size))
  have HM3 := Lib.hid hn9
  clear hn9
  have t3 := n_add HM3.out HM1.out HM2.out
  clear hb5
  clear hSw
  have hSw : (fun w' : World => Blk w' (w.heap.size) 105 #[.bool x.N.b, .slice x.N.A x.N.n x.N.c, .bool x.D.b, .slice x.D.A x.D.n x.D.c] ∧ Blk w' (w.heap.size + 1) 105 #[.bool y.N.b, .slice y.N.A y.N.n y.N.c, .bool y.D.b, .slice y.D.A y.D.n y.D.c] ∧ True) wq3 := ⟨X2.out.go HB0.out, X3.out.go HB0.out, trivial⟩
  refine hK.out _ _ hSw ?_
  clear hK K
  refine wpAnyM_ready [15] (by kernel_rfl) (by simp) ?_
  refine AllReadyM.cons (by rfl) (fun K hK => ?_) AllReadyM.nil
  go_simp
  refine (nmul_any (HAD.out.go HB0.out) (HBD.out.go HB0.out) (by omega) (by omega)).mono ?_
  rintro e wq4 ⟨m4, rfl, hn9, hb5⟩
  clear HM1 HM2
  replace HM3 := Lib.hid (HM3.out.go hb5)
  replace HB0 := Lib.hid (Below.trans HB0.out (hb5.mono HB0.out.size))
  have HM4 := Lib.hid hn9
  clear hn9
  have t4 := n_mul HM4.out HAD.out HBD.out
  clear hb5
  clear hSw
  have hSw : (fun w' : World => Blk w' (w.heap.size) 105 #[.bool x.N.b, .slice x.N.A x.N.n x.N.c, .bool x.D.b, .slice x.D.A x.D.n x.D.c] ∧ Blk w' (w.heap.size + 1) 105 #[.bool y.N.b, .slice y.N.A y.N.n y.N.c, .bool y.D.b, .slice y.D.A y.D.n y.D.c] ∧ True) wq4 := ⟨X2.out.go HB0.out, X3.out.go HB0.out, trivial⟩
  refine hK.out _ _ hSw ?_
  clear hK K
  refine wpAnyM_ready [16] (by kernel_rfl) (by simp) ?_
  refine AllReadyM.cons (by rfl) (fun K hK => ?_) AllReadyM.nil
  go_simp
  refine (ratio_any HM3.out HM4.out (Int.mul_ne_zero (den_ne a) (den_ne b)) (by omega) (by omega)).mono ?_
  rintro e wq5 ⟨r, rfl, hr9, hb5⟩
  clear HM3 HM4 HAN HAD HBN HBD
  replace HB0 := Lib.hid (Below.trans HB0.out (hb5.mono HB0.out.size))
  rw [Pl.add_divInt] at hr9
  have HR := Lib.hid hr9
  clear hr9
  clear hb5
  clear hSw
  have hSw : (fun w' : World => Blk w' (w.heap.size) 105 #[.bool x.N.b, .slice x.N.A x.N.n x.N.c, .bool x.D.b, .slice x.D.A x.D.n x.D.c] ∧ Blk w' (w.heap.size + 1) 105 #[.bool y.N.b, .slice y.N.A y.N.n y.N.c, .bool y.D.b, .slice y.D.A y.D.n y.D.c] ∧ True) wq5 := ⟨X2.out.go HB0.out, X3.out.go HB0.out, trivial⟩
  refine hK.out _ _ hSw ?_
  clear hK K
  refine wpAnyM_ready [17] (by kernel_rfl) (by simp) ?_
  refine AllReadyM.last (by rfl) (by decide) (fun K hK => ?_)
  replace X2 := Lib.hid (X2.out.go HB0.out)
  replace X3 := Lib.hid (X3.out.go HB0.out)
  replace X4 := Lib.hid (X4.out.go HB0.out)
  replace D := Lib.hid (D.out.trans (HB0.out.mono D.out.size))
  have cc9 := X4.out.cell
  have cf9 := X4.out.frozen
  have cl9 := X4.out.lt
  go_simp
  clear cc9 cf9 cl9
  replace X2 := Lib.hid (X2.out.far4 (r := w.heap.size + 1 + 1) (by omega) (u0 := .bool r.N.b) (u1 := .slice r.N.A r.N.n r.N.c) (u2 := .bool r.D.b) (u3 := .slice r.D.A r.D.n r.D.c))
  replace X3 := Lib.hid (X3.out.far4 (r := w.heap.size + 1 + 1) (by omega) (u0 := .bool r.N.b) (u1 := .slice r.N.A r.N.n r.N.c) (u2 := .bool r.D.b) (u3 := .slice r.D.A r.D.n r.D.c))
  replace D := Lib.hid (below_put4 D.out (r := w.heap.size + 1 + 1) (by omega) (u0 := .bool r.N.b) (u1 := .slice r.N.A r.N.n r.N.c) (u2 := .bool r.D.b) (u3 := .slice r.D.A r.D.n r.D.c))
  replace HR := Lib.hid (HR.out.put4 X4.out noU32_new2 (u0 := .bool r.N.b) (u1 := .slice r.N.A r.N.n r.N.c) (u2 := .bool r.D.b) (u3 := .slice r.D.A r.D.n r.D.c))
  replace X4 := Lib.hid (X4.out.put4 (u0 := .bool r.N.b) (u1 := .slice r.N.A r.N.n r.N.c) (u2 := .bool r.D.b) (u3 := .slice r.D.A r.D.n r.D.c))
  generalize ((((wq5.setCell ⟨w.heap.size + 1 + 1, 0, none⟩ (.bool r.N.b)).setCell ⟨w.heap.size + 1 + 1, 1, none⟩ (.slice r.N.A r.N.n r.N.c)).setCell ⟨w.heap.size + 1 + 1, 2, none⟩ (.bool r.D.b)).setCell ⟨w.heap.size + 1 + 1, 3, none⟩ (.slice r.D.A r.D.n r.D.c)) = wq6 at *
  replace HB0 := Lib.hid (Below.refl wq6.heap.size wq6)
  refine hK.out _ _ ?_
  clear hK K
  refine wpAnyM_done (by kernel_rfl) ?_ _
  clear HB0 hSw
  go_wp2_with fail
  have k4 := X4.out.cell
  refine bodyPost_ret (v := r.v) (by simp [results, Tryz.results41, go_sem, k4]) rfl ⟨r, rfl, HR.out, D.out⟩
set_option maxHeartbeats 3200000 in
theorem rmul_any {a b : Rat} {x y : Rt} {w : World} (hx : RatIs w w.heap.size a x) (hy : RatIs w w.heap.size b y) (sx : Pl.rsz a ≤ 1099511627776) (sy : Pl.rsz b ≤ 1099511627776) :
    Calls Tryz.prog 70 #[x.v, y.v] w (RtSaid (a * b) w) := by
  obtain ⟨hA, hB, hR, hD, hsz⟩ := boxes3t w #[.bool x.N.b, .slice x.N.A x.N.n x.N.c, .bool x.D.b, .slice x.D.A x.D.n x.D.c] #[.bool y.N.b, .slice y.N.A y.N.n y.N.c, .bool y.D.b, .slice y.D.A y.D.n y.D.c] #[.bool false, .slice none 0 0, .bool false, .slice none 0 0] 105 105 105
  have X4 := Lib.hid hR
  have HAN := Lib.hid (hx.go hD).n
  have HAD := Lib.hid (hx.go hD).d
  have HBN := Lib.hid (hy.go hD).n
  have HBD := Lib.hid (hy.go hD).d
  have X2 := Lib.hid hA
  have X3 := Lib.hid hB
  have D := Lib.hid hD
  have s1 := hx.sn
  have s2 := hx.sd
  have s3 := hy.sn
  have s4 := hy.sd
  clear hx hy hA hB hR hD hsz
  go_enter Tryz.func70, Tryz.ntmps70
  go_upto_region 1 with fail
  generalize (((w.alloc (.cells #[.bool x.N.b, .slice x.N.A x.N.n x.N.c, .bool x.D.b, .slice x.D.A x.D.n x.D.c] 105)).alloc (.cells #[.bool y.N.b, .slice y.N.A y.N.n y.N.c, .bool y.D.b, .slice y.D.A y.D.n y.D.c] 105)).alloc (.cells #[.bool false, .slice none 0 0, .bool false, .slice none 0 0] 105)) = w1 at *
  have hb5 := (Below.refl w1.heap.size w1).drew
  replace X2 := Lib.hid (X2.out.go hb5)
  replace X3 := Lib.hid (X3.out.go hb5)
  replace X4 := Lib.hid (X4.out.go hb5)
  replace HAN := Lib.hid (HAN.out.go hb5)
  replace HAD := Lib.hid (HAD.out.go hb5)
  replace HBN := Lib.hid (HBN.out.go hb5)
  replace HBD := Lib.hid (HBD.out.go hb5)
  replace D := Lib.hid (D.out.trans (hb5.mono D.out.size))
  clear hb5
  have HB0 := Lib.hid (Below.refl w1.drew.heap.size w1.drew)
  have hlt_X2 := X2.out.lt
  have hlt_X3 := X3.out.lt
  have hlt_X4 := X4.out.lt
  have hlt_D := D.out.size
  generalize hw9 : w1.drew = w2 at *
  have hSw : (fun w' : World => Blk w' (w.heap.size) 105 #[.bool x.N.b, .slice x.N.A x.N.n x.N.c, .bool x.D.b, .slice x.D.A x.D.n x.D.c] ∧ Blk w' (w.heap.size + 1) 105 #[.bool y.N.b, .slice y.N.A y.N.n y.N.c, .bool y.D.b, .slice y.D.A y.D.n y.D.c] ∧ True) w2 := ⟨X2.out.go HB0.out, X3.out.go HB0.out, trivial⟩
  refine wp_region_mid (fun w' : World => Blk w' (w.heap.size) 105 #[.bool x.N.b, .slice x.N.A x.N.n x.N.c, .bool x.D.b, .slice x.D.A x.D.n x.D.c] ∧ Blk w' (w.heap.size + 1) 105 #[.bool y.N.b, .slice y.N.A y.N.n y.N.c, .bool y.D.b, .slice y.D.A y.D.n y.D.c] ∧ True) 11 (by kernel_rfl) ?_
  rw [hw9]
  clear hw9
  refine Tk.go [(0, [1, 4, 9, 10, 11]), (1, [4, 9, 10, 11]), (2, [3, 4, 9, 10, 11]), (3, [4, 9, 10, 11]), (5, [6, 9, 10, 11]), (6, [9, 10, 11]), (7, [8, 9, 10, 11]), (8, [9, 10, 11])] ?_
  iterate 8 (refine Tk.cons rfl (by kernel_rfl) (fun _ _ _ h => h) hSw (by kernel_rfl) (fun w' hSx => by have c0 := hSx.1.cell; have l0 := hSx.1.lt; have c1 := hSx.2.1.cell; have l1 := hSx.2.1.lt; go_simp; first | done | with_reducible rfl) ?_; simp only [Act.put, List.setIfInBounds_toArray])
  refine Tk.nil ?_
  refine wpAnyM_ready [4] (by kernel_rfl) (by simp) ?_
  refine AllReadyM.cons (by rfl) (fun K hK => ?_) AllReadyM.nil
  go_simp
  refine (nmul_any (HAN.out.go HB0.out) (HBN.out.go HB0.out) (by omega) (by omega)).mono ?_
  rintro e wq1 ⟨m1, rfl, hn9, hb5⟩
  replace HB0 := Lib.hid (Below.trans HB0.out (hb5.mono HB0.out.size))
  have HM1 := Lib.hid hn9
  clear hn9
  have t1 := n_mul HM1.out HAN.out HBN.out
  clear hb5
  clear hSw
  have hSw : (fun w' : World => Blk w' (w.heap.size) 105 #[.bool x.N.b, .slice x.N.A x.N.n x.N.c, .bool x.D.b, .slice x.D.A x.D.n x.D.c] ∧ Blk w' (w.heap.size + 1) 105 #[.bool y.N.b, .slice y.N.A y.N.n y.N.c, .bool y.D.b, .slice y.D.A y.D.n y.D.c] ∧ True) wq1 := ⟨X2.out.go HB0.out, X3.out.go HB0.out, trivial⟩
  refine hK.out _ _ hSw ?_
  clear hK K
  refine wpAnyM_ready [9] (by kernel_rfl) (by simp) ?_
  refine AllReadyM.cons (by rfl) (fun K hK => ?_) AllReadyM.nil
  go_simp
  refine (nmul_any (HAD.out.go HB0.out) (HBD.out.go HB0.out) (by omega) (by omega)).mono ?_
  rintro e wq2 ⟨m2, rfl, hn9, hb5⟩
  replace HM1 := Lib.hid (HM1.out.go hb5)
  replace HB0 := Lib.hid (Below.trans HB0.out (hb5.mono HB0.out.size))
  have HM2 := Lib.hid hn9
  clear hn9
  have t2 := n_mul HM2.out HAD.out HBD.out
  clear hb5
  clear hSw
  have hSw : (fun w' : World => Blk w' (w.heap.size) 105 #[.bool x.N.b, .slice x.N.A x.N.n x.N.c, .bool x.D.b, .slice x.D.A x.D.n x.D.c] ∧ Blk w' (w.heap.size + 1) 105 #[.bool y.N.b, .slice y.N.A y.N.n y.N.c, .bool y.D.b, .slice y.D.A y.D.n y.D.c] ∧ True) wq2 := ⟨X2.out.go HB0.out, X3.out.go HB0.out, trivial⟩
  refine hK.out _ _ hSw ?_
  clear hK K
  refine wpAnyM_ready [10] (by kernel_rfl) (by simp) ?_
  refine AllReadyM.cons (by rfl) (fun K hK => ?_) AllReadyM.nil
  go_simp
  refine (ratio_any HM1.out HM2.out (Int.mul_ne_zero (den_ne a) (den_ne b)) (by omega) (by omega)).mono ?_
  rintro e wq3 ⟨r, rfl, hr9, hb5⟩
  clear HM1 HM2 HAN HAD HBN HBD
  replace HB0 := Lib.hid (Below.trans HB0.out (hb5.mono HB0.out.size))
  rw [Pl.mul_divInt] at hr9
  have HR := Lib.hid hr9
  clear hr9
  clear hb5
  clear hSw
  have hSw : (fun w' : World => Blk w' (w.heap.size) 105 #[.bool x.N.b, .slice x.N.A x.N.n x.N.c, .bool x.D.b, .slice x.D.A x.D.n x.D.c] ∧ Blk w' (w.heap.size + 1) 105 #[.bool y.N.b, .slice y.N.A y.N.n y.N.c, .bool y.D.b, .slice y.D.A y.D.n y.D.c] ∧ True) wq3 := ⟨X2.out.go HB0.out, X3.out.go HB0.out, trivial⟩
  refine hK.out _ _ hSw ?_
  clear hK K
  refine wpAnyM_ready [11] (by kernel_rfl) (by simp) ?_
  refine AllReadyM.last (by rfl) (by decide) (fun K hK => ?_)
  replace X2 := Lib.hid (X2.out.go HB0.out)
  replace X3 := Lib.hid (X3.out.go HB0.out)
  replace X4 := Lib.hid (X4.out.go HB0.out)
  replace D := Lib.hid (D.out.trans (HB0.out.mono D.out.size))
  have cc9 := X4.out.cell
  have cf9 := X4.out.frozen
  have cl9 := X4.out.lt
  go_simp
  clear cc9 cf9 cl9
  replace X2 := Lib.hid (X2.out.far4 (r := w.heap.size + 1 + 1) (by omega) (u0 := .bool r.N.b) (u1 := .slice r.N.A r.N.n r.N.c) (u2 := .bool r.D.b) (u3 := .slice r.D.A r.D.n r.D.c))
  replace X3 := Lib.hid (X3.out.far4 (r := w.heap.size + 1 + 1) (by omega) (u0 := .bool r.N.b) (u1 := .slice r.N.A r.N.n r.N.c) (u2 := .bool r.D.b) (u3 := .slice r.D.A r.D.n r.D.c))
  replace D := Lib.hid (below_put4 D.out (r := w.heap.size + 1 + 1) (by omega) (u0 := .bool r.N.b) (u1 := .slice r.N.A r.N.n r.N.c) (u2 := .bool r.D.b) (u3 := .slice r.D.A r.D.n r.D.c))
  replace HR := Lib.hid (HR.out.put4 X4.out noU32_new2 (u0 := .bool r.N.b) (u1 := .slice r.N.A r.N.n r.N.c) (u2 := .bool r.D.b) (u3 := .slice r.D.A r.D.n r.D.c))
  replace X4 := Lib.hid (X4.out.put4 (u0 := .bool r.N.b) (u1 := .slice r.N.A r.N.n r.N.c) (u2 := .bool r.D.b) (u3 := .slice r.D.A r.D.n r.D.c))
  generalize ((((wq3.setCell ⟨w.heap.size + 1 + 1, 0, none⟩ (.bool r.N.b)).setCell ⟨w.heap.size + 1 + 1, 1, none⟩ (.slice r.N.A r.N.n r.N.c)).setCell ⟨w.heap.size + 1 + 1, 2, none⟩ (.bool r.D.b)).setCell ⟨w.heap.size + 1 + 1, 3, none⟩ (.slice r.D.A r.D.n r.D.c)) = wq4 at *
  replace HB0 := Lib.hid (Below.refl wq4.heap.size wq4)
  refine hK.out _ _ ?_
  clear hK K
  refine wpAnyM_done (by kernel_rfl) ?_ _
  clear HB0 hSw
  go_wp2_with fail
  have k4 := X4.out.cell
  refine bodyPost_ret (v := r.v) (by simp [results, Tryz.results70, go_sem, k4]) rfl ⟨r, rfl, HR.out, D.out⟩
set_option maxHeartbeats 3200000 in
theorem rdiv_any {a b : Rat} {x y : Rt} {w : World} (hx : RatIs w w.heap.size a x) (hy : RatIs w w.heap.size b y) (hb0 : b ≠ 0) (sx : Pl.rsz a ≤ 1099511627776) (sy : Pl.rsz b ≤ 1099511627776) :
    Calls Tryz.prog 207 #[x.v, y.v] w (RtSaid (a / b) w) := by
  obtain ⟨hA, hB, hR, hD, hsz⟩ := boxes3t w #[.bool x.N.b, .slice x.N.A x.N.n x.N.c, .bool x.D.b, .slice x.D.A x.D.n x.D.c] #[.bool y.N.b, .slice y.N.A y.N.n y.N.c, .bool y.D.b, .slice y.D.A y.D.n y.D.c] #[.bool false, .slice none 0 0, .bool false, .slice none 0 0] 105 105 105
  have X4 := Lib.hid hR
  have HAN := Lib.hid (hx.go hD).n
  have HAD := Lib.hid (hx.go hD).d
  have HBN := Lib.hid (hy.go hD).n
  have HBD := Lib.hid (hy.go hD).d
  have X2 := Lib.hid hA
  have X3 := Lib.hid hB
  have D := Lib.hid hD
  have s1 := hx.sn
  have s2 := hx.sd
  have s3 := hy.sn
  have s4 := hy.sd
  have HB9 : Hid (b.num ≠ 0) := fun h => hb0 (Rat.num_eq_zero.1 h)
  clear hb0
  clear hx hy hA hB hR hD hsz
  go_enter Tryz.func207, Tryz.ntmps207
  go_upto_region 1 with fail
  generalize (((w.alloc (.cells #[.bool x.N.b, .slice x.N.A x.N.n x.N.c, .bool x.D.b, .slice x.D.A x.D.n x.D.c] 105)).alloc (.cells #[.bool y.N.b, .slice y.N.A y.N.n y.N.c, .bool y.D.b, .slice y.D.A y.D.n y.D.c] 105)).alloc (.cells #[.bool false, .slice none 0 0, .bool false, .slice none 0 0] 105)) = w1 at *
  have hb5 := (Below.refl w1.heap.size w1).drew
  replace X2 := Lib.hid (X2.out.go hb5)
  replace X3 := Lib.hid (X3.out.go hb5)
  replace X4 := Lib.hid (X4.out.go hb5)
  replace HAN := Lib.hid (HAN.out.go hb5)
  replace HAD := Lib.hid (HAD.out.go hb5)
  replace HBN := Lib.hid (HBN.out.go hb5)
  replace HBD := Lib.hid (HBD.out.go hb5)
  replace D := Lib.hid (D.out.trans (hb5.mono D.out.size))
  clear hb5
  have HB0 := Lib.hid (Below.refl w1.drew.heap.size w1.drew)
  have hlt_X2 := X2.out.lt
  have hlt_X3 := X3.out.lt
  have hlt_X4 := X4.out.lt
  have hlt_D := D.out.size
  generalize hw9 : w1.drew = w2 at *
  have hSw : (fun w' : World => Blk w' (w.heap.size) 105 #[.bool x.N.b, .slice x.N.A x.N.n x.N.c, .bool x.D.b, .slice x.D.A x.D.n x.D.c] ∧ Blk w' (w.heap.size + 1) 105 #[.bool y.N.b, .slice y.N.A y.N.n y.N.c, .bool y.D.b, .slice y.D.A y.D.n y.D.c] ∧ True) w2 := ⟨X2.out.go HB0.out, X3.out.go HB0.out, trivial⟩
  refine wp_region_mid (fun w' : World => Blk w' (w.heap.size) 105 #[.bool x.N.b, .slice x.N.A x.N.n x.N.c, .bool x.D.b, .slice x.D.A x.D.n x.D.c] ∧ Blk w' (w.heap.size + 1) 105 #[.bool y.N.b, .slice y.N.A y.N.n y.N.c, .bool y.D.b, .slice y.D.A y.D.n y.D.c] ∧ True) 11 (by kernel_rfl) ?_
  rw [hw9]
  clear hw9
  refine Tk.go [(0, [1, 4, 9, 10, 11]), (1, [4, 9, 10, 11]), (2, [3, 4, 9, 10, 11]), (3, [4, 9, 10, 11]), (5, [6, 9, 10, 11]), (6, [9, 10, 11]), (7, [8, 9, 10, 11]), (8, [9, 10, 11])] ?_
  iterate 8 (refine Tk.cons rfl (by kernel_rfl) (fun _ _ _ h => h) hSw (by kernel_rfl) (fun w' hSx => by have c0 := hSx.1.cell; have l0 := hSx.1.lt; have c1 := hSx.2.1.cell; have l1 := hSx.2.1.lt; go_simp; first | done | with_reducible rfl) ?_; simp only [Act.put, List.setIfInBounds_toArray])
  refine Tk.nil ?_
  refine wpAnyM_ready [4] (by kernel_rfl) (by simp) ?_
  refine AllReadyM.cons (by rfl) (fun K hK => ?_) AllReadyM.nil
  go_simp
  refine (nmul_any (HAN.out.go HB0.out) (HBD.out.go HB0.out) (by omega) (by omega)).mono ?_
  rintro e wq1 ⟨m1, rfl, hn9, hb5⟩
  replace HB0 := Lib.hid (Below.trans HB0.out (hb5.mono HB0.out.size))
  have HM1 := Lib.hid hn9
  clear hn9
  have t1 := n_mul HM1.out HAN.out HBD.out
  clear hb5
  clear hSw
  have hSw : (fun w' : World => Blk w' (w.heap.size) 105 #[.bool x.N.b, .slice x.N.A x.N.n x.N.c, .bool x.D.b, .slice x.D.A x.D.n x.D.c] ∧ Blk w' (w.heap.size + 1) 105 #[.bool y.N.b, .slice y.N.A y.N.n y.N.c, .bool y.D.b, .slice y.D.A y.D.n y.D.c] ∧ True) wq1 := ⟨X2.out.go HB0.out, X3.out.go HB0.out, trivial⟩
  refine hK.out _ _ hSw ?_
  clear hK K
  refine wpAnyM_ready [9] (by kernel_rfl) (by simp) ?_
  refine AllReadyM.cons (by rfl) (fun K hK => ?_) AllReadyM.nil
  go_simp
  refine (nmul_any (HAD.out.go HB0.out) (HBN.out.go HB0.out) (by omega) (by omega)).mono ?_
  rintro e wq2 ⟨m2, rfl, hn9, hb5⟩
  replace HM1 := Lib.hid (HM1.out.go hb5)
  replace HB0 := Lib.hid (Below.trans HB0.out (hb5.mono HB0.out.size))
  have HM2 := Lib.hid hn9
  clear hn9
  have t2 := n_mul HM2.out HAD.out HBN.out
  clear hb5
  clear hSw
  have hSw : (fun w' : World => Blk w' (w.heap.size) 105 #[.bool x.N.b, .slice x.N.A x.N.n x.N.c, .bool x.D.b, .slice x.D.A x.D.n x.D.c] ∧ Blk w' (w.heap.size + 1) 105 #[.bool y.N.b, .slice y.N.A y.N.n y.N.c, .bool y.D.b, .slice y.D.A y.D.n y.D.c] ∧ True) wq2 := ⟨X2.out.go HB0.out, X3.out.go HB0.out, trivial⟩
  refine hK.out _ _ hSw ?_
  clear hK K
  refine wpAnyM_ready [10] (by kernel_rfl) (by simp) ?_
  refine AllReadyM.cons (by rfl) (fun K hK => ?_) AllReadyM.nil
  go_simp
  refine (ratio_any HM1.out HM2.out (Int.mul_ne_zero (den_ne a) HB9.out) (by omega) (by omega)).mono ?_
  rintro e wq3 ⟨r, rfl, hr9, hb5⟩
  clear HM1 HM2 HAN HAD HBN HBD
  replace HB0 := Lib.hid (Below.trans HB0.out (hb5.mono HB0.out.size))
  rw [Pl.div_divInt] at hr9
  have HR := Lib.hid hr9
  clear hr9
  clear hb5
  clear hSw
  have hSw : (fun w' : World => Blk w' (w.heap.size) 105 #[.bool x.N.b, .slice x.N.A x.N.n x.N.c, .bool x.D.b, .slice x.D.A x.D.n x.D.c] ∧ Blk w' (w.heap.size + 1) 105 #[.bool y.N.b, .slice y.N.A y.N.n y.N.c, .bool y.D.b, .slice y.D.A y.D.n y.D.c] ∧ True) wq3 := ⟨X2.out.go HB0.out, X3.out.go HB0.out, trivial⟩
  refine hK.out _ _ hSw ?_
  clear hK K
  refine wpAnyM_ready [11] (by kernel_rfl) (by simp) ?_
  refine AllReadyM.last (by rfl) (by decide) (fun K hK => ?_)
  replace X2 := Lib.hid (X2.out.go HB0.out)
  replace X3 := Lib.hid (X3.out.go HB0.out)
  replace X4 := Lib.hid (X4.out.go HB0.out)
  replace D := Lib.hid (D.out.trans (HB0.out.mono D.out.size))
  have cc9 := X4.out.cell
  have cf9 := X4.out.frozen
  have cl9 := X4.out.lt
  go_simp
  clear cc9 cf9 cl9
  replace X2 := Lib.hid (X2.out.far4 (r := w.heap.size + 1 + 1) (by omega) (u0 := .bool r.N.b) (u1 := .slice r.N.A r.N.n r.N.c) (u2 := .bool r.D.b) (u3 := .slice r.D.A r.D.n r.D.c))
  replace X3 := Lib.hid (X3.out.far4 (r := w.heap.size + 1 + 1) (by omega) (u0 := .bool r.N.b) (u1 := .slice r.N.A r.N.n r.N.c) (u2 := .bool r.D.b) (u3 := .slice r.D.A r.D.n r.D.c))
  replace D := Lib.hid (below_put4 D.out (r := w.heap.size + 1 + 1) (by omega) (u0 := .bool r.N.b) (u1 := .slice r.N.A r.N.n r.N.c) (u2 := .bool r.D.b) (u3 := .slice r.D.A r.D.n r.D.c))
  replace HR := Lib.hid (HR.out.put4 X4.out noU32_new2 (u0 := .bool r.N.b) (u1 := .slice r.N.A r.N.n r.N.c) (u2 := .bool r.D.b) (u3 := .slice r.D.A r.D.n r.D.c))
  replace X4 := Lib.hid (X4.out.put4 (u0 := .bool r.N.b) (u1 := .slice r.N.A r.N.n r.N.c) (u2 := .bool r.D.b) (u3 := .slice r.D.A r.D.n r.D.c))
  generalize ((((wq3.setCell ⟨w.heap.size + 1 + 1, 0, none⟩ (.bool r.N.b)).setCell ⟨w.heap.size + 1 + 1, 1, none⟩ (.slice r.N.A r.N.n r.N.c)).setCell ⟨w.heap.size + 1 + 1, 2, none⟩ (.bool r.D.b)).setCell ⟨w.heap.size + 1 + 1, 3, none⟩ (.slice r.D.A r.D.n r.D.c)) = wq4 at *
  replace HB0 := Lib.hid (Below.refl wq4.heap.size wq4)
  refine hK.out _ _ ?_
  clear hK K
  refine wpAnyM_done (by kernel_rfl) ?_ _
  clear HB0 hSw
  go_wp2_with fail
  have k4 := X4.out.cell
  refine bodyPost_ret (v := r.v) (by simp [results, Tryz.results207, go_sem, k4]) rfl ⟨r, rfl, HR.out, D.out⟩
set_option maxHeartbeats 3200000 in
theorem rcmp_any {a b : Rat} {x y : Rt} {w : World} (hx : RatIs w w.heap.size a x) (hy : RatIs w w.heap.size b y) (sx : Pl.rsz a ≤ 1099511627776) (sy : Pl.rsz b ≤ 1099511627776) :
    Calls Tryz.prog 46 #[x.v, y.v] w (fun e w' => e = .returned (.int .i64 (Pl.cmpR a b)) ∧ Below w.heap.size w w') := by
  obtain ⟨hA, hB, hD, hsz⟩ := boxes2t w #[.bool x.N.b, .slice x.N.A x.N.n x.N.c, .bool x.D.b, .slice x.D.A x.D.n x.D.c] #[.bool y.N.b, .slice y.N.A y.N.n y.N.c, .bool y.D.b, .slice y.D.A y.D.n y.D.c] 105 105
  have HAN := Lib.hid (hx.go hD).n
  have HAD := Lib.hid (hx.go hD).d
  have HBN := Lib.hid (hy.go hD).n
  have HBD := Lib.hid (hy.go hD).d
  have X2 := Lib.hid hA
  have X3 := Lib.hid hB
  have D := Lib.hid hD
  have s1 := hx.sn
  have s2 := hx.sd
  have s3 := hy.sn
  have s4 := hy.sd
  clear hx hy hA hB hD hsz
  go_enter Tryz.func46, Tryz.ntmps46
  go_upto_region 1 with fail
  generalize ((w.alloc (.cells #[.bool x.N.b, .slice x.N.A x.N.n x.N.c, .bool x.D.b, .slice x.D.A x.D.n x.D.c] 105)).alloc (.cells #[.bool y.N.b, .slice y.N.A y.N.n y.N.c, .bool y.D.b, .slice y.D.A y.D.n y.D.c] 105)) = w1 at *
  have hb5 := (Below.refl w1.heap.size w1).drew
  replace X2 := Lib.hid (X2.out.go hb5)
  replace X3 := Lib.hid (X3.out.go hb5)
  replace HAN := Lib.hid (HAN.out.go hb5)
  replace HAD := Lib.hid (HAD.out.go hb5)
  replace HBN := Lib.hid (HBN.out.go hb5)
  replace HBD := Lib.hid (HBD.out.go hb5)
  replace D := Lib.hid (D.out.trans (hb5.mono D.out.size))
  clear hb5
  have HB0 := Lib.hid (Below.refl w1.drew.heap.size w1.drew)
  have hlt_X2 := X2.out.lt
  have hlt_X3 := X3.out.lt
  have hlt_D := D.out.size
  generalize hw9 : w1.drew = w2 at *
  have hSw : (fun w' : World => Blk w' (w.heap.size) 105 #[.bool x.N.b, .slice x.N.A x.N.n x.N.c, .bool x.D.b, .slice x.D.A x.D.n x.D.c] ∧ Blk w' (w.heap.size + 1) 105 #[.bool y.N.b, .slice y.N.A y.N.n y.N.c, .bool y.D.b, .slice y.D.A y.D.n y.D.c] ∧ True) w2 := ⟨X2.out.go HB0.out, X3.out.go HB0.out, trivial⟩
  refine wp_region_mid (fun w' : World => Blk w' (w.heap.size) 105 #[.bool x.N.b, .slice x.N.A x.N.n x.N.c, .bool x.D.b, .slice x.D.A x.D.n x.D.c] ∧ Blk w' (w.heap.size + 1) 105 #[.bool y.N.b, .slice y.N.A y.N.n y.N.c, .bool y.D.b, .slice y.D.A y.D.n y.D.c] ∧ True) 12 (by kernel_rfl) ?_
  rw [hw9]
  clear hw9
  refine Tk.go [(0, [1, 4, 9, 10, 11]), (1, [4, 9, 10, 11]), (2, [3, 4, 9, 10, 11]), (3, [4, 9, 10, 11]), (5, [6, 9, 10, 11]), (6, [9, 10, 11]), (7, [8, 9, 10, 11]), (8, [9, 10, 11])] ?_
  iterate 8 (refine Tk.cons rfl (by kernel_rfl) (fun _ _ _ h => h) hSw (by kernel_rfl) (fun w' hSx => by have c0 := hSx.1.cell; have l0 := hSx.1.lt; have c1 := hSx.2.1.cell; have l1 := hSx.2.1.lt; go_simp; first | done | with_reducible rfl) ?_; simp only [Act.put, List.setIfInBounds_toArray])
  refine Tk.nil ?_
  refine wpAnyM_ready [4] (by kernel_rfl) (by simp) ?_
  refine AllReadyM.cons (by rfl) (fun K hK => ?_) AllReadyM.nil
  go_simp
  refine (nmul_any (HAN.out.go HB0.out) (HBD.out.go HB0.out) (by omega) (by omega)).mono ?_
  rintro e wq1 ⟨m1, rfl, hn9, hb5⟩
  replace HB0 := Lib.hid (Below.trans HB0.out (hb5.mono HB0.out.size))
  have HM1 := Lib.hid hn9
  clear hn9
  have t1 := n_mul HM1.out HAN.out HBD.out
  clear hb5
  clear hSw
  have hSw : (fun w' : World => Blk w' (w.heap.size) 105 #[.bool x.N.b, .slice x.N.A x.N.n x.N.c, .bool x.D.b, .slice x.D.A x.D.n x.D.c] ∧ Blk w' (w.heap.size + 1) 105 #[.bool y.N.b, .slice y.N.A y.N.n y.N.c, .bool y.D.b, .slice y.D.A y.D.n y.D.c] ∧ True) wq1 := ⟨X2.out.go HB0.out, X3.out.go HB0.out, trivial⟩
  refine hK.out _ _ hSw ?_
  clear hK K
  refine wpAnyM_ready [9] (by kernel_rfl) (by simp) ?_
  refine AllReadyM.cons (by rfl) (fun K hK => ?_) AllReadyM.nil
  go_simp
  refine (nmul_any (HBN.out.go HB0.out) (HAD.out.go HB0.out) (by omega) (by omega)).mono ?_
  rintro e wq2 ⟨m2, rfl, hn9, hb5⟩
  replace HM1 := Lib.hid (HM1.out.go hb5)
  replace HB0 := Lib.hid (Below.trans HB0.out (hb5.mono HB0.out.size))
  have HM2 := Lib.hid hn9
  clear hn9
  have t2 := n_mul HM2.out HBN.out HAD.out
  clear hb5
  clear hSw
  have hSw : (fun w' : World => Blk w' (w.heap.size) 105 #[.bool x.N.b, .slice x.N.A x.N.n x.N.c, .bool x.D.b, .slice x.D.A x.D.n x.D.c] ∧ Blk w' (w.heap.size + 1) 105 #[.bool y.N.b, .slice y.N.A y.N.n y.N.c, .bool y.D.b, .slice y.D.A y.D.n y.D.c] ∧ True) wq2 := ⟨X2.out.go HB0.out, X3.out.go HB0.out, trivial⟩
  refine hK.out _ _ hSw ?_
  clear hK K
  refine wpAnyM_ready [10] (by kernel_rfl) (by simp) ?_
  refine AllReadyM.cons (by rfl) (fun K hK => ?_) AllReadyM.nil
  go_simp
  refine ((show Calls Tryz.prog 92 #[m1.v, m2.v] wq2 (fun e w' => e = .returned (.int .i64 (Pl.cmpR a b)) ∧ Below wq2.heap.size wq2 w') from ncmp_any HM1.out HM2.out (by omega) (by omega))).mono ?_
  rintro e wq3 ⟨rfl, hb5⟩
  replace HM1 := Lib.hid (HM1.out.go hb5)
  replace HM2 := Lib.hid (HM2.out.go hb5)
  replace HB0 := Lib.hid (Below.trans HB0.out (hb5.mono HB0.out.size))
  clear hb5
  clear hSw
  have hSw : (fun w' : World => Blk w' (w.heap.size) 105 #[.bool x.N.b, .slice x.N.A x.N.n x.N.c, .bool x.D.b, .slice x.D.A x.D.n x.D.c] ∧ Blk w' (w.heap.size + 1) 105 #[.bool y.N.b, .slice y.N.A y.N.n y.N.c, .bool y.D.b, .slice y.D.A y.D.n y.D.c] ∧ True) wq3 := ⟨X2.out.go HB0.out, X3.out.go HB0.out, trivial⟩
  refine hK.out _ _ hSw ?_
  clear hK K
  refine wpAnyM_takeB 11 [] rfl (by kernel_rfl) (by kernel_rfl) (by kernel_rfl) (by kernel_rfl) (by kernel_rfl) (fun _ _ _ h => h) hSw (by kernel_rfl) (fun w' hSx => by have c0 := hSx.1.cell; have l0 := hSx.1.lt; have c1 := hSx.2.1.cell; have l1 := hSx.2.1.lt; go_simp; first | done | with_reducible rfl) ?_
  simp only [Act.put]
  refine wpAnyM_done (by kernel_rfl) ?_ _
  replace X2 := Lib.hid (X2.out.go HB0.out)
  replace X3 := Lib.hid (X3.out.go HB0.out)
  replace HAN := Lib.hid (HAN.out.go HB0.out)
  replace HAD := Lib.hid (HAD.out.go HB0.out)
  replace HBN := Lib.hid (HBN.out.go HB0.out)
  replace HBD := Lib.hid (HBD.out.go HB0.out)
  replace D := Lib.hid (D.out.trans (HB0.out.mono D.out.size))
  clear HB0 hSw
  go_simp
  go_wp2_with fail
  go_ret
  exact ⟨rfl, D.out⟩
set_option maxHeartbeats 3200000 in
theorem rneg_any {a : Rat} {x : Rt} {w : World} (hx : RatIs w w.heap.size a x) (sx : Pl.rsz a ≤ 1099511627776) :
    Calls Tryz.prog 72 #[x.v] w (RtSaid (-a) w) := by
  obtain ⟨hA, hR, hD, hsz⟩ := boxes2t w #[.bool x.N.b, .slice x.N.A x.N.n x.N.c, .bool x.D.b, .slice x.D.A x.D.n x.D.c] #[.bool false, .slice none 0 0, .bool false, .slice none 0 0] 105 105
  have X4 := Lib.hid hR
  have HAN := Lib.hid (hx.go hD).n
  have HAD := Lib.hid (hx.go hD).d
  have X2 := Lib.hid hA
  have D := Lib.hid hD
  have s1 := hx.sn
  clear hx hA hR hD hsz
  go_enter Tryz.func72, Tryz.ntmps72
  go_upto_region 1 with fail
  generalize ((w.alloc (.cells #[.bool x.N.b, .slice x.N.A x.N.n x.N.c, .bool x.D.b, .slice x.D.A x.D.n x.D.c] 105)).alloc (.cells #[.bool false, .slice none 0 0, .bool false, .slice none 0 0] 105)) = w1 at *
  have hb5 := (Below.refl w1.heap.size w1).drew
  replace X2 := Lib.hid (X2.out.go hb5)
  replace X4 := Lib.hid (X4.out.go hb5)
  replace HAN := Lib.hid (HAN.out.go hb5)
  replace HAD := Lib.hid (HAD.out.go hb5)
  replace D := Lib.hid (D.out.trans (hb5.mono D.out.size))
  clear hb5
  have HB0 := Lib.hid (Below.refl w1.drew.heap.size w1.drew)
  have hlt_X2 := X2.out.lt
  have hlt_X4 := X4.out.lt
  have hlt_D := D.out.size
  generalize hw9 : w1.drew = w2 at *
  have hSw : (fun w' : World => Blk w' (w.heap.size) 105 #[.bool x.N.b, .slice x.N.A x.N.n x.N.c, .bool x.D.b, .slice x.D.A x.D.n x.D.c] ∧ True) w2 := ⟨X2.out.go HB0.out, trivial⟩
  refine wp_region_mid (fun w' : World => Blk w' (w.heap.size) 105 #[.bool x.N.b, .slice x.N.A x.N.n x.N.c, .bool x.D.b, .slice x.D.A x.D.n x.D.c] ∧ True) 6 (by kernel_rfl) ?_
  rw [hw9]
  clear hw9
  refine Tk.go [(0, [1, 2, 5, 6]), (1, [2, 5, 6]), (3, [4, 5, 6]), (4, [5, 6])] ?_
  iterate 4 (refine Tk.cons rfl (by kernel_rfl) (fun _ _ _ h => h) hSw (by kernel_rfl) (fun w' hSx => by have c0 := hSx.1.cell; have l0 := hSx.1.lt; go_simp; first | done | with_reducible rfl) ?_; simp only [Act.put, List.setIfInBounds_toArray])
  refine Tk.nil ?_
  refine wpAnyM_ready [2] (by kernel_rfl) (by simp) ?_
  refine AllReadyM.cons (by rfl) (fun K hK => ?_) AllReadyM.nil
  go_simp
  refine (nneg_any (HAN.out.go HB0.out) (by omega)).mono ?_
  rintro e wq1 ⟨m1, rfl, hn9, hb5⟩
  replace HB0 := Lib.hid (Below.trans HB0.out (hb5.mono HB0.out.size))
  have HM1 := Lib.hid hn9
  clear hn9
  clear hb5
  clear hSw
  have hSw : (fun w' : World => Blk w' (w.heap.size) 105 #[.bool x.N.b, .slice x.N.A x.N.n x.N.c, .bool x.D.b, .slice x.D.A x.D.n x.D.c] ∧ True) wq1 := ⟨X2.out.go HB0.out, trivial⟩
  refine hK.out _ _ hSw ?_
  clear hK K
  refine wpAnyM_takeB 5 [6] rfl (by kernel_rfl) (by kernel_rfl) (by kernel_rfl) (by kernel_rfl) (by kernel_rfl) (fun _ _ _ h => h) hSw (by kernel_rfl) (fun w' hSx => by have c0 := hSx.1.cell; have l0 := hSx.1.lt; go_simp; first | done | with_reducible rfl) ?_
  simp only [Act.put]
  refine wpAnyM_ready [6] (by kernel_rfl) (by simp) ?_
  refine AllReadyM.last (by rfl) (by decide) (fun K hK => ?_)
  replace X2 := Lib.hid (X2.out.go HB0.out)
  replace X4 := Lib.hid (X4.out.go HB0.out)
  replace HAN := Lib.hid (HAN.out.go HB0.out)
  replace HAD := Lib.hid (HAD.out.go HB0.out)
  replace D := Lib.hid (D.out.trans (HB0.out.mono D.out.size))
  have cc9 := X4.out.cell
  have cf9 := X4.out.frozen
  have cl9 := X4.out.lt
  go_simp
  clear cc9 cf9 cl9
  replace X2 := Lib.hid (X2.out.far4 (r := w.heap.size + 1) (by omega) (u0 := .bool m1.b) (u1 := .slice m1.A m1.n m1.c) (u2 := .bool x.D.b) (u3 := .slice x.D.A x.D.n x.D.c))
  replace HAN := Lib.hid (HAN.out.put4 X4.out noU32_new2 (u0 := .bool m1.b) (u1 := .slice m1.A m1.n m1.c) (u2 := .bool x.D.b) (u3 := .slice x.D.A x.D.n x.D.c))
  replace HAD := Lib.hid (HAD.out.put4 X4.out noU32_new2 (u0 := .bool m1.b) (u1 := .slice m1.A m1.n m1.c) (u2 := .bool x.D.b) (u3 := .slice x.D.A x.D.n x.D.c))
  replace D := Lib.hid (below_put4 D.out (r := w.heap.size + 1) (by omega) (u0 := .bool m1.b) (u1 := .slice m1.A m1.n m1.c) (u2 := .bool x.D.b) (u3 := .slice x.D.A x.D.n x.D.c))
  replace HM1 := Lib.hid (HM1.out.put4 X4.out noU32_new2 (u0 := .bool m1.b) (u1 := .slice m1.A m1.n m1.c) (u2 := .bool x.D.b) (u3 := .slice x.D.A x.D.n x.D.c))
  replace X4 := Lib.hid (X4.out.put4 (u0 := .bool m1.b) (u1 := .slice m1.A m1.n m1.c) (u2 := .bool x.D.b) (u3 := .slice x.D.A x.D.n x.D.c))
  generalize ((((wq1.setCell ⟨w.heap.size + 1, 0, none⟩ (.bool m1.b)).setCell ⟨w.heap.size + 1, 1, none⟩ (.slice m1.A m1.n m1.c)).setCell ⟨w.heap.size + 1, 2, none⟩ (.bool x.D.b)).setCell ⟨w.heap.size + 1, 3, none⟩ (.slice x.D.A x.D.n x.D.c)) = wq2 at *
  replace HB0 := Lib.hid (Below.refl wq2.heap.size wq2)
  refine hK.out _ _ ?_
  clear hK K
  refine wpAnyM_done (by kernel_rfl) ?_ _
  clear HB0 hSw
  go_wp2_with fail
  have k4 := X4.out.cell
  refine bodyPost_ret (v := (Rt.mk m1 x.D).v) (by simp [results, Tryz.results72, go_sem, k4]) rfl ⟨⟨m1, x.D⟩, rfl, ⟨HM1.out, HAD.out⟩, D.out⟩
set_option maxHeartbeats 3200000 in
theorem rsub_any {a b : Rat} {x y : Rt} {w : World} (hx : RatIs w w.heap.size a x) (hy : RatIs w w.heap.size b y) (sx : Pl.rsz a ≤ 1099511627776) (sy : Pl.rsz b ≤ 1099511627776) :
    Calls Tryz.prog 67 #[x.v, y.v] w (RtSaid (a - b) w) := by
  obtain ⟨hA, hB, hR, hD, hsz⟩ := boxes3t w #[.bool x.N.b, .slice x.N.A x.N.n x.N.c, .bool x.D.b, .slice x.D.A x.D.n x.D.c] #[.bool y.N.b, .slice y.N.A y.N.n y.N.c, .bool y.D.b, .slice y.D.A y.D.n y.D.c] #[.bool false, .slice none 0 0, .bool false, .slice none 0 0] 105 105 105
  have X4 := Lib.hid hR
  have HA := Lib.hid (hx.go hD)
  have HB := Lib.hid (hy.go hD)
  have X2 := Lib.hid hA
  have X3 := Lib.hid hB
  have D := Lib.hid hD
  clear hx hy hA hB hR hD hsz
  go_enter Tryz.func67, Tryz.ntmps67
  go_upto_region 1 with fail
  generalize (((w.alloc (.cells #[.bool x.N.b, .slice x.N.A x.N.n x.N.c, .bool x.D.b, .slice x.D.A x.D.n x.D.c] 105)).alloc (.cells #[.bool y.N.b, .slice y.N.A y.N.n y.N.c, .bool y.D.b, .slice y.D.A y.D.n y.D.c] 105)).alloc (.cells #[.bool false, .slice none 0 0, .bool false, .slice none 0 0] 105)) = w1 at *
  have hb5 := (Below.refl w1.heap.size w1).drew
  replace X2 := Lib.hid (X2.out.go hb5)
  replace X3 := Lib.hid (X3.out.go hb5)
  replace X4 := Lib.hid (X4.out.go hb5)
  replace HA := Lib.hid (HA.out.go hb5)
  replace HB := Lib.hid (HB.out.go hb5)
  replace D := Lib.hid (D.out.trans (hb5.mono D.out.size))
  clear hb5
  have HB0 := Lib.hid (Below.refl w1.drew.heap.size w1.drew)
  have hlt_X2 := X2.out.lt
  have hlt_X3 := X3.out.lt
  have hlt_X4 := X4.out.lt
  have hlt_D := D.out.size
  generalize hw9 : w1.drew = w2 at *
  have hSw : (fun w' : World => Blk w' (w.heap.size) 105 #[.bool x.N.b, .slice x.N.A x.N.n x.N.c, .bool x.D.b, .slice x.D.A x.D.n x.D.c] ∧ Blk w' (w.heap.size + 1) 105 #[.bool y.N.b, .slice y.N.A y.N.n y.N.c, .bool y.D.b, .slice y.D.A y.D.n y.D.c] ∧ True) w2 := ⟨X2.out.go HB0.out, X3.out.go HB0.out, trivial⟩
  refine wp_region_mid (fun w' : World => Blk w' (w.heap.size) 105 #[.bool x.N.b, .slice x.N.A x.N.n x.N.c, .bool x.D.b, .slice x.D.A x.D.n x.D.c] ∧ Blk w' (w.heap.size + 1) 105 #[.bool y.N.b, .slice y.N.A y.N.n y.N.c, .bool y.D.b, .slice y.D.A y.D.n y.D.c] ∧ True) 4 (by kernel_rfl) ?_
  rw [hw9]
  clear hw9
  refine Tk.go [(0, [3, 4]), (1, [2, 3, 4])] ?_
  iterate 2 (refine Tk.cons rfl (by kernel_rfl) (fun _ _ _ h => h) hSw (by kernel_rfl) (fun w' hSx => by have c0 := hSx.1.cell; have l0 := hSx.1.lt; have c1 := hSx.2.1.cell; have l1 := hSx.2.1.lt; go_simp; first | done | with_reducible rfl) ?_; simp only [Act.put, List.setIfInBounds_toArray])
  refine Tk.nil ?_
  refine wpAnyM_ready [2] (by kernel_rfl) (by simp) ?_
  refine AllReadyM.cons (by rfl) (fun K hK => ?_) AllReadyM.nil
  go_simp
  refine (rneg_any (HB.out.go HB0.out) sy).mono ?_
  rintro e wq1 ⟨m1, rfl, hn9, hb5⟩
  clear HB
  replace HB0 := Lib.hid (Below.trans HB0.out (hb5.mono HB0.out.size))
  have HM1 := Lib.hid hn9
  clear hn9
  clear hb5
  clear hSw
  have hSw : (fun w' : World => Blk w' (w.heap.size) 105 #[.bool x.N.b, .slice x.N.A x.N.n x.N.c, .bool x.D.b, .slice x.D.A x.D.n x.D.c] ∧ Blk w' (w.heap.size + 1) 105 #[.bool y.N.b, .slice y.N.A y.N.n y.N.c, .bool y.D.b, .slice y.D.A y.D.n y.D.c] ∧ True) wq1 := ⟨X2.out.go HB0.out, X3.out.go HB0.out, trivial⟩
  refine hK.out _ _ hSw ?_
  clear hK K
  refine wpAnyM_ready [3] (by kernel_rfl) (by simp) ?_
  refine AllReadyM.cons (by rfl) (fun K hK => ?_) AllReadyM.nil
  go_simp
  refine (radd_any (HA.out.go HB0.out) HM1.out sx (by rw [Pl.rsz_neg]; exact sy)).mono ?_
  rintro e wq2 ⟨r, rfl, hr9, hb5⟩
  clear HA HM1
  replace HB0 := Lib.hid (Below.trans HB0.out (hb5.mono HB0.out.size))
  rw [← Rat.sub_eq_add_neg] at hr9
  have HR := Lib.hid hr9
  clear hr9
  clear hb5
  clear hSw
  have hSw : (fun w' : World => Blk w' (w.heap.size) 105 #[.bool x.N.b, .slice x.N.A x.N.n x.N.c, .bool x.D.b, .slice x.D.A x.D.n x.D.c] ∧ Blk w' (w.heap.size + 1) 105 #[.bool y.N.b, .slice y.N.A y.N.n y.N.c, .bool y.D.b, .slice y.D.A y.D.n y.D.c] ∧ True) wq2 := ⟨X2.out.go HB0.out, X3.out.go HB0.out, trivial⟩
  refine hK.out _ _ hSw ?_
  clear hK K
  refine wpAnyM_ready [4] (by kernel_rfl) (by simp) ?_
  refine AllReadyM.last (by rfl) (by decide) (fun K hK => ?_)
  replace X2 := Lib.hid (X2.out.go HB0.out)
  replace X3 := Lib.hid (X3.out.go HB0.out)
  replace X4 := Lib.hid (X4.out.go HB0.out)
  replace D := Lib.hid (D.out.trans (HB0.out.mono D.out.size))
  have cc9 := X4.out.cell
  have cf9 := X4.out.frozen
  have cl9 := X4.out.lt
  go_simp
  clear cc9 cf9 cl9
  replace X2 := Lib.hid (X2.out.far4 (r := w.heap.size + 1 + 1) (by omega) (u0 := .bool r.N.b) (u1 := .slice r.N.A r.N.n r.N.c) (u2 := .bool r.D.b) (u3 := .slice r.D.A r.D.n r.D.c))
  replace X3 := Lib.hid (X3.out.far4 (r := w.heap.size + 1 + 1) (by omega) (u0 := .bool r.N.b) (u1 := .slice r.N.A r.N.n r.N.c) (u2 := .bool r.D.b) (u3 := .slice r.D.A r.D.n r.D.c))
  replace D := Lib.hid (below_put4 D.out (r := w.heap.size + 1 + 1) (by omega) (u0 := .bool r.N.b) (u1 := .slice r.N.A r.N.n r.N.c) (u2 := .bool r.D.b) (u3 := .slice r.D.A r.D.n r.D.c))
  replace HR := Lib.hid (HR.out.put4 X4.out noU32_new2 (u0 := .bool r.N.b) (u1 := .slice r.N.A r.N.n r.N.c) (u2 := .bool r.D.b) (u3 := .slice r.D.A r.D.n r.D.c))
  replace X4 := Lib.hid (X4.out.put4 (u0 := .bool r.N.b) (u1 := .slice r.N.A r.N.n r.N.c) (u2 := .bool r.D.b) (u3 := .slice r.D.A r.D.n r.D.c))
  generalize ((((wq2.setCell ⟨w.heap.size + 1 + 1, 0, none⟩ (.bool r.N.b)).setCell ⟨w.heap.size + 1 + 1, 1, none⟩ (.slice r.N.A r.N.n r.N.c)).setCell ⟨w.heap.size + 1 + 1, 2, none⟩ (.bool r.D.b)).setCell ⟨w.heap.size + 1 + 1, 3, none⟩ (.slice r.D.A r.D.n r.D.c)) = wq3 at *
  replace HB0 := Lib.hid (Below.refl wq3.heap.size wq3)
  refine hK.out _ _ ?_
  clear hK K
  refine wpAnyM_done (by kernel_rfl) ?_ _
  clear HB0 hSw
  go_wp2_with fail
  have k4 := X4.out.cell
  refine bodyPost_ret (v := r.v) (by simp [results, Tryz.results67, go_sem, k4]) rfl ⟨r, rfl, HR.out, D.out⟩
end Go.Proofs.YtoblpcljhblnmaaGreatDoor
namespace Go.Proofs.YtoblpcljhblnmaaGreatDoor
open Go.RowKit
set_option maxRecDepth 100000
theorem small_nw {n : Int} (h : n.natAbs < 18446744073709551616) : Pl.nw n.natAbs ≤ 2 := by
  have e : (4294967296 : Nat) ^ 2 = 18446744073709551616 := by decide +kernel
  exact Pl.nw_le (by rw [e]; exact h)
theorem rsign_any {a : Rat} {x : Rt} {w : World} (hx : RatIs w w.heap.size a x) : Calls Tryz.prog 78 #[x.v] w fun e w' => e = .returned (.int .i64 a.num.sign) ∧ Below w.heap.size w w' := by
  obtain ⟨hA, hD, hsz⟩ := box1 w #[.bool x.N.b, .slice x.N.A x.N.n x.N.c, .bool x.D.b, .slice x.D.A x.D.n x.D.c] 105
  have HA := Lib.hid (hx.go hD).n
  have D := Lib.hid hD
  obtain ⟨s, hs⟩ : ∃ s : Int, s = a.num.sign := ⟨_, rfl⟩
  have HS := Lib.hid hs
  clear hx hA hD hsz hs
  go_enter Tryz.func78, Tryz.ntmps78
  go_wp2_with fail
  generalize w.alloc (.cells #[.bool x.N.b, .slice x.N.A x.N.n x.N.c, .bool x.D.b, .slice x.D.A x.D.n x.D.c] 105) = w1 at *
  have hc := nsign_any HA.out
  rw [← HS.out] at hc
  refine hc.mono ?_
  rintro e w2 ⟨rfl, hb5⟩
  have D2 := Lib.hid (D.out.trans (hb5.mono D.out.size))
  clear hb5 hc
  go_wp2_with fail
  go_ret
  exact ⟨by rw [← HS.out]; rfl, D2.out⟩
theorem whole_any (n : Int) (w : World) (h0 : -9223372036854775808 ≤ n) (h1 : n ≤ 9223372036854775807) : Calls Tryz.prog 47 #[.int .i64 n] w (RtSaid (n : Rat) w) := by
  obtain ⟨hA, hD, hsz⟩ := box1 w #[.bool false, .slice none 0 0, .bool false, .slice none 0 0] 105
  have X4 := Lib.hid hA
  have D := Lib.hid hD
  clear hA hD hsz
  go_enter Tryz.func47, Tryz.ntmps47
  go_wp2_with fail
  generalize w.alloc (.cells #[.bool false, .slice none 0 0, .bool false, .slice none 0 0] 105) = w1 at *
  refine (nof_any n _ h0 h1).mono ?_
  rintro e w2 ⟨k1, rfl, hk1, hb5⟩
  have H1 := Lib.hid hk1
  replace X4 := Lib.hid (X4.out.go hb5)
  replace D := Lib.hid (D.out.trans (hb5.mono D.out.size))
  clear hb5 hk1
  go_wp2_with fail
  refine (nof_any 1 _ (by omega) (by omega)).mono ?_
  rintro e w3 ⟨k2, rfl, hk2, hb5⟩
  have H2 := Lib.hid hk2
  replace X4 := Lib.hid (X4.out.go hb5)
  replace D := Lib.hid (D.out.trans (hb5.mono D.out.size))
  replace H1 := Lib.hid (H1.out.go hb5)
  clear hb5 hk2
  have c4 := X4.out.cell
  have l4 := X4.out.lt
  have f4 := X4.out.frozen
  go_wp2_with fail
  clear c4 l4 f4
  replace D := Lib.hid (below_put4 D.out (r := w.heap.size) (Nat.le_refl _) (u0 := .bool k1.b) (u1 := .slice k1.A k1.n k1.c) (u2 := .bool k2.b) (u3 := .slice k2.A k2.n k2.c))
  replace H1 := Lib.hid (H1.out.put4 X4.out noU32_new2 (u0 := .bool k1.b) (u1 := .slice k1.A k1.n k1.c) (u2 := .bool k2.b) (u3 := .slice k2.A k2.n k2.c))
  replace H2 := Lib.hid (H2.out.put4 X4.out noU32_new2 (u0 := .bool k1.b) (u1 := .slice k1.A k1.n k1.c) (u2 := .bool k2.b) (u3 := .slice k2.A k2.n k2.c))
  replace X4 := Lib.hid (X4.out.put4 (u0 := .bool k1.b) (u1 := .slice k1.A k1.n k1.c) (u2 := .bool k2.b) (u3 := .slice k2.A k2.n k2.c))
  have k4 := X4.out.cell
  refine bodyPost_ret (v := (Rt.mk k1 k2).v) (by simp [results, Tryz.results47, go_sem, k4]) rfl ⟨⟨k1, k2⟩, rfl, ⟨H1.out, H2.out⟩, D.out⟩
theorem frac_any (n d : Int) (w : World) (h0 : -9223372036854775808 ≤ n) (h1 : n ≤ 9223372036854775807) (g0 : -9223372036854775808 ≤ d) (g1 : d ≤ 9223372036854775807) (hd : d ≠ 0) : Calls Tryz.prog 49 #[.int .i64 n, .int .i64 d] w (RtSaid (Rat.divInt n d) w) := by
  obtain ⟨q, hq⟩ : ∃ q : Rat, q = Rat.divInt n d := ⟨_, rfl⟩
  rw [← hq]
  have HQ := Lib.hid hq
  clear hq
  obtain ⟨hA, hD, hsz⟩ := box1 w #[.bool false, .slice none 0 0, .bool false, .slice none 0 0] 105
  have X4 := Lib.hid hA
  have D := Lib.hid hD
  clear hA hD hsz
  go_enter Tryz.func49, Tryz.ntmps49
  go_wp2_with fail
  generalize w.alloc (.cells #[.bool false, .slice none 0 0, .bool false, .slice none 0 0] 105) = w1 at *
  refine (nof_any n _ h0 h1).mono ?_
  rintro e w2 ⟨k1, rfl, hk1, hb5⟩
  have H1 := Lib.hid hk1
  replace X4 := Lib.hid (X4.out.go hb5)
  replace D := Lib.hid (D.out.trans (hb5.mono D.out.size))
  clear hb5 hk1
  go_wp2_with fail
  refine (nof_any d _ g0 g1).mono ?_
  rintro e w3 ⟨k2, rfl, hk2, hb5⟩
  have H2 := Lib.hid hk2
  replace X4 := Lib.hid (X4.out.go hb5)
  replace D := Lib.hid (D.out.trans (hb5.mono D.out.size))
  replace H1 := Lib.hid (H1.out.go hb5)
  clear hb5 hk2
  have z1 : k1.n ≤ 4398046511104 := by rw [H1.out.ln]; exact Nat.le_trans (small_nw (by omega)) (by omega)
  have z2 : k2.n ≤ 4398046511104 := by rw [H2.out.ln]; exact Nat.le_trans (small_nw (by omega)) (by omega)
  go_wp2_with fail
  have hc := ratio_any H1.out H2.out hd z1 z2
  rw [← HQ.out] at hc
  refine hc.mono ?_
  rintro e w4 ⟨r, rfl, hr, hb5⟩
  have HR := Lib.hid hr
  replace X4 := Lib.hid (X4.out.go hb5)
  replace D := Lib.hid (D.out.trans (hb5.mono D.out.size))
  clear hb5 hr hc
  have c4 := X4.out.cell
  have l4 := X4.out.lt
  have f4 := X4.out.frozen
  go_wp2_with fail
  clear c4 l4 f4
  replace D := Lib.hid (below_put4 D.out (r := w.heap.size) (Nat.le_refl _) (u0 := .bool r.N.b) (u1 := .slice r.N.A r.N.n r.N.c) (u2 := .bool r.D.b) (u3 := .slice r.D.A r.D.n r.D.c))
  replace HR := Lib.hid (HR.out.put4 X4.out noU32_new2 (u0 := .bool r.N.b) (u1 := .slice r.N.A r.N.n r.N.c) (u2 := .bool r.D.b) (u3 := .slice r.D.A r.D.n r.D.c))
  replace X4 := Lib.hid (X4.out.put4 (u0 := .bool r.N.b) (u1 := .slice r.N.A r.N.n r.N.c) (u2 := .bool r.D.b) (u3 := .slice r.D.A r.D.n r.D.c))
  have k4 := X4.out.cell
  refine bodyPost_ret (v := r.v) (by simp [results, Tryz.results49, go_sem, k4]) rfl ⟨r, rfl, HR.out, D.out⟩
end Go.Proofs.YtoblpcljhblnmaaGreatDoor
