/- Package large: numbers as values of four parts; the contracts of norm, Neg, Add, Sub, Mul, Sign, Cmp, Of, divWords, Clone in these terms. Condition: the words read. Package large: Gcd answers as integers. Condition: the words read; at most 10^6 words. -/
import Derived.Test.YtoblpcljhblnmaaGreatDoorLgN
import Derived.Test.YtoblpcljhblnmaaGreatDoorLgI
import Derived.Test.YtoblpcljhblnmaaGreatDoorMid
import Derived.Deep.LoopGhost
namespace Go.Proofs.YtoblpcljhblnmaaGreatDoor
open Go.RowKit
set_option maxRecDepth 100000
structure Nm where
  b : Bool
  A : Option Addr
  n : Nat
  c : Nat
abbrev Nm.v (x : Nm) : Value := .agg #[.bool x.b, .slice x.A x.n x.c]
structure NumIs (w : World) (B : Nat) (z : Int) (x : Nm) : Prop where
  sg : x.b = decide (z < 0)
  ln : x.n = Pl.nw z.natAbs
  at_ : NumAt w B z x.A x.c
section
variable {w w' : World} {B B' : Nat} {z : Int} {x : Nm}
theorem NumIs.v_eq (h : NumIs w B z x) : x.v = vNum z x.A x.c := by unfold vNum Nm.v; rw [h.sg, h.ln]
theorem NumIs.of {A : Option Addr} {c : Nat} (h : NumAt w B z A c) : ∃ x : Nm, vNum z A c = x.v ∧ NumIs w B z x ∧ x.A = A ∧ x.c = c := ⟨⟨decide (z < 0), A, Pl.nw z.natAbs, c⟩, rfl, ⟨rfl, rfl, h⟩, rfl, rfl⟩
theorem NumIs.go (h : NumIs w w.heap.size z x) (hb : Below w.heap.size w w') : NumIs w' w'.heap.size z x := ⟨h.sg, h.ln, h.at_.go hb⟩
theorem NumIs.more (h : NumIs w B z x) (hb : B ≤ B') : NumIs w B' z x := ⟨h.sg, h.ln, h.at_.more hb⟩
theorem NumIs.reads (h : NumIs w B z x) : Reads w B 1 x.A x.n (u32s (Pl.digs z.natAbs)) := by rw [h.ln]; exact h.at_.2
theorem NumIs.len0 (h : NumIs w B z x) : x.n = 0 ↔ z = 0 := by
  rw [h.ln]
  constructor
  · intro e
    have := Pl.digs_nil.1 (List.eq_nil_of_length_eq_zero e)
    omega
  · rintro rfl; exact Pl.nw_zero
end
def noU32 (cs : Array Value) : Prop := ∀ (i : Nat) (k : Int), cs[i]? ≠ some (.int .u32 k)
theorem noU32_num (x : Nm) : noU32 #[.bool x.b, .slice x.A x.n x.c] := fun i k => by
  match i with
  | 0 => intro h; cases h
  | 1 => intro h; cases h
  | i + 2 => simp
theorem noU32_new : noU32 #[.bool false, .slice none 0 0] := noU32_num ⟨false, none, 0, 0⟩
theorem noU32_num2 (x y : Nm) : noU32 #[.bool x.b, .slice x.A x.n x.c, .bool y.b, .slice y.A y.n y.c] := fun i k => by
  match i with
  | 0 => intro h; cases h
  | 1 => intro h; cases h
  | 2 => intro h; cases h
  | 3 => intro h; cases h
  | i + 4 => simp
theorem noU32_new2 : noU32 #[.bool false, .slice none 0 0, .bool false, .slice none 0 0] := noU32_num2 ⟨false, none, 0, 0⟩ ⟨false, none, 0, 0⟩
theorem Reads.off {w : World} {B n r : Nat} {A : Option Addr} {l : List Nat} {t : TypeId} {cs : Array Value} (h : Reads w B 1 A n (u32s l)) (hb : Blk w r t cs) (hc : noU32 cs) {w' : World} (hw : ∀ p : Addr, p.block ≠ r → w'.cell? p = w.cell? p) : Reads w' B 1 A n (u32s l) := by
  refine ⟨h.1, fun hn => ?_⟩
  obtain ⟨b, o, rfl, hbB, hcl⟩ := h.where_ hn (by omega)
  have hl := u32_len h
  refine ⟨⟨b, o, none⟩, rfl, hbB, fun j v hv => ?_⟩
  obtain ⟨ad, e, _, hc2⟩ := h.2 hn
  injection e with e
  subst e
  have h0 := hcl 0 _ (by unfold u32s; rw [List.getElem?_map, List.getElem?_eq_getElem (by omega)]; rfl)
  have hne : b ≠ r := by
    rintro rfl
    have := hb.cell o
    rw [Nat.add_zero] at h0
    rw [h0] at this
    exact hc _ _ this.symm
  refine (hw _ ?_).trans (hc2 j v hv)
  rw [block_of_add]
  exact hne
theorem NumIs.off {w w' : World} {B r : Nat} {z : Int} {x : Nm} {t : TypeId} {cs : Array Value} (h : NumIs w B z x) (hb : Blk w r t cs) (hc : noU32 cs) (hw : ∀ p : Addr, p.block ≠ r → w'.cell? p = w.cell? p) : NumIs w' B z x := ⟨h.sg, h.ln, h.at_.1, h.at_.2.off hb hc hw⟩
theorem off_set (w : World) (r i : Nat) (u : Value) (p : Addr) (hp : p.block ≠ r) : (w.setCell ⟨r, i, none⟩ u).cell? p = w.cell? p := World.cell?_setCell_other w _ _ u (fun e => by
  have e2 := congrArg Addr.block e
  first | exact hp e2 | exact hp e2.symm)
section
variable {w w0 : World} {B r g : Nat} {z : Int} {x : Nm} {t t' : TypeId} {cs cs' : Array Value} {u0 u1 u2 u3 a0 a1 a2 a3 : Value}
theorem off2 (p : Addr) (hp : p.block ≠ r) : ((w.setCell ⟨r, 0, none⟩ u0).setCell ⟨r, 1, none⟩ u1).cell? p = w.cell? p := (off_set _ r 1 u1 p hp).trans (off_set w r 0 u0 p hp)
theorem off4 (p : Addr) (hp : p.block ≠ r) : ((((w.setCell ⟨r, 0, none⟩ u0).setCell ⟨r, 1, none⟩ u1).setCell ⟨r, 2, none⟩ u2).setCell ⟨r, 3, none⟩ u3).cell? p = w.cell? p := (off_set _ r 3 u3 p hp).trans ((off_set _ r 2 u2 p hp).trans ((off_set _ r 1 u1 p hp).trans (off_set w r 0 u0 p hp)))
theorem NumIs.put1 (h : NumIs w w.heap.size z x) (hb : Blk w r t cs) (hc : noU32 cs) (i : Nat) : NumIs (w.setCell ⟨r, i, none⟩ u0) (w.setCell ⟨r, i, none⟩ u0).heap.size z x := (h.off hb hc (off_set w r i u0)).more (by simp)
theorem NumIs.put2 (h : NumIs w w.heap.size z x) (hb : Blk w r t cs) (hc : noU32 cs) : NumIs ((w.setCell ⟨r, 0, none⟩ u0).setCell ⟨r, 1, none⟩ u1) ((w.setCell ⟨r, 0, none⟩ u0).setCell ⟨r, 1, none⟩ u1).heap.size z x := (h.off hb hc off2).more (by simp)
theorem NumIs.put4 (h : NumIs w w.heap.size z x) (hb : Blk w r t cs) (hc : noU32 cs) : NumIs ((((w.setCell ⟨r, 0, none⟩ u0).setCell ⟨r, 1, none⟩ u1).setCell ⟨r, 2, none⟩ u2).setCell ⟨r, 3, none⟩ u3) ((((w.setCell ⟨r, 0, none⟩ u0).setCell ⟨r, 1, none⟩ u1).setCell ⟨r, 2, none⟩ u2).setCell ⟨r, 3, none⟩ u3).heap.size z x := (h.off hb hc off4).more (by simp)
theorem Blk.put1 (h : Blk w r t #[a0, a1]) : Blk (w.setCell ⟨r, 0, none⟩ u0) r t #[u0, a1] := h.set_ 0 u0
theorem Blk.put2 (h : Blk w r t #[a0, a1]) : Blk ((w.setCell ⟨r, 0, none⟩ u0).setCell ⟨r, 1, none⟩ u1) r t #[u0, u1] := (h.set_ 0 u0).set_ 1 u1
theorem Blk.put4 (h : Blk w r t #[a0, a1, a2, a3]) : Blk ((((w.setCell ⟨r, 0, none⟩ u0).setCell ⟨r, 1, none⟩ u1).setCell ⟨r, 2, none⟩ u2).setCell ⟨r, 3, none⟩ u3) r t #[u0, u1, u2, u3] := (((h.set_ 0 u0).set_ 1 u1).set_ 2 u2).set_ 3 u3
theorem Blk.far1 (h : Blk w g t cs) (hg : g ≠ r) (i : Nat) : Blk (w.setCell ⟨r, i, none⟩ u0) g t cs := h.far hg u0
theorem Blk.far2 (h : Blk w g t cs) (hg : g ≠ r) : Blk ((w.setCell ⟨r, 0, none⟩ u0).setCell ⟨r, 1, none⟩ u1) g t cs := (h.far (p := ⟨r, 0, none⟩) hg u0).far (p := ⟨r, 1, none⟩) hg u1
theorem Blk.far4 (h : Blk w g t cs) (hg : g ≠ r) : Blk ((((w.setCell ⟨r, 0, none⟩ u0).setCell ⟨r, 1, none⟩ u1).setCell ⟨r, 2, none⟩ u2).setCell ⟨r, 3, none⟩ u3) g t cs := (((h.far (p := ⟨r, 0, none⟩) hg u0).far (p := ⟨r, 1, none⟩) hg u1).far (p := ⟨r, 2, none⟩) hg u2).far (p := ⟨r, 3, none⟩) hg u3
theorem below_put1 (h : Below B w0 w) (hr : B ≤ r) (i : Nat) : Below B w0 (w.setCell ⟨r, i, none⟩ u0) := h.setCell hr _
theorem below_put2 (h : Below B w0 w) (hr : B ≤ r) : Below B w0 ((w.setCell ⟨r, 0, none⟩ u0).setCell ⟨r, 1, none⟩ u1) := (h.setCell hr _).setCell hr _
theorem below_put4 (h : Below B w0 w) (hr : B ≤ r) : Below B w0 ((((w.setCell ⟨r, 0, none⟩ u0).setCell ⟨r, 1, none⟩ u1).setCell ⟨r, 2, none⟩ u2).setCell ⟨r, 3, none⟩ u3) := (((h.setCell hr _).setCell hr _).setCell hr _).setCell hr _
end
def NmSaid (z : Int) (w : World) (e : Ending) (w' : World) : Prop := ∃ r : Nm, e = .returned r.v ∧ NumIs w' w'.heap.size z r ∧ Below w.heap.size w w'
theorem NumSaid.nm {z : Int} {w w' : World} {e : Ending} (h : NumSaid z w e w') : NmSaid z w e w' := by
  obtain ⟨A, c, rfl, hn, hb⟩ := h
  obtain ⟨x, e, hx, _⟩ := NumIs.of hn
  exact ⟨x, by rw [e], hx, hb⟩
section
variable {w : World} {a b : Int} {x y : Nm}
theorem nneg_any (hx : NumIs w w.heap.size a x) (sx : x.n ≤ 35184372088832) : Calls Tryz.prog 118 #[x.v] w (NmSaid (-a) w) := by
  rw [hx.v_eq]
  rw [hx.ln] at sx
  refine (neg_any a x.A x.c w (by omega) hx.at_).mono ?_
  rintro e w' ⟨rfl, hn, hb⟩
  exact NumSaid.nm ⟨_, _, rfl, hn, hb⟩
theorem nadd_any (hx : NumIs w w.heap.size a x) (hy : NumIs w w.heap.size b y) (sx : x.n ≤ 35184372088832) (sy : y.n ≤ 35184372088832) : Calls Tryz.prog 90 #[x.v, y.v] w (NmSaid (a + b) w) := by
  rw [hx.v_eq, hy.v_eq]
  rw [hx.ln] at sx
  rw [hy.ln] at sy
  exact (add_any a b x.A x.c y.A y.c w hx.at_ hy.at_ sx sy).mono fun _ _ h => NumSaid.nm h
theorem nsub_any (hx : NumIs w w.heap.size a x) (hy : NumIs w w.heap.size b y) (sx : x.n ≤ 35184372088832) (sy : y.n ≤ 35184372088832) : Calls Tryz.prog 137 #[x.v, y.v] w (NmSaid (a - b) w) := by
  rw [hx.v_eq, hy.v_eq]
  rw [hx.ln] at sx
  rw [hy.ln] at sy
  exact (isub_any a b x.A x.c y.A y.c w hx.at_ hy.at_ sx sy).mono fun _ _ h => NumSaid.nm h
theorem nmul_any (hx : NumIs w w.heap.size a x) (hy : NumIs w w.heap.size b y) (sx : x.n ≤ 35184372088832) (sy : y.n ≤ 35184372088832) : Calls Tryz.prog 89 #[x.v, y.v] w (NmSaid (a * b) w) := by
  rw [hx.v_eq, hy.v_eq]
  rw [hx.ln] at sx
  rw [hy.ln] at sy
  exact (mul_any a b x.A x.c y.A y.c w hx.at_ hy.at_ sx sy).mono fun _ _ h => NumSaid.nm h
theorem nsign_any (hx : NumIs w w.heap.size a x) : Calls Tryz.prog 121 #[x.v] w fun e w' => e = .returned (.int .i64 a.sign) ∧ Below w.heap.size w w' := by
  rw [hx.v_eq]
  exact sign_any a x.A x.c w
theorem ncmp_any (hx : NumIs w w.heap.size a x) (hy : NumIs w w.heap.size b y) (sx : x.n ≤ 35184372088832) (sy : y.n ≤ 35184372088832) : Calls Tryz.prog 92 #[x.v, y.v] w fun e w' => e = .returned (.int .i64 (a - b).sign) ∧ Below w.heap.size w w' := by
  rw [hx.v_eq, hy.v_eq]
  rw [hx.ln] at sx
  rw [hy.ln] at sy
  exact icmp_any a b x.A x.c y.A y.c w hx.at_ hy.at_ sx sy
theorem nof_any (n : Int) (w : World) (h0 : -9223372036854775808 ≤ n) (h1 : n ≤ 9223372036854775807) : Calls Tryz.prog 93 #[.int .i64 n] w (NmSaid n w) := (of_any n w h0 h1).mono fun _ _ h => NumSaid.nm h
theorem nnorm_any (m : Bool) (A : Option Addr) (n c : Nat) (l : List Nat) (w : World) (hn : n ≤ 35184372088832) (hc : n ≤ c) (h : Reads w w.heap.size 1 A n (u32s l)) (hW : Pl.W32 l) {z : Int} (hz : sgn m (Pl.lv l) = z) :
    Calls Tryz.prog 133 #[.bool m, .slice A n c] w (NmSaid z w) := by
  subst hz
  refine (norm_any m A n c l w (by omega) hc h hW).mono ?_
  rintro e w' ⟨rfl, hn, hb⟩
  exact NumSaid.nm ⟨_, _, rfl, hn, hb⟩
def NDivSaid (a b : Nat) (N M : Nat) (w : World) (e : Ending) (w' : World) : Prop :=
  ∃ (Aq : Option Addr) (nq cq : Nat) (lq : List Nat) (Ar : Option Addr) (nr cr : Nat) (lr : List Nat), e = .returned (.tuple #[.slice Aq nq cq, .slice Ar nr cr]) ∧ nq ≤ cq ∧ nr ≤ cr ∧ nq ≤ N ∧ nr ≤ max N M ∧ Hid (Pl.W32 lq ∧ Pl.W32 lr ∧ Pl.lv lq = a / b ∧ Pl.lv lr = a % b) ∧
    Hid (Reads w' w'.heap.size 1 Aq nq (u32s lq)) ∧ Hid (Reads w' w'.heap.size 1 Ar nr (u32s lr)) ∧ Below w.heap.size w w'
theorem ndivw_any (hx : NumIs w w.heap.size a x) (hy : NumIs w w.heap.size b y) (hb : b ≠ 0) (sx : x.n ≤ 17592186044416) (sy : y.n ≤ 17592186044416) :
    Calls Tryz.prog 173 #[.slice x.A x.n x.c, .slice y.A y.n y.c] w (NDivSaid a.natAbs b.natAbs x.n y.n w) := by
  have h1 := hx.ln
  have h2 := hy.ln
  rw [h1, h2]
  rw [h1] at sx
  rw [h2] at sy
  refine (divw_any x.A x.c y.A y.c a.natAbs b.natAbs w sx sy hx.at_.1 hx.at_.2 hy.at_.2 (by omega)).mono ?_
  rintro e w' ⟨Aq, nq, cq, lq, Ar, nr, cr, lr, rfl, g1, g2, g3, g4, g5, g6, g7, g8, g9, g10, g11⟩
  exact ⟨Aq, nq, cq, lq, Ar, nr, cr, lr, rfl, g1, g2, g7, g8, ⟨g3, g4, g5, g6⟩, g9, g10, g11⟩
end
end Go.Proofs.YtoblpcljhblnmaaGreatDoor
namespace Go.Proofs.YtoblpcljhblnmaaGreatDoor
open Go.RowKit
set_option maxRecDepth 100000
theorem NumIs.abs {w : World} {B : Nat} {z : Int} {x : Nm} (h : NumIs w B z x) : NumIs w B (z.natAbs : Int) ⟨false, x.A, x.n, x.c⟩ :=
  ⟨by simp, by simp only [Int.natAbs_natCast]; exact h.ln, by have := h.at_; unfold NumAt at this ⊢; rw [Int.natAbs_natCast]; exact this⟩
theorem sgn_false (n : Nat) : sgn false n = (n : Int) := by unfold sgn; simp
def GcdR (w wr : World) (G u v : Nat) (p q : Nm) : Prop :=
  Nat.gcd u v = G ∧ Blk wr w.heap.size 103 #[.bool p.b, .slice p.A p.n p.c] ∧ Blk wr (w.heap.size + 1) 103 #[.bool q.b, .slice q.A q.n q.c] ∧ Blk wr (w.heap.size + 1 + 1) 103 #[.bool false, .slice none 0 0] ∧ NumIs wr wr.heap.size (u : Int) p ∧ NumIs wr wr.heap.size (v : Int) q ∧ Below w.heap.size w wr
set_option maxHeartbeats 6400000 in
theorem gcd_any {a b : Int} {x y : Nm} {w : World} (hx : NumIs w w.heap.size a x) (hy : NumIs w w.heap.size b y) (sx : x.n ≤ 4398046511104) (sy : y.n ≤ 4398046511104) :
    Calls Tryz.prog 131 #[x.v, y.v] w (NmSaid ((Nat.gcd a.natAbs b.natAbs : Nat) : Int) w) := by
  obtain ⟨hA, hB, hR, hD, hsz⟩ := boxes3 w #[.bool false, .slice x.A x.n x.c] #[.bool false, .slice y.A y.n y.c] #[.bool false, .slice none 0 0] 103
  have HU := Lib.hid (hx.go hD).abs
  have HV := Lib.hid (hy.go hD).abs
  obtain ⟨G, hG⟩ : ∃ G : Nat, G = Nat.gcd a.natAbs b.natAbs := ⟨_, rfl⟩
  rw [← hG]
  have HG := Lib.hid hG
  have X0 := Lib.hid hA
  have X1 := Lib.hid hB
  have X4 := Lib.hid hR
  have D := Lib.hid hD
  clear hx hy hA hB hR hD hsz hG
  go_enter Tryz.func131, Tryz.ntmps131
  go_wp2_with fail
  generalize ((w.alloc (.cells #[.bool false, .slice x.A x.n x.c] 103)).alloc (.cells #[.bool false, .slice y.A y.n y.c] 103)).alloc (.cells #[.bool false, .slice none 0 0] 103) = w1 at *
  obtain ⟨g0, hg0⟩ : ∃ g : Nat, g = b.natAbs + 1 := ⟨_, rfl⟩
  go_loopg [5, 6] g0 (fun gh s5 s6 wr => ∃ (u v : Nat) (p q : Nm), gh = v + 1 ∧ p.n ≤ 4398046511104 ∧ q.n ≤ 4398046511104 ∧ Hid (GcdR w wr G u v p q))
  case atStart => exact ⟨a.natAbs, b.natAbs, ⟨false, x.A, x.n, x.c⟩, ⟨false, y.A, y.n, y.c⟩, hg0, sx, sy, ⟨HG.out.symm, X0.out, X1.out, X4.out, HU.out, HV.out, D.out⟩⟩
  case round =>
    clear X0 X1 X4 HU HV D hg0 HG
    obtain ⟨u, v, p, q, rfl, sp, sq, HM⟩ := hrel
    have HG := Lib.hid HM.out.1
    have X0 := Lib.hid HM.out.2.1
    have X1 := Lib.hid HM.out.2.2.1
    have X4 := Lib.hid HM.out.2.2.2.1
    have HU := Lib.hid HM.out.2.2.2.2.1
    have HV := Lib.hid HM.out.2.2.2.2.2.1
    have D := Lib.hid HM.out.2.2.2.2.2.2
    clear HM
    have HSG := Lib.hid (nsign_any HV.out)
    have c1 := X1.out.cell
    have l1 := X1.out.lt
    by_cases hv : v = 0
    · subst hv
      go_wp2_with fail
      refine HSG.out.mono ?_
      rintro e w2 ⟨rfl, hb5⟩
      replace X0 := Lib.hid (X0.out.go hb5)
      replace X1 := Lib.hid (X1.out.go hb5)
      replace X4 := Lib.hid (X4.out.go hb5)
      replace HU := Lib.hid (HU.out.go hb5)
      replace HV := Lib.hid (HV.out.go hb5)
      replace D := Lib.hid (D.out.trans (hb5.mono D.out.size))
      clear hb5 HSG c1 l1
      have c0 := X0.out.cell
      have l0 := X0.out.lt
      have c4 := X4.out.cell
      have l4 := X4.out.lt
      have f4 := X4.out.frozen
      go_wp2_with fail
      clear c0 l0 c4 l4 f4
      replace X0 := Lib.hid (X0.out.far2 (r := w.heap.size + 1 + 1) (by omega) (u0 := .bool p.b) (u1 := .slice p.A p.n p.c))
      replace X1 := Lib.hid (X1.out.far2 (r := w.heap.size + 1 + 1) (by omega) (u0 := .bool p.b) (u1 := .slice p.A p.n p.c))
      replace HU := Lib.hid (HU.out.put2 X4.out noU32_new (u0 := .bool p.b) (u1 := .slice p.A p.n p.c))
      replace HV := Lib.hid (HV.out.put2 X4.out noU32_new (u0 := .bool p.b) (u1 := .slice p.A p.n p.c))
      replace D := Lib.hid (below_put2 D.out (r := w.heap.size + 1 + 1) (by omega) (u0 := .bool p.b) (u1 := .slice p.A p.n p.c))
      replace X4 := Lib.hid (X4.out.put2 (u0 := .bool p.b) (u1 := .slice p.A p.n p.c))
      have k4 := X4.out.cell
      have hgu : u = G := by have := HG.out; rw [Nat.gcd_zero_right] at this; exact this
      rw [hgu] at HU
      refine bodyPost_ret (v := p.v) (by simp [results, Tryz.results131, go_sem, k4]) rfl ⟨p, rfl, HU.out, D.out⟩
    · have hsg : (v : Int).sign = 1 := Int.sign_eq_one_of_pos (by omega)
      rw [hsg] at HSG
      have HV0 := Lib.hid hv
      clear hv hsg
      go_wp2_with fail
      refine HSG.out.mono ?_
      rintro e w2 ⟨rfl, hb5⟩
      replace X0 := Lib.hid (X0.out.go hb5)
      replace X1 := Lib.hid (X1.out.go hb5)
      replace X4 := Lib.hid (X4.out.go hb5)
      replace HU := Lib.hid (HU.out.go hb5)
      replace HV := Lib.hid (HV.out.go hb5)
      replace D := Lib.hid (D.out.trans (hb5.mono D.out.size))
      clear hb5 HSG c1 l1
      have c0 := X0.out.cell
      have l0 := X0.out.lt
      have c1 := X1.out.cell
      have l1 := X1.out.lt
      go_wp2_with fail
      refine (ndivw_any HU.out HV.out (by have := HV0.out; omega) (by omega) (by omega)).mono ?_
      rintro e w3 ⟨Aq, nq, cq, lq, Ar, nr, cr, lr, rfl, hqc, hrc, hqn, hrn, HW, HRQ, HRR, hb5⟩
      clear HRQ
      replace X0 := Lib.hid (X0.out.go hb5)
      replace X1 := Lib.hid (X1.out.go hb5)
      replace X4 := Lib.hid (X4.out.go hb5)
      replace HU := Lib.hid (HU.out.go hb5)
      replace HV := Lib.hid (HV.out.go hb5)
      replace D := Lib.hid (D.out.trans (hb5.mono D.out.size))
      clear hb5 c0 l0 c1 l1
      simp only [Int.natAbs_natCast] at HW
      have HZ := Lib.hid (sgn_false (Pl.lv lr))
      rw [HW.out.2.2.2] at HZ
      have hsz : Pl.nw (u % v) ≤ q.n := by rw [HV.out.ln, Int.natAbs_natCast]; exact Pl.nw_mono (Nat.le_of_lt (Nat.mod_lt _ (by have := HV0.out; omega)))
      have hGn : Nat.gcd v (u % v) = G := by rw [Nat.gcd_comm, ← HG.out, Nat.gcd_comm u v]; exact (Nat.gcd_rec v u).symm
      have hmd : u % v < v := Nat.mod_lt _ (by have := HV0.out; omega)
      have HGN := Lib.hid (And.intro hGn (And.intro hmd hsz))
      clear hGn hmd hsz HG
      have HZ2 : Hid (sgn false (Pl.lv lr) = ((u % v : Nat) : Int)) := by rw [HW.out.2.2.2]; exact HZ.out
      generalize u % v = t at *
      clear HZ
      go_upto_region 4 with fail
      clear HU
      have hb5 := (Below.refl w3.heap.size w3).drew
      replace X0 := Lib.hid (X0.out.go hb5)
      replace X1 := Lib.hid (X1.out.go hb5)
      replace X4 := Lib.hid (X4.out.go hb5)
      replace HV := Lib.hid (HV.out.go hb5)
      replace D := Lib.hid (D.out.trans (hb5.mono D.out.size))
      replace HRR := Lib.hid (HRR.out.go hb5)
      clear hb5
      have HB0 := Lib.hid (Below.refl w3.drew.heap.size w3.drew)
      have hlt_X0 := X0.out.lt
      have hlt_X1 := X1.out.lt
      have hlt_X4 := X4.out.lt
      have hlt_D := D.out.size
      generalize hw9 : w3.drew = w4 at *
      have hSw : (fun w' : World => Blk w' (w.heap.size + 1) 103 #[.bool q.b, .slice q.A q.n q.c] ∧ True) w4 := ⟨X1.out.go HB0.out, trivial⟩
      refine wp_region_mid (fun w' : World => Blk w' (w.heap.size + 1) 103 #[.bool q.b, .slice q.A q.n q.c] ∧ True) 4 (by kernel_rfl) ?_
      rw [hw9]
      clear hw9
      refine Tk.go [(0, [4, 5]), (1, [2, 3, 4, 5])] ?_
      iterate 2 (refine Tk.cons rfl (by kernel_rfl) (fun _ _ _ h => h) hSw (by kernel_rfl) (fun w' hSx => by have c0 := hSx.1.cell; have l0 := hSx.1.lt; go_simp; first | done | with_reducible rfl) ?_; simp only [Act.put, List.setIfInBounds_toArray])
      refine Tk.nil ?_
      refine wpAnyM_ready [2] (by kernel_rfl) (by simp) ?_
      refine AllReadyM.cons (by rfl) (fun K hK => ?_) AllReadyM.nil
      go_simp
      refine (clone_words Ar nr cr lr w4 (by omega) (HRR.out.go HB0.out)).mono ?_
      rintro e wq1 ⟨A2, c2, rfl, hc9, hr9, hb5⟩
      clear HRR
      replace HB0 := Lib.hid (Below.trans HB0.out (hb5.mono HB0.out.size))
      have HC2 := Lib.hid hr9
      clear hr9
      clear hb5
      clear hSw
      have hSw : (fun w' : World => Blk w' (w.heap.size + 1) 103 #[.bool q.b, .slice q.A q.n q.c] ∧ True) wq1 := ⟨X1.out.go HB0.out, trivial⟩
      refine hK.out _ _ hSw ?_
      clear hK K
      refine wpAnyM_ready [3] (by kernel_rfl) (by simp) ?_
      refine AllReadyM.cons (by rfl) (fun K hK => ?_) AllReadyM.nil
      go_simp
      refine (nnorm_any false A2 nr c2 lr wq1 (by omega) hc9 HC2.out HW.out.2.1 HZ2.out).mono ?_
      rintro e wq2 ⟨r1, rfl, hn9, hb5⟩
      clear HC2
      replace HB0 := Lib.hid (Below.trans HB0.out (hb5.mono HB0.out.size))
      have HN1 := Lib.hid hn9
      clear hn9
      clear hb5
      clear hSw
      have hSw : (fun w' : World => Blk w' (w.heap.size + 1) 103 #[.bool q.b, .slice q.A q.n q.c] ∧ True) wq2 := ⟨X1.out.go HB0.out, trivial⟩
      refine hK.out _ _ hSw ?_
      clear hK K
      refine wpAnyM_ready [4] (by kernel_rfl) (by simp) ?_
      refine AllReadyM.last (by rfl) (by decide) (fun K hK => ?_)
      replace X0 := Lib.hid (X0.out.go HB0.out)
      replace X1 := Lib.hid (X1.out.go HB0.out)
      replace X4 := Lib.hid (X4.out.go HB0.out)
      replace HV := Lib.hid (HV.out.go HB0.out)
      replace D := Lib.hid (D.out.trans (HB0.out.mono D.out.size))
      have cc9 := X0.out.cell
      have cf9 := X0.out.frozen
      have cl9 := X0.out.lt
      go_simp
      clear cc9 cf9 cl9
      replace X1 := Lib.hid (X1.out.far2 (r := w.heap.size) (by omega) (u0 := .bool q.b) (u1 := .slice q.A q.n q.c))
      replace X4 := Lib.hid (X4.out.far2 (r := w.heap.size) (by omega) (u0 := .bool q.b) (u1 := .slice q.A q.n q.c))
      replace HV := Lib.hid (HV.out.put2 X0.out (noU32_num _) (u0 := .bool q.b) (u1 := .slice q.A q.n q.c))
      replace D := Lib.hid (below_put2 D.out (r := w.heap.size) (Nat.le_refl _) (u0 := .bool q.b) (u1 := .slice q.A q.n q.c))
      replace HN1 := Lib.hid (HN1.out.put2 X0.out (noU32_num _) (u0 := .bool q.b) (u1 := .slice q.A q.n q.c))
      replace X0 := Lib.hid (X0.out.put2 (u0 := .bool q.b) (u1 := .slice q.A q.n q.c))
      generalize ((wq2.setCell ⟨w.heap.size, 0, none⟩ (.bool q.b)).setCell ⟨w.heap.size, 1, none⟩ (.slice q.A q.n q.c)) = wq3 at *
      replace HB0 := Lib.hid (Below.refl wq3.heap.size wq3)
      refine hK.out _ _ ?_
      clear hK K
      refine wpAnyM_ready [5] (by kernel_rfl) (by simp) ?_
      refine AllReadyM.last (by rfl) (by decide) (fun K hK => ?_)
      have cc9 := X1.out.cell
      have cf9 := X1.out.frozen
      have cl9 := X1.out.lt
      go_simp
      clear cc9 cf9 cl9
      replace X0 := Lib.hid (X0.out.far2 (r := w.heap.size + 1) (by omega) (u0 := .bool r1.b) (u1 := .slice r1.A r1.n r1.c))
      replace X4 := Lib.hid (X4.out.far2 (r := w.heap.size + 1) (by omega) (u0 := .bool r1.b) (u1 := .slice r1.A r1.n r1.c))
      replace HV := Lib.hid (HV.out.put2 X1.out (noU32_num _) (u0 := .bool r1.b) (u1 := .slice r1.A r1.n r1.c))
      replace D := Lib.hid (below_put2 D.out (r := w.heap.size + 1) (by omega) (u0 := .bool r1.b) (u1 := .slice r1.A r1.n r1.c))
      replace HN1 := Lib.hid (HN1.out.put2 X1.out (noU32_num _) (u0 := .bool r1.b) (u1 := .slice r1.A r1.n r1.c))
      replace X1 := Lib.hid (X1.out.put2 (u0 := .bool r1.b) (u1 := .slice r1.A r1.n r1.c))
      generalize ((wq3.setCell ⟨w.heap.size + 1, 0, none⟩ (.bool r1.b)).setCell ⟨w.heap.size + 1, 1, none⟩ (.slice r1.A r1.n r1.c)) = wq4 at *
      replace HB0 := Lib.hid (Below.refl wq4.heap.size wq4)
      refine hK.out _ _ ?_
      clear hK K
      refine wpAnyM_done (by kernel_rfl) ?_ _
      clear HB0 hSw
      go_wp2_with fail
      go_roundg (t + 1)
      case measure => have := HGN.out.2.1; omega
      case rel => exact ⟨v, t, q, r1, rfl, sq, (by have := HGN.out.2.2; have := HN1.out.ln; rw [Int.natAbs_natCast] at this; omega), ⟨HGN.out.1, X0.out, X1.out, X4.out, HV.out, HN1.out, D.out⟩⟩
end Go.Proofs.YtoblpcljhblnmaaGreatDoor
