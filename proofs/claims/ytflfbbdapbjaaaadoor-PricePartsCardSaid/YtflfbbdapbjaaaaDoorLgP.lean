/- Package large: numbers as values of four parts; the contracts of norm, Neg, Add, Sub, Mul, Sign, Cmp, Of, divWords, Clone in these terms. Condition: the words read. -/
import Derived.Test.YtflfbbdapbjaaaaDoorLgO
import Derived.Test.YtflfbbdapbjaaaaDoorLgI
import Derived.Test.YtflfbbdapbjaaaaDoorCloU
namespace Go.Proofs.YtflfbbdapbjaaaaDoor
open Go.RowKit
set_option maxRecDepth 100000
/-- a number as a value: its sign, and where its words lie -/
structure Nm where
  b : Bool
  A : Option Addr
  n : Nat
  c : Nat
abbrev Nm.v (x : Nm) : Value := .agg #[.bool x.b, .slice x.A x.n x.c]
/-- the value x is the number z -/
structure NumIs (w : World) (B : Nat) (z : Int) (x : Nm) : Prop where
  sg : x.b = decide (z < 0)
  ln : x.n = Pl.nw z.natAbs
  at_ : NumAt w B z x.A x.c
section
variable {w w' : World} {B B' : Nat} {z : Int} {x : Nm}
theorem NumIs.v_eq (h : NumIs w B z x) : x.v = vNum z x.A x.c := by unfold vNum Nm.v; rw [h.sg, h.ln]
theorem NumIs.of {A : Option Addr} {c : Nat} (h : NumAt w B z A c) : ∃ x : Nm, vNum z A c = x.v ∧ NumIs w B z x ∧ x.A = A ∧ x.c = c := ⟨⟨decide (z < 0), A, Pl.nw z.natAbs, c⟩, rfl, ⟨rfl, rfl, h⟩, rfl, rfl⟩
theorem NumIs.go (h : NumIs w w.heap.size z x) (hb : Below w.heap.size w w') : NumIs w' w'.heap.size z x := ⟨h.sg, h.ln, h.at_.go hb⟩
theorem NumIs.more (h : NumIs w B z x) (hb : B ≤ B') : NumIs w B' z x := ⟨h.sg, h.ln, h.at_.more hb⟩
theorem NumIs.below (h : NumIs w B z x) (hb : Below B w w') : NumIs w' B z x := ⟨h.sg, h.ln, h.at_.below hb⟩
theorem NumIs.le (h : NumIs w B z x) : x.n ≤ x.c := by rw [h.ln]; exact h.at_.1
theorem NumIs.reads (h : NumIs w B z x) : Reads w B 1 x.A x.n (u32s (Pl.digs z.natAbs)) := by rw [h.ln]; exact h.at_.2
theorem NumIs.len0 (h : NumIs w B z x) : x.n = 0 ↔ z = 0 := by
  rw [h.ln]
  constructor
  · intro e
    have := Pl.digs_nil.1 (List.eq_nil_of_length_eq_zero e)
    omega
  · rintro rfl; exact Pl.nw_zero
end
/-- no 32-bit word among the cells -/
def noU32 (cs : Array Value) : Prop := ∀ (i : Nat) (k : Int), cs[i]? ≠ some (.int .u32 k)
theorem noU32_num (x : Nm) : noU32 #[.bool x.b, .slice x.A x.n x.c] := fun i k => by
  match i with
  | 0 => intro h; cases h
  | 1 => intro h; cases h
  | i + 2 => simp
theorem noU32_new : noU32 #[.bool false, .slice none 0 0] := noU32_num ⟨false, none, 0, 0⟩
theorem noU32_num2 (x y : Nm) : noU32 #[.bool x.b, .slice x.A x.n x.c, .bool y.b, .slice y.A y.n y.c] := fun i k => by
  match i with
  | 0 => intro h; cases h
  | 1 => intro h; cases h
  | 2 => intro h; cases h
  | 3 => intro h; cases h
  | i + 4 => simp
theorem noU32_new2 : noU32 #[.bool false, .slice none 0 0, .bool false, .slice none 0 0] := noU32_num2 ⟨false, none, 0, 0⟩ ⟨false, none, 0, 0⟩
/-- words lie in no block that holds none -/
theorem Reads.off {w : World} {B n r : Nat} {A : Option Addr} {l : List Nat} {t : TypeId} {cs : Array Value} (h : Reads w B 1 A n (u32s l)) (hb : Blk w r t cs) (hc : noU32 cs) {w' : World} (hw : ∀ p : Addr, p.block ≠ r → w'.cell? p = w.cell? p) : Reads w' B 1 A n (u32s l) := by
  refine ⟨h.1, fun hn => ?_⟩
  obtain ⟨b, o, rfl, hbB, hcl⟩ := h.where_ hn (by omega)
  have hl := u32_len h
  refine ⟨⟨b, o, none⟩, rfl, hbB, fun j v hv => ?_⟩
  obtain ⟨ad, e, _, hc2⟩ := h.2 hn
  injection e with e
  subst e
  have h0 := hcl 0 _ (by unfold u32s; rw [List.getElem?_map, List.getElem?_eq_getElem (by omega)]; rfl)
  have hne : b ≠ r := by
    rintro rfl
    have := hb.cell o
    rw [Nat.add_zero] at h0
    rw [h0] at this
    exact hc _ _ this.symm
  refine (hw _ ?_).trans (hc2 j v hv)
  rw [block_of_add]
  exact hne
theorem NumIs.off {w w' : World} {B r : Nat} {z : Int} {x : Nm} {t : TypeId} {cs : Array Value} (h : NumIs w B z x) (hb : Blk w r t cs) (hc : noU32 cs) (hw : ∀ p : Addr, p.block ≠ r → w'.cell? p = w.cell? p) : NumIs w' B z x := ⟨h.sg, h.ln, h.at_.1, h.at_.2.off hb hc hw⟩
theorem off_set (w : World) (r i : Nat) (u : Value) (p : Addr) (hp : p.block ≠ r) : (w.setCell ⟨r, i, none⟩ u).cell? p = w.cell? p := World.cell?_setCell_other w _ _ u (fun e => by
  have e2 := congrArg Addr.block e
  first | exact hp e2 | exact hp e2.symm)
section
variable {w w0 : World} {B r g : Nat} {z : Int} {x : Nm} {t t' : TypeId} {cs cs' : Array Value} {u0 u1 u2 u3 a0 a1 a2 a3 : Value}
theorem off2 (p : Addr) (hp : p.block ≠ r) : ((w.setCell ⟨r, 0, none⟩ u0).setCell ⟨r, 1, none⟩ u1).cell? p = w.cell? p := (off_set _ r 1 u1 p hp).trans (off_set w r 0 u0 p hp)
theorem off4 (p : Addr) (hp : p.block ≠ r) : ((((w.setCell ⟨r, 0, none⟩ u0).setCell ⟨r, 1, none⟩ u1).setCell ⟨r, 2, none⟩ u2).setCell ⟨r, 3, none⟩ u3).cell? p = w.cell? p := (off_set _ r 3 u3 p hp).trans ((off_set _ r 2 u2 p hp).trans ((off_set _ r 1 u1 p hp).trans (off_set w r 0 u0 p hp)))
theorem NumIs.put1 (h : NumIs w w.heap.size z x) (hb : Blk w r t cs) (hc : noU32 cs) (i : Nat) : NumIs (w.setCell ⟨r, i, none⟩ u0) (w.setCell ⟨r, i, none⟩ u0).heap.size z x := (h.off hb hc (off_set w r i u0)).more (by simp)
theorem NumIs.put2 (h : NumIs w w.heap.size z x) (hb : Blk w r t cs) (hc : noU32 cs) : NumIs ((w.setCell ⟨r, 0, none⟩ u0).setCell ⟨r, 1, none⟩ u1) ((w.setCell ⟨r, 0, none⟩ u0).setCell ⟨r, 1, none⟩ u1).heap.size z x := (h.off hb hc off2).more (by simp)
theorem NumIs.put4 (h : NumIs w w.heap.size z x) (hb : Blk w r t cs) (hc : noU32 cs) : NumIs ((((w.setCell ⟨r, 0, none⟩ u0).setCell ⟨r, 1, none⟩ u1).setCell ⟨r, 2, none⟩ u2).setCell ⟨r, 3, none⟩ u3) ((((w.setCell ⟨r, 0, none⟩ u0).setCell ⟨r, 1, none⟩ u1).setCell ⟨r, 2, none⟩ u2).setCell ⟨r, 3, none⟩ u3).heap.size z x := (h.off hb hc off4).more (by simp)
theorem Blk.put1 (h : Blk w r t #[a0, a1]) : Blk (w.setCell ⟨r, 0, none⟩ u0) r t #[u0, a1] := h.set_ 0 u0
theorem Blk.put2 (h : Blk w r t #[a0, a1]) : Blk ((w.setCell ⟨r, 0, none⟩ u0).setCell ⟨r, 1, none⟩ u1) r t #[u0, u1] := (h.set_ 0 u0).set_ 1 u1
theorem Blk.put4 (h : Blk w r t #[a0, a1, a2, a3]) : Blk ((((w.setCell ⟨r, 0, none⟩ u0).setCell ⟨r, 1, none⟩ u1).setCell ⟨r, 2, none⟩ u2).setCell ⟨r, 3, none⟩ u3) r t #[u0, u1, u2, u3] := (((h.set_ 0 u0).set_ 1 u1).set_ 2 u2).set_ 3 u3
theorem Blk.far1 (h : Blk w g t cs) (hg : g ≠ r) (i : Nat) : Blk (w.setCell ⟨r, i, none⟩ u0) g t cs := h.far hg u0
theorem Blk.far2 (h : Blk w g t cs) (hg : g ≠ r) : Blk ((w.setCell ⟨r, 0, none⟩ u0).setCell ⟨r, 1, none⟩ u1) g t cs := (h.far (p := ⟨r, 0, none⟩) hg u0).far (p := ⟨r, 1, none⟩) hg u1
theorem Blk.far4 (h : Blk w g t cs) (hg : g ≠ r) : Blk ((((w.setCell ⟨r, 0, none⟩ u0).setCell ⟨r, 1, none⟩ u1).setCell ⟨r, 2, none⟩ u2).setCell ⟨r, 3, none⟩ u3) g t cs := (((h.far (p := ⟨r, 0, none⟩) hg u0).far (p := ⟨r, 1, none⟩) hg u1).far (p := ⟨r, 2, none⟩) hg u2).far (p := ⟨r, 3, none⟩) hg u3
theorem below_put1 (h : Below B w0 w) (hr : B ≤ r) (i : Nat) : Below B w0 (w.setCell ⟨r, i, none⟩ u0) := h.setCell hr _
theorem below_put2 (h : Below B w0 w) (hr : B ≤ r) : Below B w0 ((w.setCell ⟨r, 0, none⟩ u0).setCell ⟨r, 1, none⟩ u1) := (h.setCell hr _).setCell hr _
theorem below_put4 (h : Below B w0 w) (hr : B ≤ r) : Below B w0 ((((w.setCell ⟨r, 0, none⟩ u0).setCell ⟨r, 1, none⟩ u1).setCell ⟨r, 2, none⟩ u2).setCell ⟨r, 3, none⟩ u3) := (((h.setCell hr _).setCell hr _).setCell hr _).setCell hr _
end
/-- what a function returns that gives a number -/
def NmSaid (z : Int) (w : World) (e : Ending) (w' : World) : Prop := ∃ r : Nm, e = .returned r.v ∧ NumIs w' w'.heap.size z r ∧ Below w.heap.size w w'
theorem NumSaid.nm {z : Int} {w w' : World} {e : Ending} (h : NumSaid z w e w') : NmSaid z w e w' := by
  obtain ⟨A, c, rfl, hn, hb⟩ := h
  obtain ⟨x, e, hx, _⟩ := NumIs.of hn
  exact ⟨x, by rw [e], hx, hb⟩
section
variable {w : World} {a b : Int} {x y : Nm}
theorem nneg_any (hx : NumIs w w.heap.size a x) (sx : x.n ≤ 35184372088832) : Calls Tryd.prog 23 #[x.v] w (NmSaid (-a) w) := by
  rw [hx.v_eq]
  rw [hx.ln] at sx
  refine (neg_any a x.A x.c w (by omega) hx.at_).mono ?_
  rintro e w' ⟨rfl, hn, hb⟩
  exact NumSaid.nm ⟨_, _, rfl, hn, hb⟩
theorem nadd_any (hx : NumIs w w.heap.size a x) (hy : NumIs w w.heap.size b y) (sx : x.n ≤ 35184372088832) (sy : y.n ≤ 35184372088832) : Calls Tryd.prog 16 #[x.v, y.v] w (NmSaid (a + b) w) := by
  rw [hx.v_eq, hy.v_eq]
  rw [hx.ln] at sx
  rw [hy.ln] at sy
  exact (add_any a b x.A x.c y.A y.c w hx.at_ hy.at_ sx sy).mono fun _ _ h => NumSaid.nm h
theorem nsub_any (hx : NumIs w w.heap.size a x) (hy : NumIs w w.heap.size b y) (sx : x.n ≤ 35184372088832) (sy : y.n ≤ 35184372088832) : Calls Tryd.prog 40 #[x.v, y.v] w (NmSaid (a - b) w) := by
  rw [hx.v_eq, hy.v_eq]
  rw [hx.ln] at sx
  rw [hy.ln] at sy
  exact (isub_any a b x.A x.c y.A y.c w hx.at_ hy.at_ sx sy).mono fun _ _ h => NumSaid.nm h
theorem nmul_any (hx : NumIs w w.heap.size a x) (hy : NumIs w w.heap.size b y) (sx : x.n ≤ 35184372088832) (sy : y.n ≤ 35184372088832) : Calls Tryd.prog 15 #[x.v, y.v] w (NmSaid (a * b) w) := by
  rw [hx.v_eq, hy.v_eq]
  rw [hx.ln] at sx
  rw [hy.ln] at sy
  exact (mul_any a b x.A x.c y.A y.c w hx.at_ hy.at_ sx sy).mono fun _ _ h => NumSaid.nm h
theorem nsign_any (hx : NumIs w w.heap.size a x) : Calls Tryd.prog 37 #[x.v] w fun e w' => e = .returned (.int .i64 a.sign) ∧ Below w.heap.size w w' := by
  rw [hx.v_eq]
  exact sign_any a x.A x.c w
theorem nof_any (n : Int) (w : World) (h0 : -9223372036854775808 ≤ n) (h1 : n ≤ 9223372036854775807) : Calls Tryd.prog 22 #[.int .i64 n] w (NmSaid n w) := (of_any n w h0 h1).mono fun _ _ h => NumSaid.nm h
theorem nnorm_any (m : Bool) (A : Option Addr) (n c : Nat) (l : List Nat) (w : World) (hn : n ≤ 35184372088832) (hc : n ≤ c) (h : Reads w w.heap.size 1 A n (u32s l)) (hW : Pl.W32 l) {z : Int} (hz : sgn m (Pl.lv l) = z) :
    Calls Tryd.prog 26 #[.bool m, .slice A n c] w (NmSaid z w) := by
  subst hz
  refine (norm_any m A n c l w (by omega) hc h hW).mono ?_
  rintro e w' ⟨rfl, hn, hb⟩
  exact NumSaid.nm ⟨_, _, rfl, hn, hb⟩
/-- what divWords returns -/
def NDivSaid (a b : Nat) (N M : Nat) (w : World) (e : Ending) (w' : World) : Prop :=
  ∃ (Aq : Option Addr) (nq cq : Nat) (lq : List Nat) (Ar : Option Addr) (nr cr : Nat) (lr : List Nat), e = .returned (.tuple #[.slice Aq nq cq, .slice Ar nr cr]) ∧ nq ≤ cq ∧ nr ≤ cr ∧ nq ≤ N ∧ nr ≤ max N M ∧ Hid (Pl.W32 lq ∧ Pl.W32 lr ∧ Pl.lv lq = a / b ∧ Pl.lv lr = a % b) ∧
    Hid (Reads w' w'.heap.size 1 Aq nq (u32s lq)) ∧ Hid (Reads w' w'.heap.size 1 Ar nr (u32s lr)) ∧ Below w.heap.size w w'
theorem ndivw_any (hx : NumIs w w.heap.size a x) (hy : NumIs w w.heap.size b y) (hb : b ≠ 0) (sx : x.n ≤ 17592186044416) (sy : y.n ≤ 17592186044416) :
    Calls Tryd.prog 38 #[.slice x.A x.n x.c, .slice y.A y.n y.c] w (NDivSaid a.natAbs b.natAbs x.n y.n w) := by
  have h1 := hx.ln
  have h2 := hy.ln
  rw [h1, h2]
  rw [h1] at sx
  rw [h2] at sy
  refine (divw_any x.A x.c y.A y.c a.natAbs b.natAbs w sx sy hx.at_.1 hx.at_.2 hy.at_.2 (by omega)).mono ?_
  rintro e w' ⟨Aq, nq, cq, lq, Ar, nr, cr, lr, rfl, g1, g2, g3, g4, g5, g6, g7, g8, g9, g10, g11⟩
  exact ⟨Aq, nq, cq, lq, Ar, nr, cr, lr, rfl, g1, g2, g7, g8, ⟨g3, g4, g5, g6⟩, g9, g10, g11⟩
end
end Go.Proofs.YtflfbbdapbjaaaaDoor
