/- nat.two, text and Gcd answer as integers, at valid numerals. Condition: the library's tables lie as they are laid. -/
import Derived.Test.YtflfbbdapbjaaaaDoorNatChk
import Derived.Test.YtflfbbdapbjaaaaDoorLgY
namespace Go.Proofs.YtflfbbdapbjaaaaDoor
open Go.RowKit
set_option maxRecDepth 100000
theorem trim_num {l : List UInt8} (h : Pl.numE l = 0) : Pl.trimM l = l := by
  unfold Pl.trimM
  rw [if_neg (Pl.head_dg (Pl.numE_ok.1 h).1.2.1)]
theorem read_num {l : List UInt8} (h : Pl.numE l = 0) (w : World) : Calls Tryd.prog 21 #[tx l] w (NmSaid (Pl.natOf l : Int) w) := by
  have h1 := Pl.numE_ok.1 h
  have h2 := read_any l w (by rw [trim_num h]; exact h1.1.2.1) (by omega)
  rw [Pl.intOf_num h1.1.2.1] at h2
  exact h2
/-- what nat.two returns of valid numerals -/
def TwoSaid (a b : List UInt8) (w : World) (e : Ending) (w' : World) : Prop :=
  ∃ x y : Nm, e = .returned (.tuple #[x.v, y.v, .int .i64 0]) ∧ NumIs w' w'.heap.size (Pl.natOf a : Int) x ∧ NumIs w' w'.heap.size (Pl.natOf b : Int) y ∧ Below w.heap.size w w'
set_option maxHeartbeats 3200000 in
theorem two_any {a b : List UInt8} (ha : Pl.numE a = 0) (hb : Pl.numE b = 0) (w : World) : Calls Tryd.prog 42 #[tx a, tx b] w (TwoSaid a b w) := by
  obtain ⟨hA, hB, hD, hsz⟩ := boxes2 w #[.bool false, .slice none 0 0] #[.bool false, .slice none 0 0] 40
  have X4 := Lib.hid hA
  have X5 := Lib.hid hB
  have D := Lib.hid hD
  have HCA := Lib.hid (fun W => ncheck_any a W (by have := (Pl.numE_ok.1 ha).2; omega))
  have HCB := Lib.hid (fun W => ncheck_any b W (by have := (Pl.numE_ok.1 hb).2; omega))
  rw [ha] at HCA
  rw [hb] at HCB
  have HRA := Lib.hid (fun W => read_num ha W)
  have HRB := Lib.hid (fun W => read_num hb W)
  have i0 : ∀ W, (Instr.index 98 (.agg #[.string ⟨a.toArray⟩, .string ⟨b.toArray⟩]) (.int .i64 0)).run Tryd.prog W = .ok (.string ⟨a.toArray⟩) W := fun W => by kernel_rfl
  have i1 : ∀ W, (Instr.index 98 (.agg #[.string ⟨a.toArray⟩, .string ⟨b.toArray⟩]) (.int .i64 1)).run Tryd.prog W = .ok (.string ⟨b.toArray⟩) W := fun W => by kernel_rfl
  clear hA hB hD hsz ha hb
  go_enter Tryd.func42, Tryd.ntmps42
  go_wp2_with fail
  generalize ((w.alloc (.cells #[.bool false, .slice none 0 0] 40)).alloc (.cells #[.bool false, .slice none 0 0] 40)) = w1 at *
  go_loopg [8, 9, 13] 3 (fun gh _ _ i wr => ∃ k : Nat, k ≤ 2 ∧ gh + k = 3 ∧ i = .int .i64 k ∧ Hid (Blk wr w.heap.size 40 #[.bool false, .slice none 0 0]) ∧ Hid (Blk wr (w.heap.size + 1) 40 #[.bool false, .slice none 0 0]) ∧ Hid (Below w.heap.size w wr))
  case atStart => exact ⟨0, by omega, rfl, rfl, X4.out, X5.out, D.out⟩
  case round =>
    clear X4 X5 D
    obtain ⟨k, hk, hg, rfl, X4, X5, D⟩ := hrel
    rcases (show k = 0 ∨ k = 1 ∨ k = 2 by omega) with rfl | rfl | rfl
    · go_wp2_with fail
      refine (HCA.out _).mono ?_
      rintro e w2 ⟨rfl, hb5⟩
      replace X4 := Lib.hid (X4.out.go hb5)
      replace X5 := Lib.hid (X5.out.go hb5)
      replace D := Lib.hid (D.out.trans (hb5.mono D.out.size))
      clear hb5
      go_wp2_with fail
      go_roundg (2)
      case measure => omega
      case rel => exact ⟨1, by omega, by omega, rfl, X4.out, X5.out, D.out⟩
    · go_wp2_with fail
      refine (HCB.out _).mono ?_
      rintro e w2 ⟨rfl, hb5⟩
      replace X4 := Lib.hid (X4.out.go hb5)
      replace X5 := Lib.hid (X5.out.go hb5)
      replace D := Lib.hid (D.out.trans (hb5.mono D.out.size))
      clear hb5
      go_wp2_with fail
      go_roundg (1)
      case measure => omega
      case rel => exact ⟨2, by omega, by omega, rfl, X4.out, X5.out, D.out⟩
    · clear i0 i1 HCA HCB
      go_wp2_with fail
      refine (HRA.out _).mono ?_
      rintro e w2 ⟨x, rfl, hx, hb5⟩
      have HX := Lib.hid hx
      replace X4 := Lib.hid (X4.out.go hb5)
      replace X5 := Lib.hid (X5.out.go hb5)
      replace D := Lib.hid (D.out.trans (hb5.mono D.out.size))
      clear hb5 hx
      go_wp2_with fail
      refine (HRB.out _).mono ?_
      rintro e w3 ⟨y, rfl, hy, hb5⟩
      have HY := Lib.hid hy
      replace X4 := Lib.hid (X4.out.go hb5)
      replace X5 := Lib.hid (X5.out.go hb5)
      replace D := Lib.hid (D.out.trans (hb5.mono D.out.size))
      replace HX := Lib.hid (HX.out.go hb5)
      clear hb5 hy
      have c4 := X4.out.cell
      have l4 := X4.out.lt
      have f4 := X4.out.frozen
      have c5 := X5.out.cell
      have l5 := X5.out.lt
      have f5 := X5.out.frozen
      go_wp2_with fail
      clear c4 l4 f4 c5 l5 f5
      replace X5 := Lib.hid (X5.out.far2 (r := w.heap.size) (by omega) (u0 := .bool x.b) (u1 := .slice x.A x.n x.c))
      replace D := Lib.hid (below_put2 D.out (r := w.heap.size) (Nat.le_refl _) (u0 := .bool x.b) (u1 := .slice x.A x.n x.c))
      replace HX := Lib.hid (HX.out.put2 X4.out noU32_new (u0 := .bool x.b) (u1 := .slice x.A x.n x.c))
      replace HY := Lib.hid (HY.out.put2 X4.out noU32_new (u0 := .bool x.b) (u1 := .slice x.A x.n x.c))
      replace X4 := Lib.hid (X4.out.put2 (u0 := .bool x.b) (u1 := .slice x.A x.n x.c))
      replace X4 := Lib.hid (X4.out.far2 (r := w.heap.size + 1) (by omega) (u0 := .bool y.b) (u1 := .slice y.A y.n y.c))
      replace D := Lib.hid (below_put2 D.out (r := w.heap.size + 1) (by omega) (u0 := .bool y.b) (u1 := .slice y.A y.n y.c))
      replace HX := Lib.hid (HX.out.put2 X5.out noU32_new (u0 := .bool y.b) (u1 := .slice y.A y.n y.c))
      replace HY := Lib.hid (HY.out.put2 X5.out noU32_new (u0 := .bool y.b) (u1 := .slice y.A y.n y.c))
      replace X5 := Lib.hid (X5.out.put2 (u0 := .bool y.b) (u1 := .slice y.A y.n y.c))
      have k4 := X4.out.cell
      have k5 := X5.out.cell
      refine bodyPost_ret (v := .tuple #[x.v, y.v, .int .i64 0]) (by simp [results, Tryd.results42, go_sem, k4, k5]) rfl ⟨x, y, rfl, HX.out, HY.out, D.out⟩
/-- what text returns -/
def NTextSaid (z : Int) (w : World) (e : Ending) (w' : World) : Prop :=
  ((z.natAbs < Pl.lim ∧ e = .returned (.tuple #[tx (Lib.itoa z), .int .i64 0])) ∨ (¬ z.natAbs < Pl.lim ∧ e = .returned (.tuple #[tx [], .int .i64 2]))) ∧ Below w.heap.size w w'
theorem ntext_any {z : Int} {x : Nm} {w : World} (hx : NumIs w w.heap.size z x) (hl : LV w) : Calls Tryd.prog 43 #[x.v] w (NTextSaid z w) := by
  obtain ⟨hA, hD, hsz⟩ := boxA w #[.bool x.b, .slice x.A x.n x.c] 40
  have HX := Lib.hid (hx.go hD)
  have HL := Lib.hid (hl.go hD)
  have D := Lib.hid hD
  clear hx hl hA hD hsz
  go_enter Tryd.func43, Tryd.ntmps43
  go_wp2_with fail
  generalize w.alloc (.cells #[.bool x.b, .slice x.A x.n x.c] 40) = w1 at *
  refine (text_any HX.out HL.out).mono ?_
  rintro e w2 ⟨s1, b1, rfl, hb1, hs1, hn1, hb5⟩
  have D2 := Lib.hid (D.out.trans (hb5.mono D.out.size))
  have HS1 := Lib.hid (And.intro hb1 hs1)
  clear hb5 HL HX D hb1 hs1 hn1
  cases b1 with
  | false =>
    go_wp2_with fail
    go_ret2
    exact ⟨.inr ⟨(fun h => by have h1 := HS1.out.1.2 h; first | cases h1 | exact h1 | (simp at h1)), rfl⟩, D2.out⟩
  | true =>
    have e1 := HS1.out.2 (by simp)
    subst e1
    go_wp2_with fail
    go_ret2
    exact ⟨.inl ⟨HS1.out.1.1 (by simp), rfl⟩, D2.out⟩
theorem gcd_fits {a b : Nat} (ha : a < Pl.lim) (hb : b < Pl.lim) : Nat.gcd a b < Pl.lim := by
  rcases Nat.eq_zero_or_pos b with h | h
  · rw [h, Nat.gcd_zero_right]; exact ha
  · exact Nat.lt_of_le_of_lt (Nat.gcd_le_right _ h) hb
set_option maxHeartbeats 3200000 in
theorem ngcd_any {a b : List UInt8} (ha : Pl.numE a = 0) (hb : Pl.numE b = 0) (w : World) (hl : LV w) :
    Calls Tryd.prog 32 #[tx a, tx b] w fun e w' => e = .returned (.tuple #[tx (Lib.decDigits (Nat.gcd (Pl.natOf a) (Pl.natOf b))), .int .i64 0]) ∧ Below w.heap.size w w' := by
  have HT := Lib.hid (two_any ha hb w)
  have HLA : Hid (∀ {W : World} {B : Nat} {x : Nm}, NumIs W B (Pl.natOf a : Int) x → x.n ≤ 1000000) := fun h => by
    rw [h.ln, Int.natAbs_natCast]
    have h1 := Pl.numE_ok.1 ha
    exact Nat.le_trans (nw_digits h1.1.2.1) (by omega)
  have HLB : Hid (∀ {W : World} {B : Nat} {x : Nm}, NumIs W B (Pl.natOf b : Int) x → x.n ≤ 1000000) := fun h => by
    rw [h.ln, Int.natAbs_natCast]
    have h1 := Pl.numE_ok.1 hb
    exact Nat.le_trans (nw_digits h1.1.2.1) (by omega)
  have HF := Lib.hid (gcd_fits (Pl.natOf_fits ha) (Pl.natOf_fits hb))
  have HL := Lib.hid hl
  unfold TwoSaid at HT
  generalize Pl.natOf a = u at *
  generalize Pl.natOf b = v at *
  clear ha hb hl
  go_enter Tryd.func32, Tryd.ntmps32
  go_wp2_with fail
  refine HT.out.mono ?_
  rintro e w2 ⟨x, y, rfl, hx, hy, hb5⟩
  have HX := Lib.hid hx
  have HY := Lib.hid hy
  have D := Lib.hid hb5
  clear hx hy hb5 HT
  go_upto_region 4 with fail
  obtain ⟨hP, hQ, hE, _⟩ := boxes2 w2 #[.bool x.b, .slice x.A x.n x.c] #[.bool y.b, .slice y.A y.n y.c] 40
  have X6 := Lib.hid hP
  have X7 := Lib.hid hQ
  replace HX := Lib.hid (HX.out.go hE)
  replace HY := Lib.hid (HY.out.go hE)
  replace D := Lib.hid (D.out.trans (hE.mono D.out.size))
  clear hP hQ hE
  generalize ((w2.alloc (.cells #[.bool x.b, .slice x.A x.n x.c] 40)).alloc (.cells #[.bool y.b, .slice y.A y.n y.c] 40)) = w3 at *
  have c6 := X6.out.cell
  have l6 := X6.out.lt
  have c7 := X7.out.cell
  have l7 := X7.out.lt
  go_wp2_with fail
  refine (gcd_any HX.out HY.out (HLA.out HX.out) (HLB.out HY.out)).mono ?_
  rintro e w4 ⟨g, rfl, hg, hb5⟩
  simp only [Int.natAbs_natCast] at hg
  have HG := Lib.hid hg
  replace D := Lib.hid (D.out.trans (hb5.mono D.out.size))
  clear hg hb5 c6 l6 c7 l7
  go_wp2_with fail
  refine (ntext_any HG.out (HL.out.go D.out)).mono ?_
  rintro e w5 ⟨hc, hb5⟩
  replace D := Lib.hid (D.out.trans (hb5.mono D.out.size))
  rcases hc with ⟨_, rfl⟩ | ⟨h, _⟩
  · have e1 := Pl.itoa_nat (Nat.gcd u v)
    rw [e1]
    clear e1
    go_wp2_with fail
    go_ret2
    exact ⟨rfl, D.out⟩
  · exact absurd HF.out (by rw [Int.natAbs_natCast] at h; exact h)
end Go.Proofs.YtflfbbdapbjaaaaDoor
