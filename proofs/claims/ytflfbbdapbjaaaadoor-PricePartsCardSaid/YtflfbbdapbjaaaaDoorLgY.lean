/- Package large: Text of a rational number, Parse of a valid text. Condition: the words read; the library's tables lie as they are laid. -/
import Derived.Test.YtflfbbdapbjaaaaDoorLgW
import Derived.Test.YtflfbbdapbjaaaaDoorLgX
namespace Go.Proofs.YtflfbbdapbjaaaaDoor
open Go.RowKit
set_option maxRecDepth 100000
/-- what Text of a rational number returns -/
def RTextSaid (q : Rat) (w : World) (e : Ending) (w' : World) : Prop :=
  ∃ (s : List UInt8) (b : Bool), e = .returned (.tuple #[tx s, .bool b]) ∧ (b = true ↔ Pl.Fits q) ∧ (b = true → s = Pl.ratTxt q) ∧ Below w.heap.size w w'
theorem rtext_one (q : Rat) : Lib.itoa ((q.den : Nat) : Int) = Lib.decDigits q.den := Pl.itoa_nat q.den
set_option maxHeartbeats 3200000 in
theorem rtext_any {q : Rat} {x : Rt} {w : World} (hx : RatIs w w.heap.size q x) (hl : LV w) : Calls Tryd.prog 19 #[x.v] w (RTextSaid q w) := by
  obtain ⟨hA, hD, hsz⟩ := boxA w #[.bool x.N.b, .slice x.N.A x.N.n x.N.c, .bool x.D.b, .slice x.D.A x.D.n x.D.c] 42
  have X1 := Lib.hid hA
  have HX := Lib.hid (hx.go hD)
  have HL := Lib.hid (hl.go hD)
  have D := Lib.hid hD
  clear hx hl hA hD hsz
  go_enter Tryd.func19, Tryd.ntmps19
  go_wp2_with fail
  generalize w.alloc (.cells #[.bool x.N.b, .slice x.N.A x.N.n x.N.c, .bool x.D.b, .slice x.D.A x.D.n x.D.c] 42) = w1 at *
  refine (text_any HX.out.n HL.out).mono ?_
  rintro e w2 ⟨s1, b1, rfl, hb1, hs1, hn1, hb5⟩
  have HL2 := Lib.hid (HL.out.go hb5)
  have HX2 := Lib.hid (HX.out.go hb5)
  have X2 := Lib.hid (X1.out.go hb5)
  have D2 := Lib.hid (D.out.trans (hb5.mono D.out.size))
  clear hb5 HL HX X1 D
  have HS1 := Lib.hid (And.intro hb1 hs1)
  clear hb1 hs1
  cases b1 with
  | false =>
    go_wp2_with fail
    go_ret2
    refine ⟨[], false, rfl, ?_, (fun h => by cases h), D2.out⟩
    have h1 := HS1.out.1
    constructor
    · intro h; cases h
    · intro h; exact h1.2 h.1
  | true =>
    have c1 := X2.out.cell
    have l1 := X2.out.lt
    go_wp2_with fail
    refine (text_any HX2.out.d HL2.out).mono ?_
    rintro e w3 ⟨s2, b2, rfl, hb2, hs2, hn2, hb5⟩
    rw [Int.natAbs_natCast] at hb2
    rw [rtext_one] at hs2
    have D3 := Lib.hid (D2.out.trans (hb5.mono D2.out.size))
    have e1 := HS1.out.2 (by simp)
    have f1 := HS1.out.1.1 (by simp)
    have HB : Hid (b2 = true ↔ Pl.Fits q) := ⟨fun h => ⟨f1, hb2.1 h⟩, fun h => hb2.2 h.2⟩
    have HS2 := Lib.hid hs2
    have HE := Lib.hid e1
    clear hb5 hb2 hs2 e1 f1 c1 l1 HX2 HL2
    by_cases h49 : s2 = [49]
    · subst h49
      go_wp2_with fail
      go_ret2
      refine ⟨s1, b2, rfl, HB.out, fun h => ?_, D3.out⟩
      have h1 := HS2.out h
      have h2 : q.den = 1 := Pl.dec_eq1.1 h1.symm
      rw [HE.out]
      unfold Pl.ratTxt
      rw [if_pos h2, List.append_nil]
    · have hne : (s2 == [49]) = false := by simpa using h49
      have ha1 : ∀ W, (Op.stringOp .add ⟨s1.toArray⟩ ⟨#[47]⟩).run Tryd.prog W = .ok (.string ⟨(s1 ++ [47]).toArray⟩) W := fun W => tx_add s1 [47] (by simp; omega) W
      have ha2 : ∀ W, (Op.stringOp .add ⟨(s1 ++ [47]).toArray⟩ ⟨s2.toArray⟩).run Tryd.prog W = .ok (.string ⟨(s1 ++ [47] ++ s2).toArray⟩) W := fun W => tx_add (s1 ++ [47]) s2 (by simp; omega) W
      have HNE := Lib.hid h49
      clear h49
      obtain ⟨s3, hs3⟩ : ∃ s3, s3 = s1 ++ [47] := ⟨_, rfl⟩
      rw [← hs3] at ha1 ha2
      obtain ⟨s4, hs4⟩ : ∃ s4, s4 = s3 ++ s2 := ⟨_, rfl⟩
      rw [← hs4] at ha2
      have H34 := Lib.hid (And.intro hs3 hs4)
      clear hs3 hs4
      go_wp2_with fail
      go_ret2
      refine ⟨s4, b2, rfl, HB.out, fun h => ?_, D3.out⟩
      have h1 := HS2.out h
      have h2 : q.den ≠ 1 := fun e => HNE.out (by rw [h1, e]; exact Pl.dec_1)
      rw [H34.out.2, H34.out.1, HE.out, h1]
      unfold Pl.ratTxt
      rw [if_neg h2]
      simp
theorem trim_itoa0 (z : Int) : Pl.trimM (Lib.itoa z) = Lib.decDigits z.natAbs := by
  have := Pl.trimM_itoa z []
  rw [List.append_nil, List.append_nil] at this
  exact this
theorem itoa_len {z : Int} (h : z.natAbs < Pl.lim) : (Lib.itoa z).length ≤ 2001 := by
  have h1 := Pl.dec_lim.2 h
  rcases Pl.itoa_cases z with ⟨_, e⟩ | ⟨_, e⟩
  · rw [e, List.length_cons]; omega
  · rw [e]; omega
theorem ratTxt_len {q : Rat} (h : Pl.Fits q) : (Pl.ratTxt q).length ≤ 4002 := by
  have h1 := itoa_len h.1
  have h2 := Pl.dec_lim.2 h.2
  unfold Pl.ratTxt
  rw [List.length_append]
  split
  · simp; omega
  · rw [List.length_cons]; omega
theorem read_itoa (z : Int) (h : z.natAbs < Pl.lim) (w : World) : Calls Tryd.prog 21 #[tx (Lib.itoa z)] w (NmSaid z w) := by
  have h1 := read_any (Lib.itoa z) w (by rw [trim_itoa0]; exact Pl.dec_dg _) (by have := itoa_len h; omega)
  rw [Pl.intOf_itoa] at h1
  exact h1
theorem read_dec (n : Nat) (h : n < Pl.lim) (w : World) : Calls Tryd.prog 21 #[tx (Lib.decDigits n)] w (NmSaid (n : Int) w) := by
  have h1 := read_itoa (n : Int) (by rw [Int.natAbs_natCast]; exact h) w
  rw [Pl.itoa_nat] at h1
  exact h1
theorem parse_any {q : Rat} (hq : Pl.Fits q) (w : World) : Calls Tryd.prog 13 #[tx (Pl.ratTxt q)] w (RtSaid q w) := by
  obtain ⟨hA, hD, hsz⟩ := boxA w #[.bool false, .slice none 0 0, .bool false, .slice none 0 0] 42
  have X4 := Lib.hid hA
  have D := Lib.hid hD
  have HC := Lib.hid (fun W => cutl_any (Pl.ratTxt q) 47 (by have := ratTxt_len hq; omega) W)
  rw [Pl.cut_ratTxt] at HC
  have HRN := Lib.hid (fun W => read_itoa q.num hq.1 W)
  have HRD := Lib.hid (fun W => read_dec q.den hq.2 W)
  clear hA hD hsz hq
  generalize Pl.ratTxt q = l at *
  generalize Lib.itoa q.num = s1 at *
  generalize Lib.decDigits q.den = s2 at *
  by_cases hd : q.den = 1
  · rw [if_pos hd] at HC
    have e1 : (!decide (q.den = 1)) = false := by simp [hd]
    rw [e1] at HC
    have HD1 := Lib.hid hd
    clear e1 hd
    go_enter Tryd.func13, Tryd.ntmps13
    go_wp2_with fail
    generalize w.alloc (.cells #[.bool false, .slice none 0 0, .bool false, .slice none 0 0] 42) = w1 at *
    refine (HC.out _).mono ?_
    rintro e w2 ⟨rfl, hb5⟩
    replace X4 := Lib.hid (X4.out.go hb5)
    replace D := Lib.hid (D.out.trans (hb5.mono D.out.size))
    clear hb5 HC
    go_wp2_with fail
    refine (HRN.out _).mono ?_
    rintro e w3 ⟨k1, rfl, hk1, hb5⟩
    have H1 := Lib.hid hk1
    replace X4 := Lib.hid (X4.out.go hb5)
    replace D := Lib.hid (D.out.trans (hb5.mono D.out.size))
    clear hb5 hk1
    go_wp2_with fail
    refine (nof_any 1 _ (by omega) (by omega)).mono ?_
    rintro e w4 ⟨k2, rfl, hk2, hb5⟩
    have H2 := Lib.hid hk2
    replace X4 := Lib.hid (X4.out.go hb5)
    replace D := Lib.hid (D.out.trans (hb5.mono D.out.size))
    replace H1 := Lib.hid (H1.out.go hb5)
    clear hb5 hk2
    have c4 := X4.out.cell
    have l4 := X4.out.lt
    have f4 := X4.out.frozen
    go_wp2_with fail
    clear c4 l4 f4
    replace D := Lib.hid (below_put4 D.out (r := w.heap.size) (Nat.le_refl _) (u0 := .bool k1.b) (u1 := .slice k1.A k1.n k1.c) (u2 := .bool k2.b) (u3 := .slice k2.A k2.n k2.c))
    replace H1 := Lib.hid (H1.out.put4 X4.out noU32_new2 (u0 := .bool k1.b) (u1 := .slice k1.A k1.n k1.c) (u2 := .bool k2.b) (u3 := .slice k2.A k2.n k2.c))
    replace H2 := Lib.hid (H2.out.put4 X4.out noU32_new2 (u0 := .bool k1.b) (u1 := .slice k1.A k1.n k1.c) (u2 := .bool k2.b) (u3 := .slice k2.A k2.n k2.c))
    replace X4 := Lib.hid (X4.out.put4 (u0 := .bool k1.b) (u1 := .slice k1.A k1.n k1.c) (u2 := .bool k2.b) (u3 := .slice k2.A k2.n k2.c))
    have k4 := X4.out.cell
    refine bodyPost_ret (v := (Rt.mk k1 k2).v) (by simp [results, Tryd.results13, go_sem, k4]) rfl ⟨⟨k1, k2⟩, rfl, ⟨H1.out, by rw [HD1.out]; exact H2.out⟩, D.out⟩
  · rw [if_neg hd] at HC
    have e1 : (!decide (q.den = 1)) = true := by simp [hd]
    rw [e1] at HC
    clear e1 hd
    go_enter Tryd.func13, Tryd.ntmps13
    go_wp2_with fail
    generalize w.alloc (.cells #[.bool false, .slice none 0 0, .bool false, .slice none 0 0] 42) = w1 at *
    refine (HC.out _).mono ?_
    rintro e w2 ⟨rfl, hb5⟩
    replace X4 := Lib.hid (X4.out.go hb5)
    replace D := Lib.hid (D.out.trans (hb5.mono D.out.size))
    clear hb5 HC
    go_wp2_with fail
    refine (HRN.out _).mono ?_
    rintro e w3 ⟨k1, rfl, hk1, hb5⟩
    have H1 := Lib.hid hk1
    replace X4 := Lib.hid (X4.out.go hb5)
    replace D := Lib.hid (D.out.trans (hb5.mono D.out.size))
    clear hb5 hk1
    go_wp2_with fail
    refine (HRD.out _).mono ?_
    rintro e w4 ⟨k2, rfl, hk2, hb5⟩
    have H2 := Lib.hid hk2
    replace X4 := Lib.hid (X4.out.go hb5)
    replace D := Lib.hid (D.out.trans (hb5.mono D.out.size))
    replace H1 := Lib.hid (H1.out.go hb5)
    clear hb5 hk2
    have c4 := X4.out.cell
    have l4 := X4.out.lt
    have f4 := X4.out.frozen
    go_wp2_with fail
    clear c4 l4 f4
    replace D := Lib.hid (below_put4 D.out (r := w.heap.size) (Nat.le_refl _) (u0 := .bool k1.b) (u1 := .slice k1.A k1.n k1.c) (u2 := .bool k2.b) (u3 := .slice k2.A k2.n k2.c))
    replace H1 := Lib.hid (H1.out.put4 X4.out noU32_new2 (u0 := .bool k1.b) (u1 := .slice k1.A k1.n k1.c) (u2 := .bool k2.b) (u3 := .slice k2.A k2.n k2.c))
    replace H2 := Lib.hid (H2.out.put4 X4.out noU32_new2 (u0 := .bool k1.b) (u1 := .slice k1.A k1.n k1.c) (u2 := .bool k2.b) (u3 := .slice k2.A k2.n k2.c))
    replace X4 := Lib.hid (X4.out.put4 (u0 := .bool k1.b) (u1 := .slice k1.A k1.n k1.c) (u2 := .bool k2.b) (u3 := .slice k2.A k2.n k2.c))
    have k4 := X4.out.cell
    refine bodyPost_ret (v := (Rt.mk k1 k2).v) (by simp [results, Tryd.results13, go_sem, k4]) rfl ⟨⟨k1, k2⟩, rfl, ⟨H1.out, H2.out⟩, D.out⟩
end Go.Proofs.YtflfbbdapbjaaaaDoor
