/- rat.Add, Sub answers as core's. Condition: the texts' lengths; the library's tables lie as they are laid. rat.Of, rat.Compare as the plain words say. Condition: the texts are at most 2^63 - 1 bytes; the numbers are machine integers; the library's table lies as it is laid. -/
import Derived.Test.YtoblpcljhblnmaaGreatDoorRatChk
namespace Go.Proofs.YtoblpcljhblnmaaGreatDoor
open Go.RowKit
set_option maxRecDepth 100000
def ROpSaid (F : Rat → Rat → Rat) (a b : List UInt8) (w : World) (e : Ending) (w' : World) : Prop :=
  (Pl.ratsE [a, b] ≠ 0 ∧ e = .returned (.tuple #[tx [], .int .i64 (Pl.ratsE [a, b])]) ∧ Below w.heap.size w w') ∨ (∃ p q : Rat, a = Pl.ratTxt p ∧ Pl.Fits p ∧ b = Pl.ratTxt q ∧ Pl.Fits q ∧ RTxtSaid (F p q) w e w')
theorem Pl.rats_two {a b : List UInt8} (h : Pl.ratsE [a, b] = 0) : ∃ p q : Rat, a = Pl.ratTxt p ∧ Pl.Fits p ∧ b = Pl.ratTxt q ∧ Pl.Fits q := by
  have h1 := Pl.ratsE_ok.1 h
  obtain ⟨p, hp, fp⟩ := Pl.ratE_ok.1 (h1 a (by simp))
  obtain ⟨q, hq, fq⟩ := Pl.ratE_ok.1 (h1 b (by simp))
  exact ⟨p, q, hp, fp, hq, fq⟩
theorem check_two (a b : List UInt8) (w : World) (ha : a.length ≤ 9223372036854775807) (hb : b.length ≤ 9223372036854775807) (hl : LV w) :
    Calls Tryz.prog 50 #[.slice (some ⟨w.heap.size, 0, none⟩) 2 2] (w.alloc (.cells #[tx a, tx b] 41)) fun e w' => e = .returned (.int .i64 (Pl.ratsE [a, b])) ∧ Below w.heap.size w w' := by
  have hd := below_one w (.cells #[tx a, tx b] 41)
  refine (rcheckall_any (some ⟨w.heap.size, 0, none⟩) 2 2 [a, b] _ (by omega) (Reads.lit w #[tx a, tx b] 41 2 1 w.heap.size rfl rfl) (fun l hx => by
    simp only [List.mem_cons, List.not_mem_nil, or_false] at hx
    rcases hx with rfl | rfl
    · exact ha
    · exact hb) (hl.go hd)).mono ?_
  rintro e w' ⟨rfl, hb5⟩
  exact ⟨rfl, hd.trans (hb5.mono hd.size)⟩
set_option maxHeartbeats 3200000 in
theorem rop_add (a b : List UInt8) (w : World) (ha : a.length ≤ 9223372036854775807) (hb : b.length ≤ 9223372036854775807) (hl : LV w) :
    Calls Tryz.prog 40 #[tx a, tx b, .func (.func 41) #[] #[]] w (ROpSaid (fun p q => p + q) a b w) := by
  have HC := Lib.hid (check_two a b w ha hb hl)
  have HL := Lib.hid hl
  have HOK : Hid (Pl.ratsE [a, b] = 0 → ∃ p q : Rat, a = Pl.ratTxt p ∧ Pl.Fits p ∧ b = Pl.ratTxt q ∧ Pl.Fits q) := Pl.rats_two
  unfold ROpSaid
  generalize Pl.ratsE [a, b] = E at *
  clear ha hb hl
  go_enter Tryz.func40, Tryz.ntmps40
  go_wp2_with fail
  refine HC.out.mono ?_
  rintro e w2 ⟨rfl, hb5⟩
  have D := Lib.hid hb5
  clear HC hb5
  by_cases h0 : E = 0
  · subst h0
    obtain ⟨p, q, rfl, fp, rfl, fq⟩ := HOK.out rfl
    have HP := Lib.hid (fun W => parse_any fp W)
    have HQ := Lib.hid (fun W => parse_any fq W)
    have sp := Pl.rsz_fits fp
    have sq := Pl.rsz_fits fq
    have HF := Lib.hid (And.intro fp fq)
    clear HOK fp fq
    obtain ⟨la, hla⟩ : ∃ l, l = Pl.ratTxt p := ⟨_, rfl⟩
    obtain ⟨lb, hlb⟩ : ∃ l, l = Pl.ratTxt q := ⟨_, rfl⟩
    rw [← hla] at HP ⊢
    rw [← hlb] at HQ ⊢
    clear hla hlb
    go_wp2_with fail
    refine (HP.out _).mono ?_
    rintro e w3 ⟨x, rfl, hx, hb5⟩
    have HX := Lib.hid hx
    replace D := Lib.hid (D.out.trans (hb5.mono D.out.size))
    clear hx hb5 HP
    go_wp2_with fail
    refine (HQ.out _).mono ?_
    rintro e w4 ⟨y, rfl, hy, hb5⟩
    replace HX := Lib.hid (HX.out.go hb5)
    have HY := Lib.hid hy
    replace D := Lib.hid (D.out.trans (hb5.mono D.out.size))
    clear hy hb5 HQ
    go_wp2_with fail
    refine (radd_any HX.out HY.out (by omega) (by omega)).mono ?_
    rintro e w5 ⟨z, rfl, hz, hb5⟩
    have HZ := Lib.hid hz
    replace D := Lib.hid (D.out.trans (hb5.mono D.out.size))
    clear hz hb5 HX HY
    go_wp2_with fail
    refine (rtxt_any HZ.out (HL.out.go D.out)).mono ?_
    rintro e w6 ⟨hc, hb5⟩
    replace D := Lib.hid (D.out.trans (hb5.mono D.out.size))
    clear hb5 HZ
    rcases hc with ⟨h1, rfl⟩ | ⟨h1, rfl⟩
    · have H1 := Lib.hid h1
      clear h1
      go_wp2_with fail
      go_ret2
      exact .inr ⟨p, q, rfl, HF.out.1, rfl, HF.out.2, .inl ⟨H1.out, rfl⟩, D.out⟩
    · have H1 := Lib.hid h1
      clear h1
      go_wp2_with fail
      go_ret2
      exact .inr ⟨p, q, rfl, HF.out.1, rfl, HF.out.2, .inr ⟨H1.out, rfl⟩, D.out⟩
  · have e1 : (E != 0) = true := by simpa using h0
    have H0 := Lib.hid h0
    clear h0 HOK
    go_wp2_with fail
    go_ret2
    exact .inl ⟨H0.out, rfl, D.out⟩
end Go.Proofs.YtoblpcljhblnmaaGreatDoor
namespace Go.Proofs.YtoblpcljhblnmaaGreatDoor
open Go.RowKit
set_option maxRecDepth 100000
def ROfSaid (n d : Int) (w : World) (e : Ending) (w' : World) : Prop :=
  (d = 0 ∧ e = .returned (.tuple #[tx [], .int .i64 10]) ∧ Below w.heap.size w w') ∨ (d ≠ 0 ∧ RTxtSaid (Rat.divInt n d) w e w')
theorem rof_any (n d : Int) (w : World) (h0 : -9223372036854775808 ≤ n) (h1 : n ≤ 9223372036854775807) (g0 : -9223372036854775808 ≤ d) (g1 : d ≤ 9223372036854775807) (hl : LV w) :
    Calls Tryz.prog 19 #[.int .i64 n, .int .i64 d] w (ROfSaid n d w) := by
  have HL := Lib.hid hl
  by_cases hd : d = 0
  · subst hd
    clear hl g0 g1
    go_enter Tryz.func19, Tryz.ntmps19
    go_wp2_with fail
    go_ret2
    exact .inl ⟨rfl, rfl, Below.refl _ _⟩
  · have HC := Lib.hid (frac_any n d w h0 h1 g0 g1 hd)
    have e1 : (d == 0) = false := by simpa using hd
    have HD := Lib.hid hd
    obtain ⟨q, hq⟩ : ∃ q : Rat, q = Rat.divInt n d := ⟨_, rfl⟩
    rw [← hq] at HC
    have HQ := Lib.hid hq
    clear hl hq h0 h1 g0 g1
    go_enter Tryz.func19, Tryz.ntmps19
    go_wp2_with fail
    refine HC.out.mono ?_
    rintro e w3 ⟨x, rfl, hx, hb5⟩
    have HX := Lib.hid hx
    have D := Lib.hid hb5
    clear hx hb5 HC
    go_wp2_with fail
    refine (rtxt_any HX.out (HL.out.go D.out)).mono ?_
    rintro e w6 ⟨hc, hb5⟩
    replace D := Lib.hid (D.out.trans (hb5.mono D.out.size))
    clear hb5 HX
    rcases hc with ⟨h1, rfl⟩ | ⟨h1, rfl⟩
    · have H1 := Lib.hid h1
      clear h1
      go_wp2_with fail
      go_ret2
      exact .inr ⟨HD.out, .inl ⟨by rw [← HQ.out]; exact H1.out, by rw [← HQ.out]; rfl⟩, D.out⟩
    · have H1 := Lib.hid h1
      clear h1
      go_wp2_with fail
      go_ret2
      exact .inr ⟨HD.out, .inr ⟨by rw [← HQ.out]; exact H1.out, rfl⟩, D.out⟩
def RCmpSaid (a b : List UInt8) (w : World) (e : Ending) (w' : World) : Prop :=
  (Pl.ratsE [a, b] ≠ 0 ∧ e = .returned (.tuple #[.int .i64 0, .int .i64 (Pl.ratsE [a, b])]) ∧ Below w.heap.size w w') ∨ (∃ p q : Rat, a = Pl.ratTxt p ∧ Pl.Fits p ∧ b = Pl.ratTxt q ∧ Pl.Fits q ∧ e = .returned (.tuple #[.int .i64 (Pl.cmpR p q), .int .i64 0]) ∧ Below w.heap.size w w')
set_option maxHeartbeats 3200000 in
theorem rcompare_any (a b : List UInt8) (w : World) (ha : a.length ≤ 9223372036854775807) (hb : b.length ≤ 9223372036854775807) (hl : LV w) :
    Calls Tryz.prog 20 #[tx a, tx b] w (RCmpSaid a b w) := by
  have HC := Lib.hid (check_two a b w ha hb hl)
  have HOK : Hid (Pl.ratsE [a, b] = 0 → ∃ p q : Rat, a = Pl.ratTxt p ∧ Pl.Fits p ∧ b = Pl.ratTxt q ∧ Pl.Fits q) := Pl.rats_two
  unfold RCmpSaid
  generalize Pl.ratsE [a, b] = E at *
  clear ha hb hl
  go_enter Tryz.func20, Tryz.ntmps20
  go_wp2_with fail
  refine HC.out.mono ?_
  rintro e w2 ⟨rfl, hb5⟩
  have D := Lib.hid hb5
  clear HC hb5
  by_cases h0 : E = 0
  · subst h0
    obtain ⟨p, q, rfl, fp, rfl, fq⟩ := HOK.out rfl
    have HP := Lib.hid (fun W => parse_any fp W)
    have HQ := Lib.hid (fun W => parse_any fq W)
    have sp := Pl.rsz_fits fp
    have sq := Pl.rsz_fits fq
    have HF := Lib.hid (And.intro fp fq)
    clear HOK fp fq
    obtain ⟨la, hla⟩ : ∃ l, l = Pl.ratTxt p := ⟨_, rfl⟩
    obtain ⟨lb, hlb⟩ : ∃ l, l = Pl.ratTxt q := ⟨_, rfl⟩
    rw [← hla] at HP ⊢
    rw [← hlb] at HQ ⊢
    clear hla hlb
    go_wp2_with fail
    refine (HP.out _).mono ?_
    rintro e w3 ⟨x, rfl, hx, hb5⟩
    have HX := Lib.hid hx
    replace D := Lib.hid (D.out.trans (hb5.mono D.out.size))
    clear hx hb5 HP
    go_wp2_with fail
    refine (HQ.out _).mono ?_
    rintro e w4 ⟨y, rfl, hy, hb5⟩
    replace HX := Lib.hid (HX.out.go hb5)
    have HY := Lib.hid hy
    replace D := Lib.hid (D.out.trans (hb5.mono D.out.size))
    clear hy hb5 HQ
    go_wp2_with fail
    refine (rcmp_any HX.out HY.out (by omega) (by omega)).mono ?_
    rintro e w5 ⟨rfl, hb5⟩
    replace D := Lib.hid (D.out.trans (hb5.mono D.out.size))
    clear hb5 HX HY
    go_wp2_with fail
    go_ret2
    exact .inr ⟨p, q, rfl, HF.out.1, rfl, HF.out.2, rfl, D.out⟩
  · have e1 : (E != 0) = true := by simpa using h0
    have H0 := Lib.hid h0
    clear h0 HOK
    go_wp2_with fail
    go_ret2
    exact .inl ⟨H0.out, rfl, D.out⟩
end Go.Proofs.YtoblpcljhblnmaaGreatDoor
