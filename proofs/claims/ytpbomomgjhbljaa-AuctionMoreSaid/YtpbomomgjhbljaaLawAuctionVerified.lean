/- The law AuctionVerified: for all valid lengths the call returns true, and old memory is left as it is. No condition. -/
import Derived.Test.YtpbomomgjhbljaaSold
import Derived.Test.YtpbomomgjhbljaaWithin
import Derived.StillTailTactics
namespace Go.Proofs.Ytpbomomgjhbljaa
open Go.RowKit
namespace Pl
def verL : List Ord := [⟨⟨#[65]⟩, false, 1, 0⟩]
theorem verL_ok : verif 0 0 verL [1] = 14 := by kernel_rfl
theorem cfills_zero {l : List Ord} {fs : List Int} {q : Int} (h0 : acheck l = 0) (h : Cleared l fs q) : cfills l fs = 0 := by
  unfold cfills
  rw [if_neg (by simpa using h0), if_neg (by simp [h.len]), if_neg]
  unfold has
  rw [Bool.not_eq_true, List.any_eq_false]
  intro x hx
  obtain ⟨i, hi, rfl⟩ := zip_mem h.len hx
  obtain ⟨g1, g2⟩ := h.rng i hi
  unfold badFill
  simp
  omega
theorem oAt_good {l : List Ord} (h0 : acheck l = 0) (i : Nat) (hi : i < l.length) : 1 ≤ (oAt l i).pow ∧ (oAt l i).pow ≤ 100000 ∧ -1000000 ≤ (oAt l i).price ∧ (oAt l i).price ≤ 1000000 := by
  rw [oAt_eq hi]; exact acheck_good h0 _ (List.getElem_mem hi)
theorem verif_zero {l : List Ord} {fs : List Int} {q : Int} (h0 : acheck l = 0) (h : Cleared l fs q) (hq : 0 ≤ q) : verif (cPrice l fs q) q l fs = 0 := by
  unfold verif
  rw [if_neg (by simp [cfills_zero h0 h]), if_neg (by rw [h.buys, h.sells]; simp), if_neg]
  have := h.fits
  rintro (h1 | ⟨h1, h2⟩)
  · omega
  · unfold cPrice at h2
    rw [if_pos (by omega)] at h2
    omega
theorem verif_off {l : List Ord} {fs : List Int} {q p q2 d : Int} (h : Cleared l fs q) {x : Nat} (hx : x < l.length) (hd : d ≠ 0) : verif p q2 l (fs.set x (fAt fs x + d)) ≠ 0 := by
  have := more_unbalanced h hx hd
  unfold verif
  split
  · assumption
  · rw [if_pos (.inl this)]; decide
end Pl
set_option maxHeartbeats 3200000 in
set_option maxRecDepth 100000 in
theorem auctionVerified_walk (A : Option Addr) (n c : Nat) (l : List Pl.Ord) (at0 by0 : Int) (w : World) (hcap : n ≤ c) (hs : ∀ a ∈ l, OrdIn a) (hr : Reads w w.heap.size 4 A n (orders l)) :
    Calls Try.prog 6 #[.slice A n c, .int .i64 at0, .int .i64 by0] w fun e w' => e = .returned (.bool true) ∧ Below w.heap.size w w' := by
  have L1 := Lib.hid hr.ord_len
  have HSZ : Hid (∀ z ∈ l, z.name.size ≤ 9223372036854775807) := fun z hz => (hs z hz).1
  have HVL := Lib.hid (fun A B c d w h hr hf => verify_any A B 1 1 c d Pl.verL [1] 0 0 w h (by intro z hz; simp [Pl.verL] at hz; subst hz; decide) hr hf)
  rw [Pl.verL_ok] at HVL
  unfold vRes at HVL
  clear hs
  go_enter Try.func6, Try.ntmps6
  go_wp2_with fail
  refine (sold_any _).mono ?_
  rintro e w1 ⟨rfl, hb⟩
  have HB1 := Lib.hid hb
  clear hb
  go_wp2_with fail
  have RA : Hid (Reads ((w1.alloc (.cells #[.string ⟨#[65]⟩, .bool false, .int .i64 1, .int .i64 0] 32)).alloc (.cells #[.int .i64 1] 3)) ((w1.alloc (.cells #[.string ⟨#[65]⟩, .bool false, .int .i64 1, .int .i64 0] 32)).alloc (.cells #[.int .i64 1] 3)).heap.size 4 (some ⟨w1.heap.size, 0, none⟩) 1 (orders Pl.verL)) := ((Reads.lit w1 #[.string ⟨#[65]⟩, .bool false, .int .i64 1, .int .i64 0] 32 1 4 _ rfl rfl).alloc (Nat.le_refl _) _).more (by simp)
  have RB : Hid (Reads ((w1.alloc (.cells #[.string ⟨#[65]⟩, .bool false, .int .i64 1, .int .i64 0] 32)).alloc (.cells #[.int .i64 1] 3)) ((w1.alloc (.cells #[.string ⟨#[65]⟩, .bool false, .int .i64 1, .int .i64 0] 32)).alloc (.cells #[.int .i64 1] 3)).heap.size 1 (some ⟨w1.heap.size + 1, 0, none⟩) 1 (ints [1])) := Reads.lit _ #[.int .i64 1] 3 1 1 _ (by simp) rfl
  have HB2 := Lib.hid ((HB1.out.alloc HB1.out.size (.cells #[.string ⟨#[65]⟩, .bool false, .int .i64 1, .int .i64 0] 32)).alloc (by have := HB1.out.size; simp; omega) (.cells #[.int .i64 1] 3))
  refine (HVL.out _ _ _ _ _ (Nat.le_refl _) RA.out RB.out).mono ?_
  rintro e w2 ⟨rfl, hb⟩
  have HB3 := Lib.hid (HB2.out.trans (hb.mono HB2.out.size))
  clear hb RA RB HB1 HB2 HVL
  go_wp2_with fail
  by_cases h0 : Pl.acheck l = 0
  · have HA0 := Lib.hid h0
    have h32 := Pl.acheck_len h0
    have hn32 : n ≤ 32 := by have := L1.out; omega
    clear h0 h32
    refine (clear_good A n c l w2 hcap HSZ.out (hr.go HB3.out) HA0.out).mono ?_
    rintro e w3 ⟨Ar, fs, q, rfl, hc, q0, q1, hf, hb⟩
    have HV0 := Lib.hid (Pl.verif_zero HA0.out hc q0)
    have HC := Lib.hid hc
    have HF := Lib.hid hf
    have HB4 := Lib.hid (HB3.out.trans (hb.mono HB3.out.size))
    have HVE := Lib.hid (fun B m d fs p q w hr hf => verify_any A B n m c d l fs p q w hcap HSZ.out hr hf)
    unfold vRes at HVE
    unfold vRes
    clear hc hf hb HB3
    generalize Pl.cPrice l fs q = p at *
    go_wp2_with fail
    have HB5 := Lib.hid (HB4.out.alloc HB4.out.size (.cells #[.int .i64 p, .int .i64 q, .slice Ar n n] 35))
    have HF5 := Lib.hid (HF.out.go ((Below.refl w3.heap.size w3).alloc (Nat.le_refl _) (.cells #[.int .i64 p, .int .i64 q, .slice Ar n n] 35)))
    have BX := Lib.hid (Blk.new_ w3 w3.heap.size 35 #[.int .i64 p, .int .i64 q, .slice Ar n n] rfl)
    refine (HVE.out _ _ _ fs _ _ _ (hr.go HB5.out) HF5.out).mono ?_
    rintro e w4 ⟨rfl, hb⟩
    rw [HV0.out]
    have HB6 := Lib.hid (HB5.out.trans (hb.mono HB5.out.size))
    have HF6 := Lib.hid (HF5.out.go hb)
    have BX6 := Lib.hid (BX.out.go hb)
    have hz6 : w3.heap.size < w4.heap.size := BX6.out.lt
    clear hb HB4 HF HB5 HF5 BX HV0
    generalize w3.heap.size = bx at *
    by_cases hn0 : 0 < n
    · have hne : ((n : Int) == 0) = false := by simp; omega
      have bc := BX6.out.cell
      go_wp2_with fail
      have BX7 := Lib.hid (BX6.out.alloc (.cells #[.int .i64 p, .int .i64 q, .slice Ar n n] 35))
      have BY7 := Lib.hid (Blk.new_ w4 w4.heap.size 35 #[.int .i64 p, .int .i64 q, .slice Ar n n] rfl)
      have HB7 := Lib.hid (HB6.out.alloc HB6.out.size (.cells #[.int .i64 p, .int .i64 q, .slice Ar n n] 35))
      have HF7 := Lib.hid (HF6.out.go ((Below.refl w4.heap.size w4).alloc (Nat.le_refl _) (.cells #[.int .i64 p, .int .i64 q, .slice Ar n n] 35)))
      refine (clone_ints _ _ _ fs _ (by omega) HF7.out).mono ?_
      rintro e w5 ⟨A2, c2, rfl, hown, hb⟩
      obtain ⟨g, c3, hv, hg0, hg1⟩ := hown.form hn0
      have hlt := hown.lt g (by rw [hv]; rfl)
      injection hv with hv1 _ hv2
      subst hv1 hv2
      have hgy : w4.heap.size < g := by have := hlt.1; simp at this; omega
      have BX8 := Lib.hid (BX7.out.go hb)
      have BY8 := Lib.hid (BY7.out.go hb)
      have HB8 := Lib.hid (HB7.out.trans (hb.mono HB7.out.size))
      have OF8 := Lib.hid hown
      have hyw : w.heap.size ≤ w4.heap.size := HB6.out.size
      clear hb hown BX7 BY7 HB7 HF7 BX6 HB6 HF6 bc hg0 hg1 hlt
      generalize w4.heap.size = yb at *
      have bc := BY8.out.cell
      have bf := BY8.out.frozen
      have bl := BY8.out.lt
      have hw1 := Pl.withinF_bd at0 0 ((n : Int) - 1) (by omega)
      have hw2 := Pl.withinF_bd by0 1 5 (by omega)
      have HW1 := Lib.hid (fun w => (within_any2 at0 0 ((n : Int) - 1) w (by omega) (by omega) (by omega)).mono (fun _ _ h => And.intro h.1 h.2.symm))
      have HW2 := Lib.hid (fun w => (within_any2 by0 1 5 w (by omega) (by omega) (by omega)).mono (fun _ _ h => And.intro h.1 h.2.symm))
      obtain ⟨k, hk⟩ := Int.eq_ofNat_of_zero_le hw1.1
      rw [hk] at HW1 hw1
      clear hk
      generalize Pl.withinF by0 1 5 = m2 at *
      have kn : k < n := by omega
      have f1 : w5.cell? ⟨g, k, none⟩ = some (.int .i64 (Pl.fAt fs k)) := own_int_cell OF8.out k kn
      have ff := World.ownsRow.frozenAt OF8.out
      have HX := Lib.hid (fun p q2 => Pl.verif_off (p := p) (q2 := q2) HC.out (x := k) (d := m2) (by rw [L1.out]; exact kn) (by omega))
      have fb := HC.out.rng k (by rw [L1.out]; exact kn)
      have pb := Pl.oAt_good HA0.out k (by rw [L1.out]; exact kn)
      have OF9 := Lib.hid (own_int_set (own_other OF8.out (g' := yb) (by omega) 2 (.slice (some ⟨g, 0, none⟩) n c2)) k (Pl.fAt fs k + m2))
      generalize Pl.fAt fs k = fk at *
      have g1 : (0 : Int) ≤ (k : Int) := by omega
      have g2 : (k : Int) < (n : Int) := by omega
      go_wp2_with fail
      have s1 : IntKind.i64.wrap ((n : Int) - 1) = (n : Int) - 1 := by rw [IntWalk.i64_in _ (by omega)]
      have s2 : IntKind.i64.wrap (fk + m2) = fk + m2 := by rw [IntWalk.i64_in _ (by omega)]
      have q1 : (w5.setCell ⟨yb, 2, none⟩ (.slice (some ⟨g, 0, none⟩) n c2)).cell? ⟨yb, 2, none⟩ = some (.slice (some ⟨g, 0, none⟩) n c2) := (BY8.out.set_ 2 _).cell 2
      have OF8b := Lib.hid (own_other OF8.out (g' := yb) (by omega) 2 (.slice (some ⟨g, 0, none⟩) n c2))
      have q2 : (w5.setCell ⟨yb, 2, none⟩ (.slice (some ⟨g, 0, none⟩) n c2)).cell? ⟨g, k, none⟩ = some (.int .i64 fk) := by rw [World.cell?_setCell_other _ _ _ _ (by simp <;> omega)]; exact f1
      have q3 := World.ownsRow.frozenAt OF8b.out
      have BY9 := Lib.hid (BY8.out.set_ 2 (.slice (some ⟨g, 0, none⟩) n c2))
      have HB9 := Lib.hid (HB8.out.setCell (p := ⟨yb, 2, none⟩) hyw (.slice (some ⟨g, 0, none⟩) n c2))
      clear f1 ff bc bf bl BX8 BY8 HB8 OF8
      generalize w5.setCell ⟨yb, 2, none⟩ (.slice (some ⟨g, 0, none⟩) n c2) = w6 at *
      refine wp_region_still_tail 13 (by kernel_rfl) (by kernel_rfl) ?_
      simp only [List.take_succ_cons, List.take_zero, List.drop_succ_cons, List.drop_zero]
      have r1 : w6.drew.cell? ⟨yb, 2, none⟩ = some (.slice (some ⟨g, 0, none⟩) n c2) := q1
      have r2 : w6.drew.cell? ⟨g, k, none⟩ = some (.int .i64 fk) := q2
      have OF10 : Hid (w6.drew.ownsRow _ 3 1 (.slice (some ⟨g, 0, none⟩) n c2) n (ints fs)) := OF8b.out
      have r3 := World.ownsRow.frozenAt OF10.out
      have BY10 := Lib.hid BY9.out.drew
      have HB10 := Lib.hid HB9.out.drew
      clear q1 q2 q3 OF8b BY9 HB9
      change wpStill Try.prog _ w6.drew _ _ _
      obtain ⟨w7, h7⟩ : ∃ w7 : World, w7 = w6.drew := ⟨_, rfl⟩
      have H7 := Lib.hid h7
      rw [← h7] at r1 r2 r3 OF10 BY10 HB10 ⊢
      clear h7
      repeat still_step
      still_call (HW1.out _)
      repeat still_step
      still_call (HW2.out _)
      repeat still_step
      refine wpStill_nil ?_
      change wpList _ _ _ _ _ w6.drew
      rw [← H7.out]
      clear H7
      have bc := BY10.out.cell
      have n1 : yb ≠ g := by omega
      go_wp2_with fail
      have OF11 := Lib.hid (own_int_set OF10.out k (fk + m2))
      have BY11 := Lib.hid (BY10.out.far (p := ⟨g, k, none⟩) (by simp; omega) (.int .i64 (fk + m2)))
      have HB11 := Lib.hid (HB10.out.setCell (p := ⟨g, k, none⟩) (by simp; omega) (.int .i64 (fk + m2)))
      clear r1 r2 r3 s1 s2 bc OF10 BY10 HB10 HW1 HW2
      generalize w7.setCell ⟨g, k, none⟩ (.int .i64 (fk + m2)) = w8 at *
      refine (HVE.out _ _ _ _ _ _ _ (hr.go HB11.out) (Reads.of_own OF11.out)).mono ?_
      rintro e w9 ⟨rfl, hb⟩
      have HX2 := HX.out p q
      have hne2 : (Pl.verif p q l (fs.set k (fk + m2)) != 0) = true := by simpa using HX2
      have HB12 := Lib.hid (HB11.out.trans (hb.mono HB11.out.size))
      clear hb HX HX2
      generalize Pl.verif p q l (fs.set k (fk + m2)) = vv at *
      go_wp2_with fail
      go_ret
      exact ⟨rfl, HB12.out⟩
    · obtain rfl : n = 0 := by omega
      have hne : ((0 : Int) == 0) = true := by simp
      have bc := BX6.out.cell
      go_wp2_with fail
      go_ret
      exact ⟨rfl, HB6.out⟩
  · have hne : (Pl.acheck l != 0) = true := by simpa using h0
    refine (clear_bad A n c l w2 hcap HSZ.out (hr.go HB3.out) h0).mono ?_
    rintro e w3 ⟨rfl, hb⟩
    have HB4 := Lib.hid (HB3.out.trans (hb.mono HB3.out.size))
    clear h0 hb
    generalize Pl.acheck l = u at *
    unfold vRes
    go_wp2_with fail
    go_ret
    exact ⟨rfl, HB4.out.alloc HB4.out.size _⟩
end Go.Proofs.Ytpbomomgjhbljaa
