/- Package ramp, plain: the distances from a target, one period of Nearest. No program. -/
import Derived.Test.YtchafkocobbndaaPStor
namespace Go.Proofs.Ytchafkocobbndaa.Pl
/-- strictly rising whole slopes: few pieces -/
theorem up_len {l : List (Int × Int)} (hu : l.Pairwise (fun a b => a.2 < b.2)) {a b : Int} (h : ∀ q ∈ l, a ≤ q.2 ∧ q.2 ≤ b) (hab : a ≤ b + 1) : (l.length : Int) ≤ b - a + 1 := by
  induction l generalizing a with
  | nil => simp; omega
  | cons p l ih =>
    obtain ⟨u1, u2⟩ := List.pairwise_cons.1 hu
    have hp := h p (by simp)
    have := ih u2 (a := p.2 + 1) (fun q hq => ⟨by have := u1 q hq; omega, (h q (by simp [hq])).2⟩) (by omega)
    simp only [List.length_cons]
    omega
theorem rise_bd {l : List (Int × Int)} {s : Int} (h : ∀ q ∈ l, 1 ≤ q.1 ∧ -s ≤ q.2 ∧ q.2 ≤ s) : -(s * total l) ≤ rise l ∧ rise l ≤ s * total l := by
  induction l with
  | nil => simp [total, rise]
  | cons p l ih =>
    obtain ⟨h1, h2, h3⟩ := h p (by simp)
    obtain ⟨i1, i2⟩ := ih fun q hq => h q (by simp [hq])
    rw [total_cons, rise_cons, Int.mul_add]
    have k1 := Int.mul_le_mul_of_nonneg_left h3 (show 0 ≤ p.1 by omega)
    have k2 := Int.mul_le_mul_of_nonneg_left h2 (show 0 ≤ p.1 by omega)
    rw [Int.mul_comm s p.1]
    rw [Int.mul_neg] at k2
    omega
/-- few pieces with small slopes on a small range: a valid function -/
theorem small_ok {lo va : Int} {ps : List (Int × Int)} (hpos : ∀ q ∈ ps, 1 ≤ q.1) (hu : ps.Pairwise (fun a b => a.2 < b.2)) (hs : ∀ q ∈ ps, -25 ≤ q.2 ∧ q.2 ≤ 25) (h0 : -1000000 ≤ lo) (h1 : lo + total ps ≤ 1000000) (hv0 : -100000000 ≤ va) (hv1 : va ≤ 100000000) : ccheck lo va ps = 0 := by
  have hb := total_pos hpos
  have hl := up_len hu hs (by omega)
  refine good_check (by omega) (by omega) (by omega) ⟨fun q hq => ?_, hu, by omega, fun k => ?_⟩
  · have a := hpos q hq
    have b := hs q hq
    have c : q.1 ≤ total ps := by
      clear hl hb h1 hu hs b
      induction ps with
      | nil => cases hq
      | cons p ps ih =>
        have hp := hpos p (by simp)
        have ht := total_pos fun z hz => hpos z (List.mem_cons_of_mem _ hz)
        rw [total_cons]
        rcases List.mem_cons.1 hq with rfl | hq
        · omega
        · have := ih (fun z hz => hpos z (by simp [hz])) hq
          omega
    omega
  · have ht := total_take_bd hpos k
    have hr := rise_bd (l := ps.take k) (s := 25) fun q hq => ⟨hpos q (List.mem_of_mem_take hq), hs q (List.mem_of_mem_take hq)⟩
    omega
/-- ramp.away -/
def awayP (t : Int) : List (Int × Int) := (if 0 < t then [(t, -1)] else []) ++ (if t < 100000 then [(100000 - t, 1)] else [])
def away (t : Int) : Cx := (0, t, awayP t)
theorem away_facts {t : Int} (h0 : 0 ≤ t) (h1 : t ≤ 100000) : (∀ q ∈ awayP t, 1 ≤ q.1) ∧ (awayP t).Pairwise (fun a b => a.2 < b.2) ∧ (∀ q ∈ awayP t, -1 ≤ q.2 ∧ q.2 ≤ 1) ∧ total (awayP t) = 100000 := by
  unfold awayP
  by_cases a : 0 < t <;> by_cases b : t < 100000
  · rw [if_pos a, if_pos b]
    refine ⟨by simp; omega, by simp, by simp, by simp [total]; omega⟩
  · rw [if_pos a, if_neg b]
    refine ⟨by simp; omega, by simp, by simp, by simp [total]; omega⟩
  · rw [if_neg a, if_pos b]
    refine ⟨by simp; omega, by simp, by simp, by simp [total]; omega⟩
  · omega
theorem away_ok {t : Int} (h0 : 0 ≤ t) (h1 : t ≤ 100000) : (away t).ok := by
  obtain ⟨a, b, c, d⟩ := away_facts h0 h1
  show ccheck 0 t (awayP t) = 0
  exact small_ok a b (fun q hq => by have := c q hq; omega) (by omega) (by omega) (by omega) (by omega)
theorem away_hi {t : Int} (h0 : 0 ≤ t) (h1 : t ≤ 100000) : chigh 0 (awayP t) = 100000 := by
  unfold chigh
  rw [(away_facts h0 h1).2.2.2]
  rfl
theorem away_val {t x : Int} (h0 : 0 ≤ t) (h1 : t ≤ 100000) (x0 : 0 ≤ x) (x1 : x ≤ 100000) : cvat 0 t (awayP t) x = max (x - t) (t - x) := by
  unfold cvat awayP
  by_cases a : 0 < t <;> by_cases b : t < 100000
  · rw [if_pos a, if_pos b, List.singleton_append, costR, costR_one]
    simp only
    omega
  · rw [if_pos a, if_neg b, List.append_nil, costR_one]
    simp only
    omega
  · rw [if_neg a, if_pos b, List.nil_append, costR_one]
    simp only
    omega
  · omega
def rstepP (down up : Int) : List (Int × Int) := if 0 < up + down then [(up + down, 0)] else []
theorem rstep_facts {down up : Int} (hd : 0 ≤ down) (hu : 0 ≤ up) : (∀ q ∈ rstepP down up, 1 ≤ q.1 ∧ q.2 = 0) ∧ (rstepP down up).Pairwise (fun a b => a.2 < b.2) ∧ total (rstepP down up) = up + down ∧ ∀ x, costR (rstepP down up) x = 0 := by
  unfold rstepP
  by_cases a : 0 < up + down
  · rw [if_pos a]
    exact ⟨by simp; omega, by simp, by simp [total], fun x => by simp [costR]⟩
  · rw [if_neg a]
    exact ⟨by simp, by simp, by simp [total]; omega, fun x => by simp [costR]⟩
/-- what holds of the function of the first i periods -/
structure RInv (i : Nat) (f : Cx) : Prop where
  ok : f.ok
  lo : 0 ≤ f.lo
  le : f.lo ≤ f.hi
  hi : f.hi ≤ 100000
  sl : ∀ q ∈ f.2.2, -(i : Int) ≤ q.2 ∧ q.2 ≤ (i : Int)
  va : ∀ x, f.lo ≤ x → x ≤ f.hi → 0 ≤ f.V x ∧ f.V x ≤ 100000 * (i : Int)
/-- the convolution with the step -/
theorem ramp_conv {i : Nat} {f : Cx} {down up : Int} (hf : RInv i f) (hi : i ≤ 24) (d0 : 0 ≤ down) (d1 : down ≤ 100000) (u0 : 0 ≤ up) (u1 : up ≤ 100000) :
    ∃ H, cConv f.1 f.2.1 f.2.2 (-down) 0 (rstepP down up) = ((f.1 + -down, f.2.1 + 0, H), 0) ∧ ccheck (f.1 + -down) (f.2.1 + 0) H = 0 ∧ chigh (f.1 + -down) H = f.hi + up ∧ (∀ q ∈ H, -(i : Int) ≤ q.2 ∧ q.2 ≤ (i : Int)) ∧
      (∀ x y, f.lo ≤ x → x ≤ f.hi → -down ≤ y - x → y - x ≤ up → cvat (f.1 + -down) (f.2.1 + 0) H y ≤ f.V x) ∧
      (∀ y, f.lo - down ≤ y → y ≤ f.hi + up → ∃ x, f.lo ≤ x ∧ x ≤ f.hi ∧ -down ≤ y - x ∧ y - x ≤ up ∧ cvat (f.1 + -down) (f.2.1 + 0) H y = f.V x) := by
  obtain ⟨r1, r2, r3, r4⟩ := rstep_facts d0 u0
  have g1 := (ccheck_ok hf.ok).1
  have hv := hf.va f.lo (Int.le_refl _) hf.le
  have b1 := hf.lo
  have b2 := hf.le
  have b3 := hf.hi
  have hsl := hf.sl
  have hva : f.V f.lo = f.2.1 := by
    unfold Cx.V Cx.lo cvat
    rw [show f.1 - f.1 = 0 by omega, costR_zero g1.long]
    omega
  rw [hva] at hv
  have hc2 : ccheck (-down) 0 (rstepP down up) = 0 := small_ok (fun q hq => (r1 q hq).1) r2 (fun q hq => by have := (r1 q hq).2; omega) (by omega) (by omega) (by omega) (by omega)
  have g2 := (ccheck_ok hc2).1
  have hmem : ∀ q ∈ psort (f.2.2 ++ rstepP down up), 1 ≤ q.1 ∧ -(i : Int) ≤ q.2 ∧ q.2 ≤ (i : Int) := fun q hq => by
    rcases List.mem_append.1 ((psort_perm _).mem_iff.1 hq) with h | h
    · exact ⟨g1.long q h, hsl q h⟩
    · have := r1 q h; omega
  have hlong : ∀ q ∈ psort (f.2.2 ++ rstepP down up), 1 ≤ q.1 := fun q hq => (hmem q hq).1
  obtain ⟨ju, jm⟩ := cjoin_up (psort_sorted (f.2.2 ++ rstepP down up))
  have htot : total (cjoin (psort (f.2.2 ++ rstepP down up))) = total f.2.2 + (up + down) := by
    rw [(cjoin_keeps hlong).2.1, total_perm (psort_perm _), total_app, r3]
  have hHs : ∀ q ∈ cjoin (psort (f.2.2 ++ rstepP down up)), -(i : Int) ≤ q.2 ∧ q.2 ≤ (i : Int) := fun q hq => by
    obtain ⟨p, hp, e⟩ := jm q hq
    rw [e]
    exact (hmem p hp).2
  have e1 : f.hi = f.1 + total f.2.2 := rfl
  have e2 : f.lo = f.1 := rfl
  have hcH : ccheck (f.1 + -down) (f.2.1 + 0) (cjoin (psort (f.2.2 ++ rstepP down up))) = 0 :=
    small_ok (cjoin_keeps hlong).1 ju (fun q hq => by have := hHs q hq; omega) (by omega) (by rw [htot]; omega) (by omega) (by omega)
  have hok : cConv f.1 f.2.1 f.2.2 (-down) 0 (rstepP down up) = ((f.1 + -down, f.2.1 + 0, cjoin (psort (f.2.2 ++ rstepP down up))), 0) := by
    unfold cConv
    rw [if_neg (by simpa using (show ccheck f.1 f.2.1 f.2.2 = 0 from hf.ok)), if_neg (by simpa using hc2)]
    unfold cMade
    rw [if_neg (by simpa using hcH)]
  have gH := (ccheck_ok hcH).1
  have hbst : ∀ s, best s (cjoin (psort (f.2.2 ++ rstepP down up))) = best s f.2.2 + best s (rstepP down up) := fun s => by rw [cjoin_best, best_perm s (psort_perm _), best_app]
  have hlin : ∀ c, cvat (-down) 0 (rstepP down up) c = 0 := fun c => by unfold cvat; rw [r4]; rfl
  refine ⟨_, hok, hcH, by unfold chigh; rw [htot]; omega, hHs, fun x y x0 x1 y0 y1 => ?_, fun y y0 y1 => ?_⟩
  · have := conv_le g1 g2 gH (by rw [htot, r3]) hbst (x := x) (y := y - x) (by omega) (by omega) (by omega) (by rw [r3]; omega)
    rw [hlin, show x + (y - x) = y by omega] at this
    unfold Cx.V
    omega
  · obtain ⟨x, c, s1, s2, s3, s4, s5, s6⟩ := conv_some g1 g2 gH (by rw [htot, r3]) hbst (z := y) (by omega) (by rw [r3]; omega)
    rw [hlin] at s6
    refine ⟨x, by omega, by omega, by omega, by rw [r3] at s5; omega, ?_⟩
    unfold Cx.V
    omega
/-- one period of ramp.Nearest: the errors of Convolve and Add are dropped, as the program drops them -/
def rStep (down up : Int) (f : Cx) (low hi t : Int) : Cx × Int :=
  if (cRestrict (cConv f.1 f.2.1 f.2.2 (-down) 0 (rstepP down up)).1.1 (cConv f.1 f.2.1 f.2.2 (-down) 0 (rstepP down up)).1.2.1 (cConv f.1 f.2.1 f.2.2 (-down) 0 (rstepP down up)).1.2.2 low hi).2 ≠ 0 then ((0, 0, []), 8)
  else ((cAdd (cRestrict (cConv f.1 f.2.1 f.2.2 (-down) 0 (rstepP down up)).1.1 (cConv f.1 f.2.1 f.2.2 (-down) 0 (rstepP down up)).1.2.1 (cConv f.1 f.2.1 f.2.2 (-down) 0 (rstepP down up)).1.2.2 low hi).1.1
    (cRestrict (cConv f.1 f.2.1 f.2.2 (-down) 0 (rstepP down up)).1.1 (cConv f.1 f.2.1 f.2.2 (-down) 0 (rstepP down up)).1.2.1 (cConv f.1 f.2.1 f.2.2 (-down) 0 (rstepP down up)).1.2.2 low hi).1.2.1
    (cRestrict (cConv f.1 f.2.1 f.2.2 (-down) 0 (rstepP down up)).1.1 (cConv f.1 f.2.1 f.2.2 (-down) 0 (rstepP down up)).1.2.1 (cConv f.1 f.2.1 f.2.2 (-down) 0 (rstepP down up)).1.2.2 low hi).1.2.2 0 t (awayP t)).1, 0)
theorem cutR_slope {x low hi : Int} {st : List (Int × Int)} (h : ∀ p ∈ st, 1 ≤ p.1) {a b : Int} (hs : ∀ q ∈ st, a ≤ q.2 ∧ q.2 ≤ b) : ∀ q ∈ cutR x low hi st, a ≤ q.2 ∧ q.2 ≤ b := fun q hq => by
  obtain ⟨_, p, hp, e, _⟩ := cutR_mem h q hq
  rw [e]
  exact hs p hp
theorem restrict_pieces {lo va : Int} {st : List (Int × Int)} (h : ccheck lo va st = 0) {low hi : Int} (h1 : max lo low ≤ min (chigh lo st) hi) : cRestrict lo va st low hi = ((max lo low, cvat lo va st (max lo low), cutR lo (max lo low) (min (chigh lo st) hi) st), 0) := by
  have := (restrict_ok h (low := max lo low) (hi := min (chigh lo st) hi) (by omega) h1 (by omega)).1
  rwa [← restrict_clamp] at this
theorem ramp_step {i : Nat} {f : Cx} {down up low hi t : Int} (hf : RInv i f) (hi24 : i < 24) (d0 : 0 ≤ down) (d1 : down ≤ 100000) (u0 : 0 ≤ up) (u1 : up ≤ 100000) (l0 : 0 ≤ low) (h1 : hi ≤ 100000) (t0 : 0 ≤ t) (t1 : t ≤ 100000) :
    (rStep down up f low hi t = ((0, 0, []), 8) ∧ min (f.hi + up) hi < max (f.lo - down) low) ∨ ∃ g : Cx, rStep down up f low hi t = (g, 0) ∧ RInv (i + 1) g ∧ g.lo = max (f.lo - down) low ∧ g.hi = min (f.hi + up) hi ∧
      (∀ x y, f.lo ≤ x → x ≤ f.hi → -down ≤ y - x → y - x ≤ up → low ≤ y → y ≤ hi → g.V y ≤ f.V x + max (y - t) (t - y)) ∧
      (∀ y, g.lo ≤ y → y ≤ g.hi → ∃ x, f.lo ≤ x ∧ x ≤ f.hi ∧ -down ≤ y - x ∧ y - x ≤ up ∧ g.V y = f.V x + max (y - t) (t - y)) := by
  obtain ⟨H, e, cH, hH, sH, le, some⟩ := ramp_conv hf (by omega) d0 d1 u0 u1
  have gH := (ccheck_ok cH).1
  have e2 : f.lo = f.1 := rfl
  have b1 := hf.lo
  have b2 := hf.le
  have b3 := hf.hi
  obtain ⟨a1, a2, a3, a4⟩ := away_facts t0 t1
  unfold rStep
  rw [e]
  simp only
  by_cases hne : max (f.1 + -down) low ≤ min (chigh (f.1 + -down) H) hi
  · right
    rw [restrict_pieces cH hne]
    simp only [ne_eq, not_true_eq_false, if_false]
    obtain ⟨R, eR, cR, hR, vR⟩ := restrict_good cH hne
    rw [restrict_pieces cH hne] at eR
    simp only [Prod.mk.injEq] at eR
    obtain ⟨⟨_, _, eR⟩, _⟩ := eR
    rw [eR]
    have gR := (ccheck_ok cR).1
    have sR : ∀ q ∈ R, -(i : Int) ≤ q.2 ∧ q.2 ≤ (i : Int) := by rw [← eR]; exact cutR_slope gH.long sH
    rw [hH] at hR vR hne
    have hA := away_hi t0 t1
    have gA := (ccheck_ok (show ccheck 0 t (awayP t) = 0 from away_ok t0 t1)).1
    obtain ⟨L, eL, lpos, lup, ltot, lval⟩ := add_pieces gR gA (low := max (f.1 + -down) low) (hi := min (f.hi + up) hi) (Int.le_refl _) (by omega) hne (by omega) (by omega)
    have sL : ∀ q ∈ L, -((i : Int) + 1) ≤ q.2 ∧ q.2 ≤ (i : Int) + 1 := fun q hq => by
      rw [← eL, ccut_eq, ccut_eq] at hq
      obtain ⟨_, p, hp, r, hr, e⟩ := addL_mem _ _ (fun q hq => (cutR_mem gR.long q hq).1) (fun q hq => (cutR_mem gA.long q hq).1) q hq
      have k1 := cutR_slope gR.long sR p hp
      have k2 := cutR_slope gA.long a3 r hr
      omega
    have hvals : ∀ y, max (f.1 + -down) low ≤ y → y ≤ min (f.hi + up) hi → 0 ≤ cvat (f.1 + -down) (f.2.1 + 0) H y ∧ cvat (f.1 + -down) (f.2.1 + 0) H y ≤ 100000 * (i : Int) := fun y y0 y1 => by
      obtain ⟨x, x0, x1, _, _, ex⟩ := some y (by omega) (by omega)
      rw [ex]
      exact hf.va x x0 x1
    have hlow := hvals _ (Int.le_refl _) hne
    have hlowA := away_val t0 t1 (x := max (f.1 + -down) low) (by omega) (by omega)
    rw [vR _ (Int.le_refl _) hne, hlowA] at lval
    have cL : ccheck (max (f.1 + -down) low) (cvat (f.1 + -down) (f.2.1 + 0) H (max (f.1 + -down) low) + max (max (f.1 + -down) low - t) (t - max (f.1 + -down) low)) L = 0 :=
      small_ok lpos lup (fun q hq => by have := sL q hq; omega) (by omega) (by rw [ltot]; omega) (by omega) (by omega)
    have eAdd : cAdd (max (f.1 + -down) low) (cvat (f.1 + -down) (f.2.1 + 0) H (max (f.1 + -down) low)) R 0 t (awayP t) = ((max (f.1 + -down) low, cvat (f.1 + -down) (f.2.1 + 0) H (max (f.1 + -down) low) + max (max (f.1 + -down) low - t) (t - max (f.1 + -down) low), L), 0) := by
      unfold cAdd
      rw [if_neg (by simpa using cR), if_neg (by simpa using (show ccheck 0 t (awayP t) = 0 from away_ok t0 t1)), hR, hA, show max (max (f.1 + -down) low) 0 = max (f.1 + -down) low by omega, show min (min (f.hi + up) hi) 100000 = min (f.hi + up) hi by omega, if_neg (by omega), eL, vR _ (Int.le_refl _) hne, hlowA]
      exact cMade_ok lup cL
    rw [eAdd]
    have hval : ∀ y, max (f.1 + -down) low ≤ y → y ≤ min (f.hi + up) hi → cvat (max (f.1 + -down) low) (cvat (f.1 + -down) (f.2.1 + 0) H (max (f.1 + -down) low) + max (max (f.1 + -down) low - t) (t - max (f.1 + -down) low)) L y = cvat (f.1 + -down) (f.2.1 + 0) H y + max (y - t) (t - y) := fun y y0 y1 => by
      rw [lval y y0 y1, vR y y0 y1, away_val t0 t1 (by omega) (by omega)]
    have hhi : chigh (max (f.1 + -down) low) L = min (f.hi + up) hi := by unfold chigh; omega
    refine ⟨_, rfl, ⟨cL, by simp only [Cx.lo]; omega, by simp only [Cx.lo, Cx.hi]; omega, by simp only [Cx.hi]; omega, fun q hq => by have := sL q hq; omega, fun y y0 y1 => ?_⟩, by simp only [Cx.lo]; omega, hhi, fun x y x0 x1 y0 y1 y2 y3 => ?_, fun y y0 y1 => ?_⟩
    · simp only [Cx.lo, Cx.hi, Cx.V] at y0 y1 ⊢
      rw [hhi] at y1
      rw [hval y y0 y1]
      have := hvals y y0 y1
      omega
    · simp only [Cx.V]
      rw [hval y (by omega) (by omega)]
      have := le x y x0 x1 y0 y1
      simp only [Cx.V] at this
      omega
    · simp only [Cx.lo, Cx.hi] at y0 y1
      rw [hhi] at y1
      obtain ⟨x, x0, x1, k0, k1, ex⟩ := some y (by omega) (by omega)
      refine ⟨x, x0, x1, k0, k1, ?_⟩
      simp only [Cx.V] at ex ⊢
      rw [hval y y0 y1, ex]
  · left
    have er : cRestrict (f.1 + -down) (f.2.1 + 0) H low hi = ((0, 0, []), 8) := by
      unfold cRestrict
      rw [if_neg (by simpa using cH), if_pos (by omega)]
    rw [er, if_pos (by simp)]
    exact ⟨rfl, by rw [hH] at hne; omega⟩
end Go.Proofs.Ytchafkocobbndaa.Pl
