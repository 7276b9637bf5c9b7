/- ramp.Nearest, plain: the best powers and the laws of RampKept. No program. -/
import Derived.Test.YtchafkocobbndaaPRamp
namespace Go.Proofs.Ytchafkocobbndaa.Pl
/-- convexpl.Least of a valid function, by its values -/
theorem least_good {lo va : Int} {st : List (Int × Int)} (h : ccheck lo va st = 0) : ∃ x, cLeast lo va st = (x, cvat lo va st x, 0) ∧ lo ≤ x ∧ x ≤ chigh lo st ∧ ∀ y, lo ≤ y → y ≤ chigh lo st → cvat lo va st x ≤ cvat lo va st y := by
  have g := (ccheck_ok h).1
  have hb := lowR_bd (s := 0) g.long
  have e : chigh lo st = lo + total st := rfl
  refine ⟨lo + lowR 0 st, by unfold cLeast; rw [if_neg (by simpa using h)], by omega, by omega, fun y y0 y1 => ?_⟩
  have := (low_least g.long g.up (y - lo) (by omega)).1
  unfold cvat
  rw [show lo + lowR 0 st - lo = lowR 0 st by omega]
  omega
section
variable (beg up down : Int) (ls : List (Int × Int)) (ts : List Int)
/-- the functions of ramp.Nearest -/
def rF : Nat → Cx × Int
  | 0 => ((beg, 0, []), 0)
  | k + 1 => if (rF k).2 ≠ 0 then rF k else rStep down up (rF k).1 (ls.getD k (0, 0)).1 (ls.getD k (0, 0)).2 (ts.getD k 0)
/-- the powers of ramp.Nearest, from the last one -/
def rY (n : Nat) : Nat → Int
  | 0 => (cLeast (rF beg up down ls ts n).1.1 (rF beg up down ls ts n).1.2.1 (rF beg up down ls ts n).1.2.2).1
  | j + 1 => (cLeast (cRestrict (rF beg up down ls ts (n - (j + 1))).1.1 (rF beg up down ls ts (n - (j + 1))).1.2.1 (rF beg up down ls ts (n - (j + 1))).1.2.2 (rY n j - up) (rY n j + down)).1.1
      (cRestrict (rF beg up down ls ts (n - (j + 1))).1.1 (rF beg up down ls ts (n - (j + 1))).1.2.1 (rF beg up down ls ts (n - (j + 1))).1.2.2 (rY n j - up) (rY n j + down)).1.2.1
      (cRestrict (rF beg up down ls ts (n - (j + 1))).1.1 (rF beg up down ls ts (n - (j + 1))).1.2.1 (rF beg up down ls ts (n - (j + 1))).1.2.2 (rY n j - up) (rY n j + down)).1.2.2).1
/-- the power before period k -/
def lastP (ps : List Int) (k : Nat) : Int := if k = 0 then beg else ps.getD (k - 1) 0
/-- the first k powers are a schedule -/
def feasP (ps : List Int) (k : Nat) : Prop := ∀ i, i < k → (ls.getD i (0, 0)).1 ≤ ps.getD i 0 ∧ ps.getD i 0 ≤ (ls.getD i (0, 0)).2 ∧ -down ≤ ps.getD i 0 - lastP beg ps i ∧ ps.getD i 0 - lastP beg ps i ≤ up
def distP (ps : List Int) (k : Nat) : Int := sumN (fun i => max (ps.getD i 0 - ts.getD i 0) (ts.getD i 0 - ps.getD i 0)) k
end
/-- limits and targets that are permitted -/
structure ROk (beg up down : Int) (ls : List (Int × Int)) (ts : List Int) (n : Nat) : Prop where
  hn : n ≤ 24
  hb : 0 ≤ beg ∧ beg ≤ 100000
  hu : 0 ≤ up ∧ up ≤ 100000
  hd : 0 ≤ down ∧ down ≤ 100000
  hl : ∀ i, i < n → 0 ≤ (ls.getD i (0, 0)).1 ∧ (ls.getD i (0, 0)).2 ≤ 100000
  ht : ∀ i, i < n → 0 ≤ ts.getD i 0 ∧ ts.getD i 0 ≤ 100000
section
variable {beg up down : Int} {ls : List (Int × Int)} {ts ps : List Int} {n : Nat}
theorem rF_inv (h : ROk beg up down ls ts n) (k : Nat) (hk : k ≤ n) : (rF beg up down ls ts k).2 = 8 ∨ ((rF beg up down ls ts k).2 = 0 ∧ RInv k (rF beg up down ls ts k).1) := by
  have hb := h.hb
  induction k with
  | zero =>
    right
    refine ⟨rfl, ⟨small_ok (by simp [rF]) (by simp [rF]) (by simp [rF]) (by simp only [rF]; omega) (by simp [rF, total]; omega) (by simp [rF]) (by simp [rF]), by simp [rF, Cx.lo]; omega, by simp [rF, Cx.lo, Cx.hi, chigh, total], by simp [rF, Cx.hi, chigh, total]; omega, by simp [rF], fun x _ _ => by simp [rF, Cx.V, cvat, costR]⟩⟩
  | succ k ih =>
    rcases ih (by omega) with e | ⟨e, hi⟩
    · left; rw [rF, if_pos (by omega), e]
    · rw [rF, if_neg (by simpa using e)]
      have hl := h.hl k (by omega)
      have ht := h.ht k (by omega)
      have hn := h.hn
      rcases ramp_step (low := (ls.getD k (0, 0)).1) (hi := (ls.getD k (0, 0)).2) (t := ts.getD k 0) hi (by omega) h.hd.1 h.hd.2 h.hu.1 h.hu.2 hl.1 hl.2 ht.1 ht.2 with ⟨e2, _⟩ | ⟨g, e2, hg, _⟩
      · left; rw [e2]
      · right; rw [e2]; exact ⟨rfl, hg⟩
theorem rF_stay {k m : Nat} (hkm : k ≤ m) (he : (rF beg up down ls ts m).2 = 0) : (rF beg up down ls ts k).2 = 0 := by
  induction m with
  | zero => rw [show k = 0 by omega]; exact he
  | succ m ih =>
    by_cases e : k = m + 1
    · rw [e]; exact he
    · refine ih (by omega) ?_
      by_cases e2 : (rF beg up down ls ts m).2 = 0
      · exact e2
      · rw [rF, if_pos e2] at he; exact absurd he e2
theorem rF_stuck {k m : Nat} (hkm : k ≤ m) (he : (rF beg up down ls ts k).2 ≠ 0) : rF beg up down ls ts m = rF beg up down ls ts k := by
  induction m with
  | zero => rw [show k = 0 by omega]
  | succ m ih =>
    by_cases e : k = m + 1
    · rw [e]
    · have i := ih (by omega)
      rw [rF, if_pos (by rw [i]; exact he), i]
/-- what a period of Nearest says -/
theorem rF_step (h : ROk beg up down ls ts n) {k : Nat} (hk : k < n) (e : (rF beg up down ls ts k).2 = 0) :
    ((rF beg up down ls ts (k + 1)).2 = 8 ∧ min ((rF beg up down ls ts k).1.hi + up) (ls.getD k (0, 0)).2 < max ((rF beg up down ls ts k).1.lo - down) (ls.getD k (0, 0)).1) ∨
    ((rF beg up down ls ts (k + 1)).2 = 0 ∧ (rF beg up down ls ts (k + 1)).1.lo = max ((rF beg up down ls ts k).1.lo - down) (ls.getD k (0, 0)).1 ∧ (rF beg up down ls ts (k + 1)).1.hi = min ((rF beg up down ls ts k).1.hi + up) (ls.getD k (0, 0)).2 ∧
      (∀ x y, (rF beg up down ls ts k).1.lo ≤ x → x ≤ (rF beg up down ls ts k).1.hi → -down ≤ y - x → y - x ≤ up → (ls.getD k (0, 0)).1 ≤ y → y ≤ (ls.getD k (0, 0)).2 → (rF beg up down ls ts (k + 1)).1.V y ≤ (rF beg up down ls ts k).1.V x + max (y - ts.getD k 0) (ts.getD k 0 - y)) ∧
      (∀ y, (rF beg up down ls ts (k + 1)).1.lo ≤ y → y ≤ (rF beg up down ls ts (k + 1)).1.hi → ∃ x, (rF beg up down ls ts k).1.lo ≤ x ∧ x ≤ (rF beg up down ls ts k).1.hi ∧ -down ≤ y - x ∧ y - x ≤ up ∧ (rF beg up down ls ts (k + 1)).1.V y = (rF beg up down ls ts k).1.V x + max (y - ts.getD k 0) (ts.getD k 0 - y))) := by
  rcases rF_inv h k (by omega) with e1 | ⟨_, hi⟩
  · omega
  have hl := h.hl k hk
  have ht := h.ht k hk
  have hn := h.hn
  rw [rF, if_neg (by simpa using e)]
  rcases ramp_step (low := (ls.getD k (0, 0)).1) (hi := (ls.getD k (0, 0)).2) (t := ts.getD k 0) hi (by omega) h.hd.1 h.hd.2 h.hu.1 h.hu.2 hl.1 hl.2 ht.1 ht.2 with ⟨e2, a⟩ | ⟨g, e2, _, a, b, c, d⟩
  · left; rw [e2]; exact ⟨rfl, a⟩
  · right; rw [e2]; exact ⟨rfl, a, b, c, d⟩
/-- a schedule is at least as far as the value of its last power -/
theorem ramp_above (h : ROk beg up down ls ts n) (k : Nat) (hk : k ≤ n) (hf : feasP beg up down ls ps k) : (rF beg up down ls ts k).2 = 0 ∧ (rF beg up down ls ts k).1.lo ≤ lastP beg ps k ∧ lastP beg ps k ≤ (rF beg up down ls ts k).1.hi ∧ (rF beg up down ls ts k).1.V (lastP beg ps k) ≤ distP ts ps k := by
  induction k with
  | zero => simp [rF, lastP, Cx.lo, Cx.hi, Cx.V, chigh, total, cvat, costR, distP, sumN]
  | succ k ih =>
    obtain ⟨i0, i1, i2, i3⟩ := ih (by omega) fun i hi => hf i (by omega)
    obtain ⟨f1, f2, f3, f4⟩ := hf k (by omega)
    have el : lastP beg ps (k + 1) = ps.getD k 0 := rfl
    have ed : distP ts ps (k + 1) = distP ts ps k + max (ps.getD k 0 - ts.getD k 0) (ts.getD k 0 - ps.getD k 0) := rfl
    rw [el, ed]
    rcases rF_step h (by omega) i0 with ⟨_, a⟩ | ⟨a, b, c, d, _⟩
    · omega
    · exact ⟨a, by omega, by omega, by have := d _ _ i1 i2 f3 f4 f1 f2; omega⟩
/-- the powers of Nearest: each is in its function, and the steps are permitted at the cost that the functions say -/
theorem rY_ok (h : ROk beg up down ls ts n) (e : (rF beg up down ls ts n).2 = 0) (j : Nat) (hj : j < n) :
    (rF beg up down ls ts (n - j)).1.lo ≤ rY beg up down ls ts n j ∧ rY beg up down ls ts n j ≤ (rF beg up down ls ts (n - j)).1.hi ∧
    (∀ i, i < j → -down ≤ rY beg up down ls ts n i - rY beg up down ls ts n (i + 1) ∧ rY beg up down ls ts n i - rY beg up down ls ts n (i + 1) ≤ up ∧
      (rF beg up down ls ts (n - i)).1.V (rY beg up down ls ts n i) = (rF beg up down ls ts (n - (i + 1))).1.V (rY beg up down ls ts n (i + 1)) + max (rY beg up down ls ts n i - ts.getD (n - (i + 1)) 0) (ts.getD (n - (i + 1)) 0 - rY beg up down ls ts n i)) := by
  induction j with
  | zero =>
    rcases rF_inv h n (Nat.le_refl _) with e1 | ⟨_, hi⟩
    · omega
    obtain ⟨x, ex, x0, x1, _⟩ := least_good hi.ok
    rw [Nat.sub_zero, rY, ex]
    exact ⟨x0, x1, fun i hi => absurd hi (by omega)⟩
  | succ j ih =>
    obtain ⟨i1, i2, i3⟩ := ih (by omega)
    have en : n - j = n - (j + 1) + 1 := by omega
    have e0 := rF_stay (k := n - (j + 1)) (by omega) e
    rcases rF_step h (k := n - (j + 1)) (by omega) e0 with ⟨a, _⟩ | ⟨a, b, c, d, s⟩
    · have := rF_stay (k := n - (j + 1) + 1) (by omega) e; omega
    rw [en] at i1 i2
    obtain ⟨x, x0, x1, k0, k1, ev⟩ := s _ i1 i2
    rcases rF_inv h (n - (j + 1)) (by omega) with e1 | ⟨_, hi⟩
    · omega
    have hl := h.hl (n - (j + 1)) (by omega)
    have e2 : (rF beg up down ls ts (n - (j + 1))).1.lo = (rF beg up down ls ts (n - (j + 1))).1.1 := rfl
    have e3 : (rF beg up down ls ts (n - (j + 1))).1.hi = chigh (rF beg up down ls ts (n - (j + 1))).1.1 (rF beg up down ls ts (n - (j + 1))).1.2.2 := rfl
    obtain ⟨R, eR, cR, hR, vR⟩ := restrict_good (low := rY beg up down ls ts n j - up) (hi := rY beg up down ls ts n j + down) hi.ok (by omega)
    obtain ⟨y, ey, y0, y1, ymin⟩ := least_good cR
    have eY : rY beg up down ls ts n (j + 1) = y := by rw [rY, eR]; simp only; rw [ey]
    rw [hR] at y1 ymin
    have hv := ymin x (by omega) (by omega)
    rw [vR y y0 y1, vR x (by omega) (by omega)] at hv
    have hd := d y (rY beg up down ls ts n j) (by omega) (by omega) (by omega) (by omega) (by omega) (by omega)
    rw [eY]
    refine ⟨by omega, by omega, fun i hi => ?_⟩
    by_cases hij : i = j
    · subst hij
      rw [eY, en]
      refine ⟨by omega, by omega, ?_⟩
      simp only [Cx.V] at hd ev ⊢
      omega
    · exact i3 i (by omega)
end
end Go.Proofs.Ytchafkocobbndaa.Pl
