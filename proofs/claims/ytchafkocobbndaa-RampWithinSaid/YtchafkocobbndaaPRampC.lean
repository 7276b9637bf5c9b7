/- ramp.Nearest, plain: its powers are a schedule at its distance, and no other schedule is nearer. No program. -/
import Derived.Test.YtchafkocobbndaaPRampB
namespace Go.Proofs.Ytchafkocobbndaa.Pl
/-- the powers of Nearest -/
def rPow (beg up down : Int) (ls : List (Int × Int)) (ts : List Int) (n : Nat) : List Int := (List.range n).map fun i => rY beg up down ls ts n (n - 1 - i)
section
variable {beg up down : Int} {ls : List (Int × Int)} {ts ps : List Int} {n : Nat}
theorem rPow_at {i : Nat} (hi : i < n) : (rPow beg up down ls ts n).getD i 0 = rY beg up down ls ts n (n - 1 - i) := by
  unfold rPow
  rw [List.getD_eq_getElem?_getD, List.getElem?_map, List.getElem?_range hi]
  rfl
/-- the powers of Nearest, of which those from place k on are written -/
def rPart (beg up down : Int) (ls : List (Int × Int)) (ts : List Int) (n k : Nat) : List Int := (List.range n).map fun i => if i < k then 0 else rY beg up down ls ts n (n - 1 - i)
theorem rPart_len (k : Nat) : (rPart beg up down ls ts n k).length = n := by unfold rPart; simp
theorem rPart_all : rPart beg up down ls ts n n = List.replicate n 0 := by
  refine List.ext_getElem (by simp [rPart]) fun i h1 h2 => ?_
  rw [rPart_len] at h1
  simp [rPart, h1]
theorem rPart_zero : rPart beg up down ls ts n 0 = rPow beg up down ls ts n := by unfold rPart rPow; simp
theorem rPart_set (j : Nat) : (rPart beg up down ls ts n (j + 1)).set j (rY beg up down ls ts n (n - 1 - j)) = rPart beg up down ls ts n j := by
  refine List.ext_getElem (by simp [rPart]) fun i h1 h2 => ?_
  rw [List.getElem_set]
  simp only [rPart, List.getElem_map, List.getElem_range]
  by_cases e : j = i
  · subst e; rw [if_pos rfl, if_neg (Nat.lt_irrefl _)]
  · rw [if_neg e]
    by_cases h : i < j
    · rw [if_pos h, if_pos (Nat.lt_succ_of_lt h)]
    · rw [if_neg h, if_neg (fun h2 => (Nat.lt_succ_iff_lt_or_eq.1 h2).elim h (fun h3 => e h3.symm))]
theorem rPart_at {i k : Nat} (hi : i < n) (hk : k ≤ i) : (rPart beg up down ls ts n k).getD i 0 = rY beg up down ls ts n (n - 1 - i) := by
  unfold rPart
  rw [List.getD_eq_getElem?_getD, List.getElem?_map, List.getElem?_range hi]
  simp [Nat.not_lt.2 hk]
/-- the powers of Nearest: the first k of them -/
theorem rPow_ok (h : ROk beg up down ls ts n) (e : (rF beg up down ls ts n).2 = 0) (k : Nat) (hk : k ≤ n) :
    feasP beg up down ls (rPow beg up down ls ts n) k ∧ (rF beg up down ls ts k).1.lo ≤ lastP beg (rPow beg up down ls ts n) k ∧ lastP beg (rPow beg up down ls ts n) k ≤ (rF beg up down ls ts k).1.hi ∧ (rF beg up down ls ts k).1.V (lastP beg (rPow beg up down ls ts n) k) = distP ts (rPow beg up down ls ts n) k := by
  induction k with
  | zero => exact ⟨fun i hi => absurd hi (by omega), by simp [rF, lastP, Cx.lo, Cx.hi, Cx.V, chigh, total, cvat, costR, distP, sumN]⟩
  | succ k ih =>
    obtain ⟨i1, i2, i3, i4⟩ := ih (by omega)
    have el : lastP beg (rPow beg up down ls ts n) (k + 1) = rY beg up down ls ts n (n - 1 - k) := rPow_at (by omega)
    have ep : (rPow beg up down ls ts n).getD k 0 = rY beg up down ls ts n (n - 1 - k) := rPow_at (by omega)
    obtain ⟨y1, y2, _⟩ := rY_ok h e (n - 1 - k) (by omega)
    rw [show n - (n - 1 - k) = k + 1 by omega] at y1 y2
    have e0 := rF_stay (k := k) (by omega) e
    have e1 := rF_stay (k := k + 1) hk e
    rcases rF_step h (k := k) (by omega) e0 with ⟨a, _⟩ | ⟨_, b, c, d, s⟩
    · omega
    have key : -down ≤ rY beg up down ls ts n (n - 1 - k) - lastP beg (rPow beg up down ls ts n) k ∧ rY beg up down ls ts n (n - 1 - k) - lastP beg (rPow beg up down ls ts n) k ≤ up ∧
        (rF beg up down ls ts (k + 1)).1.V (rY beg up down ls ts n (n - 1 - k)) = (rF beg up down ls ts k).1.V (lastP beg (rPow beg up down ls ts n) k) + max (rY beg up down ls ts n (n - 1 - k) - ts.getD k 0) (ts.getD k 0 - rY beg up down ls ts n (n - 1 - k)) := by
      cases k with
      | zero =>
        obtain ⟨x, x0, x1, k0, k1, ev⟩ := s _ y1 y2
        have hx : x = beg := by simp [rF, Cx.lo, Cx.hi, chigh, total] at x0 x1; omega
        subst hx
        exact ⟨k0, k1, ev⟩
      | succ k =>
        have el2 : lastP beg (rPow beg up down ls ts n) (k + 1) = rY beg up down ls ts n (n - 1 - k) := rPow_at (by omega)
        obtain ⟨_, _, st⟩ := rY_ok h e (n - 1 - k) (by omega)
        obtain ⟨s1, s2, s3⟩ := st (n - 1 - (k + 1)) (by omega)
        rw [show n - 1 - (k + 1) + 1 = n - 1 - k by omega] at s1 s2 s3
        rw [show n - (n - 1 - (k + 1)) = k + 1 + 1 by omega, show n - (n - 1 - k) = k + 1 by omega] at s3
        rw [el2]
        exact ⟨s1, s2, s3⟩
    obtain ⟨key1, key2, key3⟩ := key
    have ed : distP ts (rPow beg up down ls ts n) (k + 1) = distP ts (rPow beg up down ls ts n) k + max ((rPow beg up down ls ts n).getD k 0 - ts.getD k 0) (ts.getD k 0 - (rPow beg up down ls ts n).getD k 0) := rfl
    rw [el]
    refine ⟨fun i hi => ?_, y1, y2, by rw [key3, i4, ed, ep]⟩
    by_cases hik : i = k
    · subst hik
      rw [ep]
      exact ⟨by omega, by omega, key1, key2⟩
    · exact i1 i (by omega)
theorem rY_bd (h : ROk beg up down ls ts n) (e : (rF beg up down ls ts n).2 = 0) (j : Nat) (hj : j < n) : 0 ≤ rY beg up down ls ts n j ∧ rY beg up down ls ts n j ≤ 100000 := by
  obtain ⟨a, b, _⟩ := rY_ok h e j hj
  rcases rF_inv h (n - j) (by omega) with e1 | ⟨_, hi⟩
  · have := rF_stay (k := n - j) (by omega) e; omega
  · have h1 := hi.lo; have h2 := hi.hi; omega
/-- RampKept, plain: at least one period -/
theorem ramp_kept (h : ROk beg up down ls ts n) (hn : 0 < n) (e : (rF beg up down ls ts n).2 = 0) :
    feasP beg up down ls (rPow beg up down ls ts n) n ∧ ∃ v, cLeast (rF beg up down ls ts n).1.1 (rF beg up down ls ts n).1.2.1 (rF beg up down ls ts n).1.2.2 = (rY beg up down ls ts n 0, v, 0) ∧ distP ts (rPow beg up down ls ts n) n = v ∧ ∀ ps, feasP beg up down ls ps n → v ≤ distP ts ps n := by
  obtain ⟨a, _, _, b⟩ := rPow_ok h e n (Nat.le_refl _)
  rcases rF_inv h n (Nat.le_refl _) with e1 | ⟨_, hi⟩
  · omega
  obtain ⟨x, ex, x0, x1, xm⟩ := least_good hi.ok
  have el : lastP beg (rPow beg up down ls ts n) n = rY beg up down ls ts n 0 := by
    have : lastP beg (rPow beg up down ls ts n) n = (rPow beg up down ls ts n).getD (n - 1) 0 := by unfold lastP; rw [if_neg (by omega)]
    rw [this, rPow_at (by omega), Nat.sub_self]
  have ey : rY beg up down ls ts n 0 = x := by rw [rY, ex]
  refine ⟨a, _, by rw [ex, ey], ?_, fun ps hp => ?_⟩
  · rw [← b, el, ey]; rfl
  · obtain ⟨_, p1, p2, p3⟩ := ramp_above h n (Nat.le_refl _) hp
    have := xm _ p1 p2
    simp only [Cx.V] at p3
    omega
/-- no schedule: none is possible -/
theorem ramp_none (h : ROk beg up down ls ts n) (e : (rF beg up down ls ts n).2 ≠ 0) : ¬ feasP beg up down ls ps n := fun hp => e (ramp_above h n (Nat.le_refl _) hp).1
end
def rOut (n hi : Int) : Bool := decide (n < 0) || decide (hi < n)
theorem rOut_false {n hi : Int} : rOut n hi = false ↔ 0 ≤ n ∧ n ≤ hi := by unfold rOut; simp
def badLim (p : Int × Int) : Bool := rOut p.1 p.2 || decide (100000 < p.2)
/-- ramp.Check -/
def rCheckP (ls : List (Int × Int)) (beg up down : Int) : Int := if 24 < ls.length then 2 else if (has badLim ls || rOut beg 100000 || rOut up 100000 || rOut down 100000) = true then 4 else 0
theorem rCheckP_ok {ls : List (Int × Int)} {beg up down : Int} (h : rCheckP ls beg up down = 0) : ls.length ≤ 24 ∧ (∀ p ∈ ls, 0 ≤ p.1 ∧ p.1 ≤ p.2 ∧ p.2 ≤ 100000) ∧ (0 ≤ beg ∧ beg ≤ 100000) ∧ (0 ≤ up ∧ up ≤ 100000) ∧ (0 ≤ down ∧ down ≤ 100000) := by
  unfold rCheckP at h
  by_cases h1 : 24 < ls.length
  · rw [if_pos h1] at h; cases h
  · rw [if_neg h1] at h
    cases e : (has badLim ls || rOut beg 100000 || rOut up 100000 || rOut down 100000)
    · simp only [Bool.or_eq_false_iff, rOut_false] at e
      obtain ⟨⟨⟨e1, e2⟩, e3⟩, e4⟩ := e
      refine ⟨by omega, fun p hp => ?_, e2, e3, e4⟩
      unfold has at e1
      rw [List.any_eq_false] at e1
      have := e1 p hp
      simp only [badLim, Bool.or_eq_true, not_or, Bool.not_eq_true, rOut_false, decide_eq_false_iff_not] at this
      omega
    · rw [e, if_pos rfl] at h; cases h
/-- the test of one period -/
def feasAt (beg up down : Int) (ls : List (Int × Int)) (ps : List Int) (i : Nat) : Prop := (ls.getD i (0, 0)).1 ≤ ps.getD i 0 ∧ ps.getD i 0 ≤ (ls.getD i (0, 0)).2 ∧ -down ≤ ps.getD i 0 - lastP beg ps i ∧ ps.getD i 0 - lastP beg ps i ≤ up
instance (beg up down : Int) (ls : List (Int × Int)) (ps : List Int) (i : Nat) : Decidable (feasAt beg up down ls ps i) := by unfold feasAt; infer_instance
def feasB (beg up down : Int) (ls : List (Int × Int)) (ps : List Int) : Nat → Bool
  | 0 => true
  | k + 1 => feasB beg up down ls ps k && decide (feasAt beg up down ls ps k)
theorem feasB_iff {beg up down : Int} {ls : List (Int × Int)} {ps : List Int} (k : Nat) : feasB beg up down ls ps k = true ↔ feasP beg up down ls ps k := by
  induction k with
  | zero => exact ⟨fun _ i hi => absurd hi (by omega), fun _ => rfl⟩
  | succ k ih =>
    rw [feasB, Bool.and_eq_true, ih, decide_eq_true_iff]
    constructor
    · rintro ⟨a, b⟩ i hi
      by_cases e : i = k
      · rw [e]; exact b
      · exact a i (by omega)
    · intro h
      exact ⟨fun i hi => h i (by omega), h k (by omega)⟩
theorem feasB_no {beg up down : Int} {ls : List (Int × Int)} {ps : List Int} {k m : Nat} (hk : k < m) (h : ¬ feasAt beg up down ls ps k) : feasB beg up down ls ps m = false := by
  cases e : feasB beg up down ls ps m
  · rfl
  · exact absurd ((feasB_iff m).1 e k hk) h
/-- ramp.Feasible -/
def rFeas (beg up down : Int) (ls : List (Int × Int)) (ps : List Int) : Bool × Int := if rCheckP ls beg up down ≠ 0 then (false, rCheckP ls beg up down) else if ps.length ≠ ls.length then (false, 3) else (feasB beg up down ls ps ls.length, 0)
/-- ramp.Nearest -/
def rNear (beg up down : Int) (ls : List (Int × Int)) (ts : List Int) : List Int × Int × Int := if rCheckP ls beg up down ≠ 0 then ([], 0, rCheckP ls beg up down) else if ts.length ≠ ls.length then ([], 0, 3) else if has (rOut · 100000) ts = true then ([], 0, 4)
  else if (rF beg up down ls ts ls.length).2 ≠ 0 then ([], 0, 8) else (rPow beg up down ls ts ls.length, if ls.length = 0 then 0 else (cLeast (rF beg up down ls ts ls.length).1.1 (rF beg up down ls ts ls.length).1.2.1 (rF beg up down ls ts ls.length).1.2.2).2.1, 0)
theorem rOk_of {beg up down : Int} {ls : List (Int × Int)} {ts : List Int} (h : rCheckP ls beg up down = 0) (hl : ts.length = ls.length) (ht : has (rOut · 100000) ts = false) : ROk beg up down ls ts ls.length := by
  obtain ⟨hn, hlim, hb, hu, hd⟩ := rCheckP_ok h
  refine ⟨hn, hb, hu, hd, fun i hi => ?_, fun i hi => ?_⟩
  · rw [List.getD_eq_getElem?_getD, List.getElem?_eq_getElem hi]
    have := hlim _ (List.getElem_mem hi)
    exact ⟨this.1, this.2.2⟩
  · have hi' : i < ts.length := by omega
    rw [List.getD_eq_getElem?_getD, List.getElem?_eq_getElem hi']
    unfold has at ht
    rw [List.any_eq_false] at ht
    have := ht _ (List.getElem_mem hi')
    simp only [Bool.not_eq_true, rOut_false] at this
    exact this
end Go.Proofs.Ytchafkocobbndaa.Pl
