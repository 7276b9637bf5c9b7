/- Plain functions for values, arguments and the least value of convex functions, and their laws; nothing of the program stands here. -/
import Derived.Test.YthodaikggpbiiaaPConvex
namespace Go.Proofs.Ythodaikggpbiiaa.Pl
def vacc (va left : Int) (ps : List (Int × Int)) : Int × Int := ps.foldl cstep (va, left)
theorem vacc_snoc (va left : Int) (ps : List (Int × Int)) (p : Int × Int) : vacc va left (ps ++ [p]) = cstep (vacc va left ps) p := by unfold vacc; rw [List.foldl_append]; rfl
/-- convexpl.high, convexpl.at -/
def chigh (lo : Int) (ps : List (Int × Int)) : Int := lo + total ps
def cvat (lo va : Int) (ps : List (Int × Int)) (x : Int) : Int := va + costR ps (x - lo)
theorem vacc_at (lo va : Int) (ps : List (Int × Int)) (x : Int) : (vacc va (x - lo) ps).1 = cvat lo va ps x := cfold ps va (x - lo)
/-- convexpl.lowest -/
def lowR (s : Int) : List (Int × Int) → Int
  | [] => 0
  | p :: ps => if s ≤ p.2 then 0 else p.1 + lowR s ps
theorem lowR_all {s : Int} {ps : List (Int × Int)} (h : ∀ p ∈ ps, p.2 < s) : lowR s ps = total ps := by
  induction ps with
  | nil => rfl
  | cons p ps ih =>
    have := h p (by simp)
    rw [lowR, if_neg (by omega), total_cons, ih fun q hq => h q (by simp [hq])]
theorem lowR_stop {s : Int} (l r : List (Int × Int)) (p : Int × Int) (h : ∀ q ∈ l, q.2 < s) (hp : s ≤ p.2) : lowR s (l ++ p :: r) = total l := by
  induction l with
  | nil => rw [List.nil_append, lowR, if_pos hp]; rfl
  | cons q l ih =>
    have := h q (by simp)
    rw [List.cons_append, lowR, if_neg (by omega), total_cons, ih fun q hq => h q (by simp [hq])]
theorem total_pos {ps : List (Int × Int)} (h : ∀ p ∈ ps, 1 ≤ p.1) : 0 ≤ total ps := by
  induction ps with
  | nil => simp [total]
  | cons p ps ih => rw [total_cons]; have := h p (by simp); have := ih fun q hq => h q (by simp [hq]); omega
theorem lowR_bd {s : Int} {ps : List (Int × Int)} (h : ∀ p ∈ ps, 1 ≤ p.1) : 0 ≤ lowR s ps ∧ lowR s ps ≤ total ps := by
  induction ps with
  | nil => simp [lowR, total]
  | cons p ps ih =>
    have h1 := h p (by simp)
    have h2 := ih fun q hq => h q (by simp [hq])
    rw [lowR, total_cons]
    split <;> omega
theorem total_take_bd {ps : List (Int × Int)} (h : ∀ p ∈ ps, 1 ≤ p.1) (k : Nat) : 0 ≤ total (ps.take k) ∧ total (ps.take k) ≤ total ps := by
  refine ⟨total_pos fun p hp => h p (List.mem_of_mem_take hp), ?_⟩
  have e : total ps = total (ps.take k) + total (ps.drop k) := by
    conv => lhs; rw [← List.take_append_drop k ps]
    generalize ps.take k = a
    generalize ps.drop k = b
    induction a with
    | nil => simp [total]
    | cons p a ih => rw [List.cons_append, total_cons, total_cons, ih]; omega
  have := total_pos (ps := ps.drop k) fun p hp => h p (List.mem_of_mem_drop hp)
  omega
theorem GoodC.long {lo va : Int} {ps : List (Int × Int)} (h : GoodC lo va ps) : ∀ p ∈ ps, 1 ≤ p.1 := fun p hp => (h.step p hp).1
/-- what a run of convexpl.at can reach -/
theorem vacc_bd {lo va : Int} {ps : List (Int × Int)} (h : GoodC lo va ps) (hva : -1000000000000000 ≤ va ∧ va ≤ 1000000000000000) (left : Int) (h0 : 0 ≤ left) (h1 : left ≤ 2000000) (k : Nat) :
    0 ≤ (vacc va left (ps.take k)).2 ∧ (vacc va left (ps.take k)).2 ≤ 2000000 ∧ -1000000000000000 - 20000000000000 * (k : Int) ≤ (vacc va left (ps.take k)).1 ∧ (vacc va left (ps.take k)).1 ≤ 1000000000000000 + 20000000000000 * (k : Int) := by
  induction k with
  | zero => simp [vacc]; omega
  | succ k ih =>
    obtain ⟨i1, i2, i3, i4⟩ := ih
    rcases Nat.lt_or_ge k ps.length with hk | hk
    · rw [List.take_succ_eq_append_getElem hk, vacc_snoc]
      obtain ⟨s1, s2, s3, s4⟩ := h.step ps[k] (List.getElem_mem hk)
      generalize vacc va left (ps.take k) = a at *
      generalize ps[k] = p at *
      simp only [cstep]
      have hm := piece_bd (m := min a.2 p.1) (p := p.2) (by omega) (by omega) s3 s4
      refine ⟨?_, ?_, ?_, ?_⟩ <;> omega
    · rw [List.take_of_length_le (by omega)]
      rw [List.take_of_length_le hk] at i1 i2 i3 i4
      refine ⟨?_, ?_, ?_, ?_⟩ <;> omega
theorem costR_zero {ps : List (Int × Int)} (h : ∀ p ∈ ps, 1 ≤ p.1) : costR ps 0 = 0 := by
  induction ps with
  | nil => rfl
  | cons p ps ih =>
    have := h p (by simp)
    rw [costR, show min 0 p.1 = 0 by omega, Int.zero_mul, show (0 : Int) - 0 = 0 by omega, ih fun q hq => h q (by simp [hq])]
    omega
theorem costR_up {ps : List (Int × Int)} (h : ∀ p ∈ ps, 1 ≤ p.1) (hs : ∀ p ∈ ps, 0 ≤ p.2) (x : Int) (hx : 0 ≤ x) : 0 ≤ costR ps x := by
  induction ps generalizing x with
  | nil => simp [costR]
  | cons p ps ih =>
    have h1 := h p (by simp)
    have h2 := ih (fun q hq => h q (by simp [hq])) (fun q hq => hs q (by simp [hq])) (x - min x p.1) (by omega)
    have h3 : 0 ≤ min x p.1 * p.2 := Int.mul_nonneg (by omega) (hs p (by simp))
    rw [costR]
    omega
/-- lowest: the least argument of the least value -/
theorem low_least {ps : List (Int × Int)} (h : ∀ p ∈ ps, 1 ≤ p.1) (hu : ps.Pairwise (fun a b => a.2 < b.2)) (x : Int) (hx : 0 ≤ x) :
    costR ps (lowR 0 ps) ≤ costR ps x ∧ (costR ps (lowR 0 ps) < costR ps x ∨ lowR 0 ps ≤ x) := by
  induction ps generalizing x with
  | nil => simp [lowR, costR]; exact hx
  | cons p ps ih =>
    have h1 := h p (by simp)
    have ht : ∀ q ∈ ps, 1 ≤ q.1 := fun q hq => h q (by simp [hq])
    obtain ⟨u1, u2⟩ := List.pairwise_cons.1 hu
    by_cases hp : 0 ≤ p.2
    · rw [lowR, if_pos hp, costR_zero h]
      refine ⟨costR_up h (fun q hq => ?_) x hx, .inr hx⟩
      rcases List.mem_cons.1 hq with rfl | hq
      · exact hp
      · have := u1 q hq; omega
    · have hb := lowR_bd (s := 0) ht
      have e : costR (p :: ps) (lowR 0 (p :: ps)) = p.1 * p.2 + costR ps (lowR 0 ps) := by
        rw [lowR, if_neg hp, costR, show min (p.1 + lowR 0 ps) p.1 = p.1 by omega, show p.1 + lowR 0 ps - p.1 = lowR 0 ps by omega]
      rw [e, lowR, if_neg hp, costR]
      by_cases hx1 : p.1 ≤ x
      · have := ih ht u2 (x - p.1) (by omega)
        rw [show min x p.1 = p.1 by omega]
        omega
      · rw [show min x p.1 = x by omega, show x - x = 0 by omega]
        have h2 := (ih ht u2 0 (by omega)).1
        have h3 : p.1 * p.2 < x * p.2 := Int.mul_lt_mul_of_neg_right (by omega) (by omega)
        omega
end Go.Proofs.Ythodaikggpbiiaa.Pl
