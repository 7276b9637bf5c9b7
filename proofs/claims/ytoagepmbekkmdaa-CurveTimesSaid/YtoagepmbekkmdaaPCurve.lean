/- Plain functions for package curve and for the reference Slow, and their laws; nothing of the program stands here. A point is a pair: multiple, time. -/
import Derived.Test.YtoagepmbekkmdaaPHours
namespace Go.Proofs.Ytoagepmbekkmdaa.Pl
/-- one point of curve.Check, with the point before it -/
def cvbad (pr : Option (Int × Int)) (p : Int × Int) : Int :=
  if (outB p.1 100 10000 || outB p.2 0 3600000) = true then 4 else match pr with
    | some q => if p.1 ≤ q.1 ∨ q.2 < p.2 then 3 else 0
    | none => 0
def cvR : Option (Int × Int) → List (Int × Int) → Int
  | _, [] => 0
  | pr, p :: ps => if cvbad pr p ≠ 0 then cvbad pr p else cvR (some p) ps
def cvcheck (st : List (Int × Int)) : Int := if 32 < st.length then 2 else if st.length < 2 then 3 else cvR none st
/-- what a valid characteristic is -/
def GoodV : List (Int × Int) → Prop
  | [] => True
  | p :: ps => (100 ≤ p.1 ∧ p.1 ≤ 10000 ∧ 0 ≤ p.2 ∧ p.2 ≤ 3600000) ∧ (∀ q, ps.head? = some q → p.1 < q.1 ∧ q.2 ≤ p.2) ∧ GoodV ps
theorem cvbad_ok {pr : Option (Int × Int)} {p : Int × Int} (h : cvbad pr p = 0) : (100 ≤ p.1 ∧ p.1 ≤ 10000 ∧ 0 ≤ p.2 ∧ p.2 ≤ 3600000) ∧ ∀ q, pr = some q → q.1 < p.1 ∧ p.2 ≤ q.2 := by
  unfold cvbad at h
  split at h
  · omega
  · rename_i h1
    have h2 : (outB p.1 100 10000 || outB p.2 0 3600000) = false := by simpa using h1
    rw [Bool.or_eq_false_iff, outB_false, outB_false] at h2
    refine ⟨by omega, fun q hq => ?_⟩
    subst hq
    simp only at h
    split at h <;> omega
theorem cvR_ok {pr : Option (Int × Int)} {st : List (Int × Int)} (h : cvR pr st = 0) : GoodV st ∧ ∀ q p, pr = some q → st.head? = some p → q.1 < p.1 ∧ p.2 ≤ q.2 := by
  induction st generalizing pr with
  | nil => exact ⟨trivial, fun q p _ h => by cases h⟩
  | cons p ps ih =>
    unfold cvR at h
    by_cases h0 : cvbad pr p = 0
    · rw [if_neg (by simpa using h0)] at h
      obtain ⟨g, i⟩ := ih h
      obtain ⟨b1, b2⟩ := cvbad_ok h0
      exact ⟨⟨b1, fun q hq => i p q rfl hq, g⟩, fun q p' hq hp => by injection hp with hp; subst hp; exact b2 q hq⟩
    · rw [if_pos h0] at h; exact absurd h h0
theorem cvcheck_ok {st : List (Int × Int)} (h : cvcheck st = 0) : GoodV st ∧ 2 ≤ st.length ∧ st.length ≤ 32 := by
  unfold cvcheck at h
  by_cases h1 : 32 < st.length
  · rw [if_pos h1] at h; omega
  · rw [if_neg h1] at h
    by_cases h2 : st.length < 2
    · rw [if_pos h2] at h; omega
    · rw [if_neg h2] at h
      exact ⟨(cvR_ok h).1, by omega, by omega⟩
theorem GoodV.at_ {st : List (Int × Int)} (h : GoodV st) (k : Nat) (hk : k < st.length) : 100 ≤ st[k].1 ∧ st[k].1 ≤ 10000 ∧ 0 ≤ st[k].2 ∧ st[k].2 ≤ 3600000 := by
  induction st generalizing k with
  | nil => simp at hk
  | cons p ps ih =>
    cases k with
    | zero => exact h.1
    | succ k => exact ih h.2.2 k (by simpa using hk)
theorem GoodV.next {st : List (Int × Int)} (h : GoodV st) (k : Nat) (hk : k + 1 < st.length) : st[k].1 < st[k + 1].1 ∧ st[k + 1].2 ≤ st[k].2 := by
  induction st generalizing k with
  | nil => simp at hk
  | cons p ps ih =>
    cases k with
    | zero =>
      cases ps with
      | nil => simp at hk
      | cons q ps => exact h.2.1 q rfl
    | succ k => exact ih h.2.2 k (by simpa using hk)
/-- curve.time: the point before, the points that follow -/
def vstep (p m : Int) (a b : Int × Int) : Int := a.2 - (a.2 - b.2) * (m - a.1 * p) / (p * (b.1 - a.1))
def vtimeR (p m : Int) : Int × Int → List (Int × Int) → Int
  | a, [] => a.2
  | a, b :: r => if m ≤ b.1 * p then vstep p m a b else vtimeR p m b r
def vtime (st : List (Int × Int)) (p cur : Int) : Int × Bool := match st with
  | [] => (0, false)
  | a :: r => if 100 * cur < a.1 * p then (0, false) else (vtimeR p (100 * cur) a r, true)
/-- the reference Slow: between two points -/
def slowN (p m : Int) (a b : Int × Int) : Int := a.2 * (b.1 * p - m) + b.2 * (m - a.1 * p)
def slowD (p m : Int) (a b : Int × Int) : Int := (m - a.1 * p) + (b.1 * p - m)
def slowAt (p m : Int) (a b : Int × Int) : Int := if slowN p m a b / slowD p m a b * slowD p m a b < slowN p m a b then slowN p m a b / slowD p m a b + 1 else slowN p m a b / slowD p m a b
theorem ceil_eq (t y D : Int) (hD : 0 < D) : (if (t * D - y) / D * D < t * D - y then (t * D - y) / D + 1 else (t * D - y) / D) = t - y / D := by
  have e := Int.emod_add_mul_ediv y D
  have r0 := Int.emod_nonneg y (show D ≠ 0 by omega)
  have r1 := Int.emod_lt_of_pos y hD
  generalize y / D = q at *
  generalize y % D = r at *
  have e2 : t * D - y = (t - q) * D - r := by rw [Int.sub_mul, Int.mul_comm q D]; omega
  rw [e2]
  by_cases hr : r = 0
  · subst hr
    rw [Int.sub_zero, Int.mul_ediv_cancel _ (by omega), if_neg (by omega)]
  · have e3 : ((t - q) * D - r) / D = t - q - 1 := by
      have e4 : (t - q) * D - r = (D - r) + (t - q - 1) * D := by rw [Int.sub_mul (t - q) 1 D]; omega
      rw [e4, Int.add_mul_ediv_right _ _ (by omega), Int.ediv_eq_zero_of_lt (by omega) (by omega)]
      omega
    rw [e3, if_pos (by rw [Int.sub_mul (t - q) 1 D]; omega)]
    omega
theorem slow_step (p m : Int) (a b : Int × Int) (hp : 0 < p) (hab : a.1 < b.1) : slowAt p m a b = vstep p m a b := by
  have hD : 0 < p * (b.1 - a.1) := Int.mul_pos hp (by omega)
  have d : slowD p m a b = p * (b.1 - a.1) := by unfold slowD; rw [Int.mul_sub, Int.mul_comm p b.1, Int.mul_comm p a.1]; omega
  have n : slowN p m a b = a.2 * (p * (b.1 - a.1)) - (a.2 - b.2) * (m - a.1 * p) := by
    unfold slowN
    have : b.1 * p - m = p * (b.1 - a.1) - (m - a.1 * p) := by rw [Int.mul_sub, Int.mul_comm p b.1, Int.mul_comm p a.1]; omega
    rw [this, Int.mul_sub a.2, Int.sub_mul a.2 b.2]
    omega
  unfold slowAt vstep
  rw [d, n]
  exact ceil_eq _ _ _ hD
theorem vstep_end (p m : Int) (a b : Int × Int) (hp : 0 < p) (hab : a.1 < b.1) (h : m = b.1 * p) : vstep p m a b = b.2 := by
  have hD : 0 < p * (b.1 - a.1) := Int.mul_pos hp (by omega)
  have : m - a.1 * p = p * (b.1 - a.1) := by rw [h, Int.mul_sub, Int.mul_comm p b.1, Int.mul_comm p a.1]
  unfold vstep
  rw [this, Int.mul_ediv_cancel _ (by omega)]
  omega
theorem vstep_start (p m : Int) (a b : Int × Int) (h : m = a.1 * p) : vstep p m a b = a.2 := by
  unfold vstep; rw [h, Int.sub_self, Int.mul_zero, Int.zero_ediv]; omega
theorem vtimeR_mid (p m : Int) (hp : 0 < p) (a : Int × Int) (r : List (Int × Int)) (hg : GoodV (a :: r)) (k : Nat) (hk : k + 1 < (a :: r).length) (h1 : (a :: r)[k].1 * p ≤ m) (h2 : m < (a :: r)[k + 1].1 * p) :
    vtimeR p m a r = vstep p m (a :: r)[k] (a :: r)[k + 1] := by
  induction r generalizing a k with
  | nil => simp at hk
  | cons b r ih =>
    obtain ⟨_, hab, hg2⟩ := hg
    obtain ⟨hab1, _⟩ := hab b rfl
    cases k with
    | zero =>
      simp only [List.getElem_cons_zero, List.getElem_cons_succ] at h1 h2 ⊢
      rw [vtimeR, if_pos (by omega)]
    | succ k =>
      have hk2 : k + 1 < (b :: r).length := by simpa using hk
      have h1' : (b :: r)[k].1 * p ≤ m := h1
      have h2' : m < (b :: r)[k + 1].1 * p := h2
      rw [vtimeR]
      by_cases hm : m ≤ b.1 * p
      · rw [if_pos hm]
        cases k with
        | zero =>
          simp only [List.getElem_cons_zero, List.getElem_cons_succ] at h1' h2' ⊢
          rw [vstep_end p m a b hp hab1 (by omega), vstep_start p m b _ (by omega)]
        | succ k =>
          exfalso
          have hlt : ∀ (j : Nat) (hj : j + 1 < (b :: r).length), b.1 < (b :: r)[j + 1].1 := by
            intro j
            induction j with
            | zero => intro hj; exact (hg2.next 0 hj).1
            | succ j ih2 => intro hj; have := ih2 (by omega); have := (hg2.next (j + 1) hj).1; omega
          have h3 := hlt k (by omega)
          have : b.1 * p < (b :: r)[k + 1].1 * p := Int.mul_lt_mul_of_pos_right h3 hp
          omega
      · rw [if_neg hm]
        exact ih b hg2 k hk2 h1' h2'
theorem vtimeR_end (p m : Int) (hp : 0 < p) (a : Int × Int) (r : List (Int × Int)) (hg : GoodV (a :: r)) (hk : r.length < (a :: r).length) (h1 : (a :: r)[r.length].1 * p ≤ m) : vtimeR p m a r = (a :: r)[r.length].2 := by
  induction r generalizing a with
  | nil => rfl
  | cons b r ih =>
    obtain ⟨_, hab, hg2⟩ := hg
    obtain ⟨hab1, _⟩ := hab b rfl
    have h1' : (b :: r)[r.length].1 * p ≤ m := h1
    show _ = (b :: r)[r.length].2
    rw [vtimeR]
    by_cases hm : m ≤ b.1 * p
    · rw [if_pos hm]
      cases r with
      | nil => exact vstep_end p m a b hp hab1 (by simp at h1'; omega)
      | cons c r =>
        exfalso
        have hlt : ∀ (j : Nat) (hj : j + 1 < (b :: c :: r).length), b.1 < (b :: c :: r)[j + 1].1 := by
          intro j
          induction j with
          | zero => intro hj; exact (hg2.next 0 hj).1
          | succ j ih2 => intro hj; have := ih2 (by omega); have := (hg2.next (j + 1) hj).1; omega
        have hk3 : r.length + 1 < (b :: c :: r).length := by simp
        have h3 := hlt r.length hk3
        have : b.1 * p < (b :: c :: r)[r.length + 1].1 * p := Int.mul_lt_mul_of_pos_right h3 hp
        simp only [List.length_cons] at h1'
        omega
    · rw [if_neg hm]
      exact ih b hg2 (by simp) h1'
/-- curve.Time -/
def cTime (st : List (Int × Int)) (p cur : Int) : Int × Int :=
  if cvcheck st ≠ 0 then (0, cvcheck st) else if (outB p 1 1000000 || outB cur 0 1000000) = true then (0, 4) else if (vtime st p cur).2 = true then ((vtime st p cur).1, 0) else (0, 8)
end Go.Proofs.Ytoagepmbekkmdaa.Pl
