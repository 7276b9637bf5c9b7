/- Plain functions for costs, supply and profit of offers, and their laws; nothing of the program stands here. -/
import Derived.Test.YtibhgcldogfonaaGreatDoorPOffer
import Derived.Test.YtibhgcldogfonaaGreatDoorPUnit
namespace Go.Proofs.YtibhgcldogfonaaGreatDoor.Pl
/-- offer.cost, as the loop computes it -/
def cstep (a : Int × Int) (p : Int × Int) : Int × Int := (a.1 + min a.2 p.1 * p.2, a.2 - min a.2 p.1)
def cacc (st : List (Int × Int)) (x : Int) : Int × Int := st.foldl cstep (0, x)
def ocost (st : List (Int × Int)) (x : Int) : Int := (cacc st x).1
theorem cacc_snoc (st : List (Int × Int)) (p : Int × Int) (x : Int) : cacc (st ++ [p]) x = cstep (cacc st x) p := by unfold cacc; rw [List.foldl_append]; rfl
/-- the same by recursion -/
def costR : List (Int × Int) → Int → Int
  | [], _ => 0
  | p :: st, x => min x p.1 * p.2 + costR st (x - min x p.1)
theorem cfold (st : List (Int × Int)) (c x : Int) : (st.foldl cstep (c, x)).1 = c + costR st x := by
  induction st generalizing c x with
  | nil => simp [costR]
  | cons p st ih => rw [List.foldl_cons, costR, show cstep (c, x) p = (c + min x p.1 * p.2, x - min x p.1) from rfl, ih]; omega
theorem ocost_eq (st : List (Int × Int)) (x : Int) : ocost st x = costR st x := by
  unfold ocost cacc; rw [cfold]; omega
theorem total_cons (p : Int × Int) (st : List (Int × Int)) : total (p :: st) = p.1 + total st := by
  have h : ∀ (l : List (Int × Int)) (n : Int), l.foldl (fun n p => n + p.1) n = n + total l := by
    intro l
    induction l with
    | nil => simp [total]
    | cons q l ih => intro n; unfold total; rw [List.foldl_cons, List.foldl_cons, ih, ih]; omega
  unfold total
  rw [List.foldl_cons, h]
  unfold total
  omega
theorem Good.tail {p : Int × Int} {st : List (Int × Int)} (h : Good (p :: st)) : Good st := by
  refine ⟨fun q hq => h.step q (by simp [hq]), (List.pairwise_cons.1 h.rise).2, ?_⟩
  have := h.sum
  rw [total_cons] at this
  have := (h.step p (by simp)).1
  omega
theorem Good.head {p : Int × Int} {st : List (Int × Int)} (h : Good (p :: st)) : 1 ≤ p.1 ∧ p.1 ≤ 100000 ∧ -1000000 ≤ p.2 ∧ p.2 ≤ 1000000 ∧ ∀ q ∈ st, p.2 ≤ q.2 := by
  obtain ⟨h1, h2, h3, h4⟩ := h.step p (by simp)
  exact ⟨h1, h2, h3, h4, (List.pairwise_cons.1 h.rise).1⟩
theorem Good.nonneg {st : List (Int × Int)} (h : Good st) : 0 ≤ total st := by
  have := (total_nonneg h st.length).1
  rwa [List.take_length] at this
/-- bounds of the loop of offer.cost -/
theorem cacc_bd {st : List (Int × Int)} (h : Good st) (x : Int) (h0 : 0 ≤ x) (h1 : x ≤ 100000) (k : Nat) : 0 ≤ (cacc (st.take k) x).2 ∧ (cacc (st.take k) x).2 ≤ 100000 ∧ -1000000 * (x - (cacc (st.take k) x).2) ≤ (cacc (st.take k) x).1 ∧ (cacc (st.take k) x).1 ≤ 1000000 * (x - (cacc (st.take k) x).2) := by
  have hs : ∀ p ∈ st.take k, 1 ≤ p.1 ∧ p.1 ≤ 100000 ∧ -1000000 ≤ p.2 ∧ p.2 ≤ 1000000 := fun p hp => h.step p (List.mem_of_mem_take hp)
  generalize st.take k = l at *
  induction l using snocInd with
  | h0 => simp [cacc]; omega
  | h1 l p ih =>
    obtain ⟨i1, i2, i3, i4⟩ := ih fun q hq => hs q (by simp [hq])
    obtain ⟨s1, s2, s3, s4⟩ := hs p (by simp)
    rw [cacc_snoc]
    generalize cacc l x = a at *
    obtain ⟨c, y⟩ := a
    simp only [cstep] at *
    obtain ⟨m, hm⟩ : ∃ m, m = min y p.1 := ⟨_, rfl⟩
    rw [← hm]
    have m0 : 0 ≤ m := by omega
    have m1 : m ≤ y := by omega
    have u1 : m * p.2 ≤ m * 1000000 := Int.mul_le_mul_of_nonneg_left s4 m0
    have u2 : m * (-1000000) ≤ m * p.2 := Int.mul_le_mul_of_nonneg_left s3 m0
    refine ⟨by omega, by omega, by omega, by omega⟩
theorem mul_bd {m p : Int} (m0 : 0 ≤ m) (m1 : m ≤ 100000) (s3 : -1000000 ≤ p) (s4 : p ≤ 1000000) : -100000000000 ≤ m * p ∧ m * p ≤ 100000000000 := by
  have u1 : m * p ≤ m * 1000000 := Int.mul_le_mul_of_nonneg_left s4 m0
  have u2 : m * (-1000000) ≤ m * p := Int.mul_le_mul_of_nonneg_left s3 m0
  omega
/-- offer.check -/
def opcheck (nm : ByteArray) (st : List (Int × Int)) (x : Int) : Int := if ocheck nm st ≠ 0 then ocheck nm st else if x < 0 ∨ total st < x then 4 else 0
theorem opcheck_ok {nm : ByteArray} {st : List (Int × Int)} {x : Int} (h : opcheck nm st x = 0) : Good st ∧ st.length ≤ 12 ∧ 0 ≤ x ∧ x ≤ total st ∧ ocheck nm st = 0 := by
  unfold opcheck at h
  by_cases h1 : ocheck nm st = 0
  · rw [if_neg (by simpa using h1)] at h
    by_cases h2 : x < 0 ∨ total st < x
    · rw [if_pos h2] at h; omega
    · obtain ⟨g, l, _⟩ := ocheck_ok h1
      exact ⟨g, l, by omega, by omega, h1⟩
  · rw [if_pos h1] at h; exact absurd h h1
/-- offer.Cost -/
def oCost (nm : ByteArray) (st : List (Int × Int)) (x : Int) : Int × Int := if opcheck nm st x ≠ 0 then (0, opcheck nm st x) else (ocost st x, 0)
/-- offer.Marginal: what the loop finds from here on -/
def marg (x : Int) : Int → Int → List (Int × Int) → Int × Int
  | _, last, [] => (last, 2000000)
  | s, last, p :: st => if x < s + p.1 then ((if s < x then p.2 else last), p.2) else marg x (s + p.1) (if s < x then p.2 else last) st
def oMarg (nm : ByteArray) (st : List (Int × Int)) (x : Int) : Int × Int × Int := if opcheck nm st x ≠ 0 then (0, 0, opcheck nm st x) else ((marg x 0 (-2000000) st).1, (marg x 0 (-2000000) st).2, 0)
/-- the price of unit x -/
def priceAt : List (Int × Int) → Int → Int
  | [], _ => 2000000
  | p :: st, x => if x < p.1 then p.2 else priceAt st (x - p.1)
theorem marg_next (x : Int) (s last : Int) (st : List (Int × Int)) : (marg x s last st).2 = priceAt st (x - s) := by
  induction st generalizing s last with
  | nil => rfl
  | cons p st ih =>
    unfold marg priceAt
    by_cases h : x < s + p.1
    · rw [if_pos h, if_pos (show x - s < p.1 by omega)]
    · rw [if_neg h, if_neg (show ¬ x - s < p.1 by omega), ih]
      have e : x - (s + p.1) = x - s - p.1 := by omega
      rw [e]
theorem cost_step {st : List (Int × Int)} (h : Good st) (x : Int) (h0 : 0 ≤ x) (h1 : x < total st) : costR st (x + 1) - costR st x = priceAt st x := by
  induction st generalizing x with
  | nil => simp [total] at h1; omega
  | cons p st ih =>
    obtain ⟨a1, a2, a3, a4, a5⟩ := h.head
    rw [total_cons] at h1
    unfold costR priceAt
    by_cases hx : x < p.1
    · rw [if_pos hx]
      have e1 : min (x + 1) p.1 = x + 1 := by omega
      have e2 : min x p.1 = x := by omega
      rw [e1, e2]
      have e3 : x + 1 - (x + 1) = 0 := by omega
      have e4 : x - x = 0 := by omega
      rw [e3, e4, Int.add_mul]
      omega
    · rw [if_neg hx]
      have e1 : min (x + 1) p.1 = p.1 := by omega
      have e2 : min x p.1 = p.1 := by omega
      rw [e1, e2]
      have := ih h.tail (x - p.1) (by omega) (by omega)
      have e3 : x + 1 - p.1 = x - p.1 + 1 := by omega
      rw [e3]
      omega
theorem price_ge {st : List (Int × Int)} {q : Int} (h : ∀ p ∈ st, q ≤ p.2) (hq : q ≤ 2000000) (x : Int) : q ≤ priceAt st x := by
  induction st generalizing x with
  | nil => exact hq
  | cons p st ih =>
    unfold priceAt
    split
    · exact h p (by simp)
    · exact ih (fun r hr => h r (by simp [hr])) _
theorem price_mono {st : List (Int × Int)} (h : Good st) (x : Int) (h0 : 0 ≤ x) : priceAt st x ≤ priceAt st (x + 1) := by
  induction st generalizing x with
  | nil => exact Int.le_refl _
  | cons p st ih =>
    obtain ⟨a1, a2, a3, a4, a5⟩ := h.head
    unfold priceAt
    by_cases hx : x + 1 < p.1
    · rw [if_pos hx, if_pos (by omega)]; exact Int.le_refl _
    · rw [if_neg hx]
      by_cases hx2 : x < p.1
      · rw [if_pos hx2]
        exact price_ge a5 (by omega) _
      · rw [if_neg hx2]
        have := ih h.tail (x - p.1) (by omega)
        have e3 : x + 1 - p.1 = x - p.1 + 1 := by omega
        rw [e3]; exact this
end Go.Proofs.YtibhgcldogfonaaGreatDoor.Pl
