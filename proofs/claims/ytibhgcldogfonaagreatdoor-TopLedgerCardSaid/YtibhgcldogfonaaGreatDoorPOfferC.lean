/- Plain law of supply and profit; nothing of the program stands here. -/
import Derived.Test.YtibhgcldogfonaaGreatDoorPOfferB
namespace Go.Proofs.YtibhgcldogfonaaGreatDoor.Pl
/-- offer.checkPrice -/
def opprice (nm : ByteArray) (st : List (Int × Int)) (P : Int) : Int := if ocheck nm st ≠ 0 then ocheck nm st else if P < -2000000 ∨ 2000000 < P then 4 else 0
theorem opprice_ok {nm : ByteArray} {st : List (Int × Int)} {P : Int} (h : opprice nm st P = 0) : ocheck nm st = 0 ∧ -2000000 ≤ P ∧ P ≤ 2000000 := by
  unfold opprice at h
  by_cases h1 : ocheck nm st = 0
  · rw [if_neg (by simpa using h1)] at h
    by_cases h2 : P < -2000000 ∨ 2000000 < P
    · rw [if_pos h2] at h; omega
    · exact ⟨h1, by omega, by omega⟩
  · rw [if_pos h1] at h; exact absurd h h1
/-- offer.Supply: the loop -/
def sstep (P : Int) (a : Int × Int) (p : Int × Int) : Int × Int := (a.1 + (if p.2 < P then p.1 else 0), a.2 + (if p.2 ≤ P then p.1 else 0))
def sacc (P : Int) (st : List (Int × Int)) : Int × Int := st.foldl (sstep P) (0, 0)
theorem sacc_snoc (P : Int) (st : List (Int × Int)) (p : Int × Int) : sacc P (st ++ [p]) = sstep P (sacc P st) p := by unfold sacc; rw [List.foldl_append]; rfl
def leastR (P : Int) : List (Int × Int) → Int
  | [] => 0
  | p :: st => (if p.2 < P then p.1 else 0) + leastR P st
def mostR (P : Int) : List (Int × Int) → Int
  | [] => 0
  | p :: st => (if p.2 ≤ P then p.1 else 0) + mostR P st
theorem sacc_eq (P : Int) (st : List (Int × Int)) : sacc P st = (leastR P st, mostR P st) := by
  have h : ∀ (l : List (Int × Int)) (a b : Int), l.foldl (sstep P) (a, b) = (a + leastR P l, b + mostR P l) := by
    intro l
    induction l with
    | nil => intro a b; simp [leastR, mostR]
    | cons p l ih =>
      intro a b
      rw [List.foldl_cons, show sstep P (a, b) p = (a + (if p.2 < P then p.1 else 0), b + (if p.2 ≤ P then p.1 else 0)) from rfl, ih, leastR, mostR, Int.add_assoc, Int.add_assoc]
  unfold sacc
  rw [h]
  simp
theorem sacc_bd {st : List (Int × Int)} (h : Good st) (P : Int) (k : Nat) : 0 ≤ (sacc P (st.take k)).1 ∧ (sacc P (st.take k)).1 ≤ 100000 ∧ 0 ≤ (sacc P (st.take k)).2 ∧ (sacc P (st.take k)).2 ≤ 100000 := by
  have hs : ∀ p ∈ st.take k, 1 ≤ p.1 := fun p hp => (h.step p (List.mem_of_mem_take hp)).1
  have ht := (total_nonneg h k).2
  have hh : 0 ≤ (sacc P (st.take k)).1 ∧ (sacc P (st.take k)).1 ≤ total (st.take k) ∧ 0 ≤ (sacc P (st.take k)).2 ∧ (sacc P (st.take k)).2 ≤ total (st.take k) := by
    generalize st.take k = l at hs
    clear ht
    induction l using snocInd with
    | h0 => simp [sacc, total]
    | h1 l p ih =>
      obtain ⟨i1, i2, i3, i4⟩ := ih fun q hq => hs q (by simp [hq])
      have := hs p (by simp)
      rw [sacc_snoc, total_snoc]
      simp only [sstep]
      refine ⟨?_, ?_, ?_, ?_⟩ <;> split <;> omega
  omega
/-- offer.Supply -/
def oSupply (nm : ByteArray) (st : List (Int × Int)) (P : Int) : Int × Int × Int := if opprice nm st P ≠ 0 then (0, 0, opprice nm st P) else (leastR P st, mostR P st, 0)
/-- offer.Profit -/
def oProfit (nm : ByteArray) (st : List (Int × Int)) (P : Int) : Int × Int := if opprice nm st P ≠ 0 then (0, opprice nm st P) else (P * leastR P st - ocost st (leastR P st), 0)
/-- the greatest profit -/
def best (P : Int) : List (Int × Int) → Int
  | [] => 0
  | p :: st => (if p.2 < P then (P - p.2) * p.1 else 0) + best P st
def gain (P : Int) (st : List (Int × Int)) (x : Int) : Int := P * x - costR st x
theorem gain_cons (P : Int) (p : Int × Int) (st : List (Int × Int)) (x : Int) : gain P (p :: st) x = (P - p.2) * min x p.1 + gain P st (x - min x p.1) := by
  unfold gain
  rw [costR, Int.sub_mul, Int.mul_sub, Int.mul_comm p.2]
  omega
theorem zero_gain (P : Int) (st : List (Int × Int)) (h : ∀ p ∈ st, 1 ≤ p.1) : gain P st 0 = 0 := by
  induction st with
  | nil => simp [gain, costR]
  | cons p st ih =>
    rw [gain_cons]
    have := h p (by simp)
    have e : min 0 p.1 = 0 := by omega
    rw [e, Int.mul_zero, Int.sub_zero, ih fun q hq => h q (by simp [hq])]
    rfl
theorem zero_least {P : Int} {st : List (Int × Int)} (h : ∀ p ∈ st, P ≤ p.2) : leastR P st = 0 ∧ best P st = 0 := by
  induction st with
  | nil => exact ⟨rfl, rfl⟩
  | cons p st ih =>
    obtain ⟨h1, h2⟩ := ih fun q hq => h q (by simp [hq])
    have := h p (by simp)
    rw [leastR, best, if_neg (by omega), if_neg (by omega), h1, h2]
    exact ⟨rfl, rfl⟩
theorem zero_most {P : Int} {st : List (Int × Int)} (h : ∀ p ∈ st, P < p.2) : mostR P st = 0 := by
  induction st with
  | nil => rfl
  | cons p st ih =>
    have := h p (by simp)
    rw [mostR, if_neg (by omega), ih fun q hq => h q (by simp [hq])]
    rfl
theorem least_most {P : Int} {st : List (Int × Int)} (h : ∀ p ∈ st, 1 ≤ p.1) : 0 ≤ leastR P st ∧ leastR P st ≤ mostR P st ∧ mostR P st ≤ total st ∧ 0 ≤ best P st := by
  induction st with
  | nil => simp [leastR, mostR, total, best]
  | cons p st ih =>
    obtain ⟨h1, h2, h3, h4⟩ := ih fun q hq => h q (by simp [hq])
    have h5 := h p (by simp)
    rw [leastR, mostR, total_cons, best]
    by_cases c1 : p.2 < P
    · have h6 : 0 ≤ (P - p.2) * p.1 := Int.mul_nonneg (by omega) (by omega)
      rw [if_pos c1, if_pos (show p.2 ≤ P by omega), if_pos c1]
      omega
    · rw [if_neg c1, if_neg c1]
      split <;> omega
/-- no power gains more; just the powers between the two of Supply gain as much -/
theorem gain_best {st : List (Int × Int)} (h : Good st) (P x : Int) (x0 : 0 ≤ x) (x1 : x ≤ total st) : gain P st x ≤ best P st ∧ (gain P st x = best P st ↔ leastR P st ≤ x ∧ x ≤ mostR P st) := by
  induction st generalizing x with
  | nil =>
    have : x = 0 := by simp [total] at x1; omega
    subst this
    simp [gain, costR, best, leastR, mostR]
  | cons p st ih =>
    obtain ⟨a1, a2, a3, a4, a5⟩ := h.head
    have hpos : ∀ q ∈ st, 1 ≤ q.1 := fun q hq => (h.tail.step q hq).1
    have hlm := least_most (P := P) hpos
    rw [total_cons] at x1
    rw [gain_cons, best, leastR, mostR]
    by_cases c1 : p.2 < P
    · rw [if_pos c1, if_pos c1, if_pos (show p.2 ≤ P by omega)]
      by_cases c2 : x < p.1
      · have e : min x p.1 = x := by omega
        rw [e, Int.sub_self, zero_gain P st hpos]
        have h6 : (P - p.2) * x < (P - p.2) * p.1 := Int.mul_lt_mul_of_pos_left c2 (by omega)
        refine ⟨by omega, ⟨fun h => by omega, fun h => by omega⟩⟩
      · have e : min x p.1 = p.1 := by omega
        rw [e]
        obtain ⟨i1, i2⟩ := ih h.tail (x - p.1) (by omega) (by omega)
        refine ⟨by omega, ⟨fun h => ?_, fun h => ?_⟩⟩
        · have := i2.1 (by omega); omega
        · have := i2.2 (by omega); omega
    · rw [if_neg c1, if_neg c1]
      obtain ⟨z1, z2⟩ := zero_least (P := P) (st := st) fun q hq => by have := a5 q hq; omega
      rw [z1, z2]
      have m0 : 0 ≤ min x p.1 := by omega
      obtain ⟨i1, i2⟩ := ih h.tail (x - min x p.1) (by omega) (by omega)
      rw [z1, z2] at i2
      rw [z2] at i1
      by_cases c2 : p.2 = P
      · rw [if_pos (show p.2 ≤ P by omega)]
        have e : (P - p.2) * min x p.1 = 0 := by rw [c2, Int.sub_self, Int.zero_mul]
        rw [e]
        refine ⟨by omega, ⟨fun h => ?_, fun h => ?_⟩⟩
        · have := i2.1 (by omega); omega
        · have := i2.2 (by omega); omega
      · rw [if_neg (show ¬ p.2 ≤ P by omega)]
        have zm := zero_most (P := P) (st := st) fun q hq => by have := a5 q hq; omega
        rw [zm] at i2 ⊢
        have h6 : (P - p.2) * min x p.1 ≤ (-1) * min x p.1 := Int.mul_le_mul_of_nonneg_right (by omega) m0
        refine ⟨by omega, ⟨fun h => by omega, fun h => ?_⟩⟩
        have ex : x = 0 := by omega
        have em : min x p.1 = 0 := by omega
        rw [em, Int.mul_zero]
        have := i2.2 (by omega)
        rw [em] at this
        omega
theorem profit_eq {st : List (Int × Int)} (h : Good st) (P : Int) : P * leastR P st - ocost st (leastR P st) = best P st := by
  have hpos : ∀ q ∈ st, 1 ≤ q.1 := fun q hq => (h.step q hq).1
  have hlm := least_most (P := P) hpos
  have := (gain_best h P (leastR P st) (by omega) (by omega)).2.2 (by omega)
  rw [ocost_eq]
  exact this
theorem most_eq {st : List (Int × Int)} (h : Good st) (P : Int) : P * mostR P st - ocost st (mostR P st) = best P st := by
  have hpos : ∀ q ∈ st, 1 ≤ q.1 := fun q hq => (h.step q hq).1
  have hlm := least_most (P := P) hpos
  have := (gain_best h P (mostR P st) (by omega) (by omega)).2.2 (by omega)
  rw [ocost_eq]
  exact this
/-- a higher price: neither supply nor profit is less -/
theorem rises {st : List (Int × Int)} (h : ∀ p ∈ st, 1 ≤ p.1) (P Q : Int) (hPQ : P ≤ Q) : leastR P st ≤ leastR Q st ∧ mostR P st ≤ mostR Q st ∧ (P < Q → mostR P st ≤ leastR Q st) ∧ best P st ≤ best Q st := by
  induction st with
  | nil => simp [leastR, mostR, best]
  | cons p st ih =>
    obtain ⟨h1, h2, h3, h4⟩ := ih fun q hq => h q (by simp [hq])
    have h5 := h p (by simp)
    simp only [leastR, mostR, best]
    refine ⟨?_, ?_, fun hlt => ?_, ?_⟩
    · split <;> split <;> omega
    · split <;> split <;> omega
    · have := h3 hlt
      split <;> split <;> omega
    · by_cases c1 : p.2 < P
      · rw [if_pos c1, if_pos (show p.2 < Q by omega)]
        have : (P - p.2) * p.1 ≤ (Q - p.2) * p.1 := Int.mul_le_mul_of_nonneg_right (by omega) (by omega)
        omega
      · rw [if_neg c1]
        by_cases c2 : p.2 < Q
        · rw [if_pos c2]
          have : 0 ≤ (Q - p.2) * p.1 := Int.mul_nonneg (by omega) (by omega)
          omega
        · rw [if_neg c2]; omega
end Go.Proofs.YtibhgcldogfonaaGreatDoor.Pl
