/- Plain functions for package offer, and their laws; nothing of the program stands here. A step is a pair: power, price. -/
import Derived.Test.YtibhgcldogfonaaGreatDoorPName
namespace Go.Proofs.YtibhgcldogfonaaGreatDoor.Pl
def badStep (p : Int × Int) : Bool := decide (p.1 < 1) || decide (100000 < p.1) || decide (p.2 < -1000000) || decide (1000000 < p.2)
def lower (x : Int) : Option Int → Bool
  | some q => decide (x < q)
  | none => false
/-- one step of offer.Check: the sum, the error, the last price -/
def ostep (a : Int × Int × Option Int) (p : Int × Int) : Int × Int × Option Int :=
  if a.2.1 ≠ 0 then a else if badStep p = true then (0, 4, none) else if lower p.2 a.2.2 = true then (0, 3, none) else if 100000 < a.1 + p.1 then (0, 2, none) else (a.1 + p.1, 0, some p.2)
def oacc (st : List (Int × Int)) : Int × Int × Option Int := st.foldl ostep (0, 0, none)
theorem oacc_snoc (st : List (Int × Int)) (p : Int × Int) : oacc (st ++ [p]) = ostep (oacc st) p := by unfold oacc; rw [List.foldl_append]; rfl
/-- offer.Check -/
def ocheck (nm : ByteArray) (st : List (Int × Int)) : Int := if nameB nm = false then 6 else if 12 < st.length then 2 else (oacc st).2.1
theorem ostep_stuck (a : Int × Int × Option Int) (st : List (Int × Int)) (h : a.2.1 ≠ 0) : st.foldl ostep a = a := by
  induction st with
  | nil => rfl
  | cons p st ih => rw [List.foldl_cons, show ostep a p = a from if_pos h, ih]
theorem oacc_stuck (st : List (Int × Int)) (k : Nat) (h : (oacc (st.take k)).2.1 ≠ 0) : oacc st = oacc (st.take k) := by
  have : oacc st = (st.drop k).foldl ostep (oacc (st.take k)) := by
    unfold oacc; rw [← List.foldl_append, List.take_append_drop]
  rw [this, ostep_stuck _ _ h]
theorem ostep_bad {a : Int × Int × Option Int} {p : Int × Int} (h0 : a.2.1 = 0) (h : badStep p = true) : ostep a p = (0, 4, none) := by
  unfold ostep; rw [if_neg (by simpa using h0), if_pos h]
theorem ostep_low {a : Int × Int × Option Int} {p : Int × Int} (h0 : a.2.1 = 0) (h1 : badStep p = false) (h : lower p.2 a.2.2 = true) : ostep a p = (0, 3, none) := by
  unfold ostep; rw [if_neg (by simpa using h0), if_neg (by simp [h1]), if_pos h]
theorem ostep_sum {a : Int × Int × Option Int} {p : Int × Int} (h0 : a.2.1 = 0) (h1 : badStep p = false) (h2 : lower p.2 a.2.2 = false) (h : 100000 < a.1 + p.1) : ostep a p = (0, 2, none) := by
  unfold ostep; rw [if_neg (by simpa using h0), if_neg (by simp [h1]), if_neg (by simp [h2]), if_pos h]
theorem ostep_ok {a : Int × Int × Option Int} {p : Int × Int} (h0 : a.2.1 = 0) (h1 : badStep p = false) (h2 : lower p.2 a.2.2 = false) (h : ¬ 100000 < a.1 + p.1) : ostep a p = (a.1 + p.1, 0, some p.2) := by
  unfold ostep; rw [if_neg (by simpa using h0), if_neg (by simp [h1]), if_neg (by simp [h2]), if_neg h]
theorem ostep_inv {a : Int × Int × Option Int} {p : Int × Int} (h : (ostep a p).2.1 = 0) : a.2.1 = 0 ∧ badStep p = false ∧ lower p.2 a.2.2 = false ∧ a.1 + p.1 ≤ 100000 ∧ ostep a p = (a.1 + p.1, 0, some p.2) := by
  by_cases h0 : a.2.1 = 0
  · cases h1 : badStep p
    · cases h2 : lower p.2 a.2.2
      · by_cases h3 : 100000 < a.1 + p.1
        · rw [ostep_sum h0 h1 h2 h3] at h; simp at h
        · exact ⟨h0, rfl, rfl, by omega, ostep_ok h0 h1 h2 h3⟩
      · rw [ostep_low h0 h1 h2] at h; simp at h
    · rw [ostep_bad h0 h1] at h; simp at h
  · unfold ostep at h; rw [if_pos h0] at h; exact absurd h h0
def total (st : List (Int × Int)) : Int := st.foldl (fun n p => n + p.1) 0
theorem total_snoc (st : List (Int × Int)) (p : Int × Int) : total (st ++ [p]) = total st + p.1 := by unfold total; rw [List.foldl_append]; rfl
def lastPrice (st : List (Int × Int)) : Option Int := st.getLast?.map (·.2)
/-- what a valid list of steps is -/
structure Good (st : List (Int × Int)) : Prop where
  step : ∀ p ∈ st, 1 ≤ p.1 ∧ p.1 ≤ 100000 ∧ -1000000 ≤ p.2 ∧ p.2 ≤ 1000000
  rise : st.Pairwise (fun a b => a.2 ≤ b.2)
  sum : total st ≤ 100000
theorem badStep_false {p : Int × Int} : badStep p = false ↔ 1 ≤ p.1 ∧ p.1 ≤ 100000 ∧ -1000000 ≤ p.2 ∧ p.2 ≤ 1000000 := by
  simp only [badStep, Bool.or_eq_false_iff, decide_eq_false_iff_not]; omega
theorem oacc_good {st : List (Int × Int)} (h : (oacc st).2.1 = 0) : Good st ∧ (oacc st).1 = total st ∧ (oacc st).2.2 = lastPrice st := by
  induction st using snocInd with
  | h0 => exact ⟨⟨by simp, List.Pairwise.nil, by simp [total]⟩, rfl, rfl⟩
  | h1 st p ih =>
    rw [oacc_snoc] at h ⊢
    obtain ⟨h0, h1, h2, h3, h4⟩ := ostep_inv h
    obtain ⟨g, i1, i2⟩ := ih h0
    rw [h4]
    have hb := badStep_false.1 h1
    refine ⟨⟨?_, ?_, by rw [total_snoc]; omega⟩, by rw [total_snoc, ← i1], by simp [lastPrice]⟩
    · intro q hq
      rcases List.mem_append.1 hq with hq | hq
      · exact g.step q hq
      · rw [List.mem_singleton.1 hq]; exact hb
    · rw [List.pairwise_append]
      refine ⟨g.rise, List.pairwise_singleton _ _, fun a ha b hb => ?_⟩
      rw [List.mem_singleton.1 hb]
      rw [i2] at h2
      induction st using snocInd with
      | h0 => cases ha
      | h1 st z _ =>
        have hz : lastPrice (st ++ [z]) = some z.2 := by simp [lastPrice]
        rw [hz] at h2
        simp only [lower, decide_eq_false_iff_not] at h2
        rcases List.mem_append.1 ha with ha | ha
        · have := (List.pairwise_append.1 g.rise).2.2 a ha z (by simp)
          omega
        · rw [List.mem_singleton.1 ha]; omega
theorem ocheck_ok {nm : ByteArray} {st : List (Int × Int)} (h : ocheck nm st = 0) : Good st ∧ st.length ≤ 12 ∧ nameB nm = true := by
  unfold ocheck at h
  cases h1 : nameB nm
  · rw [h1, if_pos rfl] at h; omega
  · rw [h1, if_neg (by simp)] at h
    by_cases h2 : 12 < st.length
    · rw [if_pos h2] at h; omega
    · rw [if_neg h2] at h
      exact ⟨(oacc_good h).1, by omega, rfl⟩
theorem total_nonneg {st : List (Int × Int)} (h : Good st) (k : Nat) : 0 ≤ total (st.take k) ∧ total (st.take k) ≤ 100000 := by
  have h2 : ∀ l : List (Int × Int), (∀ p ∈ l, 1 ≤ p.1) → 0 ≤ total l := by
    intro l hl
    induction l using snocInd with
    | h0 => simp [total]
    | h1 l p ih => rw [total_snoc]; have := ih fun q hq => hl q (by simp [hq]); have := hl p (by simp); omega
  have h3 : ∀ a b : List (Int × Int), total (a ++ b) = total a + total b := by
    intro a b
    induction b using snocInd with
    | h0 => simp [total]
    | h1 b p ih => rw [← List.append_assoc, total_snoc, ih, total_snoc]; omega
  have h4 := h3 (st.take k) (st.drop k)
  rw [List.take_append_drop] at h4
  have h5 := h2 (st.drop k) fun p hp => (h.step p (List.mem_of_mem_drop hp)).1
  have h6 := h2 (st.take k) fun p hp => (h.step p (List.mem_of_mem_take hp)).1
  have := h.sum
  omega
end Go.Proofs.YtibhgcldogfonaaGreatDoor.Pl
