/- Envy, plain: by how much a generator could gain. No program. -/
import Derived.Test.YtibhgcldogfonaaGreatDoorPOfferC
namespace Go.Proofs.YtibhgcldogfonaaGreatDoor.Pl
theorem costR_bd {st : List (Int × Int)} (h : Good st) (x : Int) (h0 : 0 ≤ x) (h1 : x ≤ total st) : -100000000000 ≤ costR st x ∧ costR st x ≤ 100000000000 := by
  have hs := h.sum
  obtain ⟨c1, c2, c3, c4⟩ := cacc_bd h x h0 (by omega) st.length
  rw [List.take_length] at c1 c2 c3 c4
  rw [← ocost_eq]
  unfold ocost
  omega
def envyV (P : Int) (st : List (Int × Int)) (x : Int) : Int := best P st - (P * x - costR st x)
theorem best_bd {st : List (Int × Int)} (h : Good st) {P : Int} (h1 : P ≤ 2000000) : 0 ≤ best P st ∧ best P st ≤ 300000000000 := by
  have hlm := least_most (P := P) (fun q hq => (h.step q hq).1)
  have hs := h.sum
  obtain ⟨c0, c1⟩ := costR_bd h (leastR P st) (by omega) (by omega)
  have he := profit_eq h P
  rw [ocost_eq] at he
  have q1 : P * leastR P st ≤ 2000000 * leastR P st := Int.mul_le_mul_of_nonneg_right h1 (by omega)
  omega
theorem mulP_bd {P x : Int} (h0 : -2000000 ≤ P) (h1 : P ≤ 2000000) (x0 : 0 ≤ x) (x1 : x ≤ 100000) : -200000000000 ≤ P * x ∧ P * x ≤ 200000000000 := by
  have q1 : P * x ≤ 2000000 * x := Int.mul_le_mul_of_nonneg_right h1 x0
  have q2 : -2000000 * x ≤ P * x := Int.mul_le_mul_of_nonneg_right h0 x0
  omega
theorem envy_bd {st : List (Int × Int)} (h : Good st) {P x : Int} (h0 : -2000000 ≤ P) (h1 : P ≤ 2000000) (x0 : 0 ≤ x) (x1 : x ≤ total st) : 0 ≤ envyV P st x ∧ envyV P st x ≤ 600000000000 := by
  have hs := h.sum
  have hb := best_bd h h1
  have hc := costR_bd h x x0 x1
  have hm := mulP_bd h0 h1 x0 (show x ≤ 100000 by omega)
  have hg := (gain_best h P x x0 x1).1
  unfold gain at hg
  unfold envyV
  omega
end Go.Proofs.YtibhgcldogfonaaGreatDoor.Pl
