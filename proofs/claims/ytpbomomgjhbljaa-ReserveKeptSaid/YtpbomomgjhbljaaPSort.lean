/- Plain laws for slices.SortStableFunc: exchanging ranges, rotating, merging in place; nothing of the program stands here. -/
import Derived.Sort.LotA
namespace Go.Proofs.Ytpbomomgjhbljaa.Srt
open Go.Sort
variable {α : Type} [Inhabited α]
/-- swapRange: n exchanges of a + i and b + i -/
def swapR (d : Array α) (a b : Nat) : Nat → Array α
  | 0 => d
  | n + 1 => swp (swapR d a b n) (a + n) (b + n)
theorem swapR_size (d : Array α) (a b n : Nat) : (swapR d a b n).size = d.size := by
  induction n with
  | zero => rfl
  | succ n ih => rw [swapR, swp_size, ih]
theorem swapR_get (d : Array α) (a b n : Nat) (h1 : a + n ≤ b) (h2 : b + n ≤ d.size) (p : Nat) :
    (swapR d a b n)[p]! = if a ≤ p ∧ p < a + n then d[p + (b - a)]! else if b ≤ p ∧ p < b + n then d[p - (b - a)]! else d[p]! := by
  induction n generalizing p with
  | zero => rw [swapR, if_neg (by omega), if_neg (by omega)]
  | succ n ih =>
    rw [swapR, swp_get _ (by rw [swapR_size]; omega) (by rw [swapR_size]; omega)]
    have i1 := ih (by omega) (by omega) (a + n)
    have i2 := ih (by omega) (by omega) (b + n)
    have i3 := ih (by omega) (by omega) p
    rw [if_neg (by omega), if_neg (by omega)] at i1 i2
    rw [i1, i2, i3]
    (repeat' split) <;> first | rfl | (exfalso; omega) | (congr 1; omega)
theorem swapR_perm (d : Array α) (a b n lo hi : Nat) (h1 : lo ≤ a) (h2 : a + n ≤ b) (h3 : b + n ≤ hi) (h4 : hi ≤ d.size) : PermIn lo hi d (swapR d a b n) := by
  induction n with
  | zero => exact permIn_refl _ _ _
  | succ n ih =>
    exact permIn_trans _ _ _ _ _ (ih (by omega) (by omega)) (swp_permIn _ lo hi (a + n) (b + n) (by omega) (by omega) (by omega) (by omega) (by rw [swapR_size]; exact h4))
/-- d' is d with the blocks [a, m) and [m, b) exchanged -/
structure Rot (d : Array α) (a m b : Nat) (d' : Array α) : Prop where
  perm : PermIn a b d d'
  get : ∀ p, d'[p]! = if a ≤ p ∧ p < a + (b - m) then d[p + (m - a)]! else if a + (b - m) ≤ p ∧ p < b then d[p - (b - m)]! else d[p]!
theorem Rot.last {d : Array α} {m i : Nat} (h1 : i ≤ m) (h2 : m + i ≤ d.size) : Rot d (m - i) m (m + i) (swapR d (m - i) m i) := by
  refine ⟨swapR_perm d (m - i) m i (m - i) (m + i) (by omega) (by omega) (by omega) h2, fun p => ?_⟩
  rw [swapR_get d (m - i) m i (by omega) h2]
  (repeat' split) <;> first | rfl | (exfalso; omega) | (congr 1; omega)
/-- i > j: the right block goes to the front -/
theorem Rot.left {d d' : Array α} {m i j : Nat} (hj : j < i) (h1 : i ≤ m) (h2 : m + j ≤ d.size) (h : Rot (swapR d (m - i) m j) (m - (i - j)) m (m + j) d') : Rot d (m - i) m (m + j) d' := by
  refine ⟨permIn_trans _ _ _ _ _ (swapR_perm d (m - i) m j (m - i) (m + j) (by omega) (by omega) (by omega) h2) (permIn_mono _ _ _ _ _ _ (by omega) (by omega) (by rw [swapR_size]; exact h2) h.perm), fun p => ?_⟩
  rw [h.get p]
  have g := swapR_get d (m - i) m j (by omega) h2
  rw [g, g, g]
  (repeat' split) <;> first | rfl | (exfalso; omega) | (congr 1; omega)
/-- i < j: the left block goes to the end -/
theorem Rot.right {d d' : Array α} {m i j : Nat} (hj : i < j) (h1 : i ≤ m) (h2 : m + j ≤ d.size) (h : Rot (swapR d (m - i) (m + j - i) i) (m - i) m (m + (j - i)) d') : Rot d (m - i) m (m + j) d' := by
  refine ⟨permIn_trans _ _ _ _ _ (swapR_perm d (m - i) (m + j - i) i (m - i) (m + j) (by omega) (by omega) (by omega) h2) (permIn_mono _ _ _ _ _ _ (by omega) (by omega) (by rw [swapR_size]; exact h2) h.perm), fun p => ?_⟩
  rw [h.get p]
  have g := swapR_get d (m - i) (m + j - i) i (by omega) (by omega)
  rw [g, g, g]
  (repeat' split) <;> first | rfl | (exfalso; omega) | (congr 1; omega)
end Go.Proofs.Ytpbomomgjhbljaa.Srt
