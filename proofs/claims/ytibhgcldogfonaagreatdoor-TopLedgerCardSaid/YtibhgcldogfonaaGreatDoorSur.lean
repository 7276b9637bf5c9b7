/- auction.Surplus: it gives what its plain function gives. No condition. -/
import Derived.Test.YtibhgcldogfonaaGreatDoorCkf
namespace Go.Proofs.YtibhgcldogfonaaGreatDoor
open Go.RowKit
namespace Pl
theorem acheckK_pre {l : List Ord} {k : Nat} (h : acheckK l k = 0) : ∀ j (hj : j < l.length), j < k → achk (l.take j) l[j] = 0 := by
  induction k with
  | zero => intro j _ h; exact absurd h (by omega)
  | succ k ih =>
    have h0 : acheckK l k = 0 := by
      by_cases e : acheckK l k = 0
      · exact e
      · rw [acheckK, if_neg e] at h; exact h
    intro j hj hjk
    by_cases e : j = k
    · subst e
      rw [acheckK, if_pos h0, List.getD_eq_getElem?_getD, List.getElem?_eq_getElem hj] at h
      exact h
    · exact ih h0 j hj (by omega)
theorem acheck_good {l : List Ord} (h : acheck l = 0) (z : Ord) (hz : z ∈ l) : 1 ≤ z.pow ∧ z.pow ≤ 100000 ∧ -1000000 ≤ z.price ∧ z.price ≤ 1000000 := by
  have hl := acheck_len h
  rw [acheck, if_neg (by omega)] at h
  obtain ⟨j, hj, rfl⟩ := List.getElem_of_mem hz
  have := acheckK_pre h j hj hj
  unfold achk at this
  split at this
  · cases this
  · split at this
    · cases this
    · rename_i h2
      rw [Bool.not_eq_true, Bool.or_eq_false_iff, outB_false, outB_false] at h2
      omega
theorem cfills_good {l : List Ord} {fs : List Int} (h : cfills l fs = 0) : acheck l = 0 ∧ fs.length = l.length ∧ ∀ j (h1 : j < l.length) (h2 : j < fs.length), 0 ≤ fs[j] ∧ fs[j] ≤ l[j].pow := by
  unfold cfills at h
  split at h
  · rename_i h1; exact absurd h h1
  · rename_i h1
    split at h
    · cases h
    · rename_i h2
      split at h
      · cases h
      · rename_i h3
        refine ⟨by simpa using h1, by simpa using h2, fun j g1 g2 => ?_⟩
        rw [Bool.not_eq_true] at h3
        have := has_false h3 j (by rw [List.length_zip]; omega)
        rw [List.getElem_zip] at this
        unfold badFill at this
        simp at this
        omega
/-- what one order gains -/
def ogain (p : Int) (x : Ord × Int) : Int := if x.1.buy then x.2 * (x.1.price - p) else -(x.2 * (x.1.price - p))
def gains (p : Int) (z : List (Ord × Int)) : Int := (z.map (ogain p)).foldl (· + ·) 0
theorem gains_snoc (p : Int) (z : List (Ord × Int)) (x : Ord × Int) : gains p (z ++ [x]) = gains p z + ogain p x := by unfold gains; rw [List.map_append, List.foldl_append]; rfl
def surp (p : Int) (l : List Ord) (fs : List Int) : Int × Int := if cfills l fs ≠ 0 then (0, cfills l fs) else if p < -2000000 ∨ 2000000 < p then (0, 4) else (gains p (l.zip fs), 0)
theorem gain_bd {f d : Int} (f0 : 0 ≤ f) (f1 : f ≤ 100000) (d0 : -3000000 ≤ d) (d1 : d ≤ 3000000) : -300000000000 ≤ f * d ∧ f * d ≤ 300000000000 := by
  have h1 : f * d ≤ f * 3000000 := Int.mul_le_mul_of_nonneg_left d1 f0
  have h2 : f * (-3000000) ≤ f * d := Int.mul_le_mul_of_nonneg_left d0 f0
  omega
end Pl
def vRes (p q : Int) (B : Option Addr) (m d : Nat) : Value := .agg #[.int .i64 p, .int .i64 q, .slice B m d]
end Go.Proofs.YtibhgcldogfonaaGreatDoor
