/- A digit of the long division, plain. No program. -/
import Derived.Test.YtoblpcljhblnmaaGreatDoorPLargeB
namespace Go.Proofs.YtoblpcljhblnmaaGreatDoor.Pl
set_option maxRecDepth 20000
structure Dig (U V u1 u0 u2 vh vl P ulow vlow Q : Nat) : Prop where
  hV : V = (vh * 4294967296 + vl) * P + vlow
  hU : U = ((u1 * 4294967296 + u0) * 4294967296 + u2) * P + ulow
  ul : ulow < P
  vlw : vlow < P
  lt : U < V * 4294967296
  vh31 : 2147483648 ≤ vh
  vl32 : vl < 4294967296
  u032 : u0 < 4294967296
  u232 : u2 < 4294967296
  q1 : Q * V ≤ U
  q2 : U < (Q + 1) * V
section
variable {U V u1 u0 u2 vh vl P ulow vlow Q : Nat}
theorem Dig.qlt (h : Dig U V u1 u0 u2 vh vl P ulow vlow Q) : Q < 4294967296 := by
  rcases Nat.lt_or_ge Q 4294967296 with hq | hq
  · exact hq
  · exfalso
    have h1 := Nat.mul_le_mul_right V hq
    have h2 := h.q1
    have h3 := h.lt
    rw [Nat.mul_comm V] at h3
    omega
theorem Dig.u1le (h : Dig U V u1 u0 u2 vh vl P ulow vlow Q) : u1 ≤ vh := by
  rcases Nat.lt_or_ge vh u1 with hq | hq
  · exfalso
    have h1 : (vh + 1) * 4294967296 * 4294967296 * P ≤ u1 * 4294967296 * 4294967296 * P := Nat.mul_le_mul_right P (Nat.mul_le_mul_right _ (Nat.mul_le_mul_right _ hq))
    have h2 : u1 * 4294967296 * 4294967296 * P ≤ U := by
      rw [h.hU]
      have e : u1 * 4294967296 * 4294967296 ≤ (u1 * 4294967296 + u0) * 4294967296 + u2 := Nat.le_trans (Nat.mul_le_mul_right _ (Nat.le_add_right _ _)) (Nat.le_add_right _ _)
      exact Nat.le_trans (Nat.mul_le_mul_right P e) (Nat.le_add_right _ _)
    have h3 : V + 1 ≤ (vh + 1) * 4294967296 * P := by
      have e : (vh * 4294967296 + vl + 1) * P ≤ (vh + 1) * 4294967296 * P := Nat.mul_le_mul_right P (by have := h.vl32; omega)
      rw [Nat.succ_mul] at e
      have := h.vlw
      rw [h.hV]
      omega
    have h4 := h.lt
    have h5 : (V + 1) * 4294967296 ≤ (vh + 1) * 4294967296 * P * 4294967296 := Nat.mul_le_mul_right _ h3
    have e1 : (vh + 1) * 4294967296 * P * 4294967296 = (vh + 1) * 4294967296 * 4294967296 * P := by rw [Nat.mul_assoc _ P, Nat.mul_comm P, ← Nat.mul_assoc]
    omega
  · exact hq
theorem Dig.cont (h : Dig U V u1 u0 u2 vh vl P ulow vlow Q) {g rest : Nat} (hg : g * vh + rest = u1 * 4294967296 + u0) (hq : Q ≤ g) (ht : 4294967296 ≤ g ∨ rest * 4294967296 + u2 < g * vl) : 1 ≤ g ∧ Q ≤ g - 1 ∧ (g - 1) * vh + (rest + vh) = u1 * 4294967296 + u0 := by
  have hlt : Q < g := by
    rcases ht with ht | ht
    · have := h.qlt; omega
    · refine est_up h.hV h.hU h.ul h.q1 ?_
      rw [Nat.mul_add, ← Nat.mul_assoc]
      have e : g * vh * 4294967296 + rest * 4294967296 = (u1 * 4294967296 + u0) * 4294967296 := by rw [← Nat.add_mul, hg]
      rw [← e, Nat.add_assoc]
      exact Nat.add_lt_add_left ht _
  refine ⟨by omega, by omega, ?_⟩
  obtain ⟨k, rfl⟩ : ∃ k, g = k + 1 := ⟨g - 1, by omega⟩
  rw [Nat.succ_mul] at hg
  simp only [Nat.add_sub_cancel]
  omega
theorem dig_low (h : Dig U V u1 u0 u2 vh vl P ulow vlow Q) {g rest : Nat} (hg : g * vh + rest = u1 * 4294967296 + u0) (hr : rest < vh) (hq : g < Q) : False := by
  have h1 : (g + 1) * V ≤ U := Nat.le_trans (Nat.mul_le_mul_right V hq) h.q1
  have h2 : (g + 1) * (vh * 4294967296 * P) ≤ (g + 1) * V := by
    refine Nat.mul_le_mul_left _ ?_
    rw [h.hV, Nat.add_mul]
    exact Nat.le_trans (Nat.le_add_right _ _) (Nat.le_add_right _ _)
  have h3 : U < (u1 * 4294967296 + u0 + 1) * 4294967296 * P := by
    rw [h.hU]
    have e : ((u1 * 4294967296 + u0) * 4294967296 + u2 + 1) * P ≤ (u1 * 4294967296 + u0 + 1) * 4294967296 * P := Nat.mul_le_mul_right P (by have := h.u232; rw [Nat.add_mul (u1 * 4294967296 + u0) 1]; omega)
    have := h.ul
    rw [Nat.succ_mul] at e
    omega
  have h4 : u1 * 4294967296 + u0 + 1 ≤ (g + 1) * vh := by rw [Nat.succ_mul]; omega
  have h5 := Nat.mul_le_mul_right P (Nat.mul_le_mul_right 4294967296 h4)
  have e : (g + 1) * vh * 4294967296 * P = (g + 1) * (vh * 4294967296 * P) := by rw [Nat.mul_assoc, Nat.mul_assoc, Nat.mul_assoc]
  rw [e] at h5
  exact absurd (Nat.lt_of_lt_of_le h3 (Nat.le_trans h5 (Nat.le_trans h2 h1))) (Nat.lt_irrefl _)
theorem Dig.exit (h : Dig U V u1 u0 u2 vh vl P ulow vlow Q) {g rest : Nat} (hg : g * vh + rest = u1 * 4294967296 + u0) (hgB : g < 4294967296) (ht : g * vl ≤ rest * 4294967296 + u2) : g ≤ Q + 1 := by
  refine est_down h.hV h.hU h.vlw h.q2 ?_ hgB (by have := h.vh31; omega)
  rw [Nat.mul_add, ← Nat.mul_assoc]
  have e : g * vh * 4294967296 + rest * 4294967296 = (u1 * 4294967296 + u0) * 4294967296 := by rw [← Nat.add_mul, hg]
  omega
theorem Dig.brk (h : Dig U V u1 u0 u2 vh vl P ulow vlow Q) {g rest : Nat} (hg : g * vh + rest = u1 * 4294967296 + u0) (hr : 4294967296 ≤ rest) : g < 4294967296 ∧ g ≤ Q + 1 := by
  have hu := h.u1le
  have h0 := h.u032
  have hgB : g < 4294967296 := by
    rcases Nat.lt_or_ge g 4294967296 with hq | hq
    · exact hq
    · exfalso
      have h1 := Nat.mul_le_mul_right vh hq
      omega
  refine ⟨hgB, h.exit hg hgB ?_⟩
  have h1 : g * vl ≤ 4294967296 * 4294967296 := Nat.mul_le_mul (by omega) (by have := h.vl32; omega)
  have h2 : 4294967296 * 4294967296 ≤ rest * 4294967296 := Nat.mul_le_mul_right _ hr
  omega
end
theorem sub_right {U V Q g D BN : Nat} {bF : Int} (hq1 : Q * V ≤ U) (hq2 : U < (Q + 1) * V) (hg0 : Q ≤ g) (hVB : V ≤ BN) (h : (D : Int) + BN * bF = (U : Int) - g * V) (hb : 0 ≤ bF) : g = Q ∧ bF = 0 ∧ U = Q * V + D := by
  have hgq : g ≤ Q := by
    rcases Nat.lt_or_ge Q g with hq | hq
    · exfalso
      have h1 := Nat.mul_le_mul_right V (show Q + 1 ≤ g from hq)
      have h2 : (0 : Int) ≤ BN * bF := Int.mul_nonneg (by omega) hb
      have h3 : ((g * V : Nat) : Int) = (g : Int) * V := Int.natCast_mul _ _
      omega
    · exact hq
  have e : g = Q := by omega
  subst e
  have h3 : ((g * V : Nat) : Int) = (g : Int) * V := Int.natCast_mul _ _
  have h4 : (g + 1) * V = g * V + V := Nat.succ_mul _ _
  have hb0 : bF = 0 := by
    rcases Int.lt_or_le 0 bF with hp | hp
    · exfalso
      have h5 : (BN : Int) * 1 ≤ BN * bF := Int.mul_le_mul_of_nonneg_left hp (by omega)
      omega
    · omega
  subst hb0
  refine ⟨rfl, rfl, ?_⟩
  omega
theorem sub_wrong {U V Q g D BN : Nat} {bF : Int} (hq1 : Q * V ≤ U) (hg0 : Q ≤ g) (hg1 : g ≤ Q + 1) (hVB : V ≤ BN) (hD : D < BN) (h : (D : Int) + BN * bF = (U : Int) - g * V) (hb : bF < 0) : g = Q + 1 ∧ bF = -1 ∧ D + V = (U - Q * V) + BN := by
  have h3 : ((g * V : Nat) : Int) = (g : Int) * V := Int.natCast_mul _ _
  have h6 : (BN : Int) * bF ≤ BN * (-1) := Int.mul_le_mul_of_nonneg_left (by omega) (by omega)
  have hgq : Q < g := by
    rcases Nat.lt_or_ge Q g with hq | hq
    · exact hq
    · exfalso
      have e : g = Q := by omega
      subst e
      omega
  have e : g = Q + 1 := by omega
  subst e
  have h4 : (Q + 1) * V = Q * V + V := Nat.succ_mul _ _
  have hb1 : bF = -1 := by
    rcases Int.lt_or_le bF (-1) with hp | hp
    · exfalso
      have h5 : (BN : Int) * bF ≤ BN * (-2) := Int.mul_le_mul_of_nonneg_left (by omega) (by omega)
      omega
    · omega
  subst hb1
  refine ⟨rfl, rfl, ?_⟩
  omega
theorem lv_top2 {l : List Nat} {k : Nat} (hl : l.length = k + 2) : lv l = (l[k + 1]'(by omega) * 4294967296 + l[k]'(by omega)) * 4294967296 ^ k + lv (l.take k) := by
  rw [lv_split (l := l) (k := k) (by omega), lv_drop (l := l) (k := k) (by omega), lv_drop (l := l) (k := k + 1) (by omega), List.drop_of_length_le (by omega), lv_nil, Nat.mul_comm]
  have e : l[k]'(by omega) + 4294967296 * (l[k + 1]'(by omega) + 4294967296 * 0) = l[k + 1]'(by omega) * 4294967296 + l[k]'(by omega) := by omega
  rw [e, Nat.add_comm]
theorem lv_top3 {l : List Nat} {k : Nat} (hl : l.length = k + 3) : lv l = ((l[k + 2]'(by omega) * 4294967296 + l[k + 1]'(by omega)) * 4294967296 + l[k]'(by omega)) * 4294967296 ^ k + lv (l.take k) := by
  rw [lv_split (l := l) (k := k) (by omega), lv_drop (l := l) (k := k) (by omega), lv_drop (l := l) (k := k + 1) (by omega), lv_drop (l := l) (k := k + 2) (by omega), List.drop_of_length_le (by omega), lv_nil, Nat.mul_comm]
  have e : l[k]'(by omega) + 4294967296 * (l[k + 1]'(by omega) + 4294967296 * (l[k + 2]'(by omega) + 4294967296 * 0)) = (l[k + 2]'(by omega) * 4294967296 + l[k + 1]'(by omega)) * 4294967296 + l[k]'(by omega) := by omega
  rw [e, Nat.add_comm]
end Go.Proofs.YtoblpcljhblnmaaGreatDoor.Pl
