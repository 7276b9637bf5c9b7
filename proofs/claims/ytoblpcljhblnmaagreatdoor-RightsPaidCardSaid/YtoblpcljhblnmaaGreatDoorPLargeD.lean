/- The long division's start, steps and end, plain. No program. -/
import Derived.Test.YtoblpcljhblnmaaGreatDoorPLargeC
namespace Go.Proofs.YtoblpcljhblnmaaGreatDoor.Pl
set_option maxRecDepth 20000
theorem lv_lt_top {l : List Nat} (h : W32 l) {k : Nat} (hl : l.length = k + 1) : lv l < (l[k]'(by omega) + 1) * 4294967296 ^ k ∧ l[k]'(by omega) * 4294967296 ^ k ≤ lv l := by
  have e := lv_split (l := l) (k := k) (by omega)
  rw [lv_drop (l := l) (k := k) (by omega), List.drop_of_length_le (by omega), lv_nil] at e
  have h1 := lv_lt (h.take k)
  rw [List.length_take, Nat.min_eq_left (by omega)] at h1
  have e2 : 4294967296 ^ k * (l[k]'(by omega) + 4294967296 * 0) = l[k]'(by omega) * 4294967296 ^ k := by rw [Nat.mul_zero, Nat.add_zero, Nat.mul_comm]
  rw [e2] at e
  rw [Nat.succ_mul]
  generalize l[k]'(by omega) * 4294967296 ^ k = X at *
  generalize 4294967296 ^ k = Y at *
  omega
/-- the divisor, shifted -/
theorem div_setup {lb v0 : List Nat} {k s : Nat} (hlb : lb.length = k + 1) (hW : W32 lb) (hs : s ≤ 31) (h1 : 2147483648 ≤ lb[k]'(by omega) * 2 ^ s) (h2 : lb[k]'(by omega) * 2 ^ s < 4294967296)
    (hv : v0.length = k + 2) (hV : W32 v0) (e : lv v0 = lv lb * 2 ^ s) : lv (v0.take (k + 1)) = lv lb * 2 ^ s ∧ 2147483648 ≤ v0[k]'(by omega) := by
  obtain ⟨t1, t2⟩ := lv_lt_top hW hlb
  have hp0 : 0 < 2 ^ s := Nat.pow_pos (by omega)
  have hpq : 2 ^ s * 2 ^ (32 - s) = 4294967296 := by rw [← Nat.pow_add, show s + (32 - s) = 32 by omega]
  have hq : lb[k]'(by omega) + 1 ≤ 2 ^ (32 - s) := by
    rcases Nat.lt_or_ge (lb[k]'(by omega)) (2 ^ (32 - s)) with h | h
    · exact h
    · exfalso
      have := Nat.mul_le_mul_right (2 ^ s) h
      rw [Nat.mul_comm (2 ^ (32 - s)), hpq] at this
      omega
  have h3 : (lb[k]'(by omega) + 1) * 2 ^ s ≤ 4294967296 := by
    have := Nat.mul_le_mul_right (2 ^ s) hq
    rw [Nat.mul_comm (2 ^ (32 - s)), hpq] at this
    exact this
  have h4 : lv v0 < 4294967296 ^ (k + 1) := by
    rw [e]
    have a1 : lv lb * 2 ^ s < (lb[k]'(by omega) + 1) * 4294967296 ^ k * 2 ^ s := Nat.mul_lt_mul_of_pos_right t1 hp0
    have a2 : (lb[k]'(by omega) + 1) * 4294967296 ^ k * 2 ^ s = (lb[k]'(by omega) + 1) * 2 ^ s * 4294967296 ^ k := by rw [Nat.mul_right_comm]
    have a3 := Nat.mul_le_mul_right (4294967296 ^ k) h3
    rw [Nat.pow_succ, Nat.mul_comm (4294967296 ^ k)]
    rw [a2] at a1
    exact Nat.lt_of_lt_of_le a1 a3
  obtain ⟨_, t4⟩ := lv_lt_top hV hv
  have h5 : v0[k + 1]'(by omega) = 0 := by
    rcases Nat.eq_zero_or_pos (v0[k + 1]'(by omega)) with h | h
    · exact h
    · exfalso
      have h := Nat.mul_le_mul_right (4294967296 ^ (k + 1)) (show 1 ≤ v0[k + 1]'(by omega) from h)
      rw [Nat.one_mul] at h
      exact absurd h4 (Nat.not_lt.2 (Nat.le_trans h t4))
  have h6 : lv (v0.take (k + 1)) = lv v0 := by
    have := lv_split (l := v0) (k := k + 1) (by omega)
    rw [lv_drop (l := v0) (k := k + 1) (by omega), List.drop_of_length_le (by omega), lv_nil, h5, Nat.mul_zero, Nat.add_zero] at this
    exact this.symm
  refine ⟨h6.trans e, ?_⟩
  have hl7 : (v0.take (k + 1)).length = k + 1 := by rw [List.length_take]; omega
  obtain ⟨t5, _⟩ := lv_lt_top (hV.take (k + 1)) hl7
  rw [h6, e, List.getElem_take] at t5
  have h8 : lb[k]'(by omega) * 2 ^ s * 4294967296 ^ k ≤ lv lb * 2 ^ s := by
    rw [Nat.mul_right_comm]
    exact Nat.mul_le_mul_right _ t2
  have h9 : 2147483648 * 4294967296 ^ k ≤ lb[k]'(by omega) * 2 ^ s * 4294967296 ^ k := Nat.mul_le_mul_right _ h1
  have h10 : 2147483648 * 4294967296 ^ k < (v0[k]'(by omega) + 1) * 4294967296 ^ k := Nat.lt_of_le_of_lt (Nat.le_trans h9 h8) t5
  have := Nat.lt_of_mul_lt_mul_right h10
  omega
/-- the first window's bound -/
theorem div_init {la : List Nat} {m k s V : Nat} (hla : la.length = m + k + 1) (hW : W32 la) (hs : s ≤ 31) (hV : 2147483648 * 4294967296 ^ k ≤ V) : lv la * 2 ^ s < V * 4294967296 ^ (m + 1) := by
  have h1 := lv_lt hW
  rw [hla] at h1
  have hp : 2 ^ s ≤ 2147483648 := by rw [show 2147483648 = 2 ^ 31 by rfl]; exact Nat.pow_le_pow_right (by omega) hs
  have h2 : lv la * 2 ^ s ≤ lv la * 2147483648 := Nat.mul_le_mul_left _ hp
  have h3 : lv la * 2147483648 < 4294967296 ^ (m + k + 1) * 2147483648 := Nat.mul_lt_mul_of_pos_right h1 (by omega)
  have h4 : 2147483648 * 4294967296 ^ k * 4294967296 ^ (m + 1) ≤ V * 4294967296 ^ (m + 1) := Nat.mul_le_mul_right _ hV
  have h5 : 2147483648 * 4294967296 ^ k * 4294967296 ^ (m + 1) = 4294967296 ^ (m + k + 1) * 2147483648 := by
    rw [Nat.mul_assoc, ← Nat.pow_add, Nat.mul_comm, show k + (m + 1) = m + k + 1 by omega]
  rw [h5] at h4
  exact Nat.lt_of_le_of_lt h2 (Nat.lt_of_lt_of_le h3 h4)
/-- the window over place j -/
def win (us : List Nat) (j k : Nat) : List Nat := (us.drop j).take (k + 3)
theorem win_len {us : List Nat} {j k : Nat} (h : j + k + 3 ≤ us.length) : (win us j k).length = k + 3 := by unfold win; rw [List.length_take, List.length_drop]; omega
theorem win_get {us : List Nat} {j k i : Nat} (h : j + k + 3 ≤ us.length) (hi : i < k + 3) : (win us j k)[i]'(by rw [win_len h]; exact hi) = us[j + i]'(by omega) := by unfold win; rw [List.getElem_take, List.getElem_drop]
theorem win_lv {us : List Nat} {j k : Nat} (h : j + k + 3 ≤ us.length) : lv (us.take (j + 1 + (k + 2))) = lv (us.take j) + 4294967296 ^ j * lv (win us j k) := by
  rw [lv_split (l := us.take (j + 1 + (k + 2))) (k := j) (by rw [List.length_take]; omega), List.take_take, Nat.min_eq_left (by omega), List.drop_take]
  unfold win
  congr 3
  congr 1
  omega
theorem dig_of {us vs : List Nat} {j k : Nat} (hU : W32 us) (hV : W32 vs) (h : j + k + 3 ≤ us.length) (hv : vs.length = k + 2) (ht : 2147483648 ≤ vs[k + 1]'(by omega)) (hb : lv (us.take (j + 1 + (k + 2))) < lv vs * 4294967296 ^ (j + 1)) :
    Dig (lv (win us j k)) (lv vs) (us[j + (k + 2)]'(by omega)) (us[j + (k + 1)]'(by omega)) (us[j + k]'(by omega)) (vs[k + 1]'(by omega)) (vs[k]'(by omega)) (4294967296 ^ k) (lv ((win us j k).take k)) (lv (vs.take k)) (lv (win us j k) / lv vs) := by
  have hwW : W32 (win us j k) := (hU.drop j).take _
  have hwl := win_len h
  have e3 := lv_top3 hwl
  rw [win_get h (by omega), win_get h (by omega), win_get h (by omega)] at e3
  have hV0 : 0 < lv vs := by
    have := (lv_lt_top hV (k := k + 1) (by omega)).2
    have h2 : 0 < vs[k + 1]'(by omega) * 4294967296 ^ (k + 1) := Nat.mul_pos (by omega) (pow_pos32 _)
    omega
  have l1 := lv_lt (hwW.take k)
  rw [List.length_take, Nat.min_eq_left (by omega)] at l1
  have l2 := lv_lt (hV.take k)
  rw [List.length_take, Nat.min_eq_left (by omega)] at l2
  refine ⟨lv_top2 hv, e3, l1, l2, ?_, ht, hV.at_ _, hU.at_ _, hU.at_ _, Nat.div_mul_le_self _ _, ?_⟩
  · rw [win_lv h, Nat.pow_succ] at hb
    have h1 : 4294967296 ^ j * lv (win us j k) < 4294967296 ^ j * (lv vs * 4294967296) := by
      have e : lv vs * (4294967296 ^ j * 4294967296) = 4294967296 ^ j * (lv vs * 4294967296) := by rw [Nat.mul_left_comm]
      rw [e] at hb
      omega
    exact Nat.lt_of_mul_lt_mul_left h1
  · have := Nat.lt_div_mul_add hV0 (a := lv (win us j k))
    rw [Nat.succ_mul]
    exact this
/-- the window is replaced by its remainder -/
theorem div_next {us W : List Nat} {j k V : Nat} (h : j + k + 3 ≤ us.length) (hW : W.length = k + 2) (hU : W32 us) (hr : lv W < V) (x : Nat) :
    lv ((wn us j (W ++ [x])).take (j + (k + 2))) < V * 4294967296 ^ j := by
  have e := wn_take (us := us) (W := W) (j := j) (by omega) x
  rw [hW] at e
  rw [e, lv_append, List.length_take, Nat.min_eq_left (by omega)]
  have h1 := lv_lt (hU.take j)
  rw [List.length_take, Nat.min_eq_left (by omega)] at h1
  have h2 := Nat.mul_le_mul_left (4294967296 ^ j) (show lv W + 1 ≤ V from hr)
  rw [Nat.mul_add, Nat.mul_one, Nat.mul_comm _ V] at h2
  omega
theorem wn_top {us W : List Nat} {j k : Nat} (h : j + k + 3 ≤ us.length) (hW : W.length = k + 2) (x : Nat) : (wn us j (W ++ [x]))[j + (k + 2)]? = some x := by
  unfold wn
  rw [List.append_assoc, List.getElem?_append_right (by rw [List.length_take]; omega), List.length_take, Nat.min_eq_left (by omega), List.append_assoc, List.getElem?_append_right (by omega)]
  have e : j + (k + 2) - j - W.length = 0 := by omega
  rw [e]
  rfl
/-- the end: quotient and remainder -/
theorem div_end {A Bv p Qd X : Nat} (hp : 0 < p) (h : A * p = Qd * (Bv * p) + X) (hX : X < Bv * p) : Qd = A / Bv ∧ X = A % Bv * p := by
  have hB : 0 < Bv := by
    rcases Nat.eq_zero_or_pos Bv with rfl | h
    · simp at hX
    · exact h
  have e : Qd * (Bv * p) = Qd * Bv * p := (Nat.mul_assoc _ _ _).symm
  rw [e] at h
  have hle : Qd * Bv ≤ A := Nat.le_of_mul_le_mul_right (by omega) hp
  have hX2 : X = (A - Qd * Bv) * p := by rw [Nat.sub_mul]; omega
  have hlt : A - Qd * Bv < Bv := by rw [hX2] at hX; exact Nat.lt_of_mul_lt_mul_right hX
  have hA : A = (A - Qd * Bv) + Bv * Qd := by rw [Nat.mul_comm Bv]; omega
  have h1 : A / Bv = Qd := by rw [hA, Nat.add_mul_div_left _ _ hB, Nat.div_eq_of_lt hlt, Nat.zero_add]
  have h2 : A % Bv = A - Qd * Bv := by
    conv => lhs; rw [hA]
    rw [Nat.add_mul_mod_self_left, Nat.mod_eq_of_lt hlt]
  exact ⟨h1.symm, by rw [h2]; exact hX2⟩
theorem unshift_end {us r : List Nat} {n p q R : Nat} (hp : p * q = 4294967296) (hn : n < us.length) (h0 : us[n] = 0) (h : lv r * p + us[0]'(by omega) % p = lv (us.take n) + 4294967296 ^ n * (us[n] % p)) (hR : lv (us.take n) = R * p) (hn0 : 0 < n) : lv r = R := by
  have hp0 : 0 < p := by
    rcases Nat.eq_zero_or_pos p with rfl | h
    · simp at hp
    · exact h
  rw [h0, Nat.zero_mod, Nat.mul_zero, Nat.add_zero, hR] at h
  have hz : us[0]'(by omega) % p = 0 := by
    have e : lv (us.take n) % p = us[0]'(by omega) % p := by
      have e1 : us.take n = us[0]'(by omega) :: (us.take n).drop 1 := by
        have := List.drop_eq_getElem_cons (l := us.take n) (i := 0) (by rw [List.length_take]; omega)
        rw [List.drop_zero, List.getElem_take] at this
        exact this
      rw [e1, lv_cons, ← hp, Nat.mul_assoc, Nat.add_mul_mod_self_left]
    rw [hR, Nat.mul_mod_left] at e
    exact e.symm
  rw [hz, Nat.add_zero] at h
  exact Nat.eq_of_mul_eq_mul_right hp0 h
end Go.Proofs.YtoblpcljhblnmaaGreatDoor.Pl
