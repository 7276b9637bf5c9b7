/- Quotients of numbers in 32-bit words, plain: Knuth's estimate, what is subtracted and added back. No program. -/
import Derived.Test.YtoblpcljhblnmaaGreatDoorPLarge
namespace Go.Proofs.YtoblpcljhblnmaaGreatDoor.Pl
theorem sub_step {pre : List Nat} {i : Nat} {c va vb : Int} {x y : Nat} {s : Int} (hl : pre.length = i) (h : (lv pre : Int) + 4294967296 ^ i * c = va - vb) (hs : s = c + x - y) :
    (lv (pre ++ [(s % 4294967296).toNat]) : Int) + 4294967296 ^ (i + 1) * (s / 4294967296) = (va + 4294967296 ^ i * x) - (vb + 4294967296 ^ i * y) := by
  rw [lv_snoc, hl, Int.pow_succ, Int.mul_assoc]
  have h0 : 0 ≤ s % 4294967296 := Int.emod_nonneg _ (by omega)
  rw [Int.natCast_add, Int.natCast_mul, Int.natCast_pow, Int.toNat_of_nonneg h0]
  have e : s = 4294967296 * (s / 4294967296) + s % 4294967296 := by omega
  have e2 : (4294967296 : Int) ^ i * s = 4294967296 ^ i * (4294967296 * (s / 4294967296)) + 4294967296 ^ i * (s % 4294967296) := by rw [← Int.mul_add, ← e]
  have e3 : (4294967296 : Int) ^ i * s = 4294967296 ^ i * c + 4294967296 ^ i * x - 4294967296 ^ i * y := by rw [hs, Int.mul_sub, Int.mul_add]
  show (lv pre : Int) + (4294967296 : Int) ^ i * (s % 4294967296) + _ = _
  omega
theorem est_up {B P vh vl low top u2 ulow g V U Q : Nat} (hV : V = (vh * B + vl) * P + low) (hU : U = (top * B + u2) * P + ulow) (hul : ulow < P) (hQ : Q * V ≤ U) (hg : top * B + u2 < g * (vh * B + vl)) : Q < g := by
  rcases Nat.lt_or_ge Q g with h | h
  · exact h
  · exfalso
    have h1 : g * V ≤ Q * V := Nat.mul_le_mul_right V h
    have h2 : (top * B + u2 + 1) * P ≤ g * (vh * B + vl) * P := Nat.mul_le_mul_right P hg
    have h3 : g * V = g * (vh * B + vl) * P + g * low := by rw [hV, Nat.mul_add, Nat.mul_assoc]
    have h4 : (top * B + u2 + 1) * P = (top * B + u2) * P + P := by rw [Nat.add_mul, Nat.one_mul]
    omega
theorem est_down {B P vh vl low top u2 ulow g V U Q : Nat} (hV : V = (vh * B + vl) * P + low) (hU : U = (top * B + u2) * P + ulow) (hlow : low < P) (hU2 : U < (Q + 1) * V) (hg : g * (vh * B + vl) ≤ top * B + u2) (hgB : g < B) (hvh : 1 ≤ vh) : g ≤ Q + 1 := by
  rcases Nat.lt_or_ge (Q + 1) g with h | h
  · exfalso
    have h1 : (Q + 2) * V ≤ g * V := Nat.mul_le_mul_right V (by omega)
    have h2 : g * V = g * (vh * B + vl) * P + g * low := by rw [hV, Nat.mul_add, Nat.mul_assoc]
    have h3 : g * (vh * B + vl) * P ≤ (top * B + u2) * P := Nat.mul_le_mul_right P hg
    have h4 : g * low ≤ B * P := Nat.mul_le_mul (by omega) (by omega)
    have h5 : B * P ≤ V := by
      rw [hV, Nat.add_mul]
      have : 1 * B * P ≤ vh * B * P := Nat.mul_le_mul_right P (Nat.mul_le_mul_right B hvh)
      rw [Nat.one_mul] at this
      omega
    have h6 : (Q + 2) * V = (Q + 1) * V + V := by rw [show Q + 2 = Q + 1 + 1 by omega, Nat.succ_mul]
    omega
  · exact h
theorem sub_mul_step {pre : List Nat} {i g x y carry c1 : Nat} {borrow b1 : Int} {va vb : Int} (hl : pre.length = i)
    (h : (lv pre : Int) + 4294967296 ^ i * (borrow - carry) = va - g * vb) (hc : c1 = carry + g * y) (hb : b1 = borrow + x - (c1 % 4294967296 : Nat)) :
    (lv (pre ++ [(b1 % 4294967296).toNat]) : Int) + 4294967296 ^ (i + 1) * (b1 / 4294967296 - (c1 / 4294967296 : Nat)) = (va + 4294967296 ^ i * x) - g * (vb + 4294967296 ^ i * y) := by
  rw [lv_snoc, hl, Int.pow_succ, Int.mul_assoc]
  have h0 : 0 ≤ b1 % 4294967296 := Int.emod_nonneg _ (by omega)
  rw [Int.natCast_add, Int.natCast_mul, Int.natCast_pow, Int.toNat_of_nonneg h0]
  show (lv pre : Int) + (4294967296 : Int) ^ i * (b1 % 4294967296) + _ = _
  generalize hP : (4294967296 : Int) ^ i = P at *
  have e : b1 = 4294967296 * (b1 / 4294967296) + b1 % 4294967296 := by omega
  have ec : ((c1 : Nat) : Int) = 4294967296 * ((c1 / 4294967296 : Nat) : Int) + ((c1 % 4294967296 : Nat) : Int) := by omega
  have ec2 : ((c1 : Nat) : Int) = carry + g * y := by rw [hc]; push_cast; rfl
  generalize b1 / 4294967296 = q at *
  generalize b1 % 4294967296 = r at *
  generalize ((c1 / 4294967296 : Nat) : Int) = cq at *
  generalize ((c1 % 4294967296 : Nat) : Int) = cr at *
  have k1 : P * r + P * (4294967296 * (q - cq)) = P * (r + 4294967296 * (q - cq)) := by rw [Int.mul_add]
  have k2 : r + 4294967296 * (q - cq) = borrow - carry + x - g * y := by omega
  have k3 : P * (borrow - carry + x - g * y) = P * (borrow - carry) + P * x - P * (g * y) := by rw [Int.mul_sub, Int.mul_add]
  have k4 : (g : Int) * (vb + P * y) = g * vb + P * (g * y) := by rw [Int.mul_add]; rw [← Int.mul_assoc, Int.mul_comm (g : Int) P, Int.mul_assoc]
  rw [k4]
  rw [k2] at k1
  omega
def wn (us : List Nat) (j : Nat) (pre : List Nat) : List Nat := us.take j ++ pre ++ us.drop (j + pre.length)
theorem wn_nil (us : List Nat) (j : Nat) : wn us j [] = us := by unfold wn; simp
theorem wn_len {us pre : List Nat} {j : Nat} (h : j + pre.length ≤ us.length) : (wn us j pre).length = us.length := by
  unfold wn; simp only [List.length_append, List.length_take, List.length_drop]; omega
theorem wn_get {us pre : List Nat} {j : Nat} (h : j + pre.length < us.length) : (wn us j pre)[j + pre.length]? = some us[j + pre.length] := by
  unfold wn
  rw [List.getElem?_append_right (by simp only [List.length_append, List.length_take]; omega)]
  have e : j + pre.length - (us.take j ++ pre).length = 0 := by simp only [List.length_append, List.length_take]; omega
  rw [e, List.getElem?_drop, Nat.add_zero, List.getElem?_eq_getElem h]
theorem wn_set {us pre : List Nat} {j : Nat} (h : j + pre.length < us.length) (x : Nat) : (wn us j pre).set (j + pre.length) x = wn us j (pre ++ [x]) := by
  unfold wn
  have e : j + pre.length = (us.take j ++ pre).length := by simp only [List.length_append, List.length_take]; omega
  have e2 : (us.take j ++ pre ++ us.drop (j + pre.length)).set (j + pre.length) x = us.take j ++ pre ++ (us.drop (j + pre.length)).set 0 x := by
    rw [List.set_append_right _ _ (by omega)]
    congr 1
    congr 1
    omega
  rw [e2, List.drop_eq_getElem_cons h, List.set_cons_zero, List.length_append, List.length_singleton]
  simp [Nat.add_assoc]
theorem wn_take {us W : List Nat} {j : Nat} (h : j ≤ us.length) (x : Nat) : (wn us j (W ++ [x])).take (j + W.length) = us.take j ++ W := by
  unfold wn
  have e : (us.take j ++ W).length = j + W.length := by simp only [List.length_append, List.length_take]; omega
  rw [← List.append_assoc, List.append_assoc, List.take_left' e]
theorem div_step {us W : List Nat} {j n Qd Q V A : Nat} (hl : j + n + 1 ≤ us.length) (hW : W.length = n) (h : A = Qd * 4294967296 ^ (j + 1) * V + lv (us.take (j + 1 + n)))
    (hQ : lv ((us.drop j).take (n + 1)) = Q * V + lv W) (x : Nat) :
    A = (Q + 4294967296 * Qd) * 4294967296 ^ j * V + lv ((wn us j (W ++ [x])).take (j + n)) := by
  have e := wn_take (us := us) (W := W) (j := j) (by omega) x
  rw [hW] at e
  rw [e, lv_append, List.length_take, Nat.min_eq_left (by omega)]
  have e2 : lv (us.take (j + 1 + n)) = lv (us.take j) + 4294967296 ^ j * lv ((us.drop j).take (n + 1)) := by
    rw [lv_split (l := us.take (j + 1 + n)) (k := j) (by rw [List.length_take]; omega), List.take_take, Nat.min_eq_left (by omega), List.drop_take]
    congr 3
    congr 1
    omega
  rw [h, e2, hQ, Nat.mul_add, Nat.pow_succ, Nat.add_mul, Nat.add_mul]
  have e3 : Qd * (4294967296 ^ j * 4294967296) * V = 4294967296 * Qd * 4294967296 ^ j * V := by
    rw [Nat.mul_comm (4294967296 ^ j) 4294967296, ← Nat.mul_assoc, Nat.mul_comm Qd 4294967296]
  have e4 : 4294967296 ^ j * (Q * V) = Q * 4294967296 ^ j * V := by rw [← Nat.mul_assoc, Nat.mul_comm (4294967296 ^ j) Q]
  omega
end Go.Proofs.YtoblpcljhblnmaaGreatDoor.Pl
