/- The long division's start, steps and end, plain. No program. Plain laws for slices.SortStableFunc: exchanging ranges, rotating, merging in place; nothing of the program stands here. Plain laws for merging in place; nothing of the program stands here. Plain laws for the blocks of a stable sort; nothing of the program stands here. Words for sorting in memory: a row of elements that the call owns, and what a sort leaves alone. No condition. Rows of integers that the call owns: reading, storing, and stores elsewhere. No condition. -/
import Derived.Test.YtoblpcljhblnmaaGreatDoorPLargeC
import Derived.Sort.LotA
import Derived.Test.YtoblpcljhblnmaaGreatDoorBase
import Derived.RegionTactic
import Derived.ChangeAlike
import Derived.Deep.RegionHeld3
import Derived.BigRegion
namespace Go.Proofs.YtoblpcljhblnmaaGreatDoor.Pl
set_option maxRecDepth 20000
theorem lv_lt_top {l : List Nat} (h : W32 l) {k : Nat} (hl : l.length = k + 1) : lv l < (l[k]'(by omega) + 1) * 4294967296 ^ k ∧ l[k]'(by omega) * 4294967296 ^ k ≤ lv l := by
  have e := lv_split (l := l) (k := k) (by omega)
  rw [lv_drop (l := l) (k := k) (by omega), List.drop_of_length_le (by omega), lv_nil] at e
  have h1 := lv_lt (h.take k)
  rw [List.length_take, Nat.min_eq_left (by omega)] at h1
  have e2 : 4294967296 ^ k * (l[k]'(by omega) + 4294967296 * 0) = l[k]'(by omega) * 4294967296 ^ k := by rw [Nat.mul_zero, Nat.add_zero, Nat.mul_comm]
  rw [e2] at e
  rw [Nat.succ_mul]
  generalize l[k]'(by omega) * 4294967296 ^ k = X at *
  generalize 4294967296 ^ k = Y at *
  omega
theorem div_setup {lb v0 : List Nat} {k s : Nat} (hlb : lb.length = k + 1) (hW : W32 lb) (hs : s ≤ 31) (h1 : 2147483648 ≤ lb[k]'(by omega) * 2 ^ s) (h2 : lb[k]'(by omega) * 2 ^ s < 4294967296)
    (hv : v0.length = k + 2) (hV : W32 v0) (e : lv v0 = lv lb * 2 ^ s) : lv (v0.take (k + 1)) = lv lb * 2 ^ s ∧ 2147483648 ≤ v0[k]'(by omega) := by
  obtain ⟨t1, t2⟩ := lv_lt_top hW hlb
  have hp0 : 0 < 2 ^ s := Nat.pow_pos (by omega)
  have hpq : 2 ^ s * 2 ^ (32 - s) = 4294967296 := by rw [← Nat.pow_add, show s + (32 - s) = 32 by omega]
  have hq : lb[k]'(by omega) + 1 ≤ 2 ^ (32 - s) := by
    rcases Nat.lt_or_ge (lb[k]'(by omega)) (2 ^ (32 - s)) with h | h
    · exact h
    · exfalso
      have := Nat.mul_le_mul_right (2 ^ s) h
      rw [Nat.mul_comm (2 ^ (32 - s)), hpq] at this
      omega
  have h3 : (lb[k]'(by omega) + 1) * 2 ^ s ≤ 4294967296 := by
    have := Nat.mul_le_mul_right (2 ^ s) hq
    rw [Nat.mul_comm (2 ^ (32 - s)), hpq] at this
    exact this
  have h4 : lv v0 < 4294967296 ^ (k + 1) := by
    rw [e]
    have a1 : lv lb * 2 ^ s < (lb[k]'(by omega) + 1) * 4294967296 ^ k * 2 ^ s := Nat.mul_lt_mul_of_pos_right t1 hp0
    have a2 : (lb[k]'(by omega) + 1) * 4294967296 ^ k * 2 ^ s = (lb[k]'(by omega) + 1) * 2 ^ s * 4294967296 ^ k := by rw [Nat.mul_right_comm]
    have a3 := Nat.mul_le_mul_right (4294967296 ^ k) h3
    rw [Nat.pow_succ, Nat.mul_comm (4294967296 ^ k)]
    rw [a2] at a1
    exact Nat.lt_of_lt_of_le a1 a3
  obtain ⟨_, t4⟩ := lv_lt_top hV hv
  have h5 : v0[k + 1]'(by omega) = 0 := by
    rcases Nat.eq_zero_or_pos (v0[k + 1]'(by omega)) with h | h
    · exact h
    · exfalso
      have h := Nat.mul_le_mul_right (4294967296 ^ (k + 1)) (show 1 ≤ v0[k + 1]'(by omega) from h)
      rw [Nat.one_mul] at h
      exact absurd h4 (Nat.not_lt.2 (Nat.le_trans h t4))
  have h6 : lv (v0.take (k + 1)) = lv v0 := by
    have := lv_split (l := v0) (k := k + 1) (by omega)
    rw [lv_drop (l := v0) (k := k + 1) (by omega), List.drop_of_length_le (by omega), lv_nil, h5, Nat.mul_zero, Nat.add_zero] at this
    exact this.symm
  refine ⟨h6.trans e, ?_⟩
  have hl7 : (v0.take (k + 1)).length = k + 1 := by rw [List.length_take]; omega
  obtain ⟨t5, _⟩ := lv_lt_top (hV.take (k + 1)) hl7
  rw [h6, e, List.getElem_take] at t5
  have h8 : lb[k]'(by omega) * 2 ^ s * 4294967296 ^ k ≤ lv lb * 2 ^ s := by
    rw [Nat.mul_right_comm]
    exact Nat.mul_le_mul_right _ t2
  have h9 : 2147483648 * 4294967296 ^ k ≤ lb[k]'(by omega) * 2 ^ s * 4294967296 ^ k := Nat.mul_le_mul_right _ h1
  have h10 : 2147483648 * 4294967296 ^ k < (v0[k]'(by omega) + 1) * 4294967296 ^ k := Nat.lt_of_le_of_lt (Nat.le_trans h9 h8) t5
  have := Nat.lt_of_mul_lt_mul_right h10
  omega
theorem div_init {la : List Nat} {m k s V : Nat} (hla : la.length = m + k + 1) (hW : W32 la) (hs : s ≤ 31) (hV : 2147483648 * 4294967296 ^ k ≤ V) : lv la * 2 ^ s < V * 4294967296 ^ (m + 1) := by
  have h1 := lv_lt hW
  rw [hla] at h1
  have hp : 2 ^ s ≤ 2147483648 := by rw [show 2147483648 = 2 ^ 31 by rfl]; exact Nat.pow_le_pow_right (by omega) hs
  have h2 : lv la * 2 ^ s ≤ lv la * 2147483648 := Nat.mul_le_mul_left _ hp
  have h3 : lv la * 2147483648 < 4294967296 ^ (m + k + 1) * 2147483648 := Nat.mul_lt_mul_of_pos_right h1 (by omega)
  have h4 : 2147483648 * 4294967296 ^ k * 4294967296 ^ (m + 1) ≤ V * 4294967296 ^ (m + 1) := Nat.mul_le_mul_right _ hV
  have h5 : 2147483648 * 4294967296 ^ k * 4294967296 ^ (m + 1) = 4294967296 ^ (m + k + 1) * 2147483648 := by
    rw [Nat.mul_assoc, ← Nat.pow_add, Nat.mul_comm, show k + (m + 1) = m + k + 1 by omega]
  rw [h5] at h4
  exact Nat.lt_of_le_of_lt h2 (Nat.lt_of_lt_of_le h3 h4)
def win (us : List Nat) (j k : Nat) : List Nat := (us.drop j).take (k + 3)
theorem win_len {us : List Nat} {j k : Nat} (h : j + k + 3 ≤ us.length) : (win us j k).length = k + 3 := by unfold win; rw [List.length_take, List.length_drop]; omega
theorem win_get {us : List Nat} {j k i : Nat} (h : j + k + 3 ≤ us.length) (hi : i < k + 3) : (win us j k)[i]'(by rw [win_len h]; exact hi) = us[j + i]'(by omega) := by unfold win; rw [List.getElem_take, List.getElem_drop]
theorem win_lv {us : List Nat} {j k : Nat} (h : j + k + 3 ≤ us.length) : lv (us.take (j + 1 + (k + 2))) = lv (us.take j) + 4294967296 ^ j * lv (win us j k) := by
  rw [lv_split (l := us.take (j + 1 + (k + 2))) (k := j) (by rw [List.length_take]; omega), List.take_take, Nat.min_eq_left (by omega), List.drop_take]
  unfold win
  congr 3
  congr 1
  omega
theorem dig_of {us vs : List Nat} {j k : Nat} (hU : W32 us) (hV : W32 vs) (h : j + k + 3 ≤ us.length) (hv : vs.length = k + 2) (ht : 2147483648 ≤ vs[k + 1]'(by omega)) (hb : lv (us.take (j + 1 + (k + 2))) < lv vs * 4294967296 ^ (j + 1)) :
    Dig (lv (win us j k)) (lv vs) (us[j + (k + 2)]'(by omega)) (us[j + (k + 1)]'(by omega)) (us[j + k]'(by omega)) (vs[k + 1]'(by omega)) (vs[k]'(by omega)) (4294967296 ^ k) (lv ((win us j k).take k)) (lv (vs.take k)) (lv (win us j k) / lv vs) := by
  have hwW : W32 (win us j k) := (hU.drop j).take _
  have hwl := win_len h
  have e3 := lv_top3 hwl
  rw [win_get h (by omega), win_get h (by omega), win_get h (by omega)] at e3
  have hV0 : 0 < lv vs := by
    have := (lv_lt_top hV (k := k + 1) (by omega)).2
    have h2 : 0 < vs[k + 1]'(by omega) * 4294967296 ^ (k + 1) := Nat.mul_pos (by omega) (pow_pos32 _)
    omega
  have l1 := lv_lt (hwW.take k)
  rw [List.length_take, Nat.min_eq_left (by omega)] at l1
  have l2 := lv_lt (hV.take k)
  rw [List.length_take, Nat.min_eq_left (by omega)] at l2
  refine ⟨lv_top2 hv, e3, l1, l2, ?_, ht, hV.at_ _, hU.at_ _, hU.at_ _, Nat.div_mul_le_self _ _, ?_⟩
  · rw [win_lv h, Nat.pow_succ] at hb
    have h1 : 4294967296 ^ j * lv (win us j k) < 4294967296 ^ j * (lv vs * 4294967296) := by
      have e : lv vs * (4294967296 ^ j * 4294967296) = 4294967296 ^ j * (lv vs * 4294967296) := by rw [Nat.mul_left_comm]
      rw [e] at hb
      omega
    exact Nat.lt_of_mul_lt_mul_left h1
  · have := Nat.lt_div_mul_add hV0 (a := lv (win us j k))
    rw [Nat.succ_mul]
    exact this
theorem div_next {us W : List Nat} {j k V : Nat} (h : j + k + 3 ≤ us.length) (hW : W.length = k + 2) (hU : W32 us) (hr : lv W < V) (x : Nat) :
    lv ((wn us j (W ++ [x])).take (j + (k + 2))) < V * 4294967296 ^ j := by
  have e := wn_take (us := us) (W := W) (j := j) (by omega) x
  rw [hW] at e
  rw [e, lv_append, List.length_take, Nat.min_eq_left (by omega)]
  have h1 := lv_lt (hU.take j)
  rw [List.length_take, Nat.min_eq_left (by omega)] at h1
  have h2 := Nat.mul_le_mul_left (4294967296 ^ j) (show lv W + 1 ≤ V from hr)
  rw [Nat.mul_add, Nat.mul_one, Nat.mul_comm _ V] at h2
  omega
theorem wn_top {us W : List Nat} {j k : Nat} (h : j + k + 3 ≤ us.length) (hW : W.length = k + 2) (x : Nat) : (wn us j (W ++ [x]))[j + (k + 2)]? = some x := by
  unfold wn
  rw [List.append_assoc, List.getElem?_append_right (by rw [List.length_take]; omega), List.length_take, Nat.min_eq_left (by omega), List.append_assoc, List.getElem?_append_right (by omega)]
  have e : j + (k + 2) - j - W.length = 0 := by omega
  rw [e]
  rfl
theorem div_end {A Bv p Qd X : Nat} (hp : 0 < p) (h : A * p = Qd * (Bv * p) + X) (hX : X < Bv * p) : Qd = A / Bv ∧ X = A % Bv * p := by
  have hB : 0 < Bv := by
    rcases Nat.eq_zero_or_pos Bv with rfl | h
    · simp at hX
    · exact h
  have e : Qd * (Bv * p) = Qd * Bv * p := (Nat.mul_assoc _ _ _).symm
  rw [e] at h
  have hle : Qd * Bv ≤ A := Nat.le_of_mul_le_mul_right (by omega) hp
  have hX2 : X = (A - Qd * Bv) * p := by rw [Nat.sub_mul]; omega
  have hlt : A - Qd * Bv < Bv := by rw [hX2] at hX; exact Nat.lt_of_mul_lt_mul_right hX
  have hA : A = (A - Qd * Bv) + Bv * Qd := by rw [Nat.mul_comm Bv]; omega
  have h1 : A / Bv = Qd := by rw [hA, Nat.add_mul_div_left _ _ hB, Nat.div_eq_of_lt hlt, Nat.zero_add]
  have h2 : A % Bv = A - Qd * Bv := by
    conv => lhs; rw [hA]
    rw [Nat.add_mul_mod_self_left, Nat.mod_eq_of_lt hlt]
  exact ⟨h1.symm, by rw [h2]; exact hX2⟩
theorem unshift_end {us r : List Nat} {n p q R : Nat} (hp : p * q = 4294967296) (hn : n < us.length) (h0 : us[n] = 0) (h : lv r * p + us[0]'(by omega) % p = lv (us.take n) + 4294967296 ^ n * (us[n] % p)) (hR : lv (us.take n) = R * p) (hn0 : 0 < n) : lv r = R := by
  have hp0 : 0 < p := by
    rcases Nat.eq_zero_or_pos p with rfl | h
    · simp at hp
    · exact h
  rw [h0, Nat.zero_mod, Nat.mul_zero, Nat.add_zero, hR] at h
  have hz : us[0]'(by omega) % p = 0 := by
    have e : lv (us.take n) % p = us[0]'(by omega) % p := by
      have e1 : us.take n = us[0]'(by omega) :: (us.take n).drop 1 := by
        have := List.drop_eq_getElem_cons (l := us.take n) (i := 0) (by rw [List.length_take]; omega)
        rw [List.drop_zero, List.getElem_take] at this
        exact this
      rw [e1, lv_cons, ← hp, Nat.mul_assoc, Nat.add_mul_mod_self_left]
    rw [hR, Nat.mul_mod_left] at e
    exact e.symm
  rw [hz, Nat.add_zero] at h
  exact Nat.eq_of_mul_eq_mul_right hp0 h
end Go.Proofs.YtoblpcljhblnmaaGreatDoor.Pl
namespace Go.Proofs.YtoblpcljhblnmaaGreatDoor.Srt
open Go.Sort
variable {α : Type} [Inhabited α]
end Go.Proofs.YtoblpcljhblnmaaGreatDoor.Srt
namespace Go.Proofs.YtoblpcljhblnmaaGreatDoor.Srt
open Go.Sort
variable {α : Type} [Inhabited α] {lt : α → α → Bool}
end Go.Proofs.YtoblpcljhblnmaaGreatDoor.Srt
namespace Go.Proofs.YtoblpcljhblnmaaGreatDoor.Srt
open Go.Sort
variable {α : Type} [Inhabited α] {lt : α → α → Bool}
end Go.Proofs.YtoblpcljhblnmaaGreatDoor.Srt
namespace Go.Proofs.YtoblpcljhblnmaaGreatDoor.Srt
open Go.RowKit Go.Sort
variable {α : Type}
theorem addr_add (g j : Nat) : (⟨g, 0, none⟩ : Addr).add j = ⟨g, j, none⟩ := by
  unfold Addr.add
  split
  · rename_i h; rw [h]
  · simp
def wset (w : World) (g : Nat) : Nat → List Value → World
  | _, [] => w
  | i, u :: us => wset (w.setCell ⟨g, i, none⟩ u) g (i + 1) us
def lset (xs : List Value) : Nat → List Value → List Value
  | _, [] => xs
  | i, u :: us => lset (xs.set i u) (i + 1) us
theorem lset_app (pre xs : List Value) (i : Nat) (us : List Value) : lset (pre ++ xs) (pre.length + i) us = pre ++ lset xs i us := by
  induction us generalizing xs i with
  | nil => rfl
  | cons u us ih =>
    rw [lset, lset, List.set_append_right _ _ (by omega), show pre.length + i - pre.length = i by omega, Nat.add_assoc, ih]
theorem lset_head (ys xs us : List Value) (h : us.length = ys.length) : lset (ys ++ xs) 0 us = us ++ xs := by
  induction us generalizing ys with
  | nil => cases ys with
    | nil => rfl
    | cons y ys => simp at h
  | cons u us ih => cases ys with
    | nil => simp at h
    | cons y ys =>
      have := lset_app [u] (ys ++ xs) 0 us
      rw [lset, List.cons_append, List.set_cons_zero]
      rw [show u :: (ys ++ xs) = [u] ++ (ys ++ xs) from rfl, show 0 + 1 = [u].length + 0 from rfl, this, ih ys (by simpa using h)]
      rfl
theorem lset_flat (enc : α → List Value) (k : Nat) (hk : ∀ x, (enc x).length = k) (l : List α) (i : Nat) (hi : i < l.length) (x : α) : lset (l.flatMap enc) (i * k) (enc x) = (l.set i x).flatMap enc := by
  induction l generalizing i with
  | nil => simp at hi
  | cons a l ih =>
    cases i with
    | zero => rw [List.set_cons_zero, List.flatMap_cons, List.flatMap_cons, Nat.zero_mul, lset_head _ _ _ (by rw [hk, hk])]
    | succ i =>
      rw [List.set_cons_succ, List.flatMap_cons, List.flatMap_cons, show (i + 1) * k = (enc a).length + i * k by rw [hk, Nat.add_mul]; omega, lset_app, ih i (by simpa using hi)]
theorem flat_at (enc : α → List Value) (k : Nat) (hk : ∀ x, (enc x).length = k) (l : List α) (i r : Nat) (hi : i < l.length) (hr : r < k) : (l.flatMap enc)[i * k + r]? = (enc l[i])[r]? := by
  induction l generalizing i with
  | nil => simp at hi
  | cons a l ih =>
    cases i with
    | zero => rw [List.flatMap_cons, Nat.zero_mul, Nat.zero_add, List.getElem?_append_left (by rw [hk]; exact hr)]; rfl
    | succ i =>
      rw [List.flatMap_cons, List.getElem?_append_right (by rw [hk, Nat.add_mul]; omega), hk, show (i + 1) * k + r - k = i * k + r by rw [Nat.add_mul]; omega, ih i (by simpa using hi)]
      rfl
section
variable {enc : α → List Value} {k base : Nat} {T : TypeId} {g n cap : Nat} {w w' : World} {d : Array α}
end
end Go.Proofs.YtoblpcljhblnmaaGreatDoor.Srt
namespace Go.Proofs.YtoblpcljhblnmaaGreatDoor
open Go.RowKit
section
variable {w w' : World} {base g n c : Nat} {e : TypeId} {l : List Int}
end
theorem info_int : (Tryz.prog.info? 3).map (fun i => (i.zero, i.size, i.bytes)) = some (some (.int .i64 0), 1, 8) := by kernel_rfl
theorem lt_of_cello {w : World} {b o : Nat} {v : Value} (h : w.cell? ⟨b, o, none⟩ = some v) : b < w.heap.size := by
  rcases Nat.lt_or_ge b w.heap.size with hlt | hge
  · exact hlt
  · unfold World.cell? at h
    rw [Array.getElem?_eq_none hge] at h
    cases h
end Go.Proofs.YtoblpcljhblnmaaGreatDoor
