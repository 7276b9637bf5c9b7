/- Matrices of rational numbers, plain: the reduced echelon form in the steps of the program; sizes over a common denominator. No program. Matrices of rational numbers, plain: a square matrix that sends no vector but zero to zero is reduced to the identity; the solutions stay the same. No program. Matrices of rational numbers, plain: the inverse; the matrix of a network (its quadratic form is a sum of squares). No program. The linear model of a network, plain: susceptances, free buses, the matrix, its inverse; angles and flows. The matrix sends no vector but zero to zero. No program. -/
import Derived.Test.YtoblpcljhblnmaaGreatDoorPRsz
import Derived.Test.YtoblpcljhblnmaaGreatDoorPName
namespace Go.Proofs.YtoblpcljhblnmaaGreatDoor.Pl
def mapTo (f : Nat → Rat → Rat) (k j : Nat) (row : List Rat) : List Rat := row.mapIdx fun i x => if k ≤ i ∧ i < j then f i x else x
theorem mapTo_len (f : Nat → Rat → Rat) (k j : Nat) (row : List Rat) : (mapTo f k j row).length = row.length := List.length_mapIdx
theorem mapTo_at (f : Nat → Rat → Rat) (k j : Nat) (row : List Rat) {i : Nat} (hi : i < row.length) : (mapTo f k j row)[i]'(by rw [mapTo_len]; exact hi) = if k ≤ i ∧ i < j then f i row[i] else row[i] := by
  unfold mapTo
  rw [List.getElem_mapIdx]
theorem mapTo_start (f : Nat → Rat → Rat) (k : Nat) (row : List Rat) : mapTo f k k row = row := by
  apply List.ext_getElem (mapTo_len _ _ _ _)
  intro i h1 h2
  rw [mapTo_at f k k row h2, if_neg (by omega)]
theorem mapTo_next (f : Nat → Rat → Rat) {k j : Nat} {row : List Rat} (hk : k ≤ j) (hj : j < row.length) : mapTo f k (j + 1) row = (mapTo f k j row).set j (f j row[j]) := by
  apply List.ext_getElem (by rw [List.length_set, mapTo_len, mapTo_len])
  intro i h1 h2
  rw [mapTo_len] at h1
  rw [mapTo_at f k (j + 1) row h1, List.getElem_set]
  by_cases e : j = i
  · subst e
    rw [if_pos rfl, if_pos (by omega)]
  · rw [if_neg e, mapTo_at f k j row h1]
    by_cases h : k ≤ i ∧ i < j
    · rw [if_pos h, if_pos (by omega)]
    · rw [if_neg h, if_neg (by omega)]
theorem mapTo_old (f : Nat → Rat → Rat) {k j i : Nat} {row : List Rat} (hi : i < row.length) (h : j ≤ i ∨ i < k) : (mapTo f k j row)[i]'(by rw [mapTo_len]; exact hi) = row[i] := by
  rw [mapTo_at f k j row hi, if_neg (by omega)]
theorem mapTo_id {f : Nat → Rat → Rat} (k j : Nat) {row : List Rat} (h : ∀ i (hi : i < row.length), f i row[i] = row[i]) : mapTo f k j row = row := by
  apply List.ext_getElem (mapTo_len _ _ _ _)
  intro i h1 h2
  rw [mapTo_at f k j row h2, h i h2]
  split <;> rfl
def divRow (d : Rat) (k j : Nat) (row : List Rat) : List Rat := mapTo (fun _ x => x / d) k j row
def subRow (f : Rat) (y : List Rat) (k j : Nat) (row : List Rat) : List Rat := mapTo (fun i x => x - f * y.getD i 0) k j row
theorem subRow_zero (y : List Rat) (k j : Nat) (row : List Rat) : subRow 0 y k j row = row := mapTo_id k j fun i hi => by rw [Rat.zero_mul, Rat.sub_eq_add_neg, Rat.neg_zero, Rat.add_zero]
abbrev Mat := List (List Rat)
def en (M : Mat) (i j : Nat) : Rat := (M.getD i []).getD j 0
theorem getM {M : Mat} {i : Nat} (hi : i < M.length) : M.getD i [] = M[i] := by rw [List.getD_eq_getElem?_getD, List.getElem?_eq_getElem hi]; rfl
theorem en_row {M : Mat} {i : Nat} (hi : i < M.length) (j : Nat) : en M i j = M[i].getD j 0 := by unfold en; rw [getM hi]
def pivAt (M : Mat) (k r : Nat) : Nat := r + (M.drop r).findIdx fun row => row.getD k 0 != 0
theorem pivAt_eq {M : Mat} {k r p : Nat} (h1 : r ≤ p) (h2 : p ≤ M.length) (h3 : ∀ i, r ≤ i → i < p → en M i k = 0) (h4 : p < M.length → en M p k ≠ 0) : pivAt M k r = p := by
  unfold pivAt
  have hf : (M.drop r).findIdx (fun row => row.getD k 0 != 0) = p - r := by
    by_cases hp : p < M.length
    · rw [List.findIdx_eq (by rw [List.length_drop]; omega)]
      refine ⟨?_, fun j hj => ?_⟩
      · have := h4 hp
        rw [en_row hp] at this
        rw [List.getElem_drop]
        simp only [show r + (p - r) = p by omega]
        simpa using this
      · have := h3 (r + j) (by omega) (by omega)
        rw [en_row (by omega)] at this
        rw [List.getElem_drop]
        simpa using this
    · have e : p = M.length := by omega
      subst e
      rw [List.findIdx_eq_length.2 ?_, List.length_drop]
      intro row hrow
      obtain ⟨j, hj, rfl⟩ := List.getElem_of_mem hrow
      rw [List.length_drop] at hj
      have := h3 (r + j) (by omega) (by omega)
      rw [en_row (by omega)] at this
      rw [List.getElem_drop]
      simpa using this
  omega
theorem pivAt_le (M : Mat) (k r : Nat) (hr : r ≤ M.length) : r ≤ pivAt M k r ∧ pivAt M k r ≤ M.length := by
  unfold pivAt
  have := List.findIdx_le_length (p := fun row : List Rat => row.getD k 0 != 0) (xs := M.drop r)
  rw [List.length_drop] at this
  omega
theorem pivAt_no {M : Mat} {k r i : Nat} (h1 : r ≤ i) (h2 : i < pivAt M k r) (h3 : i < M.length) : en M i k = 0 := by
  unfold pivAt at h2
  have := List.not_of_lt_findIdx (p := fun row : List Rat => row.getD k 0 != 0) (xs := M.drop r) (i := i - r) (by omega)
  rw [List.getElem_drop] at this
  rw [en_row h3]
  simp only [show r + (i - r) = i by omega] at this
  simpa using this
theorem pivAt_yes {M : Mat} {k r : Nat} (h : pivAt M k r < M.length) : en M (pivAt M k r) k ≠ 0 := by
  unfold pivAt at *
  have h2 : (M.drop r).findIdx (fun row => row.getD k 0 != 0) < (M.drop r).length := by rw [List.length_drop]; omega
  have := List.findIdx_getElem (w := h2)
  rw [List.getElem_drop] at this
  rw [en_row h]
  simpa using this
def swp (M : Mat) (r p : Nat) : Mat := (M.set r (M.getD p [])).set p (M.getD r [])
def elim (r k : Nat) (i : Nat) (M : Mat) : Mat := M.mapIdx fun i' row => if i' < i ∧ i' ≠ r then subRow (row.getD k 0) (M.getD r []) k row.length row else row
theorem elim_len (r k i : Nat) (M : Mat) : (elim r k i M).length = M.length := List.length_mapIdx
theorem elim_at {r k i : Nat} {M : Mat} {j : Nat} (hj : j < M.length) : (elim r k i M)[j]'(by rw [elim_len]; exact hj) = if j < i ∧ j ≠ r then subRow (M[j].getD k 0) (M.getD r []) k M[j].length M[j] else M[j] := by
  unfold elim
  rw [List.getElem_mapIdx]
theorem elim_start (r k : Nat) (M : Mat) : elim r k 0 M = M := by
  apply List.ext_getElem (elim_len _ _ _ _)
  intro i h1 h2
  rw [elim_at h2, if_neg (by omega)]
theorem elim_self {k i : Nat} {M : Mat} : elim i k (i + 1) M = elim i k i M := by
  apply List.ext_getElem (by rw [elim_len, elim_len])
  intro j h1 h2
  rw [elim_len] at h1
  rw [elim_at h1, elim_at h1]
  by_cases h : j < i ∧ j ≠ i
  · rw [if_pos h, if_pos (by omega)]
  · rw [if_neg h, if_neg (by omega)]
theorem elim_next {r k i : Nat} {M : Mat} (hi : i < M.length) (hr : i ≠ r) : elim r k (i + 1) M = (elim r k i M).set i (subRow (M[i].getD k 0) (M.getD r []) k M[i].length M[i]) := by
  apply List.ext_getElem (by rw [List.length_set, elim_len, elim_len])
  intro j h1 h2
  rw [elim_len] at h1
  rw [elim_at h1, List.getElem_set]
  by_cases e : i = j
  · subst e
    rw [if_pos rfl, if_pos ⟨by omega, hr⟩]
  · rw [if_neg e, elim_at h1]
    by_cases h : j < i ∧ j ≠ r
    · rw [if_pos h, if_pos (by omega)]
    · rw [if_neg h, if_neg (by omega)]
theorem elim_skip {r k i : Nat} {M : Mat} (hi : i < M.length) (hr : i ≠ r) (h0 : M[i].getD k 0 = 0) : elim r k (i + 1) M = elim r k i M := by
  rw [elim_next hi hr, h0, subRow_zero]
  apply List.ext_getElem (by rw [List.length_set])
  intro j h1 h2
  rw [List.getElem_set]
  split
  · rename_i e
    subst e
    rw [elim_at hi, if_neg (by omega)]
  · rfl
def led (M : Mat) (k r p : Nat) : Mat := (swp M r p).set r (divRow (en M p k) k (M.getD p []).length (M.getD p []))
def rstep (st : Mat × List Nat) (k : Nat) : Mat × List Nat :=
  if st.2.length < st.1.length ∧ pivAt st.1 k st.2.length < st.1.length then
    (elim st.2.length k st.1.length (led st.1 k st.2.length (pivAt st.1 k st.2.length)), st.2 ++ [k])
  else st
def redTo (M : Mat) (c : Nat) : Mat × List Nat := (List.range c).foldl rstep (M, [])
theorem redTo_next (M : Mat) (c : Nat) : redTo M (c + 1) = rstep (redTo M c) c := by unfold redTo; rw [List.range_succ, List.foldl_append]; rfl
theorem redTo_full {M : Mat} {c : Nat} (h : ¬ (redTo M c).2.length < (redTo M c).1.length) : ∀ d, redTo M (c + d) = redTo M c
  | 0 => rfl
  | d + 1 => by
    rw [← Nat.add_assoc, redTo_next, redTo_full h d]
    unfold rstep
    rw [if_neg fun h9 => h h9.1]
theorem swp_len (M : Mat) (r p : Nat) : (swp M r p).length = M.length := by unfold swp; rw [List.length_set, List.length_set]
theorem led_len (M : Mat) (k r p : Nat) : (led M k r p).length = M.length := by unfold led; rw [List.length_set, swp_len]
theorem rstep_len (st : Mat × List Nat) (k : Nat) : (rstep st k).1.length = st.1.length := by
  unfold rstep
  split
  · exact (elim_len _ _ _ _).trans (led_len _ _ _ _)
  · rfl
theorem redTo_len (M : Mat) : ∀ c, (redTo M c).1.length = M.length
  | 0 => rfl
  | c + 1 => by rw [redTo_next, rstep_len, redTo_len M c]
def Wide (n : Nat) (M : Mat) : Prop := ∀ row ∈ M, row.length = n
theorem Wide.at_ {n : Nat} {M : Mat} (h : Wide n M) {i : Nat} (hi : i < M.length) : (M[i]).length = n := h _ (List.getElem_mem hi)
theorem Wide.get {n : Nat} {M : Mat} (h : Wide n M) {i : Nat} (hi : i < M.length) : (M.getD i []).length = n := by
  rw [List.getD_eq_getElem?_getD, List.getElem?_eq_getElem hi]; exact h.at_ hi
theorem Wide.set_ {n : Nat} {M : Mat} (h : Wide n M) (i : Nat) {row : List Rat} (hr : row.length = n) : Wide n (M.set i row) := fun x hx => by
  rcases List.mem_or_eq_of_mem_set hx with hx | rfl
  · exact h x hx
  · exact hr
theorem Wide.led {n : Nat} {M : Mat} (h : Wide n M) {k r p : Nat} (hr : r < M.length) (hp : p < M.length) : Wide n (led M k r p) := by
  unfold Pl.led swp
  refine ((h.set_ r (h.get hp)).set_ p (h.get hr)).set_ r ?_
  unfold divRow
  rw [mapTo_len]
  exact h.get hp
theorem Wide.elim {n : Nat} {M : Mat} (h : Wide n M) (r k i : Nat) : Wide n (elim r k i M) := fun x hx => by
  obtain ⟨j, hj, rfl⟩ := List.getElem_of_mem hx
  rw [elim_len] at hj
  rw [elim_at hj]
  split
  · unfold subRow; rw [mapTo_len]; exact h.at_ hj
  · exact h.at_ hj
theorem Wide.step {n : Nat} {st : Mat × List Nat} (h : Wide n st.1) (k : Nat) : Wide n (rstep st k).1 := by
  unfold rstep
  split
  · rename_i h1
    exact (h.led h1.1 h1.2).elim _ _ _
  · exact h
theorem Wide.redTo {n : Nat} {M : Mat} (h : Wide n M) : ∀ c, Wide n (redTo M c).1
  | 0 => h
  | c + 1 => by rw [redTo_next]; exact (Wide.redTo h c).step c
theorem redTo_piv (M : Mat) : ∀ c, (redTo M c).2.length ≤ (redTo M c).1.length ∧ (redTo M c).2.length ≤ c
  | 0 => ⟨Nat.zero_le _, Nat.le_refl _⟩
  | c + 1 => by
    obtain ⟨h1, h2⟩ := redTo_piv M c
    rw [redTo_next, rstep_len]
    unfold rstep
    split
    · rename_i h3
      simp only [List.length_append, List.length_cons, List.length_nil]
      omega
    · omega
/-! sizes -/
def Ov (D b : Nat) (x : Rat) : Prop := ∃ z : Int, x * ((D : Int) : Rat) = (z : Rat) ∧ z.natAbs ≤ 2 ^ b
def Den (b : Nat) (M : Mat) : Prop := ∃ D : Nat, D ≠ 0 ∧ D ≤ 2 ^ b ∧ ∀ row ∈ M, ∀ x ∈ row, Ov D b x
theorem nw_pow {b x : Nat} (hx : x ≤ 2 ^ b) : nw x ≤ b / 32 + 1 := by
  apply nw_le
  have e : (4294967296 : Nat) = 2 ^ 32 := by decide +kernel
  rw [e, ← Nat.pow_mul]
  exact Nat.lt_of_le_of_lt hx (Nat.pow_lt_pow_right (by decide) (by omega))
theorem Ov.size {D b : Nat} {x : Rat} (hD : D ≠ 0) (hd : D ≤ 2 ^ b) (h : Ov D b x) : rsz x ≤ b / 32 + 1 := by
  obtain ⟨z, hz, hb⟩ := h
  have e : x = mkRat z D := by
    rw [Rat.mkRat_eq_div]
    have hD' : ((D : Int) : Rat) ≠ 0 := by
      intro e9
      have := Rat.intCast_eq_zero_iff.1 e9
      omega
    have e2 : ((D : Nat) : Rat) = ((D : Int) : Rat) := rfl
    rw [e2]
    generalize ((D : Int) : Rat) = d at *
    rw [← hz]
    grind
  rw [e]
  exact rsz_mk hD (nw_pow hb) (nw_pow hd)
theorem Ov.zero (D b : Nat) : Ov D b 0 := ⟨0, by simp, Nat.zero_le _⟩
theorem Ov.get {D b : Nat} {row : List Rat} (h : ∀ x ∈ row, Ov D b x) (j : Nat) : Ov D b (row.getD j 0) := by
  rw [List.getD_eq_getElem?_getD]
  by_cases hj : j < row.length
  · rw [List.getElem?_eq_getElem hj]; exact h _ (List.getElem_mem hj)
  · rw [List.getElem?_eq_none (by omega)]; exact Ov.zero D b
theorem pow_two (b : Nat) : (2 : Nat) ^ (2 * b + 1) = 2 * (2 ^ b * 2 ^ b) := by
  rw [Nat.pow_succ, Nat.two_mul, Nat.pow_add]; omega
theorem Ov.keep {D b d : Nat} {x : Rat} (hd : d ≤ 2 ^ b) (h : Ov D b x) : Ov (d * D) (2 * b + 1) x := by
  obtain ⟨z, hz, hb⟩ := h
  refine ⟨z * (d : Int), ?_, ?_⟩
  · have e : (((d * D : Nat) : Int) : Rat) = ((d : Int) : Rat) * ((D : Int) : Rat) := by
      rw [← Rat.intCast_mul]; rfl
    rw [e, Rat.intCast_mul, ← hz]
    grind
  · rw [Int.natAbs_mul, Int.natAbs_natCast, pow_two]
    have := Nat.mul_le_mul hb hd
    omega
theorem Ov.quot {D b : Nat} {x y : Rat} {zd : Int} (hz : y * ((D : Int) : Rat) = (zd : Rat)) (h0 : zd ≠ 0) (hD : D ≤ 2 ^ b) (h : Ov D b x) : Ov (zd.natAbs * D) (2 * b + 1) (x / y) := by
  obtain ⟨z, hx, hb⟩ := h
  have hy : y ≠ 0 := by
    intro e
    subst e
    rw [Rat.zero_mul] at hz
    exact h0 (Rat.intCast_eq_zero_iff.1 hz.symm)
  refine ⟨(if zd < 0 then -z else z) * (D : Int), ?_, ?_⟩
  · have e : (((zd.natAbs * D : Nat) : Int) : Rat) = ((zd.natAbs : Int) : Rat) * ((D : Int) : Rat) := by
      rw [← Rat.intCast_mul]; rfl
    rw [e]
    split
    · rename_i hn
      rw [show ((zd.natAbs : Nat) : Int) = -zd by omega, Rat.intCast_neg, Rat.intCast_mul, Rat.intCast_neg, ← hz, ← hx]
      grind
    · rename_i hn
      rw [show ((zd.natAbs : Nat) : Int) = zd by omega, Rat.intCast_mul, ← hz, ← hx]
      grind
  · rw [Int.natAbs_mul, Int.natAbs_natCast, pow_two]
    have e : (if zd < 0 then -z else z).natAbs = z.natAbs := by split <;> omega
    rw [e]
    have := Nat.mul_le_mul hb hD
    omega
theorem Ov.less {D b : Nat} {x y f u : Rat} {zd : Int} (hz : y * ((D : Int) : Rat) = (zd : Rat)) (h0 : zd ≠ 0) (hd : zd.natAbs ≤ 2 ^ b) (hx : Ov D b x) (hf : Ov D b f) (hu : Ov D b u) :
    Ov (zd.natAbs * D) (2 * b + 1) (x - f * (u / y)) := by
  obtain ⟨z, e1, b1⟩ := hx
  obtain ⟨zf, e2, b2⟩ := hf
  obtain ⟨zu, e3, b3⟩ := hu
  have hy : y ≠ 0 := by
    intro e
    subst e
    rw [Rat.zero_mul] at hz
    exact h0 (Rat.intCast_eq_zero_iff.1 hz.symm)
  refine ⟨z * (zd.natAbs : Int) - (if zd < 0 then -(zf * zu) else zf * zu), ?_, ?_⟩
  · have e : (((zd.natAbs * D : Nat) : Int) : Rat) = ((zd.natAbs : Int) : Rat) * ((D : Int) : Rat) := by
      rw [← Rat.intCast_mul]; rfl
    rw [e, Rat.intCast_sub, Rat.intCast_mul]
    split
    · rename_i hn
      rw [show ((zd.natAbs : Nat) : Int) = -zd by omega, Rat.intCast_neg, Rat.intCast_neg, Rat.intCast_mul, ← hz, ← e1, ← e2, ← e3]
      grind
    · rename_i hn
      rw [show ((zd.natAbs : Nat) : Int) = zd by omega, Rat.intCast_mul, ← hz, ← e1, ← e2, ← e3]
      grind
  · rw [pow_two]
    have h1 : (z * (zd.natAbs : Int)).natAbs ≤ 2 ^ b * 2 ^ b := by
      rw [Int.natAbs_mul, Int.natAbs_natCast]; exact Nat.mul_le_mul b1 hd
    have h2 : (if zd < 0 then -(zf * zu) else zf * zu).natAbs ≤ 2 ^ b * 2 ^ b := by
      have e : (if zd < 0 then -(zf * zu) else zf * zu).natAbs = (zf * zu).natAbs := by split <;> omega
      rw [e, Int.natAbs_mul]; exact Nat.mul_le_mul b2 b3
    have h3 := Int.natAbs_sub_le (z * (zd.natAbs : Int)) (if zd < 0 then -(zf * zu) else zf * zu)
    omega
theorem mem_mapTo {f : Nat → Rat → Rat} {k j : Nat} {row : List Rat} {x : Rat} (h : x ∈ mapTo f k j row) : ∃ i, ∃ hi : i < row.length, (k ≤ i ∧ i < j ∧ x = f i row[i]) ∨ x = row[i] := by
  obtain ⟨i, hi, rfl⟩ := List.getElem_of_mem h
  rw [mapTo_len] at hi
  refine ⟨i, hi, ?_⟩
  rw [mapTo_at f k j row hi]
  split
  · rename_i h
    exact .inl ⟨h.1, h.2, rfl⟩
  · exact .inr rfl
theorem mem_getD {M : Mat} {i : Nat} {x : Rat} (h : x ∈ M.getD i []) : ∃ row ∈ M, x ∈ row := by
  rw [List.getD_eq_getElem?_getD] at h
  by_cases hi : i < M.length
  · rw [List.getElem?_eq_getElem hi] at h
    exact ⟨_, List.getElem_mem hi, h⟩
  · rw [List.getElem?_eq_none (by omega)] at h
    cases h
theorem led_get {M : Mat} {k r p : Nat} (hr : r < M.length) : (led M k r p).getD r [] = divRow (en M p k) k (M.getD p []).length (M.getD p []) := by
  unfold led
  rw [List.getD_eq_getElem?_getD, List.getElem?_set_self (by rw [swp_len]; exact hr)]
  rfl
theorem mem_led {M : Mat} {k r p : Nat} {x : Rat} {j : Nat} (hjr : j ≠ r) (h : x ∈ (led M k r p).getD j []) : ∃ row ∈ M, x ∈ row := by
  unfold led swp at h
  rw [List.getD_eq_getElem?_getD, List.getElem?_set_ne (Ne.symm hjr), List.getElem?_set] at h
  split at h
  · split at h
    · exact mem_getD h
    · cases h
  · rw [List.getElem?_set_ne (Ne.symm hjr), ← List.getD_eq_getElem?_getD] at h
    exact mem_getD h
theorem Den.part {b : Nat} {M : Mat} {k r p : Nat} (h : Den b M) (hr : r < M.length) (hne : en M p k ≠ 0) : ∃ D : Nat, D ≠ 0 ∧ D ≤ 2 ^ (2 * b + 1) ∧ (∀ row ∈ M, ∀ x ∈ row, Ov D (2 * b + 1) x) ∧
    (∀ x ∈ divRow (en M p k) k (M.getD p []).length (M.getD p []), Ov D (2 * b + 1) x) ∧ ∀ i, ∀ row ∈ elim r k i (led M k r p), ∀ x ∈ row, Ov D (2 * b + 1) x := by
  obtain ⟨D, hD, hd, hM⟩ := h
  have hrow : ∀ i, ∀ x ∈ M.getD i [], Ov D b x := fun i x hx => by
    obtain ⟨row, h1, h2⟩ := mem_getD hx
    exact hM row h1 x h2
  obtain ⟨zd, hz, hb⟩ : Ov D b (en M p k) := Ov.get (hrow p) k
  have h0 : zd ≠ 0 := by
    intro e
    subst e
    have h9 : ((D : Int) : Rat) ≠ 0 := by
      intro e9
      have := Rat.intCast_eq_zero_iff.1 e9
      omega
    rcases Rat.mul_eq_zero.1 (hz.trans rfl) with h | h
    · exact hne h
    · exact h9 h
  have hK : ∀ x, Ov D b x → Ov (zd.natAbs * D) (2 * b + 1) x := fun x hx => hx.keep hb
  have hdiv : ∀ x ∈ divRow (en M p k) k (M.getD p []).length (M.getD p []), Ov (zd.natAbs * D) (2 * b + 1) x := fun x hx => by
    obtain ⟨i, hi, h⟩ := mem_mapTo hx
    rcases h with ⟨_, _, rfl⟩ | rfl
    · exact Ov.quot hz h0 hd (hrow p _ (List.getElem_mem hi))
    · exact hK _ (hrow p _ (List.getElem_mem hi))
  refine ⟨zd.natAbs * D, Nat.mul_ne_zero (by omega) hD, ?_, fun row h1 x h2 => hK x (hM row h1 x h2), hdiv, fun i row hrow2 x hx => ?_⟩
  · rw [pow_two]
    have := Nat.mul_le_mul hb hd
    omega
  · obtain ⟨j, hj, rfl⟩ := List.getElem_of_mem hrow2
    rw [elim_len] at hj
    rw [elim_at hj] at hx
    by_cases hjr : j = r
    · subst hjr
      rw [if_neg (by omega)] at hx
      have e : (led M k j p)[j] = divRow (en M p k) k (M.getD p []).length (M.getD p []) := by
        rw [← led_get hr, List.getD_eq_getElem?_getD, List.getElem?_eq_getElem hj]; rfl
      rw [e] at hx
      exact hdiv x hx
    · have hold : ∀ x ∈ (led M k r p)[j], Ov D b x := fun x hx => by
        obtain ⟨row, h1, h2⟩ := mem_led (k := k) (r := r) (p := p) (j := j) hjr (by rw [getM hj]; exact hx)
        exact hM row h1 x h2
      split at hx
      · obtain ⟨i', hi', h⟩ := mem_mapTo hx
        rcases h with ⟨hk1, _, rfl⟩ | rfl
        · rw [led_get hr]
          unfold divRow
          have hf := Ov.get hold k
          by_cases hl : i' < (M.getD p []).length
          · rw [List.getD_eq_getElem?_getD (l := mapTo _ _ _ _), List.getElem?_eq_getElem (by rw [mapTo_len]; exact hl), Option.getD_some, mapTo_at _ _ _ _ hl]
            rw [if_pos ⟨hk1, hl⟩]
            exact Ov.less hz h0 hb (hold _ (List.getElem_mem hi')) hf (hrow p _ (List.getElem_mem hl))
          · rw [List.getD_eq_getElem?_getD (l := mapTo _ _ _ _), List.getElem?_eq_none (by rw [mapTo_len]; omega), Option.getD_none, Rat.mul_zero, Rat.sub_eq_add_neg, Rat.neg_zero, Rat.add_zero]
            exact hK _ (hold _ (List.getElem_mem hi'))
        · exact hK _ (hold _ (List.getElem_mem hi'))
      · exact hK _ (hold _ hx)
end Go.Proofs.YtoblpcljhblnmaaGreatDoor.Pl
namespace Go.Proofs.YtoblpcljhblnmaaGreatDoor.Pl
def sumN : Nat → (Nat → Rat) → Rat
  | 0, _ => 0
  | n + 1, f => sumN n f + f n
theorem sumN_congr {f g : Nat → Rat} : ∀ {n : Nat}, (∀ j, j < n → f j = g j) → sumN n f = sumN n g
  | 0, _ => rfl
  | n + 1, h => by rw [sumN, sumN, sumN_congr (n := n) (fun j hj => h j (by omega)), h n (by omega)]
theorem sumN_zero : ∀ n : Nat, sumN n (fun _ => 0) = 0
  | 0 => rfl
  | n + 1 => by rw [sumN, sumN_zero n, Rat.add_zero]
theorem sumN_add (f g : Nat → Rat) : ∀ n : Nat, sumN n (fun j => f j + g j) = sumN n f + sumN n g
  | 0 => (Rat.add_zero 0).symm
  | n + 1 => by rw [sumN, sumN, sumN, sumN_add f g n]; grind
theorem sumN_mul (c : Rat) (f : Nat → Rat) : ∀ n : Nat, sumN n (fun j => c * f j) = c * sumN n f
  | 0 => (Rat.mul_zero c).symm
  | n + 1 => by rw [sumN, sumN, sumN_mul c f n]; grind
theorem sumN_sub (f g : Nat → Rat) (n : Nat) : sumN n (fun j => f j - g j) = sumN n f - sumN n g := by
  have h1 := sumN_add f (fun j => (-1) * g j) n
  rw [sumN_mul] at h1
  rw [sumN_congr (g := fun j => f j + (-1) * g j) (fun j _ => by grind), h1]
  grind
theorem sumN_one {f : Nat → Rat} {c : Nat} : ∀ {n : Nat}, c < n → (∀ j, j < n → j ≠ c → f j = 0) → sumN n f = f c
  | n + 1, hc, h => by
    rw [sumN]
    by_cases e : c = n
    · subst e
      rw [sumN_congr (g := fun _ => 0) (fun j hj => h j (by omega) (by omega)), sumN_zero, Rat.zero_add]
    · rw [sumN_one (n := n) (by omega) (fun j hj => h j (by omega)), h n (by omega) (fun e9 => e e9.symm), Rat.add_zero]
theorem sumN_two {f : Nat → Rat} {c d n : Nat} (hc : c < n) (hd : d < n) (hcd : c ≠ d) (h : ∀ j, j < n → j ≠ c → j ≠ d → f j = 0) : sumN n f = f c + f d := by
  have h1 := sumN_add (fun j => if j = c then f c else 0) (fun j => if j = c then 0 else f j) n
  rw [sumN_congr (g := f) (fun j hj => by split <;> grind)] at h1
  rw [h1, sumN_one hc (fun j hj e => by rw [if_neg e]), sumN_one hd (fun j hj e => by
    split
    · rfl
    · rename_i e2; exact h j hj e2 e)]
  rw [if_pos rfl, if_neg (Ne.symm hcd)]
theorem sumN_cut {f : Nat → Rat} {n : Nat} : ∀ {w : Nat}, n ≤ w → (∀ j, n ≤ j → j < w → f j = 0) → sumN w f = sumN n f
  | 0, hn, _ => by rw [show n = 0 by omega]
  | w + 1, hn, h => by
    by_cases e : n = w + 1
    · rw [e]
    · rw [sumN, sumN_cut (n := n) (w := w) (by omega) (fun j h1 h2 => h j h1 (by omega)), h w (by omega) (by omega), Rat.add_zero]
def Sol (n : Nat) (M : Mat) (v : Nat → Rat) : Prop := ∀ i, i < M.length → sumN n (fun j => en M i j * v j) = 0
theorem en_set {M : Mat} {i i' j : Nat} {row : List Rat} (hi : i < M.length) : en (M.set i row) i' j = if i' = i then row.getD j 0 else en M i' j := by
  unfold en
  rw [List.getD_eq_getElem?_getD (l := M.set i row), List.getElem?_set]
  by_cases e : i = i'
  · subst e
    rw [if_pos rfl, if_pos hi, if_pos rfl]
    rfl
  · rw [if_neg e, if_neg (Ne.symm e), ← List.getD_eq_getElem?_getD]
theorem en_swp {M : Mat} {r p i j : Nat} (hr : r < M.length) (hp : p < M.length) : en (swp M r p) i j = en M (if i = p then r else if i = r then p else i) j := by
  unfold swp
  rw [en_set (by rw [List.length_set]; exact hp), en_set hr]
  by_cases e : i = p
  · rw [if_pos e, if_pos e]
    rfl
  · rw [if_neg e, if_neg e]
    by_cases e2 : i = r
    · rw [if_pos e2, if_pos e2]
      rfl
    · rw [if_neg e2, if_neg e2]
theorem mapTo_get (f : Nat → Rat → Rat) (k : Nat) {row : List Rat} {j : Nat} (hj : j < row.length) : (mapTo f k row.length row).getD j 0 = if k ≤ j then f j (row.getD j 0) else row.getD j 0 := by
  rw [List.getD_eq_getElem?_getD, List.getElem?_eq_getElem (by rw [mapTo_len]; exact hj), Option.getD_some, mapTo_at _ _ _ _ hj, List.getD_eq_getElem?_getD, List.getElem?_eq_getElem hj, Option.getD_some]
  by_cases h : k ≤ j
  · rw [if_pos ⟨h, hj⟩, if_pos h]
  · rw [if_neg (by omega), if_neg h]
theorem step_en {n : Nat} {M : Mat} (hw : Wide n M) {r k p : Nat} (hr : r < M.length) (hp : p < M.length) (hrp : r ≤ p) (hz : ∀ i j, r ≤ i → i < M.length → j < k → en M i j = 0) {i j : Nat} (hi : i < M.length) (hj : j < n) :
    en (elim r k M.length (led M k r p)) i j = if i = r then en M p j / en M p k else en M (if i = p then r else i) j - en M (if i = p then r else i) k * (en M p j / en M p k) := by
  have hwl := hw.led (k := k) hr hp
  have hll := led_len M k r p
  have hrow : ∀ j, j < n → (divRow (en M p k) k (M.getD p []).length (M.getD p [])).getD j 0 = en M p j / en M p k := fun j hj => by
    unfold divRow
    rw [mapTo_get _ _ (by rw [hw.get hp]; exact hj)]
    by_cases h : k ≤ j
    · rw [if_pos h]; rfl
    · rw [if_neg h]
      have h0 := hz p j hrp hp (by omega)
      rw [h0, show (M.getD p []).getD j 0 = 0 from h0, Rat.div_def, Rat.zero_mul]
  have hled : ∀ i', i' ≠ r → ∀ j, en (led M k r p) i' j = en M (if i' = p then r else i') j := fun i' hi' j => by
    unfold led
    rw [en_set (by rw [swp_len]; exact hr), if_neg hi', en_swp hr hp]
    by_cases e : i' = p
    · rw [if_pos e, if_pos e]
    · rw [if_neg e, if_neg e, if_neg hi']
  have hi2 : i < (led M k r p).length := by rw [hll]; exact hi
  have e1 : en (elim r k M.length (led M k r p)) i j = (if i ≠ r then subRow ((led M k r p)[i].getD k 0) ((led M k r p).getD r []) k (led M k r p)[i].length (led M k r p)[i] else (led M k r p)[i]).getD j 0 := by
    rw [en_row (by rw [elim_len, hll]; exact hi), elim_at hi2]
    by_cases e : i = r
    · rw [if_neg (by omega), if_neg (by omega)]
    · rw [if_pos ⟨hi, e⟩, if_pos e]
  rw [e1]
  have hg : (led M k r p)[i] = (led M k r p).getD i [] := by rw [List.getD_eq_getElem?_getD, List.getElem?_eq_getElem hi2]; rfl
  by_cases e : i = r
  · rw [if_neg (by omega), if_pos e, hg, e, led_get hr]
    exact hrow j hj
  · rw [if_pos e, if_neg e]
    unfold subRow
    rw [mapTo_get _ _ (by rw [hwl.at_ hi2]; exact hj), led_get hr, hrow j hj, hg]
    have h1 : ∀ j, ((led M k r p).getD i []).getD j 0 = en M (if i = p then r else i) j := hled i e
    rw [h1, h1]
    by_cases h : k ≤ j
    · rw [if_pos h]
    · rw [if_neg h, hz p j hrp hp (by omega), Rat.div_def, Rat.zero_mul, Rat.mul_zero, Rat.sub_eq_add_neg, Rat.neg_zero, Rat.add_zero]
theorem step_sol {n : Nat} {M : Mat} (hw : Wide n M) {r k p : Nat} (hr : r < M.length) (hp : p < M.length) (hrp : r ≤ p) (hz : ∀ i j, r ≤ i → i < M.length → j < k → en M i j = 0) (hd : en M p k ≠ 0) (v : Nat → Rat) :
    Sol n (elim r k M.length (led M k r p)) v ↔ Sol n M v := by
  have hl : (elim r k M.length (led M k r p)).length = M.length := by rw [elim_len, led_len]
  have hsum : ∀ i, i < M.length → sumN n (fun j => en (elim r k M.length (led M k r p)) i j * v j) = if i = r then sumN n (fun j => en M p j * v j) / en M p k else sumN n (fun j => en M (if i = p then r else i) j * v j) - en M (if i = p then r else i) k * (sumN n (fun j => en M p j * v j) / en M p k) := fun i hi => by
    by_cases e : i = r
    · rw [if_pos e, Rat.div_def, Rat.mul_comm, ← sumN_mul]
      refine sumN_congr fun j hj => ?_
      rw [step_en hw hr hp hrp hz hi hj, if_pos e, Rat.div_def]
      grind
    · rw [if_neg e, Rat.div_def, Rat.mul_comm (sumN n _) (en M p k)⁻¹, ← Rat.mul_assoc, ← sumN_mul, ← sumN_sub]
      refine sumN_congr fun j hj => ?_
      rw [step_en hw hr hp hrp hz hi hj, if_neg e, Rat.div_def]
      grind
  constructor
  · intro h
    rw [Sol, hl] at h
    have hpp : sumN n (fun j => en M p j * v j) = 0 := by
      have h1 := h r hr
      rw [hsum r hr, if_pos rfl] at h1
      rw [Rat.div_def] at h1
      rcases Rat.mul_eq_zero.1 h1 with h2 | h2
      · exact h2
      · exact absurd (by rw [← Rat.inv_inv (en M p k), h2]; exact Rat.inv_zero) hd
    intro i hi
    by_cases e : i = p
    · subst e; exact hpp
    · by_cases e2 : i = r
      · subst e2
        have h1 := h p hp
        rw [hsum p hp, if_neg (Ne.symm e), if_pos rfl, hpp] at h1
        rw [Rat.div_def, Rat.zero_mul, Rat.mul_zero] at h1
        grind
      · have h1 := h i hi
        rw [hsum i hi, if_neg e2, if_neg e, hpp, Rat.div_def, Rat.zero_mul, Rat.mul_zero] at h1
        grind
  · intro h i hi
    rw [hl] at hi
    rw [hsum i hi, h p hp, Rat.div_def, Rat.zero_mul, Rat.mul_zero]
    by_cases e : i = r
    · rw [if_pos e]
    · rw [if_neg e]
      have h1 := h (if i = p then r else i) (by split <;> assumption)
      rw [h1]
      grind
def Unit (c : Nat) (M : Mat) : Prop := ∀ i j, i < M.length → j < c → en M i j = if i = j then 1 else 0
theorem step_unit {n : Nat} {M : Mat} (hw : Wide n M) {c p : Nat} (hu : Unit c M) (hr : c < M.length) (hp : p < M.length) (hcp : c ≤ p) (hcn : c < n) (hd : en M p c ≠ 0) :
    Unit (c + 1) (elim c c M.length (led M c c p)) := by
  intro i j hi hj
  rw [elim_len, led_len] at hi
  have hz : ∀ i j, c ≤ i → i < M.length → j < c → en M i j = 0 := fun i j h1 h2 h3 => by rw [hu i j h2 h3, if_neg (by omega)]
  rw [step_en hw hr hp hcp hz hi (by omega)]
  by_cases e : j = c
  · subst e
    by_cases e2 : i = j
    · rw [if_pos e2, if_pos e2, Rat.div_def, Rat.mul_inv_cancel _ hd]
    · rw [if_neg e2, if_neg e2, Rat.div_def, Rat.mul_inv_cancel _ hd]
      grind
  · rw [hu p j hp (by omega), if_neg (show ¬ p = j by omega), Rat.div_def, Rat.zero_mul, Rat.mul_zero]
    by_cases e2 : i = c
    · rw [if_pos e2, if_neg (by omega)]
    · rw [if_neg e2]
      by_cases e3 : i = p
      · rw [if_pos e3, hu c j hr (by omega), if_neg (by omega), if_neg (by omega)]
        grind
      · rw [if_neg e3, hu i j hi (by omega)]
        grind
def Free (n : Nat) (M : Mat) : Prop := ∀ v : Nat → Rat, (∀ i, i < M.length → sumN n (fun j => en M i j * v j) = 0) → ∀ j, j < n → v j = 0
theorem redTo_unit {n w : Nat} {M : Mat} (hw : Wide w M) (hl : M.length = n) (hnw : n ≤ w) (hf : Free n M) : ∀ c, c ≤ n → (redTo M c).2 = List.range c ∧ Unit c (redTo M c).1 ∧ ∀ v, Sol w (redTo M c).1 v ↔ Sol w M v
  | 0, _ => ⟨rfl, fun i j _ hj => absurd hj (by omega), fun v => Iff.rfl⟩
  | c + 1, hc => by
    obtain ⟨h1, h2, h3⟩ := redTo_unit hw hl hnw hf c (by omega)
    have hwc := hw.redTo c
    have hlc := redTo_len M c
    rw [redTo_next]
    generalize hM : (redTo M c).1 = R at *
    have hst : redTo M c = (R, List.range c) := by rw [← hM, ← h1]
    rw [hst]
    have hpl := pivAt_le R c c (by omega)
    by_cases hp : pivAt R c c < R.length
    · have hy := pivAt_yes hp
      unfold rstep
      simp only [List.length_range]
      rw [if_pos ⟨by omega, hp⟩]
      have hz : ∀ i j, c ≤ i → i < R.length → j < c → en R i j = 0 := fun i j h1 h4 h5 => by rw [h2 i j h4 h5, if_neg (by omega)]
      refine ⟨by rw [List.range_succ], step_unit hwc h2 (by omega) hp hpl.1 (by omega) hy, fun v => (step_sol hwc (by omega) hp hpl.1 hz hy v).trans (h3 v)⟩
    · exfalso
      have hz : ∀ i, c ≤ i → i < R.length → en R i c = 0 := fun i h4 h5 => pivAt_no h4 (by omega) h5
      have hv : ∀ i, i < R.length → ∀ m, c < m → sumN m (fun j => en R i j * (if j = c then 1 else if j < c then - en R j c else 0)) = 0 := by
        intro i hi m hcm
        by_cases hic : i < c
        · rw [sumN_two (c := i) (d := c) (by omega) hcm (by omega)]
          · show _ = _
            rw [if_pos rfl, if_neg (by omega), if_pos hic, h2 i i hi hic, if_pos rfl]
            grind
          · intro j hj e1 e2
            rw [if_neg e2]
            split
            · rename_i h5
              rw [h2 i j hi h5, if_neg (Ne.symm e1), Rat.zero_mul]
            · rw [Rat.mul_zero]
        · rw [sumN_one (c := c) hcm]
          · show _ = _
            rw [hz i (by omega) hi, Rat.zero_mul]
          · intro j hj e2
            rw [if_neg e2]
            split
            · rename_i h5
              rw [h2 i j hi h5, if_neg (by omega), Rat.zero_mul]
            · rw [Rat.mul_zero]
      have hS := (h3 (fun j => if j = c then 1 else if j < c then - en R j c else 0)).1 (fun i hi => hv i hi w (by omega))
      have h5 := hf _ (fun i hi => by
        have h6 := hS i hi
        rw [sumN_cut (n := n) hnw (fun j h7 h8 => by
          dsimp only
          rw [if_neg (by omega), if_neg (by omega), Rat.mul_zero])] at h6
        exact h6) c (by omega)
      rw [if_pos rfl] at h5
      exact absurd h5 (by decide)
end Go.Proofs.YtoblpcljhblnmaaGreatDoor.Pl
namespace Go.Proofs.YtoblpcljhblnmaaGreatDoor.Pl
def unitRow (n i : Nat) : List Rat := (List.replicate n 0).set i 1
theorem unitRow_len (n i : Nat) : (unitRow n i).length = n := by unfold unitRow; rw [List.length_set, List.length_replicate]
theorem unitRow_get {n i j : Nat} (hj : j < n) : (unitRow n i).getD j 0 = if i = j then 1 else 0 := by
  unfold unitRow
  rw [List.getD_eq_getElem?_getD, List.getElem?_set]
  by_cases e : i = j
  · subst e
    rw [if_pos rfl, if_pos (by rw [List.length_replicate]; exact hj), if_pos rfl]
    rfl
  · rw [if_neg e, if_neg e, List.getElem?_replicate]
    split <;> rfl
def extM (A : Mat) : Mat := A.mapIdx fun i row => row ++ unitRow A.length i
theorem extM_len (A : Mat) : (extM A).length = A.length := List.length_mapIdx
theorem extM_row {A : Mat} {i : Nat} (hi : i < A.length) : (extM A).getD i [] = A.getD i [] ++ unitRow A.length i := by
  unfold extM
  rw [List.getD_eq_getElem?_getD (l := A.mapIdx _), List.getElem?_mapIdx, List.getElem?_eq_getElem hi, Option.map_some, Option.getD_some, getM hi]
theorem extM_wide {n : Nat} {A : Mat} (h : Wide n A) (hl : A.length = n) : Wide (n + n) (extM A) := fun x hx => by
  obtain ⟨j, hj, rfl⟩ := List.getElem_of_mem hx
  rw [← getM hj, extM_row (by rw [extM_len] at hj; exact hj), List.length_append, h.get (by rw [extM_len] at hj; exact hj), unitRow_len, hl]
theorem extM_left {n : Nat} {A : Mat} (h : Wide n A) {i j : Nat} (hi : i < A.length) (hj : j < n) : en (extM A) i j = en A i j := by
  unfold en
  rw [extM_row hi, List.getD_eq_getElem?_getD, List.getElem?_append_left (by rw [h.get hi]; exact hj), ← List.getD_eq_getElem?_getD]
theorem extM_right {n : Nat} {A : Mat} (h : Wide n A) (hl : A.length = n) {i j : Nat} (hi : i < n) (hj : j < n) : en (extM A) i (n + j) = if i = j then 1 else 0 := by
  unfold en
  rw [extM_row (by omega), List.getD_eq_getElem?_getD, List.getElem?_append_right (by rw [h.get (by omega)]; omega), h.get (by omega), show n + j - n = j by omega, ← List.getD_eq_getElem?_getD, hl, unitRow_get hj]
theorem extM_free {n : Nat} {A : Mat} (h : Wide n A) (hf : Free n A) : Free n (extM A) := fun v hv => hf v fun i hi => by
  rw [← hv i (by rw [extM_len]; exact hi)]
  exact sumN_congr fun j hj => by rw [extM_left h hi hj]
def invM (A : Mat) : Mat := (redTo (extM A) A.length).1.map (·.drop A.length)
theorem invM_piv {n : Nat} {A : Mat} (h : Wide n A) (hl : A.length = n) (hf : Free n A) : (redTo (extM A) n).2.length = n := by
  have := (redTo_unit (extM_wide h hl) ((extM_len A).trans hl) (by omega) (extM_free h hf) n (Nat.le_refl _)).1
  rw [this, List.length_range]
/-! the matrix of a network -/
def addAt (M : Mat) (i j : Nat) (q : Rat) : Mat := M.set i ((M.getD i []).set j (en M i j + q))
theorem addAt_len (M : Mat) (i j : Nat) (q : Rat) : (addAt M i j q).length = M.length := List.length_set
theorem addAt_wide {n : Nat} {M : Mat} (h : Wide n M) {i : Nat} (hi : i < M.length) (j : Nat) (q : Rat) : Wide n (addAt M i j q) := h.set_ i (by rw [List.length_set]; exact h.get hi)
theorem addAt_en {n : Nat} {M : Mat} (h : Wide n M) {i j i' j' : Nat} (hi : i < M.length) (hj : j < n) (q : Rat) : en (addAt M i j q) i' j' = en M i' j' + if i' = i ∧ j' = j then q else 0 := by
  unfold addAt
  rw [en_set hi]
  by_cases e : i' = i
  · subst e
    rw [if_pos rfl, List.getD_eq_getElem?_getD, List.getElem?_set]
    by_cases e2 : j = j'
    · subst e2
      rw [if_pos rfl, if_pos (by rw [h.get hi]; exact hj), if_pos ⟨rfl, rfl⟩]
      rfl
    · rw [if_neg e2, if_neg (fun h9 => e2 h9.2.symm), Rat.add_zero]
      unfold en
      rw [← List.getD_eq_getElem?_getD]
  · rw [if_neg e, if_neg (fun h9 => e h9.1), Rat.add_zero]
def quad (n : Nat) (A : Mat) (x : Nat → Rat) : Rat := sumN n fun i => sumN n fun j => x i * en A i j * x j
theorem quad_addAt {n : Nat} {A : Mat} (h : Wide n A) (hl : A.length = n) {i j : Nat} (hi : i < n) (hj : j < n) (q : Rat) (x : Nat → Rat) : quad n (addAt A i j q) x = quad n A x + x i * q * x j := by
  unfold quad
  have e : ∀ i' j', x i' * en (addAt A i j q) i' j' * x j' = x i' * en A i' j' * x j' + x i' * (if i' = i ∧ j' = j then q else 0) * x j' := fun i' j' => by
    rw [addAt_en h (by omega) hj]
    grind
  rw [sumN_congr (g := fun i' => sumN n (fun j' => x i' * en A i' j' * x j') + sumN n (fun j' => x i' * (if i' = i ∧ j' = j then q else 0) * x j')) (fun i' _ => by
    rw [← sumN_add]
    exact sumN_congr fun j' _ => e i' j'), sumN_add]
  congr 1
  rw [sumN_one (c := i) hi (fun i' _ e => by
    rw [sumN_congr (g := fun _ => 0) (fun j' _ => by rw [if_neg (fun h9 => e h9.1), Rat.mul_zero, Rat.zero_mul]), sumN_zero]), sumN_one (c := j) hj (fun j' _ e => by rw [if_neg (fun h9 => e h9.2), Rat.mul_zero, Rat.zero_mul]), if_pos ⟨rfl, rfl⟩]
end Go.Proofs.YtoblpcljhblnmaaGreatDoor.Pl
namespace Go.Proofs.YtoblpcljhblnmaaGreatDoor.Pl
def place (free : List Int) (v : Int) : Int := idxOf (fun z => decide (z = v)) free
def freeTo (isl : List Int) (k : Nat) : List Int := ((List.range k).filter fun i => decide (∃ j, j < i ∧ isl.getD j (-1) = isl.getD i (-1))).map fun i : Nat => (i : Int)
def freeL (isl : List Int) : List Int := freeTo isl isl.length
theorem freeTo_next (isl : List Int) (k : Nat) : freeTo isl (k + 1) = freeTo isl k ++ if ∃ j, j < k ∧ isl.getD j (-1) = isl.getD k (-1) then [(k : Int)] else [] := by
  unfold freeTo
  rw [List.range_succ, List.filter_append, List.map_append]
  congr 1
  by_cases h : ∃ j, j < k ∧ isl.getD j (-1) = isl.getD k (-1)
  · rw [if_pos h, List.filter_cons_of_pos (by simpa using h)]; rfl
  · rw [if_neg h, List.filter_cons_of_neg (by simpa using h)]; rfl
theorem mem_freeTo {isl : List Int} {k : Nat} {v : Int} : v ∈ freeTo isl k ↔ 0 ≤ v ∧ v < k ∧ ∃ j, j < v.toNat ∧ isl.getD j (-1) = isl.getD v.toNat (-1) := by
  unfold freeTo
  rw [List.mem_map]
  constructor
  · rintro ⟨i, hi, rfl⟩
    rw [List.mem_filter, List.mem_range] at hi
    have h2 := of_decide_eq_true hi.2
    exact ⟨by omega, by omega, by simpa using h2⟩
  · rintro ⟨h0, h1, h2⟩
    refine ⟨v.toNat, ?_, by omega⟩
    rw [List.mem_filter, List.mem_range]
    exact ⟨by omega, by simpa using h2⟩
theorem freeTo_len (isl : List Int) (k : Nat) : (freeTo isl k).length ≤ k := by
  unfold freeTo
  rw [List.length_map]
  exact Nat.le_trans (List.length_filter_le _ _) (by rw [List.length_range]; exact Nat.le_refl _)
theorem freeTo_nodup (isl : List Int) (k : Nat) : (freeTo isl k).Nodup := by
  unfold freeTo
  refine List.Pairwise.map _ ?_ (List.Pairwise.filter _ List.nodup_range)
  intro a b h e
  exact h (by omega)
theorem place_at {free : List Int} (hn : free.Nodup) {i : Nat} (hi : i < free.length) : place free free[i] = i :=
  idxOf_hit _ free i hi (by simp) fun j hj hji => by
    have := (List.pairwise_iff_getElem.1 hn) j i hj hi hji
    simpa using this
theorem place_no {free : List Int} {v : Int} (h : v ∉ free) : place free v = -1 := idxOf_miss _ free fun j hj => by
  simpa using fun e : free[j] = v => h (e ▸ List.getElem_mem hj)
theorem place_in {free : List Int} {v : Int} (h : v ∈ free) : 0 ≤ place free v ∧ place free v < free.length ∧ ∃ hi : (place free v).toNat < free.length, free[(place free v).toNat] = v := by
  obtain ⟨i, hi, rfl⟩ := List.getElem_of_mem h
  unfold place idxOf
  cases hf : free.findIdx? (fun z => decide (z = free[i])) with
  | none =>
    rw [List.findIdx?_eq_none_iff] at hf
    have := hf _ h
    simp at this
  | some k =>
    rw [List.findIdx?_eq_some_iff_getElem] at hf
    obtain ⟨hk, h1, _⟩ := hf
    refine ⟨Int.natCast_nonneg _, by show (k : Int) < _; omega, hk, ?_⟩
    show free[k] = _
    simpa using h1
def lapStep (free : List Int) (A : Mat) (e : Int × Int × Rat) : Mat :=
  if e.1 = e.2.1 then A else
  let A1 := if 0 ≤ place free e.1 then addAt A (place free e.1).toNat (place free e.1).toNat e.2.2 else A
  let A2 := if 0 ≤ place free e.2.1 then addAt A1 (place free e.2.1).toNat (place free e.2.1).toNat e.2.2 else A1
  if 0 ≤ place free e.1 ∧ 0 ≤ place free e.2.1 then addAt (addAt A2 (place free e.1).toNat (place free e.2.1).toNat (-e.2.2)) (place free e.2.1).toNat (place free e.1).toNat (-e.2.2) else A2
def zeroM (n : Nat) : Mat := List.replicate n (List.replicate n 0)
def lapM (free : List Int) (es : List (Int × Int × Rat)) : Mat := es.foldl (lapStep free) (zeroM free.length)
theorem place_lt (free : List Int) (v : Int) (h : 0 ≤ place free v) : (place free v).toNat < free.length := by
  by_cases hv : v ∈ free
  · have := place_in hv; omega
  · have := place_no hv; omega
theorem lapStep_ok {n : Nat} {free : List Int} {A : Mat} (hn : free.length = n) (hw : Wide n A) (hl : A.length = n) (e : Int × Int × Rat) : Wide n (lapStep free A e) ∧ (lapStep free A e).length = n := by
  have hp := fun v h => place_lt free v h
  have key : ∀ {B : Mat}, Wide n B ∧ B.length = n → ∀ {i j : Nat} {q : Rat}, i < n → Wide n (addAt B i j q) ∧ (addAt B i j q).length = n := fun h i j q hi => ⟨addAt_wide h.1 (by omega) j q, (addAt_len _ _ _ _).trans h.2⟩
  unfold lapStep
  split
  · exact ⟨hw, hl⟩
  · have h0 : Wide n A ∧ A.length = n := ⟨hw, hl⟩
    have h1 : Wide n (if 0 ≤ place free e.1 then addAt A (place free e.1).toNat (place free e.1).toNat e.2.2 else A) ∧ (if 0 ≤ place free e.1 then addAt A (place free e.1).toNat (place free e.1).toNat e.2.2 else A).length = n := by
      split
      · rename_i h; exact key h0 (by rw [← hn]; exact hp _ h)
      · exact h0
    generalize (if 0 ≤ place free e.1 then addAt A (place free e.1).toNat (place free e.1).toNat e.2.2 else A) = A1 at *
    have h2 : Wide n (if 0 ≤ place free e.2.1 then addAt A1 (place free e.2.1).toNat (place free e.2.1).toNat e.2.2 else A1) ∧ (if 0 ≤ place free e.2.1 then addAt A1 (place free e.2.1).toNat (place free e.2.1).toNat e.2.2 else A1).length = n := by
      split
      · rename_i h; exact key h1 (by rw [← hn]; exact hp _ h)
      · exact h1
    dsimp only
    generalize (if 0 ≤ place free e.2.1 then addAt A1 (place free e.2.1).toNat (place free e.2.1).toNat e.2.2 else A1) = A2 at *
    split
    · rename_i h
      exact key (key h2 (by rw [← hn]; exact hp _ h.1)) (by rw [← hn]; exact hp _ h.2)
    · exact h2
theorem zeroM_ok (n : Nat) : Wide n (zeroM n) ∧ (zeroM n).length = n := ⟨fun x hx => by
  unfold zeroM at hx
  rw [(List.mem_replicate.1 hx).2, List.length_replicate], by unfold zeroM; rw [List.length_replicate]⟩
theorem lapM_snoc (free : List Int) (es : List (Int × Int × Rat)) (e : Int × Int × Rat) : lapM free (es ++ [e]) = lapStep free (lapM free es) e := by unfold lapM; rw [List.foldl_append]; rfl
theorem lapM_ok (free : List Int) : ∀ es : List (Int × Int × Rat), Wide free.length (lapM free es) ∧ (lapM free es).length = free.length :=
  snoc_ind (zeroM_ok _) fun l e h => by rw [lapM_snoc]; exact lapStep_ok rfl h.1 h.2 e
def atBus (free : List Int) (x : Nat → Rat) (v : Int) : Rat := if 0 ≤ place free v then x (place free v).toNat else 0
theorem quad_step {n : Nat} {free : List Int} {A : Mat} (hn : free.length = n) (hw : Wide n A) (hl : A.length = n) (e : Int × Int × Rat) (x : Nat → Rat) :
    quad n (lapStep free A e) x = quad n A x + e.2.2 * ((atBus free x e.1 - atBus free x e.2.1) * (atBus free x e.1 - atBus free x e.2.1)) := by
  have hpi := place_lt free e.1
  have hpj := place_lt free e.2.1
  rw [hn] at hpi hpj
  have key : ∀ {B : Mat} {i j : Nat} {q : Rat}, Wide n B ∧ B.length = n → i < n → Wide n (addAt B i j q) ∧ (addAt B i j q).length = n := fun h hi => ⟨addAt_wide h.1 (by omega) _ _, (addAt_len _ _ _ _).trans h.2⟩
  have h0 : Wide n A ∧ A.length = n := ⟨hw, hl⟩
  unfold lapStep atBus
  by_cases he : e.1 = e.2.1
  · rw [if_pos he, he]
    grind
  · rw [if_neg he]
    clear he
    generalize place free e.1 = i at *
    generalize place free e.2.1 = j at *
    generalize e.2.2 = q at *
    dsimp only
    by_cases hi : 0 ≤ i <;> by_cases hj : 0 ≤ j
    · have hi2 := hpi hi
      have hj2 := hpj hj
      generalize i.toNat = a at *
      generalize j.toNat = b at *
      have h1 := key (j := a) (q := q) h0 hi2
      have h2 := key (j := b) (q := q) h1 hj2
      have h3 := key (j := b) (q := -q) h2 hi2
      rw [if_pos hi, if_pos hj, if_pos ⟨hi, hj⟩, if_pos hi, if_pos hj, quad_addAt h3.1 h3.2 hj2 hi2, quad_addAt h2.1 h2.2 hi2 hj2, quad_addAt h1.1 h1.2 hj2 hj2, quad_addAt hw hl hi2 hi2]
      grind
    · have hi2 := hpi hi
      generalize i.toNat = a at *
      rw [if_pos hi, if_neg hj, if_neg (fun h => hj h.2), if_pos hi, if_neg hj, quad_addAt hw hl hi2 hi2]
      grind
    · have hj2 := hpj hj
      generalize j.toNat = b at *
      rw [if_neg hi, if_pos hj, if_neg (fun h => hi h.1), if_neg hi, if_pos hj, quad_addAt hw hl hj2 hj2]
      grind
    · rw [if_neg hi, if_neg hj, if_neg (fun h => hi h.1), if_neg hi, if_neg hj]
      grind
theorem quad_zero (n : Nat) (x : Nat → Rat) : quad n (zeroM n) x = 0 := by
  unfold quad
  rw [sumN_congr (g := fun _ => 0) (fun i hi => by
    rw [sumN_congr (g := fun _ => 0) (fun j hj => by
      rw [show en (zeroM n) i j = 0 from by
        unfold zeroM
        rw [en_row (by rw [List.length_replicate]; exact hi), List.getElem_replicate, List.getD_eq_getElem?_getD, List.getElem?_replicate, if_pos hj]
        rfl, Rat.mul_zero, Rat.zero_mul]), sumN_zero]), sumN_zero]
theorem sq_zero {q a : Rat} (hq : 0 < q) (h : q * (a * a) = 0) : a = 0 := by
  rcases Rat.mul_eq_zero.1 h with h1 | h1
  · exact absurd h1 (Rat.ne_of_gt hq)
  · rcases Rat.mul_eq_zero.1 h1 with h2 | h2 <;> exact h2
theorem sq_nonneg (d : Rat) : 0 ≤ d * d := by
  rcases Rat.le_total (a := 0) (b := d) with h | h
  · exact Rat.mul_nonneg h h
  · have h1 : 0 ≤ -d := by grind
    have h2 := Rat.mul_nonneg h1 h1
    grind
theorem quad_lap (free : List Int) (x : Nat → Rat) : ∀ es : List (Int × Int × Rat), (∀ e ∈ es, 0 < e.2.2) → 0 ≤ quad free.length (lapM free es) x ∧ (quad free.length (lapM free es) x = 0 → ∀ e ∈ es, atBus free x e.1 = atBus free x e.2.1) := by
  refine snoc_ind ?_ ?_
  · intro _
    have h := quad_zero free.length x
    refine ⟨?_, fun _ e he => by cases he⟩
    show 0 ≤ quad free.length (zeroM free.length) x
    rw [h]
    exact Rat.le_refl
  · intro l a ih hq
    obtain ⟨h1, h2⟩ := ih fun e he => hq e (by simp [he])
    have ha := hq a (by simp)
    rw [lapM_snoc, quad_step rfl (lapM_ok free l).1 (lapM_ok free l).2]
    have hs : 0 ≤ (atBus free x a.1 - atBus free x a.2.1) * (atBus free x a.1 - atBus free x a.2.1) := sq_nonneg _
    obtain ⟨s, hs2⟩ : ∃ s, s = a.2.2 * ((atBus free x a.1 - atBus free x a.2.1) * (atBus free x a.1 - atBus free x a.2.1)) := ⟨_, rfl⟩
    have hs3 : 0 ≤ s := by rw [hs2]; exact Rat.mul_nonneg (Rat.le_of_lt ha) hs
    rw [← hs2]
    refine ⟨by grind, fun h0 e he => ?_⟩
    have hA : quad free.length (lapM free l) x = 0 := by grind
    have hB : s = 0 := by grind
    rw [List.mem_append, List.mem_singleton] at he
    rcases he with he | rfl
    · exact h2 hA e he
    · have := sq_zero ha (hs2.symm.trans hB)
      grind
theorem lap_ker {free : List Int} {es : List (Int × Int × Rat)} (hq : ∀ e ∈ es, 0 < e.2.2) {x : Nat → Rat} (h : ∀ i, i < (lapM free es).length → sumN free.length (fun j => en (lapM free es) i j * x j) = 0) : ∀ e ∈ es, atBus free x e.1 = atBus free x e.2.1 := by
  refine (quad_lap free x es hq).2 ?_
  unfold quad
  rw [sumN_congr (g := fun _ => 0) (fun i hi => by
    rw [sumN_congr (g := fun j => x i * (en (lapM free es) i j * x j)) (fun j _ => Rat.mul_assoc _ _ _), sumN_mul, h i (by rw [(lapM_ok free es).2]; exact hi), Rat.mul_zero]), sumN_zero]
/-! sizes -/
def Ok (D K : Nat) (x : Rat) : Prop := ∃ z : Int, x * ((D : Int) : Rat) = (z : Rat) ∧ z.natAbs ≤ K
def OkM (D K : Nat) (M : Mat) : Prop := ∀ row ∈ M, ∀ x ∈ row, Ok D K x
theorem Ok.zero (D K : Nat) : Ok D K 0 := ⟨0, by simp, Nat.zero_le _⟩
theorem Ok.mono {D K K' : Nat} {x : Rat} (h : Ok D K x) (hk : K ≤ K') : Ok D K' x := by
  obtain ⟨z, h1, h2⟩ := h
  exact ⟨z, h1, Nat.le_trans h2 hk⟩
theorem Ok.add {D K K' : Nat} {x y : Rat} (h : Ok D K x) (h' : Ok D K' y) : Ok D (K + K') (x + y) := by
  obtain ⟨z, h1, h2⟩ := h
  obtain ⟨z', h3, h4⟩ := h'
  refine ⟨z + z', by rw [Rat.intCast_add, ← h1, ← h3]; grind, ?_⟩
  have := Int.natAbs_add_le z z'
  omega
theorem Ok.neg {D K : Nat} {x : Rat} (h : Ok D K x) : Ok D K (-x) := by
  obtain ⟨z, h1, h2⟩ := h
  exact ⟨-z, by rw [Rat.intCast_neg, ← h1]; grind, by omega⟩
theorem OkM.get {D K : Nat} {M : Mat} (h : OkM D K M) (i : Nat) : ∀ x ∈ M.getD i [], Ok D K x := fun x hx => by
  obtain ⟨row, h1, h2⟩ := mem_getD hx
  exact h row h1 x h2
theorem OkM.en {D K : Nat} {M : Mat} (h : OkM D K M) (i j : Nat) : Ok D K (en M i j) := by
  unfold Pl.en
  rw [List.getD_eq_getElem?_getD]
  by_cases hj : j < (M.getD i []).length
  · rw [List.getElem?_eq_getElem hj]; exact h.get i _ (List.getElem_mem hj)
  · rw [List.getElem?_eq_none (by omega)]; exact Ok.zero D K
theorem OkM.addAt {D K K' : Nat} {M : Mat} (h : OkM D K M) {q : Rat} (hq : Ok D K' q) (i j : Nat) : OkM D (K + K') (addAt M i j q) := fun row hr x hx => by
  unfold Pl.addAt at hr
  rcases List.mem_or_eq_of_mem_set hr with hr | rfl
  · exact (h row hr x hx).mono (by omega)
  · rcases List.mem_or_eq_of_mem_set hx with hx | rfl
    · exact (h.get i x hx).mono (by omega)
    · exact (h.en i j).add hq
theorem OkM.mono {D K K' : Nat} {M : Mat} (h : OkM D K M) (hk : K ≤ K') : OkM D K' M := fun row hr x hx => (h row hr x hx).mono hk
theorem OkM.step {D K K' : Nat} {free : List Int} {A : Mat} (h : OkM D K A) {e : Int × Int × Rat} (hq : Ok D K' e.2.2) : OkM D (K + 4 * K') (lapStep free A e) := by
  unfold lapStep
  split
  · exact h.mono (by omega)
  · have h1 : OkM D (K + K') (if 0 ≤ place free e.1 then Pl.addAt A (place free e.1).toNat (place free e.1).toNat e.2.2 else A) := by
      split
      · exact h.addAt hq _ _
      · exact h.mono (by omega)
    generalize (if 0 ≤ place free e.1 then Pl.addAt A (place free e.1).toNat (place free e.1).toNat e.2.2 else A) = A1 at *
    have h2 : OkM D (K + K' + K') (if 0 ≤ place free e.2.1 then Pl.addAt A1 (place free e.2.1).toNat (place free e.2.1).toNat e.2.2 else A1) := by
      split
      · exact h1.addAt hq _ _
      · exact h1.mono (by omega)
    dsimp only
    generalize (if 0 ≤ place free e.2.1 then Pl.addAt A1 (place free e.2.1).toNat (place free e.2.1).toNat e.2.2 else A1) = A2 at *
    split
    · exact ((h2.addAt hq.neg _ _).addAt hq.neg _ _).mono (by omega)
    · exact h2.mono (by omega)
theorem OkM.lap {D K : Nat} (free : List Int) : ∀ es : List (Int × Int × Rat), (∀ e ∈ es, Ok D K e.2.2) → OkM D (es.length * (4 * K)) (lapM free es) := by
  refine snoc_ind ?_ ?_
  · intro _ row hr x hx
    have hr2 : row ∈ zeroM free.length := hr
    unfold zeroM at hr2
    rw [(List.mem_replicate.1 hr2).2] at hx
    rw [(List.mem_replicate.1 hx).2]
    exact Ok.zero _ _
  · intro l a ih hq
    rw [lapM_snoc]
    refine (OkM.step (ih fun e he => hq e (by simp [he])) (hq a (by simp))).mono ?_
    rw [List.length_append, Nat.add_mul]
    simp
theorem Ok.ov {D K b : Nat} {x : Rat} (h : Ok D K x) (hk : K ≤ 2 ^ b) : Ov D b x := h.mono hk
theorem den_ext {D K b : Nat} {A : Mat} (hD : D ≠ 0) (h : OkM D K A) (hk : K ≤ 2 ^ b) (hd : D ≤ 2 ^ b) : Den b (extM A) := by
  refine ⟨D, hD, hd, fun row hr x hx => ?_⟩
  obtain ⟨j, hj, rfl⟩ := List.getElem_of_mem hr
  rw [← getM hj, extM_row (by rw [extM_len] at hj; exact hj), List.mem_append] at hx
  rcases hx with hx | hx
  · exact (h.get j x hx).ov hk
  · unfold unitRow at hx
    rcases List.mem_or_eq_of_mem_set hx with hx | rfl
    · rw [(List.mem_replicate.1 hx).2]; exact Ov.zero _ _
    · exact ⟨(D : Int), by rw [Rat.one_mul], by rw [Int.natAbs_natCast]; exact hd⟩
theorem Ov.mono {D b b' : Nat} {x : Rat} (h : Ov D b x) (hb : b ≤ b') : Ov D b' x := by
  obtain ⟨z, h1, h2⟩ := h
  exact ⟨z, h1, Nat.le_trans h2 (Nat.pow_le_pow_right (by decide) hb)⟩
theorem Den.mono {b b' : Nat} {M : Mat} (h : Den b M) (hb : b ≤ b') : Den b' M := by
  obtain ⟨D, h1, h2, h3⟩ := h
  exact ⟨D, h1, Nat.le_trans h2 (Nat.pow_le_pow_right (by decide) hb), fun row hr x hx => (h3 row hr x hx).mono hb⟩
theorem Den.step {b : Nat} {st : Mat × List Nat} (h : Den b st.1) (k : Nat) : Den (2 * b + 1) (rstep st k).1 := by
  unfold rstep
  split
  · rename_i h1
    obtain ⟨D, h2, h3, _, _, h4⟩ := Den.part h h1.1 (pivAt_yes h1.2)
    exact ⟨D, h2, h3, h4 _⟩
  · exact h.mono (by omega)
theorem Den.red {b : Nat} {M : Mat} (h : Den b M) : ∀ c, Den (2 ^ c * (b + 1) - 1) (redTo M c).1
  | 0 => h.mono (by omega)
  | c + 1 => by
    rw [redTo_next]
    refine ((Den.red h c).step c).mono ?_
    have h1 : 1 ≤ 2 ^ c := Nat.one_le_two_pow
    have h2 : 1 * 1 ≤ 2 ^ c * (b + 1) := Nat.mul_le_mul h1 (by omega)
    rw [Nat.pow_succ, Nat.mul_assoc, Nat.mul_comm 2 (b + 1), ← Nat.mul_assoc]
    omega
theorem Den.size {b : Nat} {M : Mat} (h : Den b M) : ∀ row ∈ M, ∀ x ∈ row, rsz x ≤ b / 32 + 1 := fun row hr x hx => by
  obtain ⟨D, h1, h2, h3⟩ := h
  exact (h3 row hr x hx).size h1 h2
theorem Den.sizes {b n : Nat} {M : Mat} (h : Den b M) : ∀ c, c ≤ n → ∀ row ∈ (Pl.redTo M c).1, ∀ x ∈ row, rsz x ≤ (2 ^ n * (b + 1) - 1) / 32 + 1 := fun c hc row hr x hx => by
  have h1 := (h.red c).size row hr x hx
  have h2 : 2 ^ c * (b + 1) ≤ 2 ^ n * (b + 1) := Nat.mul_le_mul_right _ (Nat.pow_le_pow_right (by decide) hc)
  omega
end Go.Proofs.YtoblpcljhblnmaaGreatDoor.Pl
