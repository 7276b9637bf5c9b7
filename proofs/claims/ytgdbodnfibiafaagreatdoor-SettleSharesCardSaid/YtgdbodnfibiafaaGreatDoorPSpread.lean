/- Plain laws for hours.Spread and hours.Sums; nothing of the program stands here. -/
import Derived.Test.YtgdbodnfibiafaaGreatDoorPHours
namespace Go.Proofs.YtgdbodnfibiafaaGreatDoor.Pl
def sumI : List Int → Int
  | [] => 0
  | x :: l => x + sumI l
theorem sumI_app (a b : List Int) : sumI (a ++ b) = sumI a + sumI b := by
  induction a with
  | nil => simp [sumI]
  | cons x a ih => rw [List.cons_append, sumI, sumI, ih]; omega
theorem sumI_snoc (a : List Int) (x : Int) : sumI (a ++ [x]) = sumI a + x := by rw [sumI_app]; simp [sumI]
theorem sumI_perm {l l' : List Int} (h : l.Perm l') : sumI l = sumI l' := by
  induction h with
  | nil => rfl
  | cons x _ ih => rw [sumI, sumI, ih]
  | swap x y l => rw [sumI, sumI, sumI, sumI]; omega
  | trans _ _ i1 i2 => rw [i1, i2]
theorem sumI_bd {l : List Int} {lo hi : Int} (h : ∀ x ∈ l, lo ≤ x ∧ x ≤ hi) : lo * l.length ≤ sumI l ∧ sumI l ≤ hi * l.length := by
  induction l with
  | nil => simp [sumI]
  | cons x l ih =>
    have h1 := h x (by simp)
    have h2 := ih fun y hy => h y (by simp [hy])
    rw [sumI, List.length_cons, Int.natCast_add, Int.mul_add, Int.mul_add]
    simp only [Int.natCast_one, Int.mul_one]
    omega
theorem sumI_set (l : List Int) (i : Nat) (hi : i < l.length) (x : Int) : sumI (l.set i x) = sumI l + (x - l[i]) := by
  induction l generalizing i with
  | nil => simp at hi
  | cons y l ih =>
    cases i with
    | zero => rw [List.set_cons_zero, sumI, sumI]; simp only [List.getElem_cons_zero]; omega
    | succ i =>
      have := ih i (by simpa using hi)
      rw [List.set_cons_succ, sumI, sumI, this]
      simp only [List.getElem_cons_succ]
      omega
/-- the remainders of an even division -/
def rem_ (total S w : Int) : Int := total * w % S
def quo_ (total S w : Int) : Int := total * w / S
theorem quo_rem (total S w : Int) (hS : 0 < S) : S * quo_ total S w + rem_ total S w = total * w ∧ 0 ≤ rem_ total S w ∧ rem_ total S w < S := by
  unfold quo_ rem_
  exact ⟨Int.mul_ediv_add_emod _ _, Int.emod_nonneg _ (by omega), Int.emod_lt_of_pos _ hS⟩
theorem sum_rem (total S : Int) (ws : List Int) (hS : 0 < S) : S * sumI (ws.map (quo_ total S)) + sumI (ws.map (rem_ total S)) = total * sumI ws := by
  induction ws with
  | nil => simp [sumI]
  | cons w ws ih =>
    have := (quo_rem total S w hS).1
    simp only [List.map_cons, sumI, Int.mul_add]
    omega
/-- one increment -/
def inc (l : List Int) (i : Int) : List Int := l.set i.toNat (l.getD i.toNat 0 + 1)
def incs (l : List Int) (os : List Int) : List Int := os.foldl inc l
theorem incs_snoc (l os : List Int) (i : Int) : incs l (os ++ [i]) = inc (incs l os) i := by unfold incs; rw [List.foldl_append]; rfl
theorem inc_len (l : List Int) (i : Int) : (inc l i).length = l.length := by simp [inc]
theorem incs_len (l os : List Int) : (incs l os).length = l.length := by
  induction os using snocInd with
  | h0 => rfl
  | h1 os i ih => rw [incs_snoc, inc_len, ih]
theorem incs_sum (l os : List Int) (h : ∀ i ∈ os, 0 ≤ i ∧ i < l.length) : sumI (incs l os) = sumI l + os.length := by
  induction os using snocInd with
  | h0 => simp [incs]
  | h1 os i ih =>
    have hi := h i (by simp)
    have hl : i.toNat < (incs l os).length := by rw [incs_len]; omega
    rw [incs_snoc, inc, sumI_set _ _ hl, ih fun j hj => h j (by simp [hj]), List.getD_eq_getElem?_getD, List.getElem?_eq_getElem hl, List.length_append]
    simp
    omega
/-- distinct places: each is raised by one at most -/
theorem incs_at (l os : List Int) (hd : os.Nodup) (h : ∀ i ∈ os, 0 ≤ i ∧ i < l.length) (k : Nat) (hk : k < l.length) : (incs l os).getD k 0 = l.getD k 0 + (if (k : Int) ∈ os then 1 else 0) := by
  induction os using snocInd with
  | h0 => simp [incs]
  | h1 os i ih =>
    have hi := h i (by simp)
    obtain ⟨d1, _, d2⟩ := List.nodup_append.1 hd
    have ih := ih d1 (fun j hj => h j (by simp [hj]))
    have hl : i.toNat < (incs l os).length := by rw [incs_len]; omega
    rw [incs_snoc, inc]
    by_cases hki : (k : Int) = i
    · have hk2 : i.toNat = k := by omega
      rw [hk2, List.getD_eq_getElem?_getD, List.getElem?_set_self (by rw [incs_len]; exact hk), Option.getD_some, ih]
      have hn : ¬ (k : Int) ∈ os := fun hm => d2 _ hm i (by simp) hki
      rw [if_neg hn, if_pos (by simp [hki])]
      omega
    · have hk2 : i.toNat ≠ k := by omega
      rw [List.getD_eq_getElem?_getD, List.getElem?_set_ne hk2, ← List.getD_eq_getElem?_getD, ih]
      by_cases hm : (k : Int) ∈ os
      · rw [if_pos hm, if_pos (by simp [hm])]
      · rw [if_neg hm, if_neg (by simp [hm, hki])]
/-- the places in the order of their remainders -/
structure Order (total S : Int) (ws : List Int) (os : List Int) : Prop where
  perm : os.Perm ((List.range ws.length).map Int.ofNat)
  down : ∀ (i j : Nat), i < j → j < ws.length → rem_ total S (ws.getD (os.getD j 0).toNat 0) ≤ rem_ total S (ws.getD (os.getD i 0).toNat 0)
theorem Order.mem {total S : Int} {ws os : List Int} (h : Order total S ws os) : ∀ i ∈ os, 0 ≤ i ∧ i < ws.length := by
  intro i hi
  have := h.perm.mem_iff.1 hi
  rw [List.mem_map] at this
  obtain ⟨k, hk, rfl⟩ := this
  rw [List.mem_range] at hk
  exact ⟨Int.natCast_nonneg _, by show (k : Int) < _; omega⟩
theorem Order.len {total S : Int} {ws os : List Int} (h : Order total S ws os) : os.length = ws.length := by
  have := h.perm.length_eq; simpa using this
theorem Order.nodup {total S : Int} {ws os : List Int} (h : Order total S ws os) : os.Nodup := by
  rw [h.perm.nodup_iff, List.nodup_iff_pairwise_ne, List.pairwise_map]
  exact (List.nodup_range (n := ws.length)).imp fun hab e => hab (Int.ofNat.inj e)
theorem range_map (ws : List Int) (f : Int → Int) : (List.range ws.length).map (fun k => f (ws.getD k 0)) = ws.map f := by
  apply List.ext_getElem
  · simp
  · intro k h1 h2
    have hk : k < ws.length := by simpa using h2
    simp [hk]
theorem Order.sum {total S : Int} {ws os : List Int} (h : Order total S ws os) : sumI (os.map fun i => rem_ total S (ws.getD i.toNat 0)) = sumI (ws.map (rem_ total S)) := by
  rw [sumI_perm (h.perm.map _), List.map_map]
  congr 1
  exact range_map ws (rem_ total S)
/-- how many places are raised -/
theorem left_bd {total S : Int} {ws : List Int} (hS : sumI ws = S) (hp : 0 < S) : 0 ≤ total - sumI (ws.map (quo_ total S)) ∧ total - sumI (ws.map (quo_ total S)) ≤ ws.length ∧ S * (total - sumI (ws.map (quo_ total S))) = sumI (ws.map (rem_ total S)) := by
  have h1 := sum_rem total S ws hp
  rw [hS] at h1
  have h2 : S * (total - sumI (ws.map (quo_ total S))) = sumI (ws.map (rem_ total S)) := by rw [Int.mul_sub, Int.mul_comm S total]; omega
  have h3 := sumI_bd (l := ws.map (rem_ total S)) (lo := 0) (hi := S - 1) (by
    intro x hx
    rw [List.mem_map] at hx
    obtain ⟨w, _, rfl⟩ := hx
    have := quo_rem total S w hp
    omega)
  rw [List.length_map, ← h2, Int.zero_mul, Int.sub_mul] at h3
  generalize total - sumI (ws.map (quo_ total S)) = L at *
  refine ⟨?_, ?_, h2⟩
  · rcases Int.lt_or_le L 0 with hl | hl
    · have := Int.mul_neg_of_pos_of_neg hp hl
      omega
    · exact hl
  · rcases Int.lt_or_le (ws.length : Int) L with hl | hl
    · have : S * (ws.length : Int) < S * L := Int.mul_lt_mul_of_pos_left hl hp
      omega
    · exact hl
/-- each place that is raised has a remainder -/
theorem Order.pos {total S : Int} {ws os : List Int} (h : Order total S ws os) (hS : sumI ws = S) (hp : 0 < S) (L : Nat) (hL : total - sumI (ws.map (quo_ total S)) = L) (p : Nat) (hpL : p < L) (hpn : p < ws.length) : 0 < rem_ total S (ws.getD (os.getD p 0).toNat 0) := by
  obtain ⟨_, _, h3⟩ := left_bd (total := total) hS hp
  rw [hL, ← h.sum] at h3
  have hlen := h.len
  rcases Int.lt_or_le 0 (rem_ total S (ws.getD (os.getD p 0).toNat 0)) with hc | hc
  · exact hc
  · exfalso
    have e : os = os.take p ++ os.drop p := (List.take_append_drop p os).symm
    rw [e, List.map_append, sumI_app] at h3
    have b1 := sumI_bd (l := (os.take p).map fun i => rem_ total S (ws.getD i.toNat 0)) (lo := 0) (hi := S - 1) (by
      intro x hx
      rw [List.mem_map] at hx
      obtain ⟨w, _, rfl⟩ := hx
      have := quo_rem total S (ws.getD w.toNat 0) hp
      omega)
    have b2 := sumI_bd (l := (os.drop p).map fun i => rem_ total S (ws.getD i.toNat 0)) (lo := 0) (hi := 0) (by
      intro x hx
      rw [List.mem_map] at hx
      obtain ⟨w, hw, rfl⟩ := hx
      have h0 := (quo_rem total S (ws.getD w.toNat 0) hp).2.1
      refine ⟨h0, ?_⟩
      obtain ⟨j, hj, rfl⟩ := List.getElem_of_mem hw
      rw [List.length_drop] at hj
      rw [List.getElem_drop]
      have e2 : os[p + j] = os.getD (p + j) 0 := by rw [List.getD_eq_getElem?_getD, List.getElem?_eq_getElem (by omega)]; rfl
      rw [e2]
      rcases Nat.eq_zero_or_pos j with hz | hz
      · subst hz; exact hc
      · have := h.down p (p + j) (by omega) (by omega)
        omega)
    rw [List.length_map, List.length_take, Nat.min_eq_left (by omega), Int.sub_mul] at b1
    rw [Int.zero_mul] at b2
    have : S * ((p : Int) + 1) ≤ S * (L : Int) := Int.mul_le_mul_of_nonneg_left (by omega) (by omega)
    rw [Int.mul_add] at this
    omega
/-- what Spread gives -/
theorem spread_law {total S : Int} {ws os : List Int} (h : Order total S ws os) (hS : sumI ws = S) (hp : 0 < S) (L : Nat) (hL : total - sumI (ws.map (quo_ total S)) = L) :
    (incs (ws.map (quo_ total S)) (os.take L)).length = ws.length ∧ sumI (incs (ws.map (quo_ total S)) (os.take L)) = total ∧
    ∀ (k : Nat), k < ws.length → -S < (incs (ws.map (quo_ total S)) (os.take L)).getD k 0 * S - total * ws.getD k 0 ∧ (incs (ws.map (quo_ total S)) (os.take L)).getD k 0 * S - total * ws.getD k 0 < S := by
  obtain ⟨hb0, hb, _⟩ := left_bd (total := total) hS hp
  have hlen := h.len
  have hmem : ∀ i ∈ os.take L, 0 ≤ i ∧ i < (ws.map (quo_ total S)).length := fun i hi => by rw [List.length_map]; exact h.mem i (List.mem_of_mem_take hi)
  refine ⟨by rw [incs_len, List.length_map], ?_, fun k hk => ?_⟩
  · rw [incs_sum _ _ hmem, List.length_take, Nat.min_eq_left (by omega)]; omega
  · rw [incs_at _ _ ((List.take_sublist L os).nodup h.nodup) hmem k (by rw [List.length_map]; exact hk)]
    have e : (ws.map (quo_ total S)).getD k 0 = quo_ total S (ws.getD k 0) := by
      rw [List.getD_eq_getElem?_getD, List.getD_eq_getElem?_getD, List.getElem?_map, List.getElem?_eq_getElem hk]; rfl
    rw [e]
    have q := quo_rem total S (ws.getD k 0) hp
    have qc : quo_ total S (ws.getD k 0) * S = S * quo_ total S (ws.getD k 0) := Int.mul_comm _ _
    by_cases hm : (k : Int) ∈ os.take L
    · rw [if_pos hm]
      obtain ⟨p, hpl, hpe⟩ := List.getElem_of_mem hm
      rw [List.length_take] at hpl
      rw [List.getElem_take] at hpe
      have := h.pos hS hp L hL p (by omega) (by omega)
      rw [show os.getD p 0 = os[p]'(by omega) from by rw [List.getD_eq_getElem?_getD, List.getElem?_eq_getElem (by omega)]; rfl, hpe] at this
      simp only [Int.toNat_natCast] at this
      rw [Int.add_mul]
      omega
    · rw [if_neg hm]
      rw [Int.add_mul]
      omega
/-- the quotients so far -/
theorem quo_bd {total S : Int} (t0 : 0 ≤ total) (hp : 0 < S) {w : Int} (w0 : 0 ≤ w) (hT : total ≤ 2400000) (hw : w ≤ 100000) : 0 ≤ quo_ total S w ∧ quo_ total S w ≤ 240000000000 := by
  have h0 := Int.mul_nonneg t0 w0
  have h1 : total * w ≤ total * 100000 := Int.mul_le_mul_of_nonneg_left hw t0
  have h2 := Int.ediv_le_self S h0
  unfold quo_
  exact ⟨Int.ediv_nonneg h0 (by omega), by omega⟩
theorem left_take {total S : Int} {ws : List Int} (hS : sumI ws = S) (hp : 0 < S) (t0 : 0 ≤ total) (hw : ∀ w ∈ ws, 0 ≤ w) (k : Nat) : 0 ≤ sumI ((ws.take k).map (quo_ total S)) ∧ sumI ((ws.take k).map (quo_ total S)) ≤ total := by
  have hs := sum_rem total S (ws.take k) hp
  have h1 := sumI_bd (l := (ws.take k).map (rem_ total S)) (lo := 0) (hi := S) (by
    intro x hx
    rw [List.mem_map] at hx
    obtain ⟨w, _, rfl⟩ := hx
    have := quo_rem total S w hp
    omega)
  have nn : ∀ l : List Int, (∀ w ∈ l, 0 ≤ w) → 0 ≤ sumI l := by
    intro l
    induction l with
    | nil => intro _; exact Int.le_refl _
    | cons x l ih => intro h; have := h x (by simp); have := ih fun y hy => h y (by simp [hy]); rw [sumI]; omega
  have h2 : sumI (ws.take k) ≤ S := by
    have e : sumI ws = sumI (ws.take k) + sumI (ws.drop k) := by rw [← sumI_app, List.take_append_drop]
    have := nn (ws.drop k) fun w hw' => hw w (List.mem_of_mem_drop hw')
    omega
  have h3 : total * sumI (ws.take k) ≤ total * S := Int.mul_le_mul_of_nonneg_left h2 t0
  have h4 := nn ((ws.take k).map (quo_ total S)) (by
    intro x hx
    rw [List.mem_map] at hx
    obtain ⟨w, hw', rfl⟩ := hx
    unfold quo_
    exact Int.ediv_nonneg (Int.mul_nonneg t0 (hw w (List.mem_of_mem_take hw'))) (by omega))
  refine ⟨h4, ?_⟩
  rcases Int.lt_or_le total (sumI ((ws.take k).map (quo_ total S))) with hc | hc
  · exfalso
    have h5 : S * (total + 1) ≤ S * sumI ((ws.take k).map (quo_ total S)) := Int.mul_le_mul_of_nonneg_left (by omega) (by omega)
    rw [Int.mul_add, Int.mul_comm S total] at h5
    rw [Int.zero_mul] at h1
    omega
  · exact hc
/-- a row of places in order -/
def iota (n : Nat) : List Int := (List.range n).map Int.ofNat
theorem iota_len (n : Nat) : (iota n).length = n := by simp [iota]
theorem iota_snoc (n : Nat) : iota (n + 1) = iota n ++ [(n : Int)] := by unfold iota; rw [List.range_succ, List.map_append]; rfl
theorem incs_bd {total S : Int} {ws os : List Int} (h : Order total S ws os) (t0 : 0 ≤ total) (hT : total ≤ 2400000) (hp : 0 < S) (hw : ∀ z ∈ ws, 0 ≤ z ∧ z ≤ 100000) (k j : Nat) (hj : j < ws.length) :
    0 ≤ (incs (ws.map (quo_ total S)) (os.take k)).getD j 0 ∧ (incs (ws.map (quo_ total S)) (os.take k)).getD j 0 ≤ 240000000001 := by
  have hmem : ∀ i ∈ os.take k, 0 ≤ i ∧ i < (ws.map (quo_ total S)).length := fun i hi => by rw [List.length_map]; exact h.mem i (List.mem_of_mem_take hi)
  rw [incs_at _ _ ((List.take_sublist k os).nodup h.nodup) hmem j (by rw [List.length_map]; exact hj)]
  have e : (ws.map (quo_ total S)).getD j 0 = quo_ total S ws[j] := by
    rw [List.getD_eq_getElem?_getD, List.getElem?_map, List.getElem?_eq_getElem hj]; rfl
  rw [e]
  have := hw _ (List.getElem_mem hj)
  have := quo_bd (total := total) (S := S) t0 hp this.1 hT this.2
  split <;> omega
end Go.Proofs.YtgdbodnfibiafaaGreatDoor.Pl
