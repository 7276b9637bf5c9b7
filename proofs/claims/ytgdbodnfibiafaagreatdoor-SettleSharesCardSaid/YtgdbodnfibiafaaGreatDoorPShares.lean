/- Plain laws for SettleShares: shares that grow with the weights; nothing of the program stands here. -/
import Derived.Test.YtgdbodnfibiafaaGreatDoorPBal
namespace Go.Proofs.YtgdbodnfibiafaaGreatDoor.Pl
/-- the exact shares -/
def exact_ (cents : Int) (ws : List Rat) : List Rat := ws.map fun w => (cents : Rat) * w / sumR ws
theorem exact_len (cents : Int) (ws : List Rat) : (exact_ cents ws).length = ws.length := List.length_map _
theorem sumR_map (t : Rat) (ws : List Rat) : sumR (ws.map fun w => t * w) = t * sumR ws := by
  induction ws with
  | nil => rw [List.map_nil, sumR]; grind
  | cons w ws ih => rw [List.map_cons, sumR, sumR, ih]; grind
theorem exact_eq (cents : Int) (ws : List Rat) : exact_ cents ws = ws.map fun w => ((cents : Rat) * (sumR ws)⁻¹) * w := by
  unfold exact_
  refine List.map_congr_left fun w _ => ?_
  rw [Rat.div_def]
  grind
theorem exact_sum {cents : Int} {ws : List Rat} (h : sumR ws ≠ 0) : sumR (exact_ cents ws) = (cents : Rat) := by
  rw [exact_eq, sumR_map, Rat.mul_assoc, Rat.inv_mul_cancel _ h, Rat.mul_one]
theorem sumR_pos {ws : List Rat} (h0 : ∀ w ∈ ws, 0 ≤ w) (h : sumR ws ≠ 0) : 0 < sumR ws := by
  have := sumR_nonneg h0
  grind
theorem exact_at {cents : Int} {ws : List Rat} {k : Nat} (hk : k < ws.length) (hk2 : k < (exact_ cents ws).length) : (exact_ cents ws)[k] = ((cents : Rat) * (sumR ws)⁻¹) * ws[k] := by
  have : ∀ l, l = exact_ cents ws → ∀ h : k < l.length, l[k] = (exact_ cents ws)[k] := fun l e h => by subst e; rfl
  rw [← this _ (exact_eq cents ws).symm (by simpa using hk)]
  simp
theorem shares_sum {cents : Int} {ws : List Rat} {os : List Int} (hS : sumR ws ≠ 0) (hd : Desc (exact_ cents ws) os) (h1 : (sumR ((exact_ cents ws).map fr)).den = 1) : sumI (bal (exact_ cents ws) os) = cents := by
  have h := (bal_law hd h1).1
  rw [exact_sum hS] at h
  exact Rat.intCast_inj.1 h
theorem shares_law {cents : Int} {ws : List Rat} {os : List Int} (h0 : ∀ w ∈ ws, 0 ≤ w) (hS : sumR ws ≠ 0) (hd : Desc (exact_ cents ws) os) (hs : Stab (exact_ cents ws) os) (h1 : (sumR ((exact_ cents ws).map fr)).den = 1) (hc : 0 ≤ cents) {k i : Nat} (hki : k < i) (hi : i < ws.length) :
    (ws[k] < ws[i] → (bal (exact_ cents ws) os).getD k 0 ≤ (bal (exact_ cents ws) os).getD i 0) ∧ (ws[i] < ws[k] → (bal (exact_ cents ws) os).getD i 0 ≤ (bal (exact_ cents ws) os).getD k 0) ∧ (ws[k] = ws[i] → (bal (exact_ cents ws) os).getD i 0 ≤ (bal (exact_ cents ws) os).getD k 0) := by
  have hk : k < ws.length := by omega
  have hk2 : k < (exact_ cents ws).length := by rw [exact_len]; exact hk
  have hi2 : i < (exact_ cents ws).length := by rw [exact_len]; exact hi
  have ek := exact_at (cents := cents) hk hk2
  have ei := exact_at (cents := cents) hi hi2
  have hp := sumR_pos h0 hS
  have hip : 0 < (sumR ws)⁻¹ := Rat.inv_pos.2 hp
  refine ⟨fun h => ?_, fun h => ?_, fun h => ?_⟩
  · rcases Int.lt_or_eq_of_le hc with hc | hc
    · have ht : 0 < (cents : Rat) * (sumR ws)⁻¹ := Rat.mul_pos (Rat.intCast_pos.2 hc) hip
      exact bal_mono hd hk2 hi2 (by rw [ek, ei]; exact Rat.mul_lt_mul_of_pos_left h ht)
    · subst hc
      have hz : ∀ j (hj : j < (exact_ 0 ws).length), (bal (exact_ 0 ws) os).getD j 0 = 0 := fun j hj => by
        have e0 : (exact_ 0 ws)[j] = 0 := by
          rw [exact_at (by rw [← exact_len 0 ws]; exact hj) hj]
          rw [show ((0 : Int) : Rat) = 0 from rfl, Rat.zero_mul, Rat.zero_mul]
        have hr := raised hd h1 hj
        unfold bal
        rw [bal_at hd _ hj, e0]
        rw [e0] at hr
        rw [if_neg (fun hm => absurd (hr hm) (by decide +kernel))]
        rfl
      rw [hz k hk2, hz i hi2]
      exact Int.le_refl _
  · rcases Int.lt_or_eq_of_le hc with hc | hc
    · have ht : 0 < (cents : Rat) * (sumR ws)⁻¹ := Rat.mul_pos (Rat.intCast_pos.2 hc) hip
      exact bal_mono hd hi2 hk2 (by rw [ek, ei]; exact Rat.mul_lt_mul_of_pos_left h ht)
    · subst hc
      exact bal_same hd hs hk2 hi2 hki (by rw [ek, ei, show ((0 : Int) : Rat) = 0 from rfl, Rat.zero_mul, Rat.zero_mul, Rat.zero_mul])
  · exact bal_same hd hs hk2 hi2 hki (by rw [ek, ei, h])
/-- the first example -/
theorem lit1_exact : exact_ 10 [1, 1, 1] = [mkRat 10 3, mkRat 10 3, mkRat 10 3] := by decide +kernel
theorem lit1_sum : (sumR ([mkRat 10 3, mkRat 10 3, mkRat 10 3].map fr)).den = 1 ∧ (sumR ([mkRat 10 3, mkRat 10 3, mkRat 10 3].map fr)).num = 1 := by decide +kernel
theorem lit1_floor : ∀ q ∈ [mkRat 10 3, mkRat 10 3, mkRat 10 3], -1000000000000000 ≤ q.floor ∧ q.floor ≤ 1000000000000000 := by decide +kernel
theorem lit1_bal {os : List Int} (h : Desc [mkRat 10 3, mkRat 10 3, mkRat 10 3] os) (hs : Stab [mkRat 10 3, mkRat 10 3, mkRat 10 3] os) : bal [mkRat 10 3, mkRat 10 3, mkRat 10 3] os = [4, 3, 3] := by
  have hl : os.length = 3 := h.len
  obtain ⟨a, b, c, rfl⟩ : ∃ a b c, os = [a, b, c] := by
    match os, hl with
    | [a, b, c], _ => exact ⟨a, b, c, rfl⟩
  obtain ⟨j, hj, ej, _⟩ := h.pos (k := 0) (by decide)
  have hall : ∀ i : Int, 0 ≤ i → i < 3 → fr (([mkRat 10 3, mkRat 10 3, mkRat 10 3] : List Rat).getD i.toNat 0) = mkRat 1 3 := fun i h0 h3 => by
    have hc : i = 0 ∨ i = 1 ∨ i = 2 := by omega
    rcases hc with rfl | rfl | rfl <;> decide +kernel
  have ha := h.mem a (by simp)
  have ha2 : a < 3 := ha.2
  have h0 : a = 0 := by
    rcases Nat.eq_zero_or_pos j with e | e
    · subst e; exact ej
    · have := hs 0 j e hj (by
        rw [ej, show ([a, b, c] : List Int).getD 0 0 = a from rfl, hall a ha.1 ha2]
        exact hall ((0 : Nat) : Int) (by omega) (by omega))
      rw [ej, show ([a, b, c] : List Int).getD 0 0 = a from rfl] at this
      omega
  subst h0
  unfold bal
  rw [lit1_sum.2]
  have ef : ([mkRat 10 3, mkRat 10 3, mkRat 10 3].map Rat.floor) = [3, 3, 3] := by decide +kernel
  rw [ef]
  rfl
end Go.Proofs.YtgdbodnfibiafaaGreatDoor.Pl
