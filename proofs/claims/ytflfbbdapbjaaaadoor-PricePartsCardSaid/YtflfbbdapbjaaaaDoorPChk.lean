/- A number in pieces of nine decimal digits, plain: its text. No program. -/
import Derived.Test.YtflfbbdapbjaaaaDoorPRatT
namespace Go.Proofs.YtflfbbdapbjaaaaDoor.Pl
/-- the value of pieces, the lowest first -/
def cv : List Nat → Nat
  | [] => 0
  | x :: l => x + 1000000000 * cv l
theorem cv_nil : cv [] = 0 := rfl
theorem cv_snoc (l : List Nat) (x : Nat) : cv (l ++ [x]) = cv l + 1000000000 ^ l.length * x := by
  induction l with
  | nil => simp [cv]
  | cons y l ih =>
    rw [List.cons_append, cv, ih, cv, List.length_cons, Nat.pow_succ, Nat.mul_add, Nat.mul_comm (1000000000 ^ l.length) 1000000000, Nat.mul_assoc, Nat.add_assoc]
theorem cv_drop {l : List Nat} {k : Nat} (h : k < l.length) : cv (l.drop k) = l[k] + 1000000000 * cv (l.drop (k + 1)) := by
  rw [List.drop_eq_getElem_cons h, cv]
theorem cv_pos {l : List Nat} (h : ∃ x ∈ l, x ≠ 0) : 0 < cv l := by
  induction l with
  | nil => obtain ⟨x, hx, _⟩ := h; cases hx
  | cons y l ih =>
    obtain ⟨x, hx, h0⟩ := h
    rw [cv]
    rcases List.mem_cons.1 hx with rfl | hx
    · omega
    · have := ih ⟨x, hx, h0⟩; omega
theorem cv_drop_le (l : List Nat) : ∀ k, cv (l.drop k) ≤ cv l := by
  induction l with
  | nil => intro k; simp
  | cons x l ih =>
    intro k
    cases k with
    | zero => exact Nat.le_refl _
    | succ k =>
      rw [List.drop_succ_cons]
      have := ih k
      rw [cv]; omega
/-- all pieces in range, the last one is not 0 -/
def Pcs (l : List Nat) : Prop := (∀ x ∈ l, x < 1000000000) ∧ ∀ h : l ≠ [], l.getLast h ≠ 0
theorem Pcs.drop_pos {l : List Nat} (h : Pcs l) {k : Nat} (hk : k < l.length) : 0 < cv (l.drop k) := by
  have hne : l ≠ [] := by rintro rfl; simp at hk
  refine cv_pos ⟨l.getLast hne, ?_, h.2 hne⟩
  have : (l.drop k).getLast (by simp; omega) = l.getLast hne := List.getLast_drop _
  rw [← this]
  exact List.getLast_mem _
/-- the text of the pieces from k on -/
def ptxt (l : List Nat) (k : Nat) : List UInt8 := if k < l.length then Go.Lib.decDigits (cv (l.drop k)) else []
theorem ptxt_end (l : List Nat) : ptxt l l.length = [] := by unfold ptxt; rw [if_neg (by omega)]
theorem ptxt_last {l : List Nat} {k : Nat} (hk : k + 1 = l.length) : ptxt l k = ptxt l (k + 1) ++ Go.Lib.decDigits (l[k]'(by omega)) := by
  have h1 := cv_drop (l := l) (k := k) (by omega)
  have h0 : l.drop (k + 1) = [] := List.drop_of_length_le (by omega)
  rw [h0, cv_nil, Nat.mul_zero, Nat.add_zero] at h1
  have h2 : ptxt l (k + 1) = [] := by unfold ptxt; rw [if_neg (by omega)]
  rw [h2]
  unfold ptxt
  rw [if_pos (by omega), h1]
  rfl
theorem ptxt_step {l : List Nat} (hp : Pcs l) {k : Nat} (hk : k + 1 < l.length) : ptxt l k = ptxt l (k + 1) ++ (List.replicate (9 - (Go.Lib.decDigits (l[k]'(by omega))).length) 48 ++ Go.Lib.decDigits (l[k]'(by omega))) := by
  have h1 := cv_drop (l := l) (k := k) (by omega)
  have h2 := hp.drop_pos hk
  have h3 := hp.1 _ (List.getElem_mem (show k < l.length by omega))
  unfold ptxt
  rw [if_pos (by omega), if_pos hk, h1, Nat.add_comm, Nat.mul_comm]
  exact dec_chunk h2 h3
theorem Pcs.snoc {l : List Nat} {r : Nat} (h : ∀ x ∈ l, x < 1000000000) (hr : r < 1000000000) : ∀ x ∈ l ++ [r], x < 1000000000 := fun x hx => by
  rcases List.mem_append.1 hx with hx | hx
  · exact h x hx
  · rw [List.mem_singleton.1 hx]; exact hr
theorem dec9 {r : Nat} (h : r < 1000000000) : (Go.Lib.decDigits r).length ≤ 9 := dec_limK (k := 9) (by decide) |>.2 h
theorem limK_mul (a b : Nat) : limK (a * b) = (10 ^ a) ^ b := by unfold limK; exact Nat.pow_mul _ _ _
/-- 2000 digits take no more than 210 words -/
theorem lim_words : lim ≤ 4294967296 ^ 210 := by
  have h : lim = limK (200 * 10) := rfl
  have h2 : 10 ^ 200 ≤ 4294967296 ^ 21 := by decide +kernel
  rw [h, limK_mul, show 210 = 21 * 10 from rfl, Nat.pow_mul]
  exact Nat.pow_le_pow_left h2 10
theorem dec_lenlim {n k : Nat} (h : n < 4294967296 ^ k) : (Go.Lib.decDigits n).length ≤ 10 * k + 1 := by
  refine dec_len.2 (Nat.lt_of_lt_of_le h ?_)
  have h1 : 4294967296 ^ k ≤ (10 ^ 10) ^ k := Nat.pow_le_pow_left (by decide) k
  rw [← Nat.pow_mul] at h1
  exact Nat.le_trans h1 (Nat.pow_le_pow_right (by omega) (by omega))
end Go.Proofs.YtflfbbdapbjaaaaDoor.Pl
