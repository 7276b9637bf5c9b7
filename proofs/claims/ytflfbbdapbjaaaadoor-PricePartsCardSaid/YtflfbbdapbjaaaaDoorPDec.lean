/- Decimal numerals, plain: the digits of a number, what they read as, numerals in pieces of nine digits. No program. -/
import Derived.Lib.ItoaNum
namespace Go.Proofs.YtflfbbdapbjaaaaDoor.Pl
/-- a decimal digit -/
def Dg (c : UInt8) : Prop := 48 ≤ c.toNat ∧ c.toNat ≤ 57
/-- what digits read as -/
def natOf (l : List UInt8) : Nat := l.foldl (fun a c => 10 * a + (c.toNat - 48)) 0
theorem head_app {α : Type} {a b : List α} (h : a ≠ []) : (a ++ b).head? = a.head? := by
  cases a with
  | nil => exact absurd rfl h
  | cons x a => rfl
theorem natOf_nil : natOf [] = 0 := rfl
theorem natOf_snoc (l : List UInt8) (c : UInt8) : natOf (l ++ [c]) = 10 * natOf l + (c.toNat - 48) := by unfold natOf; rw [List.foldl_append]; rfl
theorem list_snoc {α : Type} {l : List α} (h : l ≠ []) : ∃ m c, l = m ++ [c] := ⟨l.dropLast, l.getLast h, (List.dropLast_concat_getLast h).symm⟩
theorem snoc_ind {α : Type} {p : List α → Prop} (h0 : p []) (h1 : ∀ l x, p l → p (l ++ [x])) (l : List α) : p l := by
  generalize hn : l.length = n
  induction n generalizing l with
  | zero => rw [List.eq_nil_of_length_eq_zero hn]; exact h0
  | succ n ih =>
    obtain ⟨m, c, rfl⟩ := list_snoc (l := l) (by intro e; rw [e] at hn; cases hn)
    exact h1 m c (ih m (by simpa using hn))
theorem natOf_append (a b : List UInt8) : natOf (a ++ b) = natOf a * 10 ^ b.length + natOf b := by
  induction b using snoc_ind with
  | h0 => simp [natOf]
  | h1 b c ih =>
    rw [← List.append_assoc, natOf_snoc, natOf_snoc, ih, List.length_append, List.length_singleton, Nat.pow_succ, ← Nat.mul_assoc]
    generalize natOf a * 10 ^ b.length = x
    omega
theorem natOf_lt {l : List UInt8} (h : ∀ c ∈ l, Dg c) : natOf l < 10 ^ l.length := by
  induction l using snoc_ind with
  | h0 => simp [natOf]
  | h1 l c ih =>
    have h1 := ih fun x hx => h x (List.mem_append_left _ hx)
    have h2 := h c (by simp)
    rw [natOf_snoc, List.length_append, List.length_singleton, Nat.pow_succ]
    unfold Dg at h2
    generalize 10 ^ l.length = x at *
    omega
theorem natOf_zeros (k : Nat) : natOf (List.replicate k 48) = 0 := by
  induction k with
  | zero => rfl
  | succ k ih => rw [List.replicate_succ', natOf_snoc, ih]; rfl
/-- a numeral: digits, no zero ahead of others -/
def Num (l : List UInt8) : Prop := l ≠ [] ∧ (∀ c ∈ l, Dg c) ∧ (1 < l.length → l.head? ≠ some 48)
theorem ofDigit {c : UInt8} (h : Dg c) : UInt8.ofNat (48 + (c.toNat - 48)) = c := by
  unfold Dg at h
  rw [show 48 + (c.toNat - 48) = c.toNat by omega]
  exact UInt8.ofNat_toNat
theorem toDigit {d : Nat} (h : d < 10) : (UInt8.ofNat (48 + d)).toNat = 48 + d := by rw [UInt8.toNat_ofNat']; omega
theorem dec_snoc {n : Nat} (h : ¬ n < 10) : Go.Lib.decDigits n = Go.Lib.decDigits (n / 10) ++ [UInt8.ofNat (48 + n % 10)] := by rw [Go.Lib.decDigits, dif_neg h]
theorem dec_one {n : Nat} (h : n < 10) : Go.Lib.decDigits n = [UInt8.ofNat (48 + n)] := Go.Lib.decDigits_one h
theorem natOf_dec (n : Nat) : natOf (Go.Lib.decDigits n) = n := by
  induction n using Nat.strongRecOn with
  | _ n ih =>
    by_cases h : n < 10
    · rw [dec_one h]
      show 10 * 0 + ((UInt8.ofNat (48 + n)).toNat - 48) = n
      rw [toDigit h]; omega
    · rw [dec_snoc h, natOf_snoc, ih _ (by omega), toDigit (by omega)]; omega
theorem dec_ne (n : Nat) : Go.Lib.decDigits n ≠ [] := by
  by_cases h : n < 10
  · rw [dec_one h]; simp
  · rw [dec_snoc h]; simp
theorem dec_dg (n : Nat) : ∀ c ∈ Go.Lib.decDigits n, Dg c := by
  induction n using Nat.strongRecOn with
  | _ n ih =>
    intro c hc
    by_cases h : n < 10
    · rw [dec_one h, List.mem_singleton] at hc
      rw [hc]; unfold Dg; rw [toDigit h]; omega
    · rw [dec_snoc h, List.mem_append, List.mem_singleton] at hc
      rcases hc with hc | rfl
      · exact ih _ (by omega) c hc
      · unfold Dg; rw [toDigit (by omega)]; omega
theorem dec_head {n : Nat} (h : n ≠ 0) : (Go.Lib.decDigits n).head? ≠ some 48 := by
  induction n using Nat.strongRecOn with
  | _ n ih =>
    by_cases h1 : n < 10
    · rw [dec_one h1]
      intro e
      injection e with e
      have := toDigit h1
      rw [e] at this
      have e2 : (48 : UInt8).toNat = 48 := rfl
      omega
    · rw [dec_snoc h1, head_app (dec_ne _)]
      exact ih _ (by omega) (by omega)
theorem dec_num (n : Nat) : Num (Go.Lib.decDigits n) := by
  refine ⟨dec_ne n, dec_dg n, fun h => ?_⟩
  refine dec_head ?_
  rintro rfl
  rw [dec_one (by omega)] at h
  simp at h
theorem Num.front {l : List UInt8} {c : UInt8} (h : Num (l ++ [c])) (hl : l ≠ []) : Num l := by
  refine ⟨hl, fun x hx => h.2.1 x (List.mem_append_left _ hx), fun h1 => ?_⟩
  have := h.2.2 (by simp; omega)
  rwa [head_app hl] at this
theorem Num.pos {l : List UInt8} {c : UInt8} (h : Num (l ++ [c])) (hl : l ≠ []) : 0 < natOf l := by
  induction l using snoc_ind generalizing c with
  | h0 => exact absurd rfl hl
  | h1 l x ih =>
    rw [natOf_snoc]
    by_cases h0 : l = []
    · subst h0
      have h1 := h.2.2 (by simp)
      have h2 := h.2.1 x (by simp)
      unfold Dg at h2
      have h3 : x.toNat ≠ 48 := fun e => h1 (by
        have : x = 48 := UInt8.toNat_inj.1 e
        rw [this]; rfl)
      omega
    · have := ih (h.front (by simp)) h0
      omega
theorem dec_natOf {l : List UInt8} (h : Num l) : Go.Lib.decDigits (natOf l) = l := by
  induction l using snoc_ind with
  | h0 => exact absurd rfl h.1
  | h1 l c ih =>
    have hc := h.2.1 c (by simp)
    have hc2 := hc
    unfold Dg at hc2
    by_cases h0 : l = []
    · subst h0
      rw [natOf_snoc, natOf_nil, dec_one (by omega), show 48 + (10 * 0 + (c.toNat - 48)) = 48 + (c.toNat - 48) by omega, ofDigit hc]
      rfl
    · have hp := h.pos h0
      rw [natOf_snoc, dec_snoc (by omega), show (10 * natOf l + (c.toNat - 48)) / 10 = natOf l by omega, show (10 * natOf l + (c.toNat - 48)) % 10 = c.toNat - 48 by omega, ih (h.front h0), ofDigit hc]
theorem dec_len {n k : Nat} : (Go.Lib.decDigits n).length ≤ k + 1 ↔ n < 10 ^ (k + 1) := by
  induction k generalizing n with
  | zero =>
    by_cases h : n < 10
    · rw [dec_one h]; simp; omega
    · rw [dec_snoc h]
      have := List.length_pos_iff.2 (dec_ne (n / 10))
      rw [List.length_append, List.length_singleton, Nat.zero_add, Nat.pow_one]
      omega
  | succ k ih =>
    by_cases h : n < 10
    · rw [dec_one h]
      have : 1 ≤ 10 ^ (k + 1) := Nat.pow_pos (by omega)
      simp [Nat.pow_succ] at this ⊢; omega
    · rw [dec_snoc h, List.length_append, List.length_singleton, Nat.pow_succ]
      have := @ih (n / 10)
      generalize 10 ^ (k + 1) = x at *
      omega
theorem dec_inj {a b : Nat} (h : Go.Lib.decDigits a = Go.Lib.decDigits b) : a = b := by rw [← natOf_dec a, h, natOf_dec]
/-- nine digits -/
def pad9 (r : Nat) : List UInt8 := List.replicate (9 - (Go.Lib.decDigits r).length) 48 ++ Go.Lib.decDigits r
theorem pad9_len {r : Nat} (h : r < 1000000000) : (pad9 r).length = 9 := by
  have : (Go.Lib.decDigits r).length ≤ 8 + 1 := dec_len.2 (by simpa using h)
  unfold pad9
  simp; omega
theorem pad9_natOf (r : Nat) : natOf (pad9 r) = r := by unfold pad9; rw [natOf_append, natOf_zeros, natOf_dec]; omega
theorem pad9_dg (r : Nat) : ∀ c ∈ pad9 r, Dg c := by
  intro c hc
  unfold pad9 at hc
  rcases List.mem_append.1 hc with h | h
  · rw [(List.mem_replicate.1 h).2]; unfold Dg; decide
  · exact dec_dg r c h
theorem dec_chunk {q r : Nat} (hq : 0 < q) (hr : r < 1000000000) : Go.Lib.decDigits (q * 1000000000 + r) = Go.Lib.decDigits q ++ pad9 r := by
  have hn : Num (Go.Lib.decDigits q ++ pad9 r) := by
    refine ⟨by simp [dec_ne], fun c hc => (List.mem_append.1 hc).elim (dec_dg q c) (pad9_dg r c), fun _ => ?_⟩
    rw [head_app (dec_ne _)]
    exact dec_head (by omega)
  have h := dec_natOf hn
  rw [natOf_append, natOf_dec, pad9_natOf, pad9_len hr] at h
  exact h
end Go.Proofs.YtflfbbdapbjaaaaDoor.Pl
