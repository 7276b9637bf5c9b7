/- Decimal numerals, plain: the digits of a number, what they read as, numerals in pieces of nine digits. No program. Texts of rational numbers, plain: which texts are valid, and what they read as. No program. A number in pieces of nine decimal digits, plain: its text. No program. -/
import Derived.Lib.ItoaNum
import Derived.Lib.IndexMore
import Derived.Lib.ItoaMem
namespace Go.Proofs.YtoblpcljhblnmaaGreatDoor.Pl
def Dg (c : UInt8) : Prop := 48 ≤ c.toNat ∧ c.toNat ≤ 57
def natOf (l : List UInt8) : Nat := l.foldl (fun a c => 10 * a + (c.toNat - 48)) 0
theorem head_app {α : Type} {a b : List α} (h : a ≠ []) : (a ++ b).head? = a.head? := by
  cases a with
  | nil => exact absurd rfl h
  | cons x a => rfl
theorem natOf_nil : natOf [] = 0 := rfl
theorem natOf_snoc (l : List UInt8) (c : UInt8) : natOf (l ++ [c]) = 10 * natOf l + (c.toNat - 48) := by unfold natOf; rw [List.foldl_append]; rfl
theorem list_snoc {α : Type} {l : List α} (h : l ≠ []) : ∃ m c, l = m ++ [c] := ⟨l.dropLast, l.getLast h, (List.dropLast_concat_getLast h).symm⟩
theorem snoc_ind {α : Type} {p : List α → Prop} (h0 : p []) (h1 : ∀ l x, p l → p (l ++ [x])) (l : List α) : p l := by
  generalize hn : l.length = n
  induction n generalizing l with
  | zero => rw [List.eq_nil_of_length_eq_zero hn]; exact h0
  | succ n ih =>
    obtain ⟨m, c, rfl⟩ := list_snoc (l := l) (by intro e; rw [e] at hn; cases hn)
    exact h1 m c (ih m (by simpa using hn))
theorem natOf_append (a b : List UInt8) : natOf (a ++ b) = natOf a * 10 ^ b.length + natOf b := by
  induction b using snoc_ind with
  | h0 => simp [natOf]
  | h1 b c ih =>
    rw [← List.append_assoc, natOf_snoc, natOf_snoc, ih, List.length_append, List.length_singleton, Nat.pow_succ, ← Nat.mul_assoc]
    generalize natOf a * 10 ^ b.length = x
    omega
theorem natOf_lt {l : List UInt8} (h : ∀ c ∈ l, Dg c) : natOf l < 10 ^ l.length := by
  induction l using snoc_ind with
  | h0 => simp [natOf]
  | h1 l c ih =>
    have h1 := ih fun x hx => h x (List.mem_append_left _ hx)
    have h2 := h c (by simp)
    rw [natOf_snoc, List.length_append, List.length_singleton, Nat.pow_succ]
    unfold Dg at h2
    generalize 10 ^ l.length = x at *
    omega
theorem natOf_zeros (k : Nat) : natOf (List.replicate k 48) = 0 := by
  induction k with
  | zero => rfl
  | succ k ih => rw [List.replicate_succ', natOf_snoc, ih]; rfl
def Num (l : List UInt8) : Prop := l ≠ [] ∧ (∀ c ∈ l, Dg c) ∧ (1 < l.length → l.head? ≠ some 48)
theorem ofDigit {c : UInt8} (h : Dg c) : UInt8.ofNat (48 + (c.toNat - 48)) = c := by
  unfold Dg at h
  rw [show 48 + (c.toNat - 48) = c.toNat by omega]
  exact UInt8.ofNat_toNat
theorem toDigit {d : Nat} (h : d < 10) : (UInt8.ofNat (48 + d)).toNat = 48 + d := by rw [UInt8.toNat_ofNat']; omega
theorem dec_snoc {n : Nat} (h : ¬ n < 10) : Go.Lib.decDigits n = Go.Lib.decDigits (n / 10) ++ [UInt8.ofNat (48 + n % 10)] := by rw [Go.Lib.decDigits, dif_neg h]
theorem dec_one {n : Nat} (h : n < 10) : Go.Lib.decDigits n = [UInt8.ofNat (48 + n)] := Go.Lib.decDigits_one h
theorem natOf_dec (n : Nat) : natOf (Go.Lib.decDigits n) = n := by
  induction n using Nat.strongRecOn with
  | _ n ih =>
    by_cases h : n < 10
    · rw [dec_one h]
      show 10 * 0 + ((UInt8.ofNat (48 + n)).toNat - 48) = n
      rw [toDigit h]; omega
    · rw [dec_snoc h, natOf_snoc, ih _ (by omega), toDigit (by omega)]; omega
theorem dec_ne (n : Nat) : Go.Lib.decDigits n ≠ [] := by
  by_cases h : n < 10
  · rw [dec_one h]; simp
  · rw [dec_snoc h]; simp
theorem dec_dg (n : Nat) : ∀ c ∈ Go.Lib.decDigits n, Dg c := by
  induction n using Nat.strongRecOn with
  | _ n ih =>
    intro c hc
    by_cases h : n < 10
    · rw [dec_one h, List.mem_singleton] at hc
      rw [hc]; unfold Dg; rw [toDigit h]; omega
    · rw [dec_snoc h, List.mem_append, List.mem_singleton] at hc
      rcases hc with hc | rfl
      · exact ih _ (by omega) c hc
      · unfold Dg; rw [toDigit (by omega)]; omega
theorem dec_head {n : Nat} (h : n ≠ 0) : (Go.Lib.decDigits n).head? ≠ some 48 := by
  induction n using Nat.strongRecOn with
  | _ n ih =>
    by_cases h1 : n < 10
    · rw [dec_one h1]
      intro e
      injection e with e
      have := toDigit h1
      rw [e] at this
      have e2 : (48 : UInt8).toNat = 48 := rfl
      omega
    · rw [dec_snoc h1, head_app (dec_ne _)]
      exact ih _ (by omega) (by omega)
theorem dec_num (n : Nat) : Num (Go.Lib.decDigits n) := by
  refine ⟨dec_ne n, dec_dg n, fun h => ?_⟩
  refine dec_head ?_
  rintro rfl
  rw [dec_one (by omega)] at h
  simp at h
theorem Num.front {l : List UInt8} {c : UInt8} (h : Num (l ++ [c])) (hl : l ≠ []) : Num l := by
  refine ⟨hl, fun x hx => h.2.1 x (List.mem_append_left _ hx), fun h1 => ?_⟩
  have := h.2.2 (by simp; omega)
  rwa [head_app hl] at this
theorem Num.pos {l : List UInt8} {c : UInt8} (h : Num (l ++ [c])) (hl : l ≠ []) : 0 < natOf l := by
  induction l using snoc_ind generalizing c with
  | h0 => exact absurd rfl hl
  | h1 l x ih =>
    rw [natOf_snoc]
    by_cases h0 : l = []
    · subst h0
      have h1 := h.2.2 (by simp)
      have h2 := h.2.1 x (by simp)
      unfold Dg at h2
      have h3 : x.toNat ≠ 48 := fun e => h1 (by
        have : x = 48 := UInt8.toNat_inj.1 e
        rw [this]; rfl)
      omega
    · have := ih (h.front (by simp)) h0
      omega
theorem dec_natOf {l : List UInt8} (h : Num l) : Go.Lib.decDigits (natOf l) = l := by
  induction l using snoc_ind with
  | h0 => exact absurd rfl h.1
  | h1 l c ih =>
    have hc := h.2.1 c (by simp)
    have hc2 := hc
    unfold Dg at hc2
    by_cases h0 : l = []
    · subst h0
      rw [natOf_snoc, natOf_nil, dec_one (by omega), show 48 + (10 * 0 + (c.toNat - 48)) = 48 + (c.toNat - 48) by omega, ofDigit hc]
      rfl
    · have hp := h.pos h0
      rw [natOf_snoc, dec_snoc (by omega), show (10 * natOf l + (c.toNat - 48)) / 10 = natOf l by omega, show (10 * natOf l + (c.toNat - 48)) % 10 = c.toNat - 48 by omega, ih (h.front h0), ofDigit hc]
theorem dec_len {n k : Nat} : (Go.Lib.decDigits n).length ≤ k + 1 ↔ n < 10 ^ (k + 1) := by
  induction k generalizing n with
  | zero =>
    by_cases h : n < 10
    · rw [dec_one h]; simp; omega
    · rw [dec_snoc h]
      have := List.length_pos_iff.2 (dec_ne (n / 10))
      rw [List.length_append, List.length_singleton, Nat.zero_add, Nat.pow_one]
      omega
  | succ k ih =>
    by_cases h : n < 10
    · rw [dec_one h]
      have : 1 ≤ 10 ^ (k + 1) := Nat.pow_pos (by omega)
      simp [Nat.pow_succ] at this ⊢; omega
    · rw [dec_snoc h, List.length_append, List.length_singleton, Nat.pow_succ]
      have := @ih (n / 10)
      generalize 10 ^ (k + 1) = x at *
      omega
theorem dec_inj {a b : Nat} (h : Go.Lib.decDigits a = Go.Lib.decDigits b) : a = b := by rw [← natOf_dec a, h, natOf_dec]
def pad9 (r : Nat) : List UInt8 := List.replicate (9 - (Go.Lib.decDigits r).length) 48 ++ Go.Lib.decDigits r
theorem pad9_len {r : Nat} (h : r < 1000000000) : (pad9 r).length = 9 := by
  have : (Go.Lib.decDigits r).length ≤ 8 + 1 := dec_len.2 (by simpa using h)
  unfold pad9
  simp; omega
theorem pad9_natOf (r : Nat) : natOf (pad9 r) = r := by unfold pad9; rw [natOf_append, natOf_zeros, natOf_dec]; omega
theorem pad9_dg (r : Nat) : ∀ c ∈ pad9 r, Dg c := by
  intro c hc
  unfold pad9 at hc
  rcases List.mem_append.1 hc with h | h
  · rw [(List.mem_replicate.1 h).2]; unfold Dg; decide
  · exact dec_dg r c h
theorem dec_chunk {q r : Nat} (hq : 0 < q) (hr : r < 1000000000) : Go.Lib.decDigits (q * 1000000000 + r) = Go.Lib.decDigits q ++ pad9 r := by
  have hn : Num (Go.Lib.decDigits q ++ pad9 r) := by
    refine ⟨by simp [dec_ne], fun c hc => (List.mem_append.1 hc).elim (dec_dg q c) (pad9_dg r c), fun _ => ?_⟩
    rw [head_app (dec_ne _)]
    exact dec_head (by omega)
  have h := dec_natOf hn
  rw [natOf_append, natOf_dec, pad9_natOf, pad9_len hr] at h
  exact h
end Go.Proofs.YtoblpcljhblnmaaGreatDoor.Pl
namespace Go.Proofs.YtoblpcljhblnmaaGreatDoor.Pl
def ratTxt (q : Rat) : List UInt8 := Go.Lib.itoa q.num ++ (if q.den = 1 then [] else 47 :: Go.Lib.decDigits q.den)
def limK (k : Nat) : Nat := 10 ^ k
theorem one_lt_limK {k : Nat} (h : k ≠ 0) : 1 < limK k := Nat.one_lt_pow h (by decide)
theorem dec_limK {n k : Nat} (h : k ≠ 0) : (Go.Lib.decDigits n).length ≤ k ↔ n < limK k := by
  obtain ⟨j, rfl⟩ : ∃ j, k = j + 1 := ⟨k - 1, by omega⟩
  exact dec_len
def lim : Nat := limK 2000
theorem one_lt_lim : 1 < lim := one_lt_limK (by decide)
theorem dec_lim {n : Nat} : (Go.Lib.decDigits n).length ≤ 2000 ↔ n < lim := dec_limK (by decide)
def Fits (q : Rat) : Prop := q.num.natAbs < lim ∧ q.den < lim
def intOf (l : List UInt8) : Int := if l.head? = some 45 then -(natOf l.tail : Int) else (natOf l : Int)
theorem itoa_nat (n : Nat) : Go.Lib.itoa (n : Int) = Go.Lib.decDigits n := Go.Lib.itoa_nonneg n
theorem dg_ne {c : UInt8} (h : Dg c) : c ≠ 45 ∧ c ≠ 47 := by
  unfold Dg at h
  constructor <;> rintro rfl <;> exact absurd h (by decide)
theorem head_dg {l : List UInt8} (h : ∀ c ∈ l, Dg c) : l.head? ≠ some 45 := by
  cases l with
  | nil => simp
  | cons c l =>
    intro e
    injection e with e
    exact (dg_ne (h c (by simp))).1 e
theorem intOf_num {l : List UInt8} (h : ∀ c ∈ l, Dg c) : intOf l = natOf l := by unfold intOf; rw [if_neg (head_dg h)]
theorem intOf_minus (l : List UInt8) : intOf (45 :: l) = -(natOf l : Int) := by unfold intOf; simp
theorem itoa_cases (z : Int) : (z < 0 ∧ Go.Lib.itoa z = 45 :: Go.Lib.decDigits z.natAbs) ∨ (0 ≤ z ∧ Go.Lib.itoa z = Go.Lib.decDigits z.natAbs) := by
  rcases Int.lt_or_le z 0 with h | h
  · refine .inl ⟨h, ?_⟩
    unfold Go.Lib.itoa
    rw [if_pos h]
  · refine .inr ⟨h, ?_⟩
    unfold Go.Lib.itoa
    rw [if_neg (by omega)]
    congr 1
    omega
theorem intOf_itoa (z : Int) : intOf (Go.Lib.itoa z) = z := by
  rcases itoa_cases z with ⟨h, e⟩ | ⟨h, e⟩
  · rw [e, intOf_minus, natOf_dec]; omega
  · rw [e, intOf_num (dec_dg _), natOf_dec]; omega
theorem itoa_no47 (z : Int) : (47 : UInt8) ∉ Go.Lib.itoa z := by
  intro h
  rcases itoa_cases z with ⟨_, e⟩ | ⟨_, e⟩
  · rw [e] at h
    rcases List.mem_cons.1 h with h | h
    · cases h
    · exact (dg_ne (dec_dg _ _ h)).2 rfl
  · rw [e] at h
    exact (dg_ne (dec_dg _ _ h)).2 rfl
theorem idxR_one (p : List UInt8) (c : UInt8) (q : List UInt8) (h : c ∉ p) : Go.Lib.index (p ++ c :: q) [c] = p.length := by
  induction p with
  | nil => simp [Go.Lib.index]
  | cons b p ih =>
    have hb : c ≠ b := fun e => h (by rw [e]; simp)
    have hp : c ∉ p := fun e => h (by simp [e])
    rw [List.cons_append, Go.Lib.index, ih hp]
    have e1 : ([c].isPrefixOf (b :: (p ++ c :: q))) = false := by simp [List.isPrefixOf, hb]
    have e2 : ((p.length : Int) == -1) = false := by rw [beq_eq_false_iff_ne]; omega
    rw [e1, e2, if_neg (by decide), if_neg (by decide), List.length_cons]
    omega
theorem idxR_miss (p : List UInt8) (c : UInt8) (h : c ∉ p) : Go.Lib.index p [c] = -1 := by
  induction p with
  | nil => rfl
  | cons b p ih =>
    have hb : c ≠ b := fun e => h (by rw [e]; simp)
    have hp : c ∉ p := fun e => h (by simp [e])
    rw [Go.Lib.index, ih hp]
    have e1 : ([c].isPrefixOf (b :: p)) = false := by simp [List.isPrefixOf, hb]
    rw [e1]
    rfl
theorem cutR_one (p : List UInt8) (c : UInt8) (q : List UInt8) (h : c ∉ p) : Go.Lib.cut (p ++ c :: q) [c] = (p, q, true) := by
  unfold Go.Lib.cut
  rw [idxR_one p c q h, if_pos (by omega)]
  simp
theorem cutR_miss (p : List UInt8) (c : UInt8) (h : c ∉ p) : Go.Lib.cut p [c] = (p, [], false) := by
  unfold Go.Lib.cut
  rw [idxR_miss p c h, if_neg (by omega)]
theorem mem_split1 {c : UInt8} : ∀ {l : List UInt8}, c ∈ l → ∃ p q, l = p ++ c :: q ∧ c ∉ p
  | x :: l, h => by
    by_cases hx : x = c
    · subst hx; exact ⟨[], l, rfl, by simp⟩
    · rcases List.mem_cons.1 h with h | h
      · exact absurd h.symm hx
      · obtain ⟨p, q, rfl, hp⟩ := mem_split1 h
        refine ⟨x :: p, q, rfl, ?_⟩
        intro h2
        rcases List.mem_cons.1 h2 with h2 | h2
        · exact hx h2.symm
        · exact hp h2
theorem cutR_cases (l : List UInt8) (c : UInt8) : (c ∉ l ∧ Go.Lib.cut l [c] = (l, [], false)) ∨ ∃ p q, c ∉ p ∧ l = p ++ c :: q ∧ Go.Lib.cut l [c] = (p, q, true) := by
  by_cases h : c ∈ l
  · obtain ⟨p, q, rfl, hp⟩ := mem_split1 h
    exact .inr ⟨p, q, hp, rfl, cutR_one p c q hp⟩
  · exact .inl ⟨h, cutR_miss l c h⟩
theorem cut_ratTxt (q : Rat) : Go.Lib.cut (ratTxt q) [47] = (Go.Lib.itoa q.num, if q.den = 1 then [] else Go.Lib.decDigits q.den, !decide (q.den = 1)) := by
  unfold ratTxt
  by_cases h : q.den = 1
  · rw [if_pos h, if_pos h, List.append_nil, cutR_miss _ _ (itoa_no47 _)]
    simp [h]
  · rw [if_neg h, if_neg h, cutR_one _ _ _ (itoa_no47 _)]
    simp [h]
def ratOf (l : List UInt8) : Rat := mkRat (intOf (Go.Lib.cut l [47]).1) (if (Go.Lib.cut l [47]).2.2 then natOf (Go.Lib.cut l [47]).2.1 else 1)
theorem ratOf_txt (q : Rat) : ratOf (ratTxt q) = q := by
  unfold ratOf
  rw [cut_ratTxt]
  by_cases h : q.den = 1
  · simp only [h, decide_true, Bool.not_true, Bool.false_eq_true, if_false, intOf_itoa]
    conv => lhs; rw [← h]
    exact Rat.mkRat_self q
  · simp only [h, decide_false, Bool.not_false, if_true, if_false, intOf_itoa, natOf_dec]
    exact Rat.mkRat_self q
theorem ratTxt_inj {p q : Rat} (h : ratTxt p = ratTxt q) : p = q := by rw [← ratOf_txt p, h, ratOf_txt]
instance (c : UInt8) : Decidable (Dg c) := by unfold Dg; infer_instance
def numE (l : List UInt8) : Int := if (∃ c, c ∈ l ∧ ¬ Dg c) then 5 else if l = [] ∨ (1 < l.length ∧ l.head? = some 48) then 5 else if 2000 < l.length then 2 else 0
theorem numE_ok {l : List UInt8} : numE l = 0 ↔ Num l ∧ l.length ≤ 2000 := by
  unfold numE Num
  split
  · rename_i h
    refine ⟨fun h => absurd h (by decide), fun h2 => ?_⟩
    obtain ⟨c, hc, hn⟩ := h
    exact absurd (h2.1.2.1 c hc) hn
  · rename_i h
    split
    · rename_i h1
      refine ⟨fun h => absurd h (by decide), fun h2 => ?_⟩
      rcases h1 with h1 | h1
      · exact absurd h1 h2.1.1
      · exact absurd h1.2 (h2.1.2.2 h1.1)
    · rename_i h1
      split
      · rename_i h3
        exact ⟨fun h => absurd h (by decide), fun h2 => by omega⟩
      · rename_i h3
        refine ⟨fun _ => ⟨⟨fun e => h1 (.inl e), fun c hc => ?_, fun a b => h1 (.inr ⟨a, b⟩)⟩, by omega⟩, fun _ => rfl⟩
        exact Decidable.byContradiction fun hn => h ⟨c, hc, hn⟩
theorem numE_dec (n : Nat) : numE (Go.Lib.decDigits n) = 0 ↔ n < lim := by
  rw [numE_ok]
  exact ⟨fun x => dec_lim.1 x.2, fun x => ⟨dec_num n, dec_lim.2 x⟩⟩
def trimM (l : List UInt8) : List UInt8 := if l.head? = some 45 then l.tail else l
def ratE (l : List UInt8) : Int :=
  if numE (Go.Lib.cut (trimM l) [47]).1 = 5 ∨ ((Go.Lib.cut (trimM l) [47]).2.2 = true ∧ numE (Go.Lib.cut (trimM l) [47]).2.1 = 5) ∨ ((Go.Lib.cut (trimM l) [47]).1 = [48] ∧ (trimM l).length < l.length) then 5
  else if numE (Go.Lib.cut (trimM l) [47]).1 ≠ 0 ∨ ((Go.Lib.cut (trimM l) [47]).2.2 = true ∧ numE (Go.Lib.cut (trimM l) [47]).2.1 ≠ 0) then 2
  else if (Go.Lib.cut (trimM l) [47]).2.2 = true ∧ ((Go.Lib.cut (trimM l) [47]).2.1 = [48] ∨ (Go.Lib.cut (trimM l) [47]).2.1 = [49] ∨ Nat.gcd (natOf (Go.Lib.cut (trimM l) [47]).1) (natOf (Go.Lib.cut (trimM l) [47]).2.1) ≠ 1) then 3
  else 0
theorem trimM_cases (l : List UInt8) : (∃ m, l = 45 :: m ∧ trimM l = m) ∨ (l.head? ≠ some 45 ∧ trimM l = l) := by
  unfold trimM
  cases l with
  | nil => exact .inr ⟨by simp, rfl⟩
  | cons c l =>
    by_cases h : c = 45
    · subst h; exact .inl ⟨l, rfl, by simp⟩
    · refine .inr ⟨by simpa using h, ?_⟩
      rw [if_neg (by simpa using h)]
theorem dec_zero : Go.Lib.decDigits 0 = [48] := dec_one (by omega)
theorem dec_1 : Go.Lib.decDigits 1 = [49] := dec_one (by omega)
theorem natOf_zero_iff {l : List UInt8} (h : Num l) : natOf l = 0 ↔ l = [48] := by
  constructor
  · intro e
    rw [← dec_natOf h, e, dec_zero]
  · rintro rfl; rfl
theorem natOf_one_iff {l : List UInt8} (h : Num l) : natOf l = 1 ↔ l = [49] := by
  constructor
  · intro e
    rw [← dec_natOf h, e, dec_1]
  · rintro rfl; rfl
theorem natOf_fits {l : List UInt8} (h : numE l = 0) : natOf l < lim := by
  have h1 := numE_ok.1 h
  have h2 := (numE_dec (natOf l)).1 (by rw [dec_natOf h1.1]; exact h)
  exact h2
theorem mk_ratTxt {n d : List UInt8} (hn : Num n) (hd : Num d) (m : Bool) (hm : m = true → natOf n ≠ 0) (h1 : natOf d ≠ 0) (h2 : natOf d ≠ 1) (hg : Nat.gcd (natOf n) (natOf d) = 1) :
    ∃ q : Rat, q.num.natAbs = natOf n ∧ q.den = natOf d ∧ ratTxt q = (if m then [45] else []) ++ (n ++ 47 :: d) := by
  obtain ⟨z, hz⟩ : ∃ z : Int, z = if m then -(natOf n : Int) else (natOf n : Int) := ⟨_, rfl⟩
  have hza : z.natAbs = natOf n := by rw [hz]; split <;> omega
  refine ⟨⟨z, natOf d, h1, by unfold Nat.Coprime; rw [hza]; exact hg⟩, hza, rfl, ?_⟩
  unfold ratTxt
  simp only
  rw [if_neg h2, dec_natOf hd]
  cases m with
  | true =>
    have := hm rfl
    rcases itoa_cases z with ⟨h, e⟩ | ⟨h, e⟩
    · rw [e, hza, dec_natOf hn]; simp
    · simp at hz; omega
  | false =>
    rcases itoa_cases z with ⟨h, e⟩ | ⟨h, e⟩
    · simp at hz; omega
    · rw [e, hza, dec_natOf hn]; simp
theorem mk_intTxt {n : List UInt8} (hn : Num n) (m : Bool) (hm : m = true → natOf n ≠ 0) :
    ∃ q : Rat, q.num.natAbs = natOf n ∧ q.den = 1 ∧ ratTxt q = (if m then [45] else []) ++ n := by
  obtain ⟨z, hz⟩ : ∃ z : Int, z = if m then -(natOf n : Int) else (natOf n : Int) := ⟨_, rfl⟩
  have hza : z.natAbs = natOf n := by rw [hz]; split <;> omega
  refine ⟨(z : Rat), by rw [Rat.num_intCast]; exact hza, Rat.den_intCast z, ?_⟩
  unfold ratTxt
  rw [Rat.num_intCast, Rat.den_intCast, if_pos rfl, List.append_nil]
  cases m with
  | true =>
    have := hm rfl
    rcases itoa_cases z with ⟨h, e⟩ | ⟨h, e⟩
    · rw [e, hza, dec_natOf hn]; simp
    · simp at hz; omega
  | false =>
    rcases itoa_cases z with ⟨h, e⟩ | ⟨h, e⟩
    · simp at hz; omega
    · rw [e, hza, dec_natOf hn]; simp
theorem ratE_num {l : List UInt8} (h : ratE l = 0) : ∃ q : Rat, l = ratTxt q ∧ Fits q := by
  unfold ratE at h
  split at h
  · cases h
  rename_i h1
  split at h
  · cases h
  rename_i h2
  split at h
  · cases h
  rename_i h3
  clear h
  obtain ⟨m, hl, hm⟩ : ∃ m : Bool, l = (if m then [45] else []) ++ trimM l ∧ (m = true → (trimM l).length < l.length) := by
    rcases trimM_cases l with ⟨k, rfl, e⟩ | ⟨_, e⟩
    · exact ⟨true, by rw [e]; rfl, fun _ => by rw [e]; simp⟩
    · exact ⟨false, by rw [e]; rfl, fun h => by cases h⟩
  rcases cutR_cases (trimM l) 47 with ⟨_, hc⟩ | ⟨n, d, _, ht, hc⟩
  · rw [hc] at h1 h2
    simp only at h1 h2
    have hn : numE (trimM l) = 0 := Decidable.byContradiction fun h => h2 (.inl h)
    obtain ⟨q, q1, q2, q3⟩ := mk_intTxt (numE_ok.1 hn).1 m (fun e h0 => h1 (.inr (.inr ⟨(natOf_zero_iff (numE_ok.1 hn).1).1 h0, hm e⟩)))
    refine ⟨q, by rw [q3]; exact hl, ?_, ?_⟩
    · rw [q1]; exact natOf_fits hn
    · rw [q2]; exact one_lt_lim
  · rw [hc] at h1 h2 h3
    simp only [true_and] at h1 h2 h3
    have hn : numE n = 0 := Decidable.byContradiction fun h => h2 (.inl h)
    have hd : numE d = 0 := Decidable.byContradiction fun h => h2 (.inr h)
    have hn1 := (numE_ok.1 hn).1
    have hd1 := (numE_ok.1 hd).1
    obtain ⟨q, q1, q2, q3⟩ := mk_ratTxt hn1 hd1 m (fun e h0 => h1 (.inr (.inr ⟨(natOf_zero_iff hn1).1 h0, hm e⟩))) (fun e => h3 (.inl ((natOf_zero_iff hd1).1 e))) (fun e => h3 (.inr (.inl ((natOf_one_iff hd1).1 e)))) (Decidable.byContradiction fun h => h3 (.inr (.inr h)))
    refine ⟨q, by rw [q3, ← ht]; exact hl, ?_, ?_⟩
    · rw [q1]; exact natOf_fits hn
    · rw [q2]; exact natOf_fits hd
theorem trimM_itoa (z : Int) (r : List UInt8) : trimM (Go.Lib.itoa z ++ r) = Go.Lib.decDigits z.natAbs ++ r := by
  rcases itoa_cases z with ⟨_, e⟩ | ⟨_, e⟩
  · rw [e]; rfl
  · rw [e]
    unfold trimM
    rw [if_neg]
    rw [head_app (dec_ne _)]
    exact head_dg (dec_dg _)
theorem no47_dec (n : Nat) : (47 : UInt8) ∉ Go.Lib.decDigits n := fun h => (dg_ne (dec_dg _ _ h)).2 rfl
theorem dec_eq0 {n : Nat} : Go.Lib.decDigits n = [48] ↔ n = 0 := by rw [← dec_zero]; exact ⟨dec_inj, congrArg _⟩
theorem dec_eq1 {n : Nat} : Go.Lib.decDigits n = [49] ↔ n = 1 := by rw [← dec_1]; exact ⟨dec_inj, congrArg _⟩
theorem ratE_txt {q : Rat} (h : Fits q) : ratE (ratTxt q) = 0 := by
  have hn := (numE_dec q.num.natAbs).2 h.1
  have hd := (numE_dec q.den).2 h.2
  have hlen : Go.Lib.decDigits q.num.natAbs = [48] → ¬ (trimM (ratTxt q)).length < (ratTxt q).length := by
    intro e
    have hz := dec_eq0.1 e
    have hz2 : q.num = 0 := by omega
    have := trimM_itoa q.num (if q.den = 1 then [] else 47 :: Go.Lib.decDigits q.den)
    unfold ratTxt
    rw [this, hz2]
    show ¬ (Go.Lib.decDigits 0 ++ _).length < (Go.Lib.itoa ((0 : Nat) : Int) ++ _).length
    rw [itoa_nat]
    omega
  unfold ratE
  have ht : trimM (ratTxt q) = Go.Lib.decDigits q.num.natAbs ++ (if q.den = 1 then [] else 47 :: Go.Lib.decDigits q.den) := trimM_itoa _ _
  rw [ht] at hlen ⊢
  by_cases h1 : q.den = 1
  · rw [if_pos h1, List.append_nil] at hlen ⊢
    rw [cutR_miss _ _ (no47_dec _)]
    simp only
    rw [if_neg, if_neg, if_neg]
    · rintro ⟨h, _⟩; cases h
    · rintro (h | ⟨h, _⟩)
      · exact h hn
      · cases h
    · rintro (h | ⟨h, _⟩ | h)
      · rw [hn] at h; cases h
      · cases h
      · exact hlen h.1 h.2
  · rw [if_neg h1] at hlen ⊢
    rw [cutR_one _ _ _ (no47_dec _)]
    simp only [true_and]
    rw [if_neg, if_neg, if_neg]
    · rintro (h | h | h)
      · exact q.den_nz (dec_eq0.1 h)
      · exact h1 (dec_eq1.1 h)
      · rw [natOf_dec, natOf_dec] at h
        exact h q.reduced
    · rintro (h | h)
      · exact h hn
      · exact h hd
    · rintro (h | h | h)
      · rw [hn] at h; cases h
      · rw [hd] at h; cases h
      · exact hlen h.1 h.2
theorem ratE_ok {l : List UInt8} : ratE l = 0 ↔ ∃ q : Rat, l = ratTxt q ∧ Fits q := ⟨ratE_num, fun ⟨_, e, h⟩ => by rw [e]; exact ratE_txt h⟩
end Go.Proofs.YtoblpcljhblnmaaGreatDoor.Pl
namespace Go.Proofs.YtoblpcljhblnmaaGreatDoor.Pl
def cv : List Nat → Nat
  | [] => 0
  | x :: l => x + 1000000000 * cv l
theorem cv_nil : cv [] = 0 := rfl
theorem cv_snoc (l : List Nat) (x : Nat) : cv (l ++ [x]) = cv l + 1000000000 ^ l.length * x := by
  induction l with
  | nil => simp [cv]
  | cons y l ih =>
    rw [List.cons_append, cv, ih, cv, List.length_cons, Nat.pow_succ, Nat.mul_add, Nat.mul_comm (1000000000 ^ l.length) 1000000000, Nat.mul_assoc, Nat.add_assoc]
theorem cv_drop {l : List Nat} {k : Nat} (h : k < l.length) : cv (l.drop k) = l[k] + 1000000000 * cv (l.drop (k + 1)) := by
  rw [List.drop_eq_getElem_cons h, cv]
theorem cv_pos {l : List Nat} (h : ∃ x ∈ l, x ≠ 0) : 0 < cv l := by
  induction l with
  | nil => obtain ⟨x, hx, _⟩ := h; cases hx
  | cons y l ih =>
    obtain ⟨x, hx, h0⟩ := h
    rw [cv]
    rcases List.mem_cons.1 hx with rfl | hx
    · omega
    · have := ih ⟨x, hx, h0⟩; omega
theorem cv_drop_le (l : List Nat) : ∀ k, cv (l.drop k) ≤ cv l := by
  induction l with
  | nil => intro k; simp
  | cons x l ih =>
    intro k
    cases k with
    | zero => exact Nat.le_refl _
    | succ k =>
      rw [List.drop_succ_cons]
      have := ih k
      rw [cv]; omega
def Pcs (l : List Nat) : Prop := (∀ x ∈ l, x < 1000000000) ∧ ∀ h : l ≠ [], l.getLast h ≠ 0
theorem Pcs.drop_pos {l : List Nat} (h : Pcs l) {k : Nat} (hk : k < l.length) : 0 < cv (l.drop k) := by
  have hne : l ≠ [] := by rintro rfl; simp at hk
  refine cv_pos ⟨l.getLast hne, ?_, h.2 hne⟩
  have : (l.drop k).getLast (by simp; omega) = l.getLast hne := List.getLast_drop _
  rw [← this]
  exact List.getLast_mem _
def ptxt (l : List Nat) (k : Nat) : List UInt8 := if k < l.length then Go.Lib.decDigits (cv (l.drop k)) else []
theorem ptxt_end (l : List Nat) : ptxt l l.length = [] := by unfold ptxt; rw [if_neg (by omega)]
theorem ptxt_last {l : List Nat} {k : Nat} (hk : k + 1 = l.length) : ptxt l k = ptxt l (k + 1) ++ Go.Lib.decDigits (l[k]'(by omega)) := by
  have h1 := cv_drop (l := l) (k := k) (by omega)
  have h0 : l.drop (k + 1) = [] := List.drop_of_length_le (by omega)
  rw [h0, cv_nil, Nat.mul_zero, Nat.add_zero] at h1
  have h2 : ptxt l (k + 1) = [] := by unfold ptxt; rw [if_neg (by omega)]
  rw [h2]
  unfold ptxt
  rw [if_pos (by omega), h1]
  rfl
theorem ptxt_step {l : List Nat} (hp : Pcs l) {k : Nat} (hk : k + 1 < l.length) : ptxt l k = ptxt l (k + 1) ++ (List.replicate (9 - (Go.Lib.decDigits (l[k]'(by omega))).length) 48 ++ Go.Lib.decDigits (l[k]'(by omega))) := by
  have h1 := cv_drop (l := l) (k := k) (by omega)
  have h2 := hp.drop_pos hk
  have h3 := hp.1 _ (List.getElem_mem (show k < l.length by omega))
  unfold ptxt
  rw [if_pos (by omega), if_pos hk, h1, Nat.add_comm, Nat.mul_comm]
  exact dec_chunk h2 h3
theorem Pcs.snoc {l : List Nat} {r : Nat} (h : ∀ x ∈ l, x < 1000000000) (hr : r < 1000000000) : ∀ x ∈ l ++ [r], x < 1000000000 := fun x hx => by
  rcases List.mem_append.1 hx with hx | hx
  · exact h x hx
  · rw [List.mem_singleton.1 hx]; exact hr
theorem dec9 {r : Nat} (h : r < 1000000000) : (Go.Lib.decDigits r).length ≤ 9 := dec_limK (k := 9) (by decide) |>.2 h
theorem limK_mul (a b : Nat) : limK (a * b) = (10 ^ a) ^ b := by unfold limK; exact Nat.pow_mul _ _ _
theorem lim_words : lim ≤ 4294967296 ^ 210 := by
  have h : lim = limK (200 * 10) := rfl
  have h2 : 10 ^ 200 ≤ 4294967296 ^ 21 := by decide +kernel
  rw [h, limK_mul, show 210 = 21 * 10 from rfl, Nat.pow_mul]
  exact Nat.pow_le_pow_left h2 10
theorem dec_lenlim {n k : Nat} (h : n < 4294967296 ^ k) : (Go.Lib.decDigits n).length ≤ 10 * k + 1 := by
  refine dec_len.2 (Nat.lt_of_lt_of_le h ?_)
  have h1 : 4294967296 ^ k ≤ (10 ^ 10) ^ k := Nat.pow_le_pow_left (by decide) k
  rw [← Nat.pow_mul] at h1
  exact Nat.le_trans h1 (Nat.pow_le_pow_right (by omega) (by omega))
end Go.Proofs.YtoblpcljhblnmaaGreatDoor.Pl
