/- Numbers as lists of 32-bit words, plain: their value, their only form without zeros at the end, sums, products. No program. -/
namespace Go.Proofs.YtoblpcljhblnmaaGreatDoor.Pl
def lv : List Nat → Nat
  | [] => 0
  | x :: l => x + 4294967296 * lv l
def W32 (l : List Nat) : Prop := ∀ x ∈ l, x < 4294967296
theorem lv_nil : lv [] = 0 := rfl
theorem lv_cons (x : Nat) (l : List Nat) : lv (x :: l) = x + 4294967296 * lv l := rfl
theorem lv_append : ∀ (a b : List Nat), lv (a ++ b) = lv a + 4294967296 ^ a.length * lv b
  | [], b => by simp [lv]
  | x :: a, b => by
    rw [List.cons_append, lv_cons, lv_append a b, lv_cons, List.length_cons, Nat.pow_succ, Nat.mul_add, Nat.mul_comm (4294967296 ^ a.length) 4294967296, Nat.mul_assoc]
    omega
theorem lv_snoc (a : List Nat) (x : Nat) : lv (a ++ [x]) = lv a + 4294967296 ^ a.length * x := by rw [lv_append]; simp [lv]
theorem W32.tail {x : Nat} {l : List Nat} (h : W32 (x :: l)) : W32 l := fun y hy => h y (List.mem_cons_of_mem _ hy)
theorem W32.head {x : Nat} {l : List Nat} (h : W32 (x :: l)) : x < 4294967296 := h x (List.mem_cons_self ..)
theorem W32.append {a b : List Nat} (ha : W32 a) (hb : W32 b) : W32 (a ++ b) := fun x hx => (List.mem_append.1 hx).elim (ha x) (hb x)
theorem W32.take {l : List Nat} (h : W32 l) (k : Nat) : W32 (l.take k) := fun x hx => h x (List.mem_of_mem_take hx)
theorem W32.drop {l : List Nat} (h : W32 l) (k : Nat) : W32 (l.drop k) := fun x hx => h x (List.mem_of_mem_drop hx)
theorem W32.nil : W32 [] := fun _ h => by cases h
theorem W32.one {x : Nat} (h : x < 4294967296) : W32 [x] := fun y hy => by rw [List.mem_singleton.1 hy]; exact h
theorem W32.zeros (n : Nat) : W32 (List.replicate n 0) := fun x hx => by rw [(List.mem_replicate.1 hx).2]; omega
theorem W32.set {l : List Nat} (h : W32 l) (k : Nat) {v : Nat} (hv : v < 4294967296) : W32 (l.set k v) := fun x hx => by
  rcases List.mem_or_eq_of_mem_set hx with hx | rfl
  · exact h x hx
  · exact hv
theorem W32.at_ {l : List Nat} (h : W32 l) {k : Nat} (hk : k < l.length) : l[k] < 4294967296 := h _ (List.getElem_mem hk)
theorem pow_pos32 (k : Nat) : 0 < 4294967296 ^ k := Nat.pow_pos (by omega)
theorem lv_lt : ∀ {l : List Nat}, W32 l → lv l < 4294967296 ^ l.length
  | [], _ => by simp [lv]
  | x :: l, h => by
    have h1 := lv_lt h.tail
    have h2 := h.head
    rw [lv_cons, List.length_cons, Nat.pow_succ]
    have h3 : lv l + 1 ≤ 4294967296 ^ l.length := h1
    have h4 := Nat.mul_le_mul_left 4294967296 h3
    rw [Nat.mul_comm (4294967296 ^ l.length)]
    omega
theorem lv_zeros : ∀ n : Nat, lv (List.replicate n 0) = 0
  | 0 => rfl
  | n + 1 => by rw [List.replicate_succ, lv_cons, lv_zeros n]
theorem lv_take_succ {l : List Nat} {k : Nat} (h : k < l.length) : lv (l.take (k + 1)) = lv (l.take k) + 4294967296 ^ k * l[k] := by
  rw [List.take_succ_eq_append_getElem h, lv_snoc, List.length_take, Nat.min_eq_left (Nat.le_of_lt h)]
theorem lv_split {l : List Nat} {k : Nat} (h : k ≤ l.length) : lv l = lv (l.take k) + 4294967296 ^ k * lv (l.drop k) := by
  conv => lhs; rw [← List.take_append_drop k l]
  rw [lv_append, List.length_take, Nat.min_eq_left h]
theorem lv_drop {l : List Nat} {k : Nat} (h : k < l.length) : lv (l.drop k) = l[k] + 4294967296 * lv (l.drop (k + 1)) := by
  rw [List.drop_eq_getElem_cons h, lv_cons]
theorem lv_set : ∀ {l : List Nat} {k : Nat} (h : k < l.length) (v : Nat), lv (l.set k v) + 4294967296 ^ k * l[k] = lv l + 4294967296 ^ k * v
  | x :: l, 0, _, v => by simp [lv]; omega
  | x :: l, k + 1, h, v => by
    have ih := lv_set (l := l) (k := k) (by simpa using h) v
    rw [List.set_cons_succ, lv_cons, lv_cons, List.getElem_cons_succ, Nat.pow_succ, Nat.mul_comm (4294967296 ^ k) 4294967296, Nat.mul_assoc, Nat.mul_assoc]
    omega
def Can (l : List Nat) : Prop := W32 l ∧ ∀ h : l ≠ [], l.getLast h ≠ 0
theorem Can.tail {x : Nat} {l : List Nat} (h : Can (x :: l)) : Can l := ⟨h.1.tail, fun hl => by have := h.2 (by simp); rwa [List.getLast_cons hl] at this⟩
theorem Can.pos : ∀ {l : List Nat}, Can l → l ≠ [] → 0 < lv l
  | [], _, h => absurd rfl h
  | [x], h, _ => by have := h.2 (by simp); simp [lv] at this ⊢; omega
  | x :: y :: l, h, _ => by have := Can.pos h.tail (by simp); rw [lv_cons]; omega
def digs (n : Nat) : List Nat := if h : n = 0 then [] else n % 4294967296 :: digs (n / 4294967296)
termination_by n
decreasing_by omega
theorem digs_zero : digs 0 = [] := by unfold digs; rfl
theorem digs_pos {n : Nat} (h : n ≠ 0) : digs n = n % 4294967296 :: digs (n / 4294967296) := by rw [digs]; rw [dif_neg h]
theorem lv_digs (n : Nat) : lv (digs n) = n := by
  induction n using Nat.strongRecOn with
  | _ n ih =>
    by_cases h : n = 0
    · subst h; rw [digs_zero]; rfl
    · rw [digs_pos h, lv_cons, ih (n / 4294967296) (by omega)]
      omega
theorem digs_nil {n : Nat} : digs n = [] ↔ n = 0 := by
  constructor
  · intro h
    by_cases h0 : n = 0
    · exact h0
    · rw [digs_pos h0] at h; cases h
  · rintro rfl; exact digs_zero
theorem digs_can (n : Nat) : Can (digs n) := by
  induction n using Nat.strongRecOn with
  | _ n ih =>
    by_cases h : n = 0
    · subst h; rw [digs_zero]; exact ⟨W32.nil, fun h => absurd rfl h⟩
    · have i := ih (n / 4294967296) (by omega)
      rw [digs_pos h]
      refine ⟨fun x hx => ?_, fun hl => ?_⟩
      · rcases List.mem_cons.1 hx with rfl | hx
        · omega
        · exact i.1 x hx
      · by_cases hd : digs (n / 4294967296) = []
        · have h0 := digs_nil.1 hd
          simp only [hd, List.getLast_singleton]
          omega
        · rw [List.getLast_cons hd]; exact i.2 hd
theorem digs_lv : ∀ {l : List Nat}, Can l → digs (lv l) = l
  | [], _ => digs_zero
  | x :: l, h => by
    have hp := h.pos (by simp)
    rw [digs_pos (by omega), lv_cons]
    have hx := h.1.head
    have e1 : (x + 4294967296 * lv l) % 4294967296 = x := by omega
    have e2 : (x + 4294967296 * lv l) / 4294967296 = lv l := by omega
    rw [e1, e2, digs_lv h.tail]
def nw (n : Nat) : Nat := (digs n).length
theorem lt_nw (n : Nat) : n < 4294967296 ^ nw n := by
  have := lv_lt (digs_can n).1
  rwa [lv_digs] at this
theorem nw_zero : nw 0 = 0 := by unfold nw; rw [digs_zero]; rfl
theorem nw_pos {n : Nat} (h : n ≠ 0) : nw n = nw (n / 4294967296) + 1 := by unfold nw; rw [digs_pos h]; rfl
theorem nw_le : ∀ {k n : Nat}, n < 4294967296 ^ k → nw n ≤ k
  | 0, n, h => by
    have : n = 0 := by simpa using h
    subst this; rw [nw_zero]; exact Nat.le_refl _
  | k + 1, n, h => by
    by_cases h0 : n = 0
    · subst h0; rw [nw_zero]; omega
    · rw [nw_pos h0]
      have : n / 4294967296 < 4294967296 ^ k := by
        rw [Nat.pow_succ] at h
        exact (Nat.div_lt_iff_lt_mul (by omega)).2 h
      have := nw_le this
      omega
theorem nw_mono {m n : Nat} (h : m ≤ n) : nw m ≤ nw n := nw_le (Nat.lt_of_le_of_lt h (lt_nw n))
theorem nw_ge {n : Nat} (h : n ≠ 0) : 4294967296 ^ (nw n - 1) ≤ n := by
  rcases Nat.lt_or_ge n (4294967296 ^ (nw n - 1)) with hl | hl
  · have h1 := nw_le hl
    have h2 := nw_pos h
    omega
  · exact hl
theorem nw_mul (m n : Nat) : nw (m * n) ≤ nw m + nw n := by
  refine nw_le ?_
  rw [Nat.pow_add]
  have h1 := lt_nw m
  have h2 := lt_nw n
  exact Nat.mul_lt_mul'' h1 h2
theorem nw_add (m n : Nat) : nw (m + n) ≤ max (nw m) (nw n) + 1 := by
  refine nw_le ?_
  have h1 := lt_nw m
  have h2 := lt_nw n
  have h3 := Nat.pow_le_pow_right (n := 4294967296) (by omega) (Nat.le_max_left (nw m) (nw n))
  have h4 := Nat.pow_le_pow_right (n := 4294967296) (by omega) (Nat.le_max_right (nw m) (nw n))
  rw [Nat.pow_succ]
  omega
theorem nw_one : nw 1 = 1 := by rw [nw_pos (by omega), show 1 / 4294967296 = 0 by rfl, nw_zero]
theorem digs_take {l : List Nat} (h : W32 l) {k : Nat} (hk : k ≤ l.length) (hv : lv (l.take k) = lv l) (hc : ∀ h1 : 0 < k, l[k - 1]'(by omega) ≠ 0) : digs (lv l) = l.take k := by
  rw [← hv]
  refine digs_lv ⟨h.take k, fun hn => ?_⟩
  have hk0 : 0 < k := by
    rcases Nat.eq_zero_or_pos k with rfl | h
    · simp at hn
    · exact h
  rw [List.getLast_eq_getElem, List.getElem_take]
  have e : (l.take k).length - 1 = k - 1 := by rw [List.length_take, Nat.min_eq_left hk]
  have := hc hk0
  simpa only [e] using this
theorem lv_take_zero {l : List Nat} {k : Nat} (hk : k < l.length) (h0 : l[k] = 0) (hv : lv (l.take (k + 1)) = lv l) : lv (l.take k) = lv l := by
  rw [lv_take_succ hk, h0] at hv
  omega
theorem can_lt {a b : List Nat} (ha : Can a) (hb : Can b) (h : a.length < b.length) : lv a < lv b := by
  have h1 := lv_lt ha.1
  have hn : b ≠ [] := by intro e; subst e; simp at h
  have h2 := nw_ge (n := lv b) (by have := hb.pos hn; omega)
  have e : nw (lv b) = b.length := by unfold nw; rw [digs_lv hb]
  rw [e] at h2
  have h3 := Nat.pow_le_pow_right (n := 4294967296) (by omega) (show a.length ≤ b.length - 1 by omega)
  omega
theorem lv_top_lt {a b : List Nat} (ha : W32 a) {k : Nat} (hl : a.length = b.length) (hk : k < a.length) (hd : a.drop (k + 1) = b.drop (k + 1)) (h : a[k] < b[k]'(by omega)) : lv a < lv b := by
  rw [lv_split (l := a) (k := k) (by omega), lv_split (l := b) (k := k) (by omega), lv_drop hk, lv_drop (l := b) (k := k) (by omega), hd]
  have h1 := lv_lt (ha.take k)
  rw [List.length_take, Nat.min_eq_left (by omega)] at h1
  have h2 : a[k] + 1 ≤ b[k]'(by omega) := h
  generalize lv (List.drop (k + 1) b) = t
  generalize b[k]'(by omega) = y at *
  generalize a[k] = x at *
  have h3 := Nat.mul_le_mul_left (4294967296 ^ k) (show x + 4294967296 * t + 1 ≤ y + 4294967296 * t by omega)
  rw [Nat.mul_add, Nat.mul_one] at h3
  omega
theorem word_step {pre : List Nat} {i c s V z : Nat} (hl : pre.length = i) (h : lv pre + 4294967296 ^ i * c = V) (hs : s = c + z) :
    lv (pre ++ [s % 4294967296]) + 4294967296 ^ (i + 1) * (s / 4294967296) = V + 4294967296 ^ i * z := by
  rw [lv_snoc, hl, Nat.pow_succ, Nat.mul_assoc]
  have e : s = 4294967296 * (s / 4294967296) + s % 4294967296 := (Nat.div_add_mod s 4294967296).symm
  have e2 : 4294967296 ^ i * s = 4294967296 ^ i * (4294967296 * (s / 4294967296)) + 4294967296 ^ i * (s % 4294967296) := by rw [← Nat.mul_add, ← e]
  have e3 : 4294967296 ^ i * s = 4294967296 ^ i * c + 4294967296 ^ i * z := by rw [hs, Nat.mul_add]
  omega
theorem mul_step {o : List Nat} {j c s z T : Nat} (hj : j < o.length) (h : lv o + 4294967296 ^ j * c = T) (hs : s = c + o[j] + z) :
    lv (o.set j (s % 4294967296)) + 4294967296 ^ (j + 1) * (s / 4294967296) = T + 4294967296 ^ j * z := by
  have hset := lv_set hj (s % 4294967296)
  rw [Nat.pow_succ, Nat.mul_assoc]
  have e : s = 4294967296 * (s / 4294967296) + s % 4294967296 := (Nat.div_add_mod s 4294967296).symm
  have e2 : 4294967296 ^ j * s = 4294967296 ^ j * (4294967296 * (s / 4294967296)) + 4294967296 ^ j * (s % 4294967296) := by rw [← Nat.mul_add, ← e]
  have e3 : 4294967296 ^ j * s = 4294967296 ^ j * c + 4294967296 ^ j * o[j] + 4294967296 ^ j * z := by rw [hs, Nat.mul_add, Nat.mul_add]
  omega
theorem sdiv_step {q a : List Nat} {i r d : Nat} (hi : i < a.length) (hq : q.length = a.length) (h : lv (q.drop (i + 1)) * d + r = lv (a.drop (i + 1))) :
    lv ((q.set i ((r * 4294967296 + a[i]) / d)).drop i) * d + (r * 4294967296 + a[i]) % d = lv (a.drop i) := by
  rw [lv_drop hi, lv_drop (l := q.set i _) (k := i) (by rw [List.length_set]; omega), List.getElem_set_self, List.drop_set_of_lt (by omega)]
  generalize a[i] = x at *
  have e := Nat.div_add_mod (r * 4294967296 + x) d
  generalize (r * 4294967296 + x) / d = t at *
  generalize (r * 4294967296 + x) % d = m at *
  rw [← h, Nat.add_mul, Nat.mul_assoc, Nat.mul_add, Nat.mul_comm t d]
  omega
theorem sdiv_lt {r d x : Nat} (hr : r < d) (hx : x < 4294967296) : (r * 4294967296 + x) / d < 4294967296 := by
  rw [Nat.div_lt_iff_lt_mul (by omega)]
  have := Nat.mul_le_mul_right 4294967296 (show r + 1 ≤ d from hr)
  rw [Nat.mul_comm 4294967296 d]
  omega
theorem unshift_word {u0 u1 p q : Nat} (hp : p * q = 4294967296) (h0 : u0 < 4294967296) : (u1 * 4294967296 + u0) / p % 4294967296 * p + u0 % p = u0 + 4294967296 * (u1 % p) := by
  have hp0 : 0 < p := by
    rcases Nat.eq_zero_or_pos p with rfl | h
    · simp at hp
    · exact h
  have e1 : (u1 * 4294967296 + u0) / p = u1 * q + u0 / p := by
    have : u1 * 4294967296 + u0 = u0 + p * (u1 * q) := by rw [← hp, ← Nat.mul_assoc, Nat.mul_comm u1 p, Nat.mul_assoc]; omega
    rw [this, Nat.add_mul_div_left _ _ hp0]
    omega
  have h2 : u0 / p < q := by rw [Nat.div_lt_iff_lt_mul hp0, Nat.mul_comm, hp]; exact h0
  have h3 := Nat.div_add_mod u1 p
  have e2 : (u1 * q + u0 / p) % 4294967296 = u1 % p * q + u0 / p := by
    have e3 : u1 * q + u0 / p = (u1 % p * q + u0 / p) + 4294967296 * (u1 / p) := by
      conv => lhs; rw [← h3]
      rw [Nat.add_mul, ← hp, Nat.mul_assoc, Nat.mul_assoc, Nat.mul_comm (u1 / p) q]
      omega
    rw [e3, Nat.add_mul_mod_self_left]
    refine Nat.mod_eq_of_lt ?_
    have h4 : u1 % p + 1 ≤ p := Nat.mod_lt _ hp0
    have h5 := Nat.mul_le_mul_right q h4
    rw [Nat.add_mul, hp] at h5
    omega
  rw [e1, e2, Nat.add_mul, Nat.mul_assoc, Nat.mul_comm q p, hp]
  have := Nat.div_add_mod u0 p
  rw [Nat.mul_comm (u0 / p) p, Nat.mul_comm (u1 % p)]
  omega
theorem unshift_step {pre : List Nat} {i u0 u1 p q t0 V : Nat} (hp : p * q = 4294967296) (h0 : u0 < 4294967296) (hl : pre.length = i) (h : lv pre * p + t0 = V + 4294967296 ^ i * (u0 % p)) :
    lv (pre ++ [(u1 * 4294967296 + u0) / p % 4294967296]) * p + t0 = (V + 4294967296 ^ i * u0) + 4294967296 ^ (i + 1) * (u1 % p) := by
  have e := unshift_word (u1 := u1) hp h0
  generalize (u1 * 4294967296 + u0) / p % 4294967296 = x at *
  rw [lv_snoc, hl, Nat.add_mul, Nat.pow_succ, Nat.mul_assoc, Nat.mul_assoc]
  have e2 : 4294967296 ^ i * (x * p) + 4294967296 ^ i * (u0 % p) = 4294967296 ^ i * u0 + 4294967296 ^ i * (4294967296 * (u1 % p)) := by rw [← Nat.mul_add, e, Nat.mul_add]
  omega
end Go.Proofs.YtoblpcljhblnmaaGreatDoor.Pl
