/- Waste and envy, plain; the law WelfareBound. No program. -/
import Derived.Test.YtchafkocobbndaaPDispB
namespace Go.Proofs.Ytchafkocobbndaa.Pl
def envyV (P : Int) (st : List (Int × Int)) (x : Int) : Int := best P st - (P * x - costR st x)
theorem best_bd {st : List (Int × Int)} (h : Good st) {P : Int} (h1 : P ≤ 2000000) : 0 ≤ best P st ∧ best P st ≤ 300000000000 := by
  have hlm := least_most (P := P) (fun q hq => (h.step q hq).1)
  have hs := h.sum
  obtain ⟨c0, c1⟩ := costR_bd h (leastR P st) (by omega) (by omega)
  have he := profit_eq h P
  rw [ocost_eq] at he
  have q1 : P * leastR P st ≤ 2000000 * leastR P st := Int.mul_le_mul_of_nonneg_right h1 (by omega)
  omega
theorem mulP_bd {P x : Int} (h0 : -2000000 ≤ P) (h1 : P ≤ 2000000) (x0 : 0 ≤ x) (x1 : x ≤ 100000) : -200000000000 ≤ P * x ∧ P * x ≤ 200000000000 := by
  have q1 : P * x ≤ 2000000 * x := Int.mul_le_mul_of_nonneg_right h1 x0
  have q2 : -2000000 * x ≤ P * x := Int.mul_le_mul_of_nonneg_right h0 x0
  omega
theorem envy_bd {st : List (Int × Int)} (h : Good st) {P x : Int} (h0 : -2000000 ≤ P) (h1 : P ≤ 2000000) (x0 : 0 ≤ x) (x1 : x ≤ total st) : 0 ≤ envyV P st x ∧ envyV P st x ≤ 600000000000 := by
  have hs := h.sum
  have hb := best_bd h h1
  have hc := costR_bd h x x0 x1
  have hm := mulP_bd h0 h1 x0 (show x ≤ 100000 by omega)
  have hg := (gain_best h P x x0 x1).1
  unfold gain at hg
  unfold envyV
  omega
def envyK (l : List Off) (xs : List Int) (P : Int) : Nat → Int := sumN (fun k => envyV P (steps l k) (xs.getD k 0))
theorem envyK_bd {l : List Off} {xs : List Int} {P : Int} {n : Nat} (hg : ∀ k, k < n → Good (steps l k)) (hx : ∀ k, k < n → 0 ≤ xs.getD k 0 ∧ xs.getD k 0 ≤ total (steps l k)) (h0 : -2000000 ≤ P) (h1 : P ≤ 2000000) (k : Nat) (hk : k ≤ n) : 0 ≤ envyK l xs P k ∧ envyK l xs P k ≤ 600000000000 * (k : Int) := by
  induction k with
  | zero => simp [envyK, sumN]
  | succ k ih =>
    have i := ih (by omega)
    have hb := envy_bd (hg k (by omega)) h0 h1 (hx k (by omega)).1 (hx k (by omega)).2
    have e : envyK l xs P (k + 1) = envyK l xs P k + envyV P (steps l k) (xs.getD k 0) := rfl
    rw [e]
    omega
/-- what all could gain at a price is the best of all less the gain of the powers -/
theorem envyK_eq (l : List Off) (xs : List Int) (P : Int) (n : Nat) : envyK l xs P n = sumN (fun k => best P (steps l k)) n - (P * powK xs n - costK l xs n) := by
  unfold envyK envyV powK costK
  rw [sumN_sub, sumN_sub, sumN_mul]
theorem waste_law {l : List Off} {n : Nat} {d c p : Int} {ps xs : List Int} (hg : ∀ k, k < n → Good (steps l k)) (h : Served l n d ps c p) (hx : ∀ k, k < n → 0 ≤ xs.getD k 0 ∧ xs.getD k 0 ≤ total (steps l k)) (hs : powK xs n = d) :
    c ≤ costK l xs n ∧ (∀ P, costK l xs n - c ≤ envyK l xs P n) ∧ (∀ P, plo_ l ps n ≤ P → P ≤ phi_ l ps n → envyK l xs P n = costK l xs n - c) := by
  have hb : ∀ k, k < n → 0 ≤ ps.getD k 0 ∧ ps.getD k 0 ≤ total (steps l k) := fun k hk => by
    have := h.at_ k hk
    have := least_most (P := p) (fun q hq => ((hg k hk).step q hq).1)
    omega
  have key : ∀ P, P * d - c ≤ sumN (fun k => best P (steps l k)) n := fun P => by
    have := sumN_le (f := fun k => P * ps.getD k 0 - costR (steps l k) (ps.getD k 0)) (g := fun k => best P (steps l k)) (n := n) fun k hk => (gain_best (hg k hk) P _ (hb k hk).1 (hb k hk).2).1
    rw [sumN_sub, sumN_mul, h.sum, ← h.cost] at this
    exact this
  refine ⟨served_least hg h hx hs, fun P => ?_, fun P a b => ?_⟩
  · rw [envyK_eq, hs]
    have := key P
    omega
  · obtain ⟨_, _, hat⟩ := (prices_at hg h P).1 ⟨a, b⟩
    have : sumN (fun k => P * ps.getD k 0 - costR (steps l k) (ps.getD k 0)) n = sumN (fun k => best P (steps l k)) n := sumN_congr fun k hk => (gain_best (hg k hk) P _ (hb k hk).1 (hb k hk).2).2.2 (hat k hk)
    rw [sumN_sub, sumN_mul, h.sum, ← h.cost] at this
    rw [envyK_eq, hs]
    omega
/-- two dispatches of the same demand have the same cost and the same prices -/
theorem served_prices {l : List Off} {n : Nat} {d c1 c2 p1 p2 : Int} {ps qs : List Int} (hg : ∀ k, k < n → Good (steps l k)) (h : Served l n d ps c1 p1) (h' : Served l n d qs c2 p2) : c1 = c2 ∧ plo_ l ps n = plo_ l qs n ∧ phi_ l ps n = phi_ l qs n := by
  have hb : ∀ (xs : List Int) (c p : Int), Served l n d xs c p → ∀ k, k < n → 0 ≤ xs.getD k 0 ∧ xs.getD k 0 ≤ total (steps l k) := fun xs c p h k hk => by
    have := h.at_ k hk
    have := least_most (P := p) (fun q hq => ((hg k hk).step q hq).1)
    omega
  have hc1 := served_least hg h (hb qs c2 p2 h') h'.sum
  rw [← h'.cost] at hc1
  have hc2 := served_least hg h' (hb ps c1 p1 h) h.sum
  rw [← h.cost] at hc2
  have hle := prices_le hg h
  have hle' := prices_le hg h'
  have i1 : ∀ P, (plo_ l ps n ≤ P ∧ P ≤ phi_ l ps n) → (plo_ l qs n ≤ P ∧ P ≤ phi_ l qs n) := fun P hP => by
    obtain ⟨a, b, c⟩ := (prices_at hg h P).1 hP
    exact (prices_at hg h' P).2 ⟨a, b, served_same hg h' h c⟩
  have i2 : ∀ P, (plo_ l qs n ≤ P ∧ P ≤ phi_ l qs n) → (plo_ l ps n ≤ P ∧ P ≤ phi_ l ps n) := fun P hP => by
    obtain ⟨a, b, c⟩ := (prices_at hg h' P).1 hP
    exact (prices_at hg h P).2 ⟨a, b, served_same hg h h' c⟩
  have a1 := i1 (plo_ l ps n) ⟨Int.le_refl _, hle⟩
  have a2 := i1 (phi_ l ps n) ⟨hle, Int.le_refl _⟩
  have a3 := i2 (plo_ l qs n) ⟨Int.le_refl _, hle'⟩
  have a4 := i2 (phi_ l qs n) ⟨hle', Int.le_refl _⟩
  omega
/-- a demand that powers meet can be served -/
theorem dcheck_pow {l : List Off} {xs : List Int} (h : (dCost l xs).2.2 = 0) : dcheck l (dCost l xs).2.1 = 0 := by
  obtain ⟨h1, h2, h3, h4⟩ := dCost_ok h
  rw [h4]
  show dcheck l (powK xs l.length) = 0
  obtain ⟨g1, _⟩ := oall_good h1
  have hb := costK_bd (ps := xs) h1 l.length (Nat.le_refl _) h3
  have ht : powK xs l.length ≤ totals l l.length := sumN_le fun k hk => (h3 k hk).2
  have htb := totals_bd h1 l.length (Nat.le_refl _)
  unfold dcheck
  rw [if_neg (by simpa using h1), if_neg (by omega), if_neg (by omega)]
end Go.Proofs.Ytchafkocobbndaa.Pl
