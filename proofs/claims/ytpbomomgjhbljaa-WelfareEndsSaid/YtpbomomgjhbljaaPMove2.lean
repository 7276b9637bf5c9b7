/- The transfer that saves most, plain; the law WelfareEnds. No program. -/
import Derived.Test.YtpbomomgjhbljaaPWelf
namespace Go.Proofs.Ytpbomomgjhbljaa.Pl
theorem sumN_set (F : Nat → Int → Int) (xs : List Int) (i : Nat) (v : Int) (n : Nat) (hi : i < n) (hl : i < xs.length) : sumN (fun k => F k ((xs.set i v).getD k 0)) n = sumN (fun k => F k (xs.getD k 0)) n - F i (xs.getD i 0) + F i v := by
  induction n with
  | zero => omega
  | succ n ih =>
    rw [sumN, sumN]
    by_cases e : i = n
    · subst e
      rw [getD_set, if_pos ⟨rfl, hl⟩, sumN_congr (g := fun k => F k (xs.getD k 0)) (fun k hk => by rw [getD_set, if_neg (by omega)])]
      omega
    · rw [ih (by omega), getD_set, if_neg (fun h => e h.1)]
      omega
/-- the last price is the price of the unit before -/
theorem marg_last : ∀ {st : List (Int × Int)} (x s last : Int), (∀ p ∈ st, 1 ≤ p.1) → s < x → x ≤ s + total st → (marg x s last st).1 = priceAt st (x - 1 - s) := by
  intro st
  induction st with
  | nil => intro x s last _ h0 h1; simp [total] at h1; omega
  | cons p st ih =>
    intro x s last hb h0 h1
    have hp := hb p (by simp)
    rw [total_cons] at h1
    unfold marg priceAt
    by_cases h : x < s + p.1
    · rw [if_pos h, if_pos (show x - 1 - s < p.1 by omega)]
      simp only
      rw [if_pos h0]
    · rw [if_neg h, if_pos h0]
      by_cases h2 : x - 1 - s < p.1
      · rw [if_pos h2]
        have hx : x = s + p.1 := by omega
        cases st with
        | nil => rfl
        | cons q st =>
          have hq := hb q (by simp)
          unfold marg
          rw [if_pos (by omega), if_neg (by omega)]
      · rw [if_neg h2, ih x (s + p.1) p.2 (fun q hq => hb q (by simp [hq])) (by omega) (by omega)]
        congr 1
        omega
theorem marg_zero {st : List (Int × Int)} (h : ∀ p ∈ st, 1 ≤ p.1) (last : Int) : (marg 0 0 last st).1 = last := by
  cases st with
  | nil => rfl
  | cons p st =>
    have := h p (by simp)
    unfold marg
    rw [if_pos (by omega)]
    simp
theorem marg_full {st : List (Int × Int)} : ∀ (s last : Int), (∀ p ∈ st, 1 ≤ p.1) → (marg (s + total st) s last st).2 = 2000000 := by
  induction st with
  | nil => intro s last _; rfl
  | cons p st ih =>
    intro s last h
    have hn : 0 ≤ total st := by
      have := least_most (P := 0) (st := st) (fun q hq => h q (by simp [hq]))
      omega
    unfold marg
    rw [total_cons, if_neg (by omega)]
    have := ih (s + p.1) (if s < s + (p.1 + total st) then p.2 else last) (fun q hq => h q (by simp [hq]))
    rw [show s + p.1 + total st = s + (p.1 + total st) from by omega] at this
    exact this
def lastP (l : List Off) (xs : List Int) (i : Nat) : Int := (marg (xs.getD i 0) 0 (-2000000) (steps l i)).1
def nextP (l : List Off) (xs : List Int) (i : Nat) : Int := (marg (xs.getD i 0) 0 (-2000000) (steps l i)).2
/-- may a unit move from i to k? -/
def mayMove (l : List Off) (xs : List Int) (i k : Nat) : Prop := i ≠ k ∧ 0 < xs.getD i 0 ∧ xs.getD k 0 < total (steps l k)
/-- what Move gives -/
structure Moved (l : List Off) (n : Nat) (xs : List Int) (i k : Nat) (m : Int) : Prop where
  may : m ≠ 0 → i < n ∧ k < n ∧ mayMove l xs i k ∧ m = lastP l xs i - nextP l xs k
  pos : 0 ≤ m
  most : ∀ a b, a < n → b < n → mayMove l xs a b → lastP l xs a - nextP l xs b ≤ m
theorem gain_last {st : List (Int × Int)} (h : Good st) (x : Int) (x0 : 0 < x) (x1 : x ≤ total st) : costR st x - costR st (x - 1) = (marg x 0 (-2000000) st).1 := by
  have := cost_step h (x - 1) (by omega) (by omega)
  rw [show x - 1 + 1 = x from by omega] at this
  rw [this, marg_last x 0 _ (fun p hp => (h.step p hp).1) x0 (by omega), Int.sub_zero]
theorem gain_next {st : List (Int × Int)} (h : Good st) (x : Int) (x0 : 0 ≤ x) (x1 : x < total st) : costR st (x + 1) - costR st x = (marg x 0 (-2000000) st).2 := by
  rw [cost_step h x x0 x1, marg_next, Int.sub_zero]
/-- the price bounds of one unit -/
theorem marg_self {st : List (Int × Int)} (h : Good st) {x : Int} (x0 : 0 ≤ x) (x1 : x ≤ total st) : -2000000 ≤ (marg x 0 (-2000000) st).1 ∧ (marg x 0 (-2000000) st).1 ≤ (marg x 0 (-2000000) st).2 ∧ (marg x 0 (-2000000) st).2 ≤ 2000000 ∧ (marg x 0 (-2000000) st).1 ≤ 1000000 ∧ -1000000 ≤ (marg x 0 (-2000000) st).2 := by
  have hm := marg_mem x st 0 (-2000000)
  have b1 : -2000000 ≤ (marg x 0 (-2000000) st).1 ∧ (marg x 0 (-2000000) st).1 ≤ 1000000 := by
    rcases hm with hm | ⟨p, hp, hm⟩
    · omega
    · have := h.step p hp; omega
  have b2 : -1000000 ≤ (marg x 0 (-2000000) st).2 ∧ (marg x 0 (-2000000) st).2 ≤ 2000000 := by
    rw [marg_next, Int.sub_zero]
    refine ⟨price_ge (fun p hp => (h.step p hp).2.2.1) (by omega) x, ?_⟩
    clear hm b1 x0 x1
    induction st generalizing x with
    | nil => simp [priceAt]
    | cons p st ih =>
      unfold priceAt
      split
      · have := (h.step p (by simp)).2.2.2; omega
      · exact ih h.tail
  refine ⟨b1.1, ?_, b2.2, b1.2, b2.1⟩
  by_cases e : 0 < x
  · by_cases e2 : x < total st
    · have a1 := gain_last h x e x1
      have a2 := gain_next h x x0 e2
      have a3 := cost_step h (x - 1) (by omega) (by omega)
      rw [show x - 1 + 1 = x from by omega] at a3
      have a4 := price_mono h (x - 1) (by omega)
      rw [show x - 1 + 1 = x from by omega] at a4
      have a5 := cost_step h x x0 e2
      omega
    · have : x = total st := by omega
      have hf := marg_full (st := st) 0 (-2000000) (fun p hp => (h.step p hp).1)
      rw [Int.zero_add, ← this] at hf
      rw [hf]; omega
  · have : x = 0 := by omega
    subst this
    rw [marg_zero (fun p hp => (h.step p hp).1)]
    omega
/-- a move of one unit lowers the cost by what it saves -/
def move1 (xs : List Int) (i k : Nat) : List Int := (xs.set i (xs.getD i 0 - 1)).set k (xs.getD k 0 + 1)
theorem move1_law {l : List Off} {n : Nat} {xs : List Int} {i k : Nat} {m : Int} (hg : ∀ k, k < n → Good (steps l k)) (hl : xs.length = n) (hx : ∀ k, k < n → 0 ≤ xs.getD k 0 ∧ xs.getD k 0 ≤ total (steps l k)) (h : Moved l n xs i k m) (hm : m ≠ 0) :
    powK (move1 xs i k) n = powK xs n ∧ costK l (move1 xs i k) n = costK l xs n - m ∧ (move1 xs i k).length = n ∧ (∀ k', k' < n → 0 ≤ (move1 xs i k).getD k' 0 ∧ (move1 xs i k).getD k' 0 ≤ total (steps l k')) := by
  obtain ⟨hi, hk, ⟨hne, hpi, hpk⟩, hmm⟩ := h.may hm
  have gk : (xs.set i (xs.getD i 0 - 1)).getD k 0 = xs.getD k 0 := by rw [getD_set, if_neg (fun e => hne e.1)]
  have li : (xs.set i (xs.getD i 0 - 1)).length = n := by rw [List.length_set]; exact hl
  have e1 := sumN_set (fun k x => costR (steps l k) x) xs i (xs.getD i 0 - 1) n hi (by omega)
  have e2 := sumN_set (fun k x => costR (steps l k) x) (xs.set i (xs.getD i 0 - 1)) k (xs.getD k 0 + 1) n hk (by omega)
  have e3 := sumN_set (fun _ x => x) xs i (xs.getD i 0 - 1) n hi (by omega)
  have e4 := sumN_set (fun _ x => x) (xs.set i (xs.getD i 0 - 1)) k (xs.getD k 0 + 1) n hk (by omega)
  rw [gk] at e2 e4
  have c1 := gain_last (hg i hi) _ hpi (hx i hi).2
  have c2 := gain_next (hg k hk) _ (hx k hk).1 hpk
  refine ⟨?_, ?_, by unfold move1; rw [List.length_set]; exact li, fun j hj => ?_⟩
  · unfold powK move1
    rw [e4, e3]; omega
  · unfold costK move1
    rw [e2, e1]
    unfold lastP nextP at hmm
    omega
  · unfold move1
    rw [getD_set, getD_set]
    have := hx j hj
    split
    · rename_i e; obtain ⟨rfl, _⟩ := e; omega
    · split
      · rename_i e; obtain ⟨rfl, _⟩ := e; omega
      · exact this
/-- where no move saves, nothing is wasted -/
theorem no_waste {l : List Off} {n : Nat} {d c p : Int} {ps xs : List Int} {i k : Nat} (hg : ∀ k, k < n → Good (steps l k)) (h : Served l n d ps c p) (hx : ∀ k, k < n → 0 ≤ xs.getD k 0 ∧ xs.getD k 0 ≤ total (steps l k)) (hs : powK xs n = d) (hm : Moved l n xs i k 0) : costK l xs n = c := by
  obtain ⟨w1, w2, _⟩ := waste_law hg h hx hs
  -- the prices of the powers meet
  have hle : plo_ l xs n ≤ phi_ l xs n := by
    have hpair : ∀ a b, a < n → b < n → lastP l xs a ≤ nextP l xs b := fun a b ha hb => by
      have sa := marg_self (hg a ha) (hx a ha).1 (hx a ha).2
      have sb := marg_self (hg b hb) (hx b hb).1 (hx b hb).2
      by_cases e : a = b
      · subst e; exact sa.2.1
      · by_cases e1 : 0 < xs.getD a 0
        · by_cases e2 : xs.getD b 0 < total (steps l b)
          · have := hm.most a b ha hb ⟨e, e1, e2⟩; omega
          · have : xs.getD b 0 = total (steps l b) := by have := hx b hb; omega
            have hf := marg_full (st := steps l b) 0 (-2000000) (fun p hp => ((hg b hb).step p hp).1)
            rw [Int.zero_add, ← this] at hf
            unfold nextP lastP
            rw [hf]; omega
        · have : xs.getD a 0 = 0 := by have := hx a ha; omega
          have hz := marg_zero (st := steps l a) (fun p hp => ((hg a ha).step p hp).1) (-2000000)
          unfold nextP lastP
          rw [this, hz]; omega
    have hlo : ∀ m, m ≤ n → plo_ l xs m = -2000000 ∨ ∃ a, a < m ∧ plo_ l xs m = lastP l xs a := fun m => by
      induction m with
      | zero => intro _; exact .inl rfl
      | succ m ih =>
        intro hmn
        have e : plo_ l xs (m + 1) = max (plo_ l xs m) (lastP l xs m) := rfl
        by_cases e2 : plo_ l xs m ≤ lastP l xs m
        · exact .inr ⟨m, by omega, by omega⟩
        · rcases ih (by omega) with i1 | ⟨a, ha, i1⟩
          · exact .inl (by omega)
          · exact .inr ⟨a, by omega, by omega⟩
    have hhi : ∀ m, m ≤ n → phi_ l xs m = 2000000 ∨ ∃ a, a < m ∧ phi_ l xs m = nextP l xs a := fun m => by
      induction m with
      | zero => intro _; exact .inl rfl
      | succ m ih =>
        intro hmn
        have e : phi_ l xs (m + 1) = min (phi_ l xs m) (nextP l xs m) := rfl
        by_cases e2 : nextP l xs m ≤ phi_ l xs m
        · exact .inr ⟨m, by omega, by omega⟩
        · rcases ih (by omega) with i1 | ⟨a, ha, i1⟩
          · exact .inl (by omega)
          · exact .inr ⟨a, by omega, by omega⟩
    rcases hlo n (Nat.le_refl _) with a1 | ⟨a, ha, a1⟩
    · rcases hhi n (Nat.le_refl _) with b1 | ⟨b, hb, b1⟩
      · omega
      · have := marg_self (hg b hb) (hx b hb).1 (hx b hb).2
        unfold nextP at b1; omega
    · rcases hhi n (Nat.le_refl _) with b1 | ⟨b, hb, b1⟩
      · have := marg_self (hg a ha) (hx a ha).1 (hx a ha).2
        unfold lastP at a1; omega
      · have := hpair a b ha hb; omega
  obtain ⟨q0, q1, q2⟩ := (prices_iff l xs n (plo_ l xs n)).1 ⟨Int.le_refl _, hle⟩
  have hz : envyK l xs (plo_ l xs n) n = 0 := by
    unfold envyK
    rw [sumN_congr (g := fun _ => 0) (fun k hk => by
      have hb := (marg_good (hg k hk) (hx k hk).1 (hx k hk).2 q1 q0).1 (q2 k hk)
      have := (gain_best (hg k hk) (plo_ l xs n) _ (hx k hk).1 (hx k hk).2).2.2 hb
      unfold gain at this
      unfold envyV
      omega)]
    exact sumN_zero n
  have := w2 (plo_ l xs n)
  omega
/-- the state of the search for the best move -/
structure MvRel (l : List Off) (n : Nat) (xs : List Int) (i k fr to : Nat) (m : Int) : Prop where
  pos : 0 ≤ m
  may : m ≠ 0 → fr < n ∧ to < n ∧ mayMove l xs fr to ∧ m = lastP l xs fr - nextP l xs to
  most : ∀ a b, (a < i ∨ (a = i ∧ b < k)) → b < n → mayMove l xs a b → lastP l xs a - nextP l xs b ≤ m
theorem MvRel.start (l : List Off) (n : Nat) (xs : List Int) : MvRel l n xs 0 0 0 0 0 := ⟨Int.le_refl _, fun h => absurd rfl h, fun a b h => by omega⟩
theorem MvRel.row {l : List Off} {n : Nat} {xs : List Int} {i fr to : Nat} {m : Int} (h : MvRel l n xs i n fr to m) : MvRel l n xs (i + 1) 0 fr to m :=
  ⟨h.pos, h.may, fun a b hab hb hm => h.most a b (by omega) hb hm⟩
theorem MvRel.skip {l : List Off} {n : Nat} {xs : List Int} {i k fr to : Nat} {m : Int} (h : MvRel l n xs i k fr to m) (hs : mayMove l xs i k → lastP l xs i - nextP l xs k ≤ m) : MvRel l n xs i (k + 1) fr to m := by
  refine ⟨h.pos, h.may, fun a b hab hb hm => ?_⟩
  by_cases e : a = i ∧ b = k
  · obtain ⟨rfl, rfl⟩ := e; exact hs hm
  · exact h.most a b (by omega) hb hm
theorem MvRel.take {l : List Off} {n : Nat} {xs : List Int} {i k fr to : Nat} {m : Int} (h : MvRel l n xs i k fr to m) (hi : i < n) (hk : k < n) (hm : mayMove l xs i k) (hs : m < lastP l xs i - nextP l xs k) : MvRel l n xs i (k + 1) i k (lastP l xs i - nextP l xs k) := by
  have hp := h.pos
  refine ⟨by omega, fun _ => ⟨hi, hk, hm, rfl⟩, fun a b hab hb hm2 => ?_⟩
  by_cases e : a = i ∧ b = k
  · obtain ⟨rfl, rfl⟩ := e; exact Int.le_refl _
  · have := h.most a b (by omega) hb hm2; omega
theorem MvRel.done {l : List Off} {n : Nat} {xs : List Int} {fr to : Nat} {m : Int} (h : MvRel l n xs n 0 fr to m) : Moved l n xs fr to m :=
  ⟨h.may, h.pos, fun a b ha hb hm => h.most a b (.inl ha) hb hm⟩
end Go.Proofs.Ytpbomomgjhbljaa.Pl
