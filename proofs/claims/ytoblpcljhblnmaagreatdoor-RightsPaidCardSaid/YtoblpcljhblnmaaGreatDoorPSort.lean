/- Plain laws for slices.SortStableFunc: exchanging ranges, rotating, merging in place; nothing of the program stands here. Plain laws for merging in place; nothing of the program stands here. Plain laws for the blocks of a stable sort; nothing of the program stands here. -/
import Derived.Sort.LotA
namespace Go.Proofs.YtoblpcljhblnmaaGreatDoor.Srt
open Go.Sort
variable {α : Type} [Inhabited α]
/-- swapRange: n exchanges of a + i and b + i -/
def swapR (d : Array α) (a b : Nat) : Nat → Array α
  | 0 => d
  | n + 1 => swp (swapR d a b n) (a + n) (b + n)
theorem swapR_size (d : Array α) (a b n : Nat) : (swapR d a b n).size = d.size := by
  induction n with
  | zero => rfl
  | succ n ih => rw [swapR, swp_size, ih]
theorem swapR_get (d : Array α) (a b n : Nat) (h1 : a + n ≤ b) (h2 : b + n ≤ d.size) (p : Nat) :
    (swapR d a b n)[p]! = if a ≤ p ∧ p < a + n then d[p + (b - a)]! else if b ≤ p ∧ p < b + n then d[p - (b - a)]! else d[p]! := by
  induction n generalizing p with
  | zero => rw [swapR, if_neg (by omega), if_neg (by omega)]
  | succ n ih =>
    rw [swapR, swp_get _ (by rw [swapR_size]; omega) (by rw [swapR_size]; omega)]
    have i1 := ih (by omega) (by omega) (a + n)
    have i2 := ih (by omega) (by omega) (b + n)
    have i3 := ih (by omega) (by omega) p
    rw [if_neg (by omega), if_neg (by omega)] at i1 i2
    rw [i1, i2, i3]
    (repeat' split) <;> first | rfl | (exfalso; omega) | (congr 1; omega)
theorem swapR_perm (d : Array α) (a b n lo hi : Nat) (h1 : lo ≤ a) (h2 : a + n ≤ b) (h3 : b + n ≤ hi) (h4 : hi ≤ d.size) : PermIn lo hi d (swapR d a b n) := by
  induction n with
  | zero => exact permIn_refl _ _ _
  | succ n ih =>
    exact permIn_trans _ _ _ _ _ (ih (by omega) (by omega)) (swp_permIn _ lo hi (a + n) (b + n) (by omega) (by omega) (by omega) (by omega) (by rw [swapR_size]; exact h4))
/-- d' is d with the blocks [a, m) and [m, b) exchanged -/
structure Rot (d : Array α) (a m b : Nat) (d' : Array α) : Prop where
  perm : PermIn a b d d'
  get : ∀ p, d'[p]! = if a ≤ p ∧ p < a + (b - m) then d[p + (m - a)]! else if a + (b - m) ≤ p ∧ p < b then d[p - (b - m)]! else d[p]!
theorem Rot.last {d : Array α} {m i : Nat} (h1 : i ≤ m) (h2 : m + i ≤ d.size) : Rot d (m - i) m (m + i) (swapR d (m - i) m i) := by
  refine ⟨swapR_perm d (m - i) m i (m - i) (m + i) (by omega) (by omega) (by omega) h2, fun p => ?_⟩
  rw [swapR_get d (m - i) m i (by omega) h2]
  (repeat' split) <;> first | rfl | (exfalso; omega) | (congr 1; omega)
/-- i > j: the right block goes to the front -/
theorem Rot.left {d d' : Array α} {m i j : Nat} (hj : j < i) (h1 : i ≤ m) (h2 : m + j ≤ d.size) (h : Rot (swapR d (m - i) m j) (m - (i - j)) m (m + j) d') : Rot d (m - i) m (m + j) d' := by
  refine ⟨permIn_trans _ _ _ _ _ (swapR_perm d (m - i) m j (m - i) (m + j) (by omega) (by omega) (by omega) h2) (permIn_mono _ _ _ _ _ _ (by omega) (by omega) (by rw [swapR_size]; exact h2) h.perm), fun p => ?_⟩
  rw [h.get p]
  have g := swapR_get d (m - i) m j (by omega) h2
  rw [g, g, g]
  (repeat' split) <;> first | rfl | (exfalso; omega) | (congr 1; omega)
/-- i < j: the left block goes to the end -/
theorem Rot.right {d d' : Array α} {m i j : Nat} (hj : i < j) (h1 : i ≤ m) (h2 : m + j ≤ d.size) (h : Rot (swapR d (m - i) (m + j - i) i) (m - i) m (m + (j - i)) d') : Rot d (m - i) m (m + j) d' := by
  refine ⟨permIn_trans _ _ _ _ _ (swapR_perm d (m - i) (m + j - i) i (m - i) (m + j) (by omega) (by omega) (by omega) h2) (permIn_mono _ _ _ _ _ _ (by omega) (by omega) (by rw [swapR_size]; exact h2) h.perm), fun p => ?_⟩
  rw [h.get p]
  have g := swapR_get d (m - i) (m + j - i) i (by omega) (by omega)
  rw [g, g, g]
  (repeat' split) <;> first | rfl | (exfalso; omega) | (congr 1; omega)
end Go.Proofs.YtoblpcljhblnmaaGreatDoor.Srt
namespace Go.Proofs.YtoblpcljhblnmaaGreatDoor.Srt
open Go.Sort
variable {α : Type} [Inhabited α] {lt : α → α → Bool}
/-- data[a] moves t places up -/
def shiftA (d : Array α) (a : Nat) : Nat → Array α
  | 0 => d
  | t + 1 => swp (shiftA d a t) (a + t) (a + t + 1)
theorem shiftA_size (d : Array α) (a t : Nat) : (shiftA d a t).size = d.size := by
  induction t with
  | zero => rfl
  | succ t ih => rw [shiftA, swp_size, ih]
theorem shiftA_get (d : Array α) (a t : Nat) (h : a + t < d.size) (p : Nat) : (shiftA d a t)[p]! = if a ≤ p ∧ p < a + t then d[p + 1]! else if p = a + t then d[a]! else d[p]! := by
  induction t generalizing p with
  | zero =>
    rw [shiftA]
    (repeat' split) <;> first | rfl | (exfalso; omega) | (congr 1 <;> omega)
  | succ t ih =>
    rw [shiftA, swp_get _ (by rw [shiftA_size]; omega) (by rw [shiftA_size]; omega)]
    have g := ih (by omega)
    rw [g, g, g]
    (repeat' split) <;> first | rfl | (exfalso; omega) | (congr 1 <;> omega)
theorem shiftA_perm (d : Array α) (a b t : Nat) (h : a + t < b) (hb : b ≤ d.size) : PermIn a b d (shiftA d a t) := by
  induction t with
  | zero => exact permIn_refl _ _ _
  | succ t ih => exact permIn_trans _ _ _ _ _ (ih (by omega)) (swp_permIn _ a b (a + t) (a + t + 1) (by omega) (by omega) (by omega) (by omega) (by rw [shiftA_size]; exact hb))
/-- data[m] moves t places down -/
def shiftB (d : Array α) (m : Nat) : Nat → Array α
  | 0 => d
  | t + 1 => swp (shiftB d m t) (m - t) (m - t - 1)
theorem shiftB_size (d : Array α) (m t : Nat) : (shiftB d m t).size = d.size := by
  induction t with
  | zero => rfl
  | succ t ih => rw [shiftB, swp_size, ih]
theorem shiftB_get (d : Array α) (m t : Nat) (h : m < d.size) (ht : t ≤ m) (p : Nat) : (shiftB d m t)[p]! = if m - t < p ∧ p ≤ m then d[p - 1]! else if p = m - t then d[m]! else d[p]! := by
  induction t generalizing p with
  | zero =>
    rw [shiftB]
    (repeat' split) <;> first | rfl | (exfalso; omega) | (congr 1 <;> omega)
  | succ t ih =>
    rw [shiftB, swp_get _ (by rw [shiftB_size]; omega) (by rw [shiftB_size]; omega)]
    have g := ih (by omega)
    rw [g, g, g]
    (repeat' split) <;> first | rfl | (exfalso; omega) | (congr 1 <;> omega)
theorem shiftB_perm (d : Array α) (a m t : Nat) (h : a + t ≤ m) (hb : m + 1 ≤ d.size) : PermIn a (m + 1) d (shiftB d m t) := by
  induction t with
  | zero => exact permIn_refl _ _ _
  | succ t ih => exact permIn_trans _ _ _ _ _ (ih (by omega)) (swp_permIn _ a (m + 1) (m - t) (m - t - 1) (by omega) (by omega) (by omega) (by omega) (by rw [shiftB_size]; exact hb))
theorem SortedIn.le_ (hS : SWO lt) {a b : Nat} {d : Array α} (h : SortedIn lt a b d) {i j : Nat} (h1 : a ≤ i) (h2 : i ≤ j) (h3 : j < b) : lt d[j]! d[i]! = false := by
  rcases Nat.lt_or_eq_of_le h2 with h | h
  · exact ‹SortedIn lt a b d› i j h1 h h3
  · subst h; exact hS.irrefl _
theorem SortedIn.sub_ {a b a' b' : Nat} {d : Array α} (h : SortedIn lt a b d) (h1 : a ≤ a') (h2 : b' ≤ b) : SortedIn lt a' b' d := fun i j hi hij hj => h i j (by omega) hij (by omega)
theorem SortedIn.same_ {a b : Nat} {d d' : Array α} (h : SortedIn lt a b d) (e : ∀ p, a ≤ p → p < b → d'[p]! = d[p]!) : SortedIn lt a b d' := fun i j hi hij hj => by
  rw [e i hi (by omega), e j (by omega) hj]; exact h i j hi hij hj
omit [Inhabited α] in
theorem not_lt_of {x y z : α} (hS : SWO lt) (h1 : lt x y = true) (h2 : lt z y = false) : lt z x = false := by
  cases h : lt z x
  · rfl
  · have := hS.trans z x y h h1
    rw [h2] at this; cases this
/-- one element before a sorted range -/
theorem mergeA (hS : SWO lt) {a b i : Nat} {d : Array α} (hs : SortedIn lt (a + 1) b d) (h1 : a + 1 ≤ i) (h2 : i ≤ b) (hb : b ≤ d.size) (hlo : i = a + 1 ∨ lt d[i - 1]! d[a]! = true) (hhi : i = b ∨ lt d[i]! d[a]! = false) :
    PermIn a b d (shiftA d a (i - 1 - a)) ∧ SortedIn lt a b (shiftA d a (i - 1 - a)) := by
  refine ⟨shiftA_perm d a b _ (by omega) hb, fun p q hp hpq hq => ?_⟩
  have g := shiftA_get d a (i - 1 - a) (by omega)
  rw [g, g]
  have key1 : ∀ r, a + 1 ≤ r → r < i → lt d[a]! d[r]! = false := fun r r1 r2 => by
    have hlo : lt d[i - 1]! d[a]! = true := by rcases hlo with h | h; · exfalso; omega
                                               · exact h
    refine hS.asymmA ?_
    cases h : lt d[r]! d[a]!
    · have := not_lt_of hS hlo h
      have h3 := SortedIn.le_ hS hs (i := r) (j := i - 1) r1 (by omega) (by omega)
      have := hS.ntrans _ _ _ h3 h
      rw [hlo] at this; cases this
    · rfl
  have key2 : ∀ r, i ≤ r → r < b → lt d[r]! d[a]! = false := fun r r1 r2 => by
    have hhi : lt d[i]! d[a]! = false := by rcases hhi with h | h; · exfalso; omega
                                            · exact h
    exact hS.ntrans _ _ _ (SortedIn.le_ hS hs (i := i) (j := r) (by omega) r1 r2) hhi
  by_cases c1 : a ≤ p ∧ p < a + (i - 1 - a)
  · rw [if_pos c1]
    by_cases c2 : a ≤ q ∧ q < a + (i - 1 - a)
    · rw [if_pos c2]; exact hs _ _ (by omega) (by omega) (by omega)
    · rw [if_neg c2]
      by_cases c3 : q = a + (i - 1 - a)
      · rw [if_pos c3]; exact key1 _ (by omega) (by omega)
      · rw [if_neg c3]; exact hs _ _ (by omega) (by omega) (by omega)
  · rw [if_neg c1, if_neg (by omega : ¬ (a ≤ q ∧ q < a + (i - 1 - a))), if_neg (by omega : ¬ q = a + (i - 1 - a))]
    by_cases c3 : p = a + (i - 1 - a)
    · rw [if_pos c3]; exact key2 _ (by omega) (by omega)
    · rw [if_neg c3]; exact hs _ _ (by omega) (by omega) (by omega)
/-- one element behind a sorted range -/
theorem mergeB (hS : SWO lt) {a m i : Nat} {d : Array α} (hs : SortedIn lt a m d) (h1 : a ≤ i) (h2 : i ≤ m) (hb : m + 1 ≤ d.size) (hlo : i = a ∨ lt d[m]! d[i - 1]! = false) (hhi : i = m ∨ lt d[m]! d[i]! = true) :
    PermIn a (m + 1) d (shiftB d m (m - i)) ∧ SortedIn lt a (m + 1) (shiftB d m (m - i)) := by
  refine ⟨shiftB_perm d a m _ (by omega) hb, fun p q hp hpq hq => ?_⟩
  have g := shiftB_get d m (m - i) (by omega) (by omega)
  rw [g, g]
  have key1 : ∀ r, a ≤ r → r < i → lt d[m]! d[r]! = false := fun r r1 r2 => by
    have hlo : lt d[m]! d[i - 1]! = false := by rcases hlo with h | h; · exfalso; omega
                                                · exact h
    exact hS.ntrans _ _ _ hlo (SortedIn.le_ hS hs (i := r) (j := i - 1) r1 (by omega) (by omega))
  have key2 : ∀ r, i ≤ r → r < m → lt d[r]! d[m]! = false := fun r r1 r2 => by
    have hhi : lt d[m]! d[i]! = true := by rcases hhi with h | h; · exfalso; omega
                                           · exact h
    exact hS.ntrans _ _ _ (SortedIn.le_ hS hs (i := i) (j := r) (by omega) r1 r2) (hS.asymmA hhi)
  by_cases c1 : m - (m - i) < q ∧ q ≤ m
  · rw [if_pos c1]
    by_cases c2 : m - (m - i) < p ∧ p ≤ m
    · rw [if_pos c2]; exact hs _ _ (by omega) (by omega) (by omega)
    · rw [if_neg c2]
      by_cases c3 : p = m - (m - i)
      · rw [if_pos c3]; exact key2 _ (by omega) (by omega)
      · rw [if_neg c3]; exact hs _ _ (by omega) (by omega) (by omega)
  · rw [if_neg c1, if_neg (by omega : ¬ (m - (m - i) < p ∧ p ≤ m)), if_neg (by omega : ¬ p = m - (m - i))]
    by_cases c3 : q = m - (m - i)
    · rw [if_pos c3]; exact key1 _ (by omega) (by omega)
    · rw [if_neg c3]; exact hs _ _ (by omega) (by omega) (by omega)
theorem Rot.none_ {d : Array α} {s m e : Nat} (h : s = m ∨ m = e) (h1 : s ≤ m) (h2 : m ≤ e) : Rot d s m e d := by
  refine ⟨permIn_refl _ _ _, fun p => ?_⟩
  (repeat' split) <;> first | rfl | (exfalso; omega) | (congr 1 <;> omega)
/-- what symMerge has behind its rotation -/
structure Mid (lt : α → α → Bool) (a s mid e b : Nat) (d1 : Array α) : Prop where
  s1 : SortedIn lt a s d1
  s2 : SortedIn lt s mid d1
  s3 : SortedIn lt mid e d1
  s4 : SortedIn lt e b d1
  cross : ∀ p q, a ≤ p → p < mid → mid ≤ q → q < b → lt d1[q]! d1[p]! = false
theorem mid_of (hS : SWO lt) {a m b mid s e s0 r0 : Nat} {d d1 : Array α} (h1 : SortedIn lt a m d) (h2 : SortedIn lt m b d) (has : a ≤ s) (hsm : s ≤ m) (hme : m ≤ e) (heb : e ≤ b) (hmid : mid + m = s + e) (hsmid : s ≤ mid)
    (hf1 : s = s0 ∨ lt d[e]! d[s - 1]! = false) (hf2 : s = r0 ∨ lt d[e - 1]! d[s]! = true) (hs0 : s = s0 → s = a ∨ e = b) (hr0 : s = r0 → s = m ∨ e = m) (hr : Rot d s m e d1) : Mid lt a s mid e b d1 := by
  have g := hr.get
  have e1 : ∀ p, a ≤ p → p < s → d1[p]! = d[p]! := fun p p1 p2 => by rw [g, if_neg (by omega), if_neg (by omega)]
  have e2 : ∀ p, s ≤ p → p < mid → d1[p]! = d[p + (m - s)]! := fun p p1 p2 => by rw [g, if_pos (by omega)]
  have e3 : ∀ p, mid ≤ p → p < e → d1[p]! = d[p - (e - m)]! := fun p p1 p2 => by rw [g, if_neg (by omega), if_pos (by omega)]
  have e4 : ∀ p, e ≤ p → p < b → d1[p]! = d[p]! := fun p p1 p2 => by rw [g, if_neg (by omega), if_neg (by omega)]
  refine ⟨fun i j hi hij hj => ?_, fun i j hi hij hj => ?_, fun i j hi hij hj => ?_, fun i j hi hij hj => ?_, fun p q p1 p2 q1 q2 => ?_⟩
  · rw [e1 i hi (by omega), e1 j (by omega) hj]; exact h1 i j hi hij (by omega)
  · rw [e2 i hi (by omega), e2 j (by omega) hj]; exact h2 _ _ (by omega) (by omega) (by omega)
  · rw [e3 i hi (by omega), e3 j (by omega) hj]; exact h1 _ _ (by omega) (by omega) (by omega)
  · rw [e4 i hi (by omega), e4 j (by omega) hj]; exact h2 _ _ (by omega) (by omega) (by omega)
  · rcases Nat.lt_or_ge p s with c1 | c1
    · rw [e1 p p1 c1]
      rcases Nat.lt_or_ge q e with c2 | c2
      · rw [e3 q q1 c2]
        exact h1 _ _ p1 (by omega) (by omega)
      · rw [e4 q c2 q2]
        have hf : lt d[e]! d[s - 1]! = false := by
          rcases hf1 with h | h
          · rcases hs0 h with h | h <;> (exfalso; omega)
          · exact h
        exact hS.ntrans _ _ _ (SortedIn.le_ hS h2 (i := e) (j := q) hme c2 q2) (hS.ntrans _ _ _ hf (SortedIn.le_ hS h1 (i := p) (j := s - 1) p1 (by omega) (by omega)))
    · rw [e2 p c1 p2]
      rcases Nat.lt_or_ge q e with c2 | c2
      · rw [e3 q q1 c2]
        have hf : lt d[e - 1]! d[s]! = true := by
          rcases hf2 with h | h
          · rcases hr0 h with h | h <;> (exfalso; omega)
          · exact h
        exact hS.ntrans _ _ _ (SortedIn.le_ hS h1 (i := s) (j := q - (e - m)) has (by omega) (by omega)) (hS.ntrans _ _ _ (hS.asymmA hf) (SortedIn.le_ hS h2 (i := p + (m - s)) (j := e - 1) (by omega) (by omega) (by omega)))
      · rw [e4 q c2 q2]
        exact h2 _ _ (by omega) (by omega) q2
theorem Mid.right_ {a s mid e b : Nat} {d1 d2 : Array α} (h : Mid lt a s mid e b d1) (hm : mid ≤ e) (hp : PermIn a mid d1 d2) : SortedIn lt mid e d2 ∧ SortedIn lt e b d2 :=
  ⟨SortedIn.same_ h.s3 fun p p1 _ => hp.2.1 p (.inr p1), SortedIn.same_ h.s4 fun p p1 _ => hp.2.1 p (.inr (by omega))⟩
theorem Mid.whole {a s mid e b : Nat} {d1 d2 d3 : Array α} (h : Mid lt a s mid e b d1) (hb : b ≤ d1.size) (h2 : mid ≤ b) (hp : PermIn a mid d1 d2) (s2 : SortedIn lt a mid d2) (hq : PermIn mid b d2 d3) (s3 : SortedIn lt mid b d3) : SortedIn lt a b d3 := by
  have c2 : ∀ p q, a ≤ p → p < mid → mid ≤ q → q < b → lt d2[q]! d2[p]! = false := by
    intro p q p1 p2 q1 q2
    rw [hp.2.1 q (.inr q1)]
    exact permIn_all d1 d2 a mid (fun x => lt d1[q]! x = false) (by omega) hp (fun i i1 i2 => h.cross i q i1 i2 q1 q2) p p1 p2
  have hz : d2.size = d1.size := hp.1
  have c3 : ∀ p q, a ≤ p → p < mid → mid ≤ q → q < b → lt d3[q]! d3[p]! = false := by
    intro p q p1 p2 q1 q2
    rw [hq.2.1 p (.inl p2)]
    exact permIn_all d2 d3 mid b (fun x => lt x d2[p]! = false) (by omega) hq (fun i i1 i2 => c2 p i p1 p2 i1 i2) q q1 q2
  intro i j hi hij hj
  rcases Nat.lt_or_ge j mid with c | c
  · rw [hq.2.1 i (.inl (by omega)), hq.2.1 j (.inl c)]; exact s2 i j hi hij c
  · rcases Nat.lt_or_ge i mid with c' | c'
    · exact c3 i j hi c' c hj
    · exact s3 i j c' hij hj
theorem sorted_join {a s mid : Nat} {d : Array α} (h1 : SortedIn lt a s d) (h2 : SortedIn lt s mid d) (h : s ≤ a ∨ mid ≤ s) : SortedIn lt a mid d := by
  intro i j hi hij hj
  rcases h with h | h
  · exact h2 i j (by omega) hij hj
  · exact h1 i j hi hij (by omega)
theorem Qswp {Q : α → Prop} {d : Array α} {n i j : Nat} (hz : d.size = n) (hi : i < n) (hj : j < n) (h : ∀ p, p < n → Q d[p]!) : ∀ p, p < n → Q (swp d i j)[p]! := by
  intro p hp
  rw [swp_get d (by omega) (by omega)]
  (repeat' split)
  · exact h i hi
  · exact h j hj
  · exact h p hp
theorem insInner_go_ (lt : α → α → Bool) (a j : Nat) (d : Array α) (h1 : a < j + 1) (h2 : lt d[j + 1]! d[j]! = true) : insInner lt a (j + 1) d = insInner lt a j (swp d (j + 1) j) := by
  rw [insInner, if_pos (by simp [h2]; omega)]
theorem insInner_stop_ (lt : α → α → Bool) (a j : Nat) (d : Array α) (h : j ≤ a ∨ lt d[j]! d[j - 1]! = false) : insInner lt a j d = d := by
  cases j with
  | zero => rfl
  | succ j =>
    rw [insInner, if_neg]
    simp only [Bool.and_eq_true, decide_eq_true_eq, not_and, Bool.not_eq_true]
    intro h1
    rcases h with h | h
    · exfalso; omega
    · simpa using h
theorem insOuter_go_ (lt : α → α → Bool) (a b i : Nat) (d : Array α) (h : i < b) : insOuter lt a b i d = insOuter lt a b (i + 1) (insInner lt a i d) := by
  rw [insOuter, if_pos h]
theorem insOuter_stop_ (lt : α → α → Bool) (a b i : Nat) (d : Array α) (h : ¬ i < b) : insOuter lt a b i d = d := by
  rw [insOuter, if_neg h]
end Go.Proofs.YtoblpcljhblnmaaGreatDoor.Srt
namespace Go.Proofs.YtoblpcljhblnmaaGreatDoor.Srt
open Go.Sort
variable {α : Type} [Inhabited α] {lt : α → α → Bool}
theorem Qperm {Q : α → Prop} {d d' : Array α} {n a b : Nat} (hz : d.size = n) (hp : PermIn a b d d') (hb : b ≤ n) (h : ∀ p, p < n → Q d[p]!) : ∀ p, p < n → Q d'[p]! := by
  intro p hn
  by_cases hc : a ≤ p ∧ p < b
  · exact permIn_all d d' a b Q (by omega) hp (fun i _ i2 => h i (by omega)) p hc.1 hc.2
  · rw [hp.2.1 p (by omega)]; exact h p hn
/-- each block of s places below a is sorted -/
def Blocks (lt : α → α → Bool) (s a : Nat) (d : Array α) : Prop := ∀ t, SortedIn lt (t * s) (min ((t + 1) * s) a) d
theorem blocks_zero (s : Nat) (d : Array α) : Blocks lt s 0 d := fun t i j _ _ h => by omega
theorem blocks_next {s a b t0 : Nat} {d d1 : Array α} (h : Blocks lt s a d) (ha : a = t0 * s) (hp : PermIn a b d d1) (hs : SortedIn lt a b d1) (hb : b ≤ a + s) : Blocks lt s b d1 := by
  intro t i j h1 h2 h3
  rcases Nat.lt_trichotomy t t0 with c | c | c
  · have e : (t + 1) * s ≤ t0 * s := Nat.mul_le_mul_right s c
    rw [hp.2.1 i (.inl (by omega)), hp.2.1 j (.inl (by omega))]
    exact h t i j h1 h2 (by omega)
  · subst c
    exact hs i j (by omega) h2 (by omega)
  · exfalso
    have e : (t0 + 1) * s ≤ t * s := Nat.mul_le_mul_right s c
    rw [Nat.add_mul] at e
    omega
theorem blocks_all {s n : Nat} {d : Array α} (h : Blocks lt s n d) (hn : n ≤ s) : SortedIn lt 0 n d := by
  intro i j h1 h2 h3
  exact h 0 i j (by omega) h2 (by omega)
/-- blocks of 2 s below a, blocks of s from a on -/
structure Mix (lt : α → α → Bool) (s a n : Nat) (d : Array α) : Prop where
  low : Blocks lt (2 * s) a d
  high : ∀ t, a ≤ t * s → SortedIn lt (t * s) (min ((t + 1) * s) n) d
theorem mix_zero {s n : Nat} {d : Array α} (h : Blocks lt s n d) : Mix lt s 0 n d := ⟨blocks_zero _ _, fun t _ => h t⟩
theorem Mix.left_ {s a n t0 : Nat} {d : Array α} (h : Mix lt s a n d) (ha : a = t0 * (2 * s)) (m : Nat) (hm : m ≤ a + s) (hn : m ≤ n) : SortedIn lt a m d := by
  have e : a = (t0 * 2) * s := by rw [ha, Nat.mul_assoc]
  have := h.high (t0 * 2) (by omega)
  rw [Nat.add_mul, ← e] at this
  intro i j h1 h2 h3
  exact this i j h1 h2 (by omega)
theorem Mix.right_ {s a n t0 : Nat} {d : Array α} (h : Mix lt s a n d) (ha : a = t0 * (2 * s)) (b : Nat) (hb : b ≤ a + 2 * s) (hn : b ≤ n) : SortedIn lt (a + s) b d := by
  have e : a = (t0 * 2) * s := by rw [ha, Nat.mul_assoc]
  have e2 : (t0 * 2 + 1) * s = a + s := by rw [Nat.add_mul, ← e]; omega
  have := h.high (t0 * 2 + 1) (by omega)
  rw [Nat.add_mul (t0 * 2 + 1) 1, e2] at this
  intro i j h1 h2 h3
  exact this i j h1 h2 (by omega)
theorem Mix.next {s a n t0 : Nat} {d d1 : Array α} (h : Mix lt s a n d) (ha : a = t0 * (2 * s)) (hp : PermIn a (a + 2 * s) d d1) (hs : SortedIn lt a (a + 2 * s) d1) : Mix lt s (a + 2 * s) n d1 := by
  refine ⟨blocks_next h.low ha hp hs (Nat.le_refl _), fun t ht i j h1 h2 h3 => ?_⟩
  rw [hp.2.1 i (.inr (by omega)), hp.2.1 j (.inr (by omega))]
  exact h.high t (by omega) i j h1 h2 h3
theorem Mix.last {s a n t0 : Nat} {d d1 : Array α} (h : Mix lt s a n d) (ha : a = t0 * (2 * s)) (hn : n ≤ a + 2 * s) (hp : PermIn a n d d1) (hs : SortedIn lt a n d1) : Blocks lt (2 * s) n d1 := blocks_next h.low ha hp hs hn
end Go.Proofs.YtoblpcljhblnmaaGreatDoor.Srt
