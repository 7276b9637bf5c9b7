/- Bounds of the fill of blocks, plain. No program. dispatch.Cost, plain; the law DispatchSum. No program. The prices of a dispatch, plain; the law DispatchPrices. No program. -/
import Derived.Test.YtchafkocobbndaaPOffs
namespace Go.Proofs.Ytchafkocobbndaa.Pl
def dfill (n : Nat) (d : Int) (bs : List B3) : List Int × Int × Int := bs.foldl dstep (List.replicate n 0, 0, d)
theorem dfill_snoc (n : Nat) (d : Int) (bs : List B3) (b : B3) : dfill n d (bs ++ [b]) = dstep (dfill n d bs) b := by unfold dfill; rw [List.foldl_append]; rfl
structure FillBd (n : Nat) (d : Int) (r : List Int × Int × Int) : Prop where
  d0 : 0 ≤ r.2.2
  d1 : r.2.2 ≤ d
  c0 : -(1000000 * (d - r.2.2)) ≤ r.2.1
  c1 : r.2.1 ≤ 1000000 * (d - r.2.2)
  len : r.1.length = n
  out : ∀ g, 0 ≤ r.1.getD g 0 ∧ r.1.getD g 0 ≤ d - r.2.2
theorem dfill_bd {n : Nat} {d : Int} (h0 : 0 ≤ d) (bs : List B3) (hb : ∀ b ∈ bs, GoodB n b) : FillBd n d (dfill n d bs) := by
  induction bs using snocInd with
  | h0 =>
    refine ⟨h0, Int.le_refl _, by show -(1000000 * (d - d)) ≤ 0; omega, by show 0 ≤ 1000000 * (d - d); omega, by simp [dfill], fun g => ?_⟩
    have : (List.replicate n (0 : Int)).getD g 0 = 0 := by rw [List.getD_eq_getElem?_getD, List.getElem?_replicate]; split <;> rfl
    show 0 ≤ (List.replicate n (0 : Int)).getD g 0 ∧ (List.replicate n (0 : Int)).getD g 0 ≤ d - d
    omega
  | h1 bs b ih =>
    have ih := ih fun x hx => hb x (by simp [hx])
    obtain ⟨b0, b1, b2, b3, b4, b5⟩ := hb b (by simp)
    rw [dfill_snoc]
    generalize dfill n d bs = r at *
    obtain ⟨os, cs, dm⟩ := r
    obtain ⟨i0, i1, i2, i3, i4, i5⟩ := ih
    obtain ⟨g, pw, pr⟩ := b
    simp only at b0 b1 b2 b3 b4 b5 i0 i1 i2 i3 i4 i5
    have e : dstep (os, cs, dm) (g, pw, pr) = (os.set g.toNat (os.getD g.toNat 0 + min dm pw), cs + min dm pw * pr, dm - min dm pw) := rfl
    rw [e]
    have m0 : 0 ≤ min dm pw := by omega
    have m1 : min dm pw ≤ dm := by omega
    have q1 : min dm pw * pr ≤ min dm pw * 1000000 := Int.mul_le_mul_of_nonneg_left b5 m0
    have q2 : min dm pw * (-1000000) ≤ min dm pw * pr := Int.mul_le_mul_of_nonneg_left b4 m0
    generalize min dm pw = m at *
    refine ⟨by show 0 ≤ dm - m; omega, by show dm - m ≤ d; omega, by show -(1000000 * (d - (dm - m))) ≤ cs + m * pr; omega, by show cs + m * pr ≤ 1000000 * (d - (dm - m)); omega, by show (os.set _ _).length = n; rw [List.length_set]; exact i4, fun x => ?_⟩
    show 0 ≤ (os.set g.toNat (os.getD g.toNat 0 + m)).getD x 0 ∧ (os.set g.toNat (os.getD g.toNat 0 + m)).getD x 0 ≤ d - (dm - m)
    rw [getD_set]
    have h1 := i5 x
    have h2 := i5 g.toNat
    split <;> omega
end Go.Proofs.Ytchafkocobbndaa.Pl
namespace Go.Proofs.Ytchafkocobbndaa.Pl
def nameK (l : List Off) (k : Nat) : ByteArray := (l.getD k (⟨#[]⟩, [])).1
def derrK (l : List Off) (ps : List Int) : Nat → Int
  | 0 => 0
  | k + 1 => if derrK l ps k = 0 then opcheck (nameK l k) (steps l k) (ps.getD k 0) else derrK l ps k
def costK (l : List Off) (ps : List Int) : Nat → Int := sumN (fun k => costR (steps l k) (ps.getD k 0))
def powK (ps : List Int) : Nat → Int := sumN (fun k => ps.getD k 0)
def dCost (l : List Off) (ps : List Int) : Int × Int × Int := if oall l ≠ 0 then (0, 0, oall l) else if ps.length ≠ l.length then (0, 0, 3) else if derrK l ps l.length ≠ 0 then (0, 0, derrK l ps l.length) else (costK l ps l.length, powK ps l.length, 0)
theorem derrK_stay {l : List Off} {ps : List Int} {k m : Nat} (h : k ≤ m) (he : derrK l ps k ≠ 0) : derrK l ps m = derrK l ps k := by
  induction m with
  | zero => rw [show k = 0 from by omega]
  | succ m ih =>
    by_cases e : k = m + 1
    · rw [e]
    · have := ih (by omega)
      rw [derrK, if_neg (by rw [this]; exact he), this]
theorem derrK_pre {l : List Off} {ps : List Int} {k : Nat} (h : derrK l ps k = 0) (j : Nat) (hjk : j < k) : opcheck (nameK l j) (steps l j) (ps.getD j 0) = 0 := by
  induction k with
  | zero => omega
  | succ k ih =>
    have h0 : derrK l ps k = 0 := by
      by_cases e : derrK l ps k = 0
      · exact e
      · rw [derrK, if_neg e] at h; exact absurd h e
    by_cases e : j = k
    · subst e
      rw [derrK, if_pos h0] at h
      exact h
    · exact ih h0 (by omega)
theorem derrK_ok {l : List Off} {ps : List Int} {k : Nat} (h : ∀ j, j < k → opcheck (nameK l j) (steps l j) (ps.getD j 0) = 0) : derrK l ps k = 0 := by
  induction k with
  | zero => rfl
  | succ k ih => rw [derrK, if_pos (ih fun j hj => h j (by omega))]; exact h k (by omega)
theorem check_at {l : List Off} (h : oall l = 0) {k : Nat} (hk : k < l.length) : ocheck (nameK l k) (steps l k) = 0 := by
  unfold nameK steps
  rw [List.getD_eq_getElem?_getD, List.getElem?_eq_getElem hk]
  exact (oall_good h).2 _ (List.getElem_mem hk)
theorem dCost_ok {l : List Off} {ps : List Int} (h : (dCost l ps).2.2 = 0) : oall l = 0 ∧ ps.length = l.length ∧ (∀ k, k < l.length → 0 ≤ ps.getD k 0 ∧ ps.getD k 0 ≤ total (steps l k)) ∧ dCost l ps = (costK l ps l.length, powK ps l.length, 0) := by
  unfold dCost at h ⊢
  by_cases h1 : oall l = 0
  · rw [if_neg (by simpa using h1)] at h ⊢
    by_cases h2 : ps.length = l.length
    · rw [if_neg (by simpa using h2)] at h ⊢
      by_cases h3 : derrK l ps l.length = 0
      · rw [if_neg (by simpa using h3)]
        refine ⟨h1, h2, fun k hk => ?_, rfl⟩
        obtain ⟨_, _, h4, h5, _⟩ := opcheck_ok (derrK_pre h3 k hk)
        exact ⟨h4, h5⟩
      · rw [if_pos h3] at h; exact absurd h h3
    · rw [if_pos h2] at h; cases h
  · rw [if_pos h1] at h; exact absurd h h1
theorem dCost_of {l : List Off} {ps : List Int} (h1 : oall l = 0) (h2 : ps.length = l.length) (h3 : ∀ k, k < l.length → 0 ≤ ps.getD k 0 ∧ ps.getD k 0 ≤ total (steps l k)) : dCost l ps = (costK l ps l.length, powK ps l.length, 0) := by
  unfold dCost
  rw [if_neg (by simpa using h1), if_neg (by simpa using h2), if_neg]
  simp only [ne_eq, Decidable.not_not]
  refine derrK_ok fun j hj => ?_
  have := h3 j hj
  unfold opcheck
  rw [if_neg (by simpa using check_at h1 hj), if_neg (by omega)]
/-- costs of a whole number of offers -/
theorem costR_bd {st : List (Int × Int)} (h : Good st) (x : Int) (h0 : 0 ≤ x) (h1 : x ≤ total st) : -100000000000 ≤ costR st x ∧ costR st x ≤ 100000000000 := by
  have hs := h.sum
  obtain ⟨c1, c2, c3, c4⟩ := cacc_bd h x h0 (by omega) st.length
  rw [List.take_length] at c1 c2 c3 c4
  rw [← ocost_eq]
  unfold ocost
  omega
theorem costK_bd {l : List Off} {ps : List Int} (h : oall l = 0) (k : Nat) (hk : k ≤ l.length) (hp : ∀ j, j < k → 0 ≤ ps.getD j 0 ∧ ps.getD j 0 ≤ total (steps l j)) :
    -(100000000000 * (k : Int)) ≤ costK l ps k ∧ costK l ps k ≤ 100000000000 * (k : Int) ∧ 0 ≤ powK ps k ∧ powK ps k ≤ 100000 * (k : Int) := by
  induction k with
  | zero => simp [costK, powK, sumN]
  | succ k ih =>
    obtain ⟨i1, i2, i3, i4⟩ := ih (by omega) fun j hj => hp j (by omega)
    have hg := (steps_good h k (by omega)).1
    obtain ⟨p1, p2⟩ := hp k (by omega)
    obtain ⟨c1, c2⟩ := costR_bd hg _ p1 p2
    have hs := hg.sum
    have e1 : costK l ps (k + 1) = costK l ps k + costR (steps l k) (ps.getD k 0) := rfl
    have e2 : powK ps (k + 1) = powK ps k + ps.getD k 0 := rfl
    rw [e1, e2]
    omega
/-- DispatchSum, plain -/
theorem dispatch_sum {l : List Off} {d cost p : Int} {ps xs : List Int} (h : dcheck l d = 0) (hs : Served l l.length d ps cost p) :
    dCost l ps = (cost, d, 0) ∧ ((dCost l xs).2.2 = 0 → (dCost l xs).2.1 = d → cost ≤ (dCost l xs).1) := by
  obtain ⟨h1, d0, _, _⟩ := dcheck_ok h
  have hg : ∀ k, k < l.length → Good (steps l k) := fun k hk => (steps_good h1 k hk).1
  have hp : ∀ k, k < l.length → 0 ≤ ps.getD k 0 ∧ ps.getD k 0 ≤ total (steps l k) := fun k hk => by
    have := hs.at_ k hk
    have := least_most (P := p) (fun q hq => ((hg k hk).step q hq).1)
    omega
  refine ⟨?_, fun e1 e2 => ?_⟩
  · rw [dCost_of h1 hs.len hp]
    unfold costK powK
    rw [← hs.cost, hs.sum]
  · obtain ⟨_, _, hx, he⟩ := dCost_ok e1
    rw [he] at e2 ⊢
    exact served_least hg hs hx e2
end Go.Proofs.Ytchafkocobbndaa.Pl
namespace Go.Proofs.Ytchafkocobbndaa.Pl
theorem sumN_lt {f g : Nat → Int} {n : Nat} (h : ∀ i, i < n → f i ≤ g i) {k : Nat} (hk : k < n) (hlt : f k < g k) : sumN f n < sumN g n := by
  induction n with
  | zero => omega
  | succ n ih =>
    have h1 := h n (by omega)
    rw [sumN, sumN]
    by_cases e : k = n
    · subst e
      have := sumN_le (f := f) (g := g) (n := k) fun i hi => h i (by omega)
      omega
    · have := ih (fun i hi => h i (by omega)) (by omega)
      omega
theorem marg_mem (x : Int) : ∀ (st : List (Int × Int)) (s last : Int), (marg x s last st).1 = last ∨ ∃ p ∈ st, (marg x s last st).1 = p.2 := by
  intro st
  induction st with
  | nil => intro s last; exact .inl rfl
  | cons p st ih =>
    intro s last
    unfold marg
    by_cases h : x < s + p.1
    · rw [if_pos h]
      by_cases h2 : s < x
      · rw [if_pos h2]; exact .inr ⟨p, by simp, rfl⟩
      · rw [if_neg h2]; exact .inl rfl
    · rw [if_neg h]
      rcases ih (s + p.1) (if s < x then p.2 else last) with h3 | ⟨q, hq, h3⟩
      · by_cases h2 : s < x
        · rw [if_pos h2] at h3 ⊢; exact .inr ⟨p, by simp, h3⟩
        · rw [if_neg h2] at h3 ⊢; exact .inl h3
      · exact .inr ⟨q, by simp [hq], h3⟩
/-- between the last and the next price lie just the prices at which the power is one of the best -/
theorem marg_between {P : Int} : ∀ {st : List (Int × Int)} (x s last : Int), (∀ p ∈ st, 1 ≤ p.1 ∧ p.2 ≤ 2000000) → st.Pairwise (fun a b => a.2 ≤ b.2) → s ≤ x → x ≤ s + total st → P ≤ 2000000 → (x = s → last ≤ P) → (s < x → st = [] → False) →
    (((marg x s last st).1 ≤ P ∧ P ≤ (marg x s last st).2) ↔ (leastR P st ≤ x - s ∧ x - s ≤ mostR P st)) := by
  intro st
  induction st with
  | nil =>
    intro x s last _ _ h0 h1 hP hl hn
    simp only [total, List.foldl_nil] at h1
    have : x = s := by omega
    unfold marg leastR mostR
    simp only
    have := hl this
    omega
  | cons p st ih =>
    intro x s last hb hs h0 h1 hP hl hn
    obtain ⟨p1, p2⟩ := hb p (by simp)
    obtain ⟨s1, s2⟩ := List.pairwise_cons.1 hs
    have hb' : ∀ q ∈ st, 1 ≤ q.1 ∧ q.2 ≤ 2000000 := fun q hq => hb q (by simp [hq])
    have hlm := least_most (P := P) (fun q hq => (hb' q hq).1)
    rw [total_cons] at h1
    unfold marg leastR mostR
    by_cases h : x < s + p.1
    · rw [if_pos h]
      simp only
      by_cases e1 : p.2 < P
      · rw [if_pos e1, if_pos (show p.2 ≤ P by omega)]
        constructor
        · intro h; omega
        · intro h; omega
      · rw [if_neg e1]
        have z := zero_least (P := P) (st := st) (fun q hq => by have := s1 q hq; omega)
        rw [z.1]
        by_cases e2 : p.2 ≤ P
        · rw [if_pos e2]
          have hm := hlm.2.1
          by_cases e3 : s < x
          · rw [if_pos e3]
            constructor <;> intro _ <;> omega
          · rw [if_neg e3]
            have := hl (by omega)
            constructor <;> intro _ <;> omega
        · rw [if_neg e2]
          have z2 := zero_most (P := P) (st := st) (fun q hq => by have := s1 q hq; omega)
          rw [z2]
          by_cases e3 : s < x
          · rw [if_pos e3]
            constructor <;> intro _ <;> omega
          · rw [if_neg e3]
            have := hl (by omega)
            constructor <;> intro _ <;> omega
    · rw [if_neg h, if_pos (show s < x by omega)]
      by_cases e0 : p.2 ≤ P
      · by_cases es : st = []
        · subst es
          have hx : x = s + p.1 := by simp [total] at h1; omega
          unfold marg leastR mostR
          simp only
          by_cases e1 : p.2 < P
          · rw [if_pos e1, if_pos e0]; omega
          · rw [if_neg e1, if_pos e0]; omega
        · have i := ih x (s + p.1) p.2 hb' s2 (by omega) (by omega) hP (fun _ => e0) (fun _ h => es h)
          rw [i]
          rw [if_pos e0]
          by_cases e1 : p.2 < P
          · rw [if_pos e1]; omega
          · rw [if_neg e1]
            have z := zero_least (P := P) (st := st) (fun q hq => by have := s1 q hq; omega)
            rw [z.1]; omega
      · rw [if_neg (show ¬ p.2 < P by omega), if_neg e0]
        have z2 := zero_most (P := P) (st := st) (fun q hq => by have := s1 q hq; omega)
        rw [z2]
        constructor
        · intro hh
          exfalso
          rcases marg_mem x st (s + p.1) p.2 with m | ⟨q, hq, m⟩
          · omega
          · have := s1 q hq; omega
        · intro hh; omega
theorem marg_good {st : List (Int × Int)} (h : Good st) {x P : Int} (x0 : 0 ≤ x) (x1 : x ≤ total st) (hP : P ≤ 2000000) (hP0 : -2000000 ≤ P) :
    ((marg x 0 (-2000000) st).1 ≤ P ∧ P ≤ (marg x 0 (-2000000) st).2) ↔ (leastR P st ≤ x ∧ x ≤ mostR P st) := by
  have := marg_between (P := P) (st := st) x 0 (-2000000) (fun p hp => by have := h.step p hp; omega) h.rise x0 (by omega) hP (fun _ => hP0) (fun h1 h2 => by subst h2; simp [total] at x1; omega)
  rw [this, Int.sub_zero]
/-- the prices of dispatch.Price -/
def plo_ (l : List Off) (ps : List Int) : Nat → Int
  | 0 => -2000000
  | k + 1 => max (plo_ l ps k) (marg (ps.getD k 0) 0 (-2000000) (steps l k)).1
def phi_ (l : List Off) (ps : List Int) : Nat → Int
  | 0 => 2000000
  | k + 1 => min (phi_ l ps k) (marg (ps.getD k 0) 0 (-2000000) (steps l k)).2
theorem prices_iff (l : List Off) (ps : List Int) (n : Nat) (P : Int) : (plo_ l ps n ≤ P ∧ P ≤ phi_ l ps n) ↔ (-2000000 ≤ P ∧ P ≤ 2000000 ∧ ∀ k, k < n → (marg (ps.getD k 0) 0 (-2000000) (steps l k)).1 ≤ P ∧ P ≤ (marg (ps.getD k 0) 0 (-2000000) (steps l k)).2) := by
  induction n with
  | zero =>
    unfold plo_ phi_
    constructor
    · intro h; exact ⟨h.1, h.2, fun k hk => by omega⟩
    · intro h; exact ⟨h.1, h.2.1⟩
  | succ n ih =>
    unfold plo_ phi_
    constructor
    · intro h
      obtain ⟨a, b, c⟩ := ih.1 ⟨by omega, by omega⟩
      refine ⟨a, b, fun k hk => ?_⟩
      by_cases e : k = n
      · subst e; exact ⟨by omega, by omega⟩
      · exact c k (by omega)
    · intro h
      obtain ⟨a, b⟩ := ih.2 ⟨h.1, h.2.1, fun k hk => h.2.2 k (by omega)⟩
      have := h.2.2 n (by omega)
      omega
theorem plo_bd (l : List Off) (ps : List Int) (n : Nat) : -2000000 ≤ plo_ l ps n ∧ phi_ l ps n ≤ 2000000 := by
  induction n with
  | zero => exact ⟨Int.le_refl _, Int.le_refl _⟩
  | succ n ih => unfold plo_ phi_; omega
/-- at the prices of a dispatch all of its powers are best; the prices are in order -/
theorem prices_at {l : List Off} {n : Nat} {d cost p : Int} {ps : List Int} (hg : ∀ k, k < n → Good (steps l k)) (h : Served l n d ps cost p) (P : Int) :
    (plo_ l ps n ≤ P ∧ P ≤ phi_ l ps n) ↔ (-2000000 ≤ P ∧ P ≤ 2000000 ∧ ∀ k, k < n → leastR P (steps l k) ≤ ps.getD k 0 ∧ ps.getD k 0 ≤ mostR P (steps l k)) := by
  rw [prices_iff]
  have hx : ∀ k, k < n → 0 ≤ ps.getD k 0 ∧ ps.getD k 0 ≤ total (steps l k) := fun k hk => by
    have := h.at_ k hk
    have := least_most (P := p) (fun q hq => ((hg k hk).step q hq).1)
    omega
  constructor
  · rintro ⟨a, b, c⟩
    exact ⟨a, b, fun k hk => (marg_good (hg k hk) (hx k hk).1 (hx k hk).2 b a).1 (c k hk)⟩
  · rintro ⟨a, b, c⟩
    exact ⟨a, b, fun k hk => (marg_good (hg k hk) (hx k hk).1 (hx k hk).2 b a).2 (c k hk)⟩
theorem prices_le {l : List Off} {n : Nat} {d cost p : Int} {ps : List Int} (hg : ∀ k, k < n → Good (steps l k)) (h : Served l n d ps cost p) : plo_ l ps n ≤ phi_ l ps n := by
  have := (prices_at hg h p).2 ⟨by have := h.lo; omega, by have := h.hi; omega, h.at_⟩
  omega
/-- powers of the same sum and cost are best at the same prices -/
theorem served_same {l : List Off} {n : Nat} {d c1 c2 p1 p2 : Int} {ps qs : List Int} (hg : ∀ k, k < n → Good (steps l k)) (h : Served l n d ps c1 p1) (h' : Served l n d qs c2 p2) {P : Int}
    (hq : ∀ k, k < n → leastR P (steps l k) ≤ qs.getD k 0 ∧ qs.getD k 0 ≤ mostR P (steps l k)) : ∀ k, k < n → leastR P (steps l k) ≤ ps.getD k 0 ∧ ps.getD k 0 ≤ mostR P (steps l k) := by
  have hb : ∀ (xs : List Int) (c p : Int), Served l n d xs c p → ∀ k, k < n → 0 ≤ xs.getD k 0 ∧ xs.getD k 0 ≤ total (steps l k) := fun xs c p h k hk => by
    have := h.at_ k hk
    have := least_most (P := p) (fun q hq => ((hg k hk).step q hq).1)
    omega
  have hc : c1 ≤ c2 := by
    have := served_least hg h (hb qs c2 p2 h') h'.sum
    rw [← h'.cost] at this
    exact this
  -- the gains of qs are the best ones; those of ps have no less a sum
  have e1 : sumN (fun k => P * qs.getD k 0 - costR (steps l k) (qs.getD k 0)) n = sumN (fun k => best P (steps l k)) n := sumN_congr fun k hk => (gain_best (hg k hk) P _ (hb qs c2 p2 h' k hk).1 (hb qs c2 p2 h' k hk).2).2.2 (hq k hk)
  have e2 : sumN (fun k => P * ps.getD k 0 - costR (steps l k) (ps.getD k 0)) n = P * d - c1 := by rw [sumN_sub, sumN_mul, h.sum, ← h.cost]
  have e3 : sumN (fun k => P * qs.getD k 0 - costR (steps l k) (qs.getD k 0)) n = P * d - c2 := by rw [sumN_sub, sumN_mul, h'.sum, ← h'.cost]
  intro k hk
  refine (gain_best (hg k hk) P _ (hb ps c1 p1 h k hk).1 (hb ps c1 p1 h k hk).2).2.1 ?_
  have hle : ∀ j, j < n → P * ps.getD j 0 - costR (steps l j) (ps.getD j 0) ≤ best P (steps l j) := fun j hj => (gain_best (hg j hj) P _ (hb ps c1 p1 h j hj).1 (hb ps c1 p1 h j hj).2).1
  by_cases e : gain P (steps l k) (ps.getD k 0) = best P (steps l k)
  · exact e
  · exfalso
    have hlt : P * ps.getD k 0 - costR (steps l k) (ps.getD k 0) < best P (steps l k) := by
      have := hle k hk
      unfold gain at e
      omega
    have := sumN_lt hle hk hlt
    omega
end Go.Proofs.Ytchafkocobbndaa.Pl
