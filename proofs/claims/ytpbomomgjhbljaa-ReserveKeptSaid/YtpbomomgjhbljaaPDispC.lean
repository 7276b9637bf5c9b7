/- dispatch.Cost, plain; the law DispatchSum. No program. -/
import Derived.Test.YtpbomomgjhbljaaPDispB
namespace Go.Proofs.Ytpbomomgjhbljaa.Pl
def nameK (l : List Off) (k : Nat) : ByteArray := (l.getD k (⟨#[]⟩, [])).1
def derrK (l : List Off) (ps : List Int) : Nat → Int
  | 0 => 0
  | k + 1 => if derrK l ps k = 0 then opcheck (nameK l k) (steps l k) (ps.getD k 0) else derrK l ps k
def costK (l : List Off) (ps : List Int) : Nat → Int := sumN (fun k => costR (steps l k) (ps.getD k 0))
def powK (ps : List Int) : Nat → Int := sumN (fun k => ps.getD k 0)
def dCost (l : List Off) (ps : List Int) : Int × Int × Int := if oall l ≠ 0 then (0, 0, oall l) else if ps.length ≠ l.length then (0, 0, 3) else if derrK l ps l.length ≠ 0 then (0, 0, derrK l ps l.length) else (costK l ps l.length, powK ps l.length, 0)
theorem derrK_stay {l : List Off} {ps : List Int} {k m : Nat} (h : k ≤ m) (he : derrK l ps k ≠ 0) : derrK l ps m = derrK l ps k := by
  induction m with
  | zero => rw [show k = 0 from by omega]
  | succ m ih =>
    by_cases e : k = m + 1
    · rw [e]
    · have := ih (by omega)
      rw [derrK, if_neg (by rw [this]; exact he), this]
theorem derrK_pre {l : List Off} {ps : List Int} {k : Nat} (h : derrK l ps k = 0) (j : Nat) (hjk : j < k) : opcheck (nameK l j) (steps l j) (ps.getD j 0) = 0 := by
  induction k with
  | zero => omega
  | succ k ih =>
    have h0 : derrK l ps k = 0 := by
      by_cases e : derrK l ps k = 0
      · exact e
      · rw [derrK, if_neg e] at h; exact absurd h e
    by_cases e : j = k
    · subst e
      rw [derrK, if_pos h0] at h
      exact h
    · exact ih h0 (by omega)
theorem derrK_ok {l : List Off} {ps : List Int} {k : Nat} (h : ∀ j, j < k → opcheck (nameK l j) (steps l j) (ps.getD j 0) = 0) : derrK l ps k = 0 := by
  induction k with
  | zero => rfl
  | succ k ih => rw [derrK, if_pos (ih fun j hj => h j (by omega))]; exact h k (by omega)
theorem check_at {l : List Off} (h : oall l = 0) {k : Nat} (hk : k < l.length) : ocheck (nameK l k) (steps l k) = 0 := by
  unfold nameK steps
  rw [List.getD_eq_getElem?_getD, List.getElem?_eq_getElem hk]
  exact (oall_good h).2 _ (List.getElem_mem hk)
theorem dCost_ok {l : List Off} {ps : List Int} (h : (dCost l ps).2.2 = 0) : oall l = 0 ∧ ps.length = l.length ∧ (∀ k, k < l.length → 0 ≤ ps.getD k 0 ∧ ps.getD k 0 ≤ total (steps l k)) ∧ dCost l ps = (costK l ps l.length, powK ps l.length, 0) := by
  unfold dCost at h ⊢
  by_cases h1 : oall l = 0
  · rw [if_neg (by simpa using h1)] at h ⊢
    by_cases h2 : ps.length = l.length
    · rw [if_neg (by simpa using h2)] at h ⊢
      by_cases h3 : derrK l ps l.length = 0
      · rw [if_neg (by simpa using h3)]
        refine ⟨h1, h2, fun k hk => ?_, rfl⟩
        obtain ⟨_, _, h4, h5, _⟩ := opcheck_ok (derrK_pre h3 k hk)
        exact ⟨h4, h5⟩
      · rw [if_pos h3] at h; exact absurd h h3
    · rw [if_pos h2] at h; cases h
  · rw [if_pos h1] at h; exact absurd h h1
theorem dCost_of {l : List Off} {ps : List Int} (h1 : oall l = 0) (h2 : ps.length = l.length) (h3 : ∀ k, k < l.length → 0 ≤ ps.getD k 0 ∧ ps.getD k 0 ≤ total (steps l k)) : dCost l ps = (costK l ps l.length, powK ps l.length, 0) := by
  unfold dCost
  rw [if_neg (by simpa using h1), if_neg (by simpa using h2), if_neg]
  simp only [ne_eq, Decidable.not_not]
  refine derrK_ok fun j hj => ?_
  have := h3 j hj
  unfold opcheck
  rw [if_neg (by simpa using check_at h1 hj), if_neg (by omega)]
/-- costs of a whole number of offers -/
theorem costR_bd {st : List (Int × Int)} (h : Good st) (x : Int) (h0 : 0 ≤ x) (h1 : x ≤ total st) : -100000000000 ≤ costR st x ∧ costR st x ≤ 100000000000 := by
  have hs := h.sum
  obtain ⟨c1, c2, c3, c4⟩ := cacc_bd h x h0 (by omega) st.length
  rw [List.take_length] at c1 c2 c3 c4
  rw [← ocost_eq]
  unfold ocost
  omega
theorem costK_bd {l : List Off} {ps : List Int} (h : oall l = 0) (k : Nat) (hk : k ≤ l.length) (hp : ∀ j, j < k → 0 ≤ ps.getD j 0 ∧ ps.getD j 0 ≤ total (steps l j)) :
    -(100000000000 * (k : Int)) ≤ costK l ps k ∧ costK l ps k ≤ 100000000000 * (k : Int) ∧ 0 ≤ powK ps k ∧ powK ps k ≤ 100000 * (k : Int) := by
  induction k with
  | zero => simp [costK, powK, sumN]
  | succ k ih =>
    obtain ⟨i1, i2, i3, i4⟩ := ih (by omega) fun j hj => hp j (by omega)
    have hg := (steps_good h k (by omega)).1
    obtain ⟨p1, p2⟩ := hp k (by omega)
    obtain ⟨c1, c2⟩ := costR_bd hg _ p1 p2
    have hs := hg.sum
    have e1 : costK l ps (k + 1) = costK l ps k + costR (steps l k) (ps.getD k 0) := rfl
    have e2 : powK ps (k + 1) = powK ps k + ps.getD k 0 := rfl
    rw [e1, e2]
    omega
/-- DispatchSum, plain -/
theorem dispatch_sum {l : List Off} {d cost p : Int} {ps xs : List Int} (h : dcheck l d = 0) (hs : Served l l.length d ps cost p) :
    dCost l ps = (cost, d, 0) ∧ ((dCost l xs).2.2 = 0 → (dCost l xs).2.1 = d → cost ≤ (dCost l xs).1) := by
  obtain ⟨h1, d0, _, _⟩ := dcheck_ok h
  have hg : ∀ k, k < l.length → Good (steps l k) := fun k hk => (steps_good h1 k hk).1
  have hp : ∀ k, k < l.length → 0 ≤ ps.getD k 0 ∧ ps.getD k 0 ≤ total (steps l k) := fun k hk => by
    have := hs.at_ k hk
    have := least_most (P := p) (fun q hq => ((hg k hk).step q hq).1)
    omega
  refine ⟨?_, fun e1 e2 => ?_⟩
  · rw [dCost_of h1 hs.len hp]
    unfold costK powK
    rw [← hs.cost, hs.sum]
  · obtain ⟨_, _, hx, he⟩ := dCost_ok e1
    rw [he] at e2 ⊢
    exact served_least hg hs hx e2
end Go.Proofs.Ytpbomomgjhbljaa.Pl
