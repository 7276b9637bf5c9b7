/- offer.CheckAll, plain. No program. -/
import Derived.Test.YtchafkocobbndaaPDisp
import Derived.Test.YtchafkocobbndaaPHours
namespace Go.Proofs.Ytchafkocobbndaa.Pl
def oallS (prev : List Off) (o : Off) : Int := if ocheck o.1 o.2 ≠ 0 then ocheck o.1 o.2 else if has (fun z : Off => z.1.toList == o.1.toList) prev = true then 7 else 0
def oallK (l : List Off) : Nat → Int
  | 0 => 0
  | k + 1 => if oallK l k = 0 then oallS (l.take k) (l.getD k (⟨#[]⟩, [])) else oallK l k
def oall (l : List Off) : Int := if 10 < l.length then 2 else oallK l l.length
theorem oallK_stay {l : List Off} {k m : Nat} (h : k ≤ m) (he : oallK l k ≠ 0) : oallK l m = oallK l k := by
  induction m with
  | zero => rw [show k = 0 from by omega]
  | succ m ih =>
    by_cases e : k = m + 1
    · rw [e]
    · have := ih (by omega)
      rw [oallK, if_neg (by rw [this]; exact he), this]
theorem oallK_err {l : List Off} {k : Nat} {e : Int} (hn : ¬ 10 < l.length) (hk : k < l.length) (h0 : oallK l k = 0) (h : oallS (l.take k) l[k] = e) (he : e ≠ 0) : oall l = e := by
  have h1 : oallK l (k + 1) = e := by
    rw [oallK, if_pos h0, List.getD_eq_getElem?_getD, List.getElem?_eq_getElem hk]; exact h
  rw [oall, if_neg hn, oallK_stay (show k + 1 ≤ l.length by omega) (by rw [h1]; exact he), h1]
theorem oallK_ok {l : List Off} {k : Nat} (hk : k < l.length) (h0 : oallK l k = 0) (h : oallS (l.take k) l[k] = 0) : oallK l (k + 1) = 0 := by
  rw [oallK, if_pos h0, List.getD_eq_getElem?_getD, List.getElem?_eq_getElem hk]; exact h
theorem oallK_pre {l : List Off} {k : Nat} (h : oallK l k = 0) (j : Nat) (hj : j < l.length) (hjk : j < k) : oallS (l.take j) l[j] = 0 := by
  induction k with
  | zero => omega
  | succ k ih =>
    have h0 : oallK l k = 0 := by
      by_cases e : oallK l k = 0
      · exact e
      · rw [oallK, if_neg e] at h; exact absurd h e
    by_cases e : j = k
    · subst e
      rw [oallK, if_pos h0, List.getD_eq_getElem?_getD, List.getElem?_eq_getElem hj] at h
      exact h
    · exact ih h0 (by omega)
theorem oall_good {l : List Off} (h : oall l = 0) : l.length ≤ 10 ∧ ∀ o ∈ l, ocheck o.1 o.2 = 0 := by
  have hl : l.length ≤ 10 := by
    unfold oall at h
    split at h
    · cases h
    · omega
  refine ⟨hl, fun o ho => ?_⟩
  rw [oall, if_neg (by omega)] at h
  obtain ⟨j, hj, rfl⟩ := List.getElem_of_mem ho
  have := oallK_pre h j hj hj
  unfold oallS at this
  split at this
  · rename_i h1; exact absurd this h1
  · rename_i h1; simpa using h1
theorem steps_good {l : List Off} (h : oall l = 0) (k : Nat) (hk : k < l.length) : Good (steps l k) ∧ (steps l k).length ≤ 12 := by
  unfold steps
  rw [List.getD_eq_getElem?_getD, List.getElem?_eq_getElem hk]
  obtain ⟨h1, h2, _⟩ := ocheck_ok ((oall_good h).2 _ (List.getElem_mem hk))
  exact ⟨h1, h2⟩
/-- dispatch.check -/
def totals (l : List Off) : Nat → Int := sumN (fun k => total (steps l k))
def dcheck (l : List Off) (d : Int) : Int := if oall l ≠ 0 then oall l else if d < 0 ∨ 1000000 < d then 4 else if totals l l.length < d then 8 else 0
theorem dcheck_ok {l : List Off} {d : Int} (h : dcheck l d = 0) : oall l = 0 ∧ 0 ≤ d ∧ d ≤ 1000000 ∧ d ≤ totals l l.length := by
  unfold dcheck at h
  split at h
  · rename_i h1; exact absurd h h1
  · rename_i h1
    split at h
    · cases h
    · split at h
      · cases h
      · exact ⟨by simpa using h1, by omega, by omega, by omega⟩
theorem totals_bd {l : List Off} (h : oall l = 0) (k : Nat) (hk : k ≤ l.length) : 0 ≤ totals l k ∧ totals l k ≤ 100000 * (k : Int) := by
  induction k with
  | zero => simp [totals, sumN]
  | succ k ih =>
    have h1 := ih (by omega)
    have h2 := (steps_good h k (by omega)).1
    have h3 := h2.nonneg
    have h4 := h2.sum
    unfold totals at h1 ⊢
    rw [sumN]
    omega
end Go.Proofs.Ytchafkocobbndaa.Pl
