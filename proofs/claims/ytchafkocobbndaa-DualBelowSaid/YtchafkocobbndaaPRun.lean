/- Plain functions for unit.Run, and their laws; nothing of the program stands here. -/
import Derived.Test.YtchafkocobbndaaPUnit
namespace Go.Proofs.Ytchafkocobbndaa.Pl
theorem unext_valid {r : Rule} {s : St} {p : Int} (hv : ustate r s = 0) (h : (unext r s p).2.2 = 0) : ustate r (unext r s p).1 = 0 ∧ 0 ≤ (unext r s p).2.1 ∧ (unext r s p).2.1 ≤ 1000000 ∧
    (unext r s p).1.on = decide (p ≠ -1) ∧ (unext r s p).2.1 = (if p ≠ -1 ∧ s.on = false then r.start else 0) ∧ (unext r s p).1.since = (if decide (p ≠ -1) = s.on then min (s.since + 1) 200000 else 1) ∧
    ¬ (s.on = true ∧ p = -1 ∧ s.since < r.minOn) ∧ ¬ (s.on = false ∧ p ≠ -1 ∧ s.since < r.minOff) := by
  obtain ⟨h2, s1, s2, s3, s4⟩ := ustate_ok hv
  obtain ⟨r1, r2, r3, r4, r5, r6, r7, r8, r9, r10, r11, r12, r13⟩ := ucheck_ok h2
  unfold unext at h ⊢
  by_cases c1 : p ≠ -1 ∧ outB p r.least r.most = true
  · rw [if_pos c1] at h; simp at h
  · rw [if_neg c1] at h ⊢
    by_cases c2 : (s.on = true ∧ p = -1 ∧ s.since < r.minOn) ∨ (s.on = false ∧ p ≠ -1 ∧ s.since < r.minOff)
    · rw [if_pos c2] at h; simp at h
    · rw [if_neg c2] at h ⊢
      by_cases c3 : s.on = true ∧ p ≠ -1 ∧ outB p (s.power - r.down) (s.power + r.up) = true
      · rw [if_pos c3] at h; simp at h
      · rw [if_neg c3] at h ⊢
        simp only
        have hst : 0 ≤ (if p ≠ -1 ∧ s.on = false then r.start else 0) ∧ (if p ≠ -1 ∧ s.on = false then r.start else 0) ≤ 1000000 := by split <;> omega
        refine ⟨?_, hst.1, hst.2, trivial, trivial, trivial, fun h => c2 (.inl h), fun h => c2 (.inr h)⟩
        unfold ustate
        rw [if_neg (by simpa using h2)]
        have hs : outB (if decide (p ≠ -1) = s.on then min (s.since + 1) 200000 else 1) 1 200000 = false := by
          rw [outB_false]; split <;> omega
        simp only
        rw [hs, Bool.false_or]
        by_cases hp : p = -1
        · subst hp; simp
        · have ho : outB p r.least r.most = false := by
            cases ho : outB p r.least r.most
            · rfl
            · exact absurd ⟨hp, ho⟩ c1
          simp [hp, ho]
/-- one period of unit.Run: the state, the states so far, their cost, the error -/
def rstep (r : Rule) (a : St × List St × Int × Int) (p : Int) : St × List St × Int × Int :=
  if a.2.2.2 ≠ 0 then a else if (unext r a.1 p).2.2 ≠ 0 then (a.1, [], 0, (unext r a.1 p).2.2) else ((unext r a.1 p).1, a.2.1 ++ [(unext r a.1 p).1], a.2.2.1 + (unext r a.1 p).2.1, 0)
def racc (r : Rule) (s : St) (zs : List Int) : St × List St × Int × Int := zs.foldl (rstep r) (s, [], 0, 0)
theorem racc_snoc (r : Rule) (s : St) (zs : List Int) (p : Int) : racc r s (zs ++ [p]) = rstep r (racc r s zs) p := by
  unfold racc; rw [List.foldl_append]; rfl
theorem rstep_stuck (r : Rule) (a : St × List St × Int × Int) (zs : List Int) (h : a.2.2.2 ≠ 0) : zs.foldl (rstep r) a = a := by
  induction zs with
  | nil => rfl
  | cons p zs ih => rw [List.foldl_cons, show rstep r a p = a from if_pos h, ih]
theorem racc_stuck (r : Rule) (s : St) (zs : List Int) (k : Nat) (h : (racc r s (zs.take k)).2.2.2 ≠ 0) : racc r s zs = racc r s (zs.take k) := by
  have : racc r s zs = (zs.drop k).foldl (rstep r) (racc r s (zs.take k)) := by
    unfold racc; rw [← List.foldl_append, List.take_append_drop]
  rw [this, rstep_stuck r _ _ h]
/-- unit.Run -/
def urun (r : Rule) (s : St) (zs : List Int) : List St × Int × Int :=
  if ustate r s ≠ 0 then ([], 0, ustate r s) else if 24 < zs.length then ([], 0, 2) else (racc r s zs).2
theorem rstep_err (r : Rule) (a : St × List St × Int × Int) (p : Int) (h0 : a.2.2.2 = 0) (h : (unext r a.1 p).2.2 ≠ 0) : rstep r a p = (a.1, [], 0, (unext r a.1 p).2.2) := by
  unfold rstep; rw [if_neg (by simpa using h0), if_pos h]
theorem rstep_ok (r : Rule) (a : St × List St × Int × Int) (p : Int) (h0 : a.2.2.2 = 0) (h : (unext r a.1 p).2.2 = 0) : rstep r a p = ((unext r a.1 p).1, a.2.1 ++ [(unext r a.1 p).1], a.2.2.1 + (unext r a.1 p).2.1, 0) := by
  unfold rstep; rw [if_neg (by simpa using h0), if_neg (by simpa using h)]
theorem racc_inv (r : Rule) (s : St) (hv : ustate r s = 0) (zs : List Int) (h : (racc r s zs).2.2.2 = 0) :
    ustate r (racc r s zs).1 = 0 ∧ (racc r s zs).2.1.length = zs.length ∧ 0 ≤ (racc r s zs).2.2.1 ∧ (racc r s zs).2.2.1 ≤ 1000000 * zs.length := by
  induction zs using snocInd with
  | h0 => exact ⟨hv, rfl, by simp [racc], by simp [racc]⟩
  | h1 zs p ih =>
    rw [racc_snoc] at h ⊢
    by_cases h0 : (racc r s zs).2.2.2 = 0
    · obtain ⟨i1, i2, i3, i4⟩ := ih h0
      by_cases h1 : (unext r (racc r s zs).1 p).2.2 = 0
      · rw [rstep_ok _ _ _ h0 h1]
        obtain ⟨u1, u2, u3, _⟩ := unext_valid i1 h1
        refine ⟨u1, by simp [i2], by simp only; omega, by simp only [List.length_append, List.length_singleton]; omega⟩
      · rw [rstep_err _ _ _ h0 h1] at h
        exact absurd h h1
    · unfold rstep at h
      rw [if_pos h0] at h
      exact absurd h h0
theorem urun_bad {r : Rule} {s : St} {zs : List Int} (h : (urun r s zs).2.2 ≠ 0) : (urun r s zs).1 = [] ∧ (urun r s zs).2.1 = 0 := by
  unfold urun at h ⊢
  by_cases h1 : ustate r s = 0
  · rw [if_neg (by simpa using h1)] at h ⊢
    by_cases h2 : 24 < zs.length
    · rw [if_pos h2]; exact ⟨rfl, rfl⟩
    · rw [if_neg h2] at h ⊢
      clear h1 h2
      induction zs using snocInd with
      | h0 => simp [racc] at h
      | h1 zs p ih =>
        rw [racc_snoc] at h ⊢
        by_cases h0 : (racc r s zs).2.2.2 = 0
        · by_cases h1 : (unext r (racc r s zs).1 p).2.2 = 0
          · rw [rstep_ok _ _ _ h0 h1] at h; exact absurd rfl h
          · rw [rstep_err _ _ _ h0 h1]; exact ⟨rfl, rfl⟩
        · unfold rstep
          rw [if_pos h0]
          exact ih h0
  · rw [if_pos h1]; exact ⟨rfl, rfl⟩
theorem urun_good {r : Rule} {s : St} {zs : List Int} (h : (urun r s zs).2.2 = 0) : ustate r s = 0 ∧ zs.length ≤ 24 ∧ urun r s zs = (racc r s zs).2 ∧ (racc r s zs).2.2.2 = 0 := by
  unfold urun at h ⊢
  by_cases h1 : ustate r s = 0
  · rw [if_neg (by simpa using h1)] at h ⊢
    by_cases h2 : 24 < zs.length
    · rw [if_pos h2] at h; simp at h
    · rw [if_neg h2] at h ⊢
      exact ⟨h1, by omega, rfl, h⟩
  · rw [if_pos h1] at h; exact absurd h h1
theorem fold_shift (r : Rule) (σ : St) (L : List St) (c : Int) (zs : List Int) : zs.foldl (rstep r) (σ, L, c, 0) =
    if (racc r σ zs).2.2.2 ≠ 0 then (racc r σ zs) else ((racc r σ zs).1, L ++ (racc r σ zs).2.1, c + (racc r σ zs).2.2.1, 0) := by
  induction zs using snocInd with
  | h0 => simp [racc]
  | h1 zs p ih =>
    rw [List.foldl_append, List.foldl_cons, List.foldl_nil, ih, racc_snoc]
    generalize racc r σ zs = a
    by_cases h0 : a.2.2.2 = 0
    · rw [if_neg (by simpa using h0)]
      by_cases h1 : (unext r a.1 p).2.2 = 0
      · rw [rstep_ok r a p h0 h1, rstep_ok r (a.1, L ++ a.2.1, c + a.2.2.1, 0) p rfl h1, if_neg (by simp)]
        simp only [List.append_assoc]
        rw [Int.add_assoc]
      · rw [rstep_err r a p h0 h1, rstep_err r (a.1, L ++ a.2.1, c + a.2.2.1, 0) p rfl h1, if_pos h1]
    · have : rstep r a p = a := if_pos h0
      rw [if_pos h0, this, if_pos h0]
theorem racc_append (r : Rule) (s : St) (z1 z2 : List Int) (h : (racc r s z1).2.2.2 = 0) : racc r s (z1 ++ z2) =
    if (racc r (racc r s z1).1 z2).2.2.2 ≠ 0 then racc r (racc r s z1).1 z2 else ((racc r (racc r s z1).1 z2).1, (racc r s z1).2.1 ++ (racc r (racc r s z1).1 z2).2.1, (racc r s z1).2.2.1 + (racc r (racc r s z1).1 z2).2.2.1, 0) := by
  rw [← fold_shift]
  have e : racc r s z1 = ((racc r s z1).1, (racc r s z1).2.1, (racc r s z1).2.2.1, 0) := Prod.ext rfl (Prod.ext rfl (Prod.ext rfl h))
  rw [← e]
  unfold racc
  rw [List.foldl_append]
theorem racc_pre {r : Rule} {s : St} {zs : List Int} (h : (racc r s zs).2.2.2 = 0) (k : Nat) : (racc r s (zs.take k)).2.2.2 = 0 := by
  by_cases h0 : (racc r s (zs.take k)).2.2.2 = 0
  · exact h0
  · rw [racc_stuck r s zs k h0] at h; exact h
/-- a run in two parts -/
theorem racc_parts {r : Rule} {s : St} {zs : List Int} (h : (racc r s zs).2.2.2 = 0) (k : Nat) : (racc r (racc r s (zs.take k)).1 (zs.drop k)).2.2.2 = 0 ∧
    (racc r s zs).2.1 = (racc r s (zs.take k)).2.1 ++ (racc r (racc r s (zs.take k)).1 (zs.drop k)).2.1 ∧ (racc r s zs).2.2.1 = (racc r s (zs.take k)).2.2.1 + (racc r (racc r s (zs.take k)).1 (zs.drop k)).2.2.1 := by
  have h1 := racc_append r s (zs.take k) (zs.drop k) (racc_pre h k)
  rw [List.take_append_drop] at h1
  by_cases h2 : (racc r (racc r s (zs.take k)).1 (zs.drop k)).2.2.2 = 0
  · rw [if_neg (by simpa using h2)] at h1
    exact ⟨h2, by rw [h1], by rw [h1]⟩
  · rw [if_pos h2] at h1
    rw [h1] at h
    exact absurd h h2
/-- the state behind period k -/
theorem racc_get {r : Rule} {s : St} {zs : List Int} (hv : ustate r s = 0) (h : (racc r s zs).2.2.2 = 0) (k : Nat) (hk : k < zs.length) (hl : k < (racc r s zs).2.1.length) :
    (unext r (racc r s (zs.take k)).1 zs[k]).2.2 = 0 ∧ (racc r s zs).2.1[k] = (unext r (racc r s (zs.take k)).1 zs[k]).1 ∧ racc r s (zs.take (k + 1)) = rstep r (racc r s (zs.take k)) zs[k] := by
  have h0 := racc_pre h k
  have h1 := racc_pre h (k + 1)
  have hs : racc r s (zs.take (k + 1)) = rstep r (racc r s (zs.take k)) zs[k] := by rw [List.take_succ_eq_append_getElem hk, racc_snoc]
  have h2 : (unext r (racc r s (zs.take k)).1 zs[k]).2.2 = 0 := by
    by_cases h2 : (unext r (racc r s (zs.take k)).1 zs[k]).2.2 = 0
    · exact h2
    · rw [hs, rstep_err _ _ _ h0 h2] at h1; exact absurd h1 h2
  refine ⟨h2, ?_, hs⟩
  obtain ⟨_, p2, _⟩ := racc_parts h (k + 1)
  rw [hs, rstep_ok _ _ _ h0 h2] at p2
  have hlen := (racc_inv r s hv (zs.take k) h0).2.1
  rw [List.length_take] at hlen
  have e1 : (racc r s zs).2.1[k]? = some (unext r (racc r s (zs.take k)).1 zs[k]).1 := by
    rw [p2, List.append_assoc, List.getElem?_append_right (by omega)]
    have : k - (racc r s (zs.take k)).2.1.length = 0 := by omega
    rw [this]; rfl
  rw [List.getElem?_eq_getElem hl] at e1
  injection e1
/-- how often a schedule starts, and whether it is on -/
def starts (on : Bool) (l : List St) : Int × Bool := l.foldl (fun a x => (a.1 + (if x.on && !a.2 then 1 else 0), x.on)) (0, on)
theorem starts_snoc (on : Bool) (l : List St) (x : St) : starts on (l ++ [x]) = ((starts on l).1 + (if x.on && !(starts on l).2 then 1 else 0), x.on) := by
  unfold starts; rw [List.foldl_append]; rfl
theorem starts_cost {r : Rule} {s : St} (hv : ustate r s = 0) {zs : List Int} (h : (racc r s zs).2.2.2 = 0) : (racc r s zs).2.2.1 = (starts s.on (racc r s zs).2.1).1 * r.start ∧ (starts s.on (racc r s zs).2.1).2 = (racc r s zs).1.on := by
  induction zs using snocInd with
  | h0 => simp [racc, starts]
  | h1 zs p ih =>
    have h0 : (racc r s zs).2.2.2 = 0 := by
      have := racc_pre h zs.length
      rwa [List.take_left'] at this
      rfl
    obtain ⟨i1, i2⟩ := ih h0
    have hx : (unext r (racc r s zs).1 p).2.2 = 0 := by
      by_cases hx : (unext r (racc r s zs).1 p).2.2 = 0
      · exact hx
      · rw [racc_snoc, rstep_err _ _ _ h0 hx] at h; exact absurd h hx
    obtain ⟨_, _, _, u1, u2, _⟩ := unext_valid (racc_inv r s hv zs h0).1 hx
    rw [racc_snoc, rstep_ok _ _ _ h0 hx, starts_snoc]
    refine ⟨?_, rfl⟩
    simp only
    rw [i1, i2, u1, u2, Int.add_mul]
    congr 1
    cases (racc r s zs).1.on <;> by_cases hp : p = -1 <;> simp [hp]
theorem starts_bd (on : Bool) (l : List St) : 0 ≤ (starts on l).1 ∧ (starts on l).1 ≤ l.length := by
  induction l using snocInd with
  | h0 => simp [starts]
  | h1 l x ih =>
    rw [starts_snoc]
    simp only [List.length_append, List.length_singleton]
    split <;> omega
end Go.Proofs.Ytchafkocobbndaa.Pl
