/- Plain functions for package hours, and their laws; nothing of the program stands here. -/
namespace Go.Proofs.YtoblpcljhblnmaaGreatDoor.Pl
def outB (n lo hi : Int) : Bool := decide (n < lo) || decide (hi < n)
theorem outB_false {n lo hi : Int} : outB n lo hi = false ↔ lo ≤ n ∧ n ≤ hi := by
  unfold outB; simp
/-- the first index that p takes, or -1 -/
def idxOf {α : Type} (p : α → Bool) (zs : List α) : Int := match zs.findIdx? p with | some i => (i : Int) | none => -1
def has {α : Type} (p : α → Bool) (zs : List α) : Bool := zs.any p
theorem idxOf_hit {α : Type} (p : α → Bool) (zs : List α) (k : Nat) (hk : k < zs.length) (h1 : p zs[k] = true) (h0 : ∀ j (hj : j < zs.length), j < k → p zs[j] = false) : idxOf p zs = k := by
  have : zs.findIdx? p = some k := by
    rw [List.findIdx?_eq_some_iff_getElem]
    exact ⟨hk, h1, fun j hj => by simp [h0 j (by omega) hj]⟩
  simp [idxOf, this]
theorem idxOf_miss {α : Type} (p : α → Bool) (zs : List α) (h0 : ∀ j (hj : j < zs.length), p zs[j] = false) : idxOf p zs = -1 := by
  have : zs.findIdx? p = none := by
    rw [List.findIdx?_eq_none_iff]
    intro x hx
    obtain ⟨j, hj, rfl⟩ := List.getElem_of_mem hx
    exact h0 j hj
  simp [idxOf, this]
theorem has_idx {α : Type} (p : α → Bool) (zs : List α) : decide (0 ≤ idxOf p zs) = has p zs := by
  unfold idxOf has
  cases h : zs.findIdx? p with
  | none =>
    have : zs.any p = false := by
      rw [List.findIdx?_eq_none_iff] at h
      simpa using h
    simp [this]
  | some i =>
    have : zs.any p = true := by
      rw [List.findIdx?_eq_some_iff_getElem] at h
      obtain ⟨hi, h1, _⟩ := h
      rw [List.any_eq_true]
      exact ⟨_, List.getElem_mem hi, h1⟩
    simp [this]
theorem has_false {α : Type} {p : α → Bool} {zs : List α} (h : has p zs = false) (j : Nat) (hj : j < zs.length) : p zs[j] = false := by
  unfold has at h
  rw [List.any_eq_false] at h
  simpa using h _ (List.getElem_mem hj)
/-- hours.Check -/
def hcheck (zs : List Int) : Int := if 24 < zs.length then 2 else if has (outB · (-100000) 100000) zs then 4 else 0
theorem hcheck_ok {zs : List Int} (h : hcheck zs = 0) : zs.length ≤ 24 ∧ ∀ (j : Nat) (hj : j < zs.length), -100000 ≤ zs[j] ∧ zs[j] ≤ 100000 := by
  unfold hcheck at h
  by_cases h1 : 24 < zs.length
  · rw [if_pos h1] at h; omega
  · rw [if_neg h1] at h
    cases h2 : has (outB · (-100000) 100000) zs with
    | true => rw [h2, if_pos rfl] at h; omega
    | false => exact ⟨by omega, fun j hj => outB_false.1 (has_false h2 j hj)⟩
theorem snocInd {α : Type} {P : List α → Prop} (h0 : P []) (h1 : ∀ l x, P l → P (l ++ [x])) (l : List α) : P l := by
  have h : ∀ r : List α, P r.reverse := by
    intro r
    induction r with
    | nil => exact h0
    | cons x r ih => rw [List.reverse_cons]; exact h1 _ _ ih
  have := h l.reverse
  rwa [List.reverse_reverse] at this
/-- hours.Errors: one pair (the forecast first) -/
def errStep (x : Int × Int × Int) (p : Int × Int) : Int × Int × Int := (max (max x.1 (p.2 - p.1)) (-(p.2 - p.1)), x.2.1 + (p.2 - p.1), x.2.2 + (p.2 - p.1) * (p.2 - p.1))
def errAcc (l : List (Int × Int)) : Int × Int × Int := l.foldl errStep (0, 0, 0)
def herrors (f a : List Int) : Int × Int × Int × Int :=
  if hcheck f ≠ 0 then (0, 0, 0, hcheck f) else if hcheck a ≠ 0 then (0, 0, 0, hcheck a) else if f.length ≠ a.length then (0, 0, 0, 3)
  else ((errAcc (f.zip a)).1, (errAcc (f.zip a)).2.1, (errAcc (f.zip a)).2.2, 0)
theorem errAcc_snoc (l : List (Int × Int)) (p : Int × Int) : errAcc (l ++ [p]) = errStep (errAcc l) p := by
  unfold errAcc; rw [List.foldl_append]; rfl
theorem take_zip_snoc (f a : List Int) (k : Nat) (hf : k < f.length) (ha : k < a.length) : (f.zip a).take (k + 1) = (f.zip a).take k ++ [(f[k], a[k])] := by
  rw [List.take_succ_eq_append_getElem (by simp; omega)]
  simp
theorem sq_bd (d : Int) (d1 : -200000 ≤ d) (d2 : d ≤ 200000) : 0 ≤ d * d ∧ d * d ≤ 40000000000 := by
  have hn : 0 ≤ d * d := by
    rcases Int.le_total 0 d with h0 | h0
    · exact Int.mul_nonneg h0 h0
    · exact Int.mul_nonneg_of_nonpos_of_nonpos h0 h0
  refine ⟨hn, ?_⟩
  rcases Int.le_total 0 d with h0 | h0
  · have : d * d ≤ 200000 * 200000 := Int.mul_le_mul d2 d2 h0 (by omega)
    omega
  · have : (-d) * (-d) ≤ 200000 * 200000 := Int.mul_le_mul (by omega) (by omega) (by omega) (by omega)
    rw [Int.neg_mul_neg] at this
    omega
theorem errAcc_bd (l : List (Int × Int)) (h : ∀ p ∈ l, (-100000 ≤ p.1 ∧ p.1 ≤ 100000) ∧ -100000 ≤ p.2 ∧ p.2 ≤ 100000) :
    0 ≤ (errAcc l).1 ∧ (errAcc l).1 ≤ 200000 ∧ -(200000 * (l.length : Int)) ≤ (errAcc l).2.1 ∧ (errAcc l).2.1 ≤ 200000 * (l.length : Int) ∧ 0 ≤ (errAcc l).2.2 ∧ (errAcc l).2.2 ≤ 40000000000 * (l.length : Int) := by
  induction l using snocInd with
  | h0 => simp [errAcc]
  | h1 l p ih =>
    obtain ⟨h1, h2, h3, h4, h5, h6⟩ := ih fun q hq => h q (by simp [hq])
    obtain ⟨⟨a1, a2⟩, b1, b2⟩ := h p (by simp)
    rw [errAcc_snoc]
    have hsq := sq_bd (p.2 - p.1) (by omega) (by omega)
    simp only [errStep, List.length_append, List.length_singleton]
    refine ⟨by omega, by omega, by omega, by omega, by omega, by omega⟩
theorem errAcc_take {f a : List Int} (hf : hcheck f = 0) (ha : hcheck a = 0) (k : Nat) :
    0 ≤ (errAcc ((f.zip a).take k)).1 ∧ (errAcc ((f.zip a).take k)).1 ≤ 200000 ∧ -4800000 ≤ (errAcc ((f.zip a).take k)).2.1 ∧ (errAcc ((f.zip a).take k)).2.1 ≤ 4800000 ∧
      0 ≤ (errAcc ((f.zip a).take k)).2.2 ∧ (errAcc ((f.zip a).take k)).2.2 ≤ 960000000000 := by
  obtain ⟨f1, f2⟩ := hcheck_ok hf
  obtain ⟨a1, a2⟩ := hcheck_ok ha
  have hl : ((f.zip a).take k).length ≤ 24 := by rw [List.length_take, List.length_zip]; omega
  have h := errAcc_bd ((f.zip a).take k) (by
    intro p hp
    obtain ⟨j, hj, rfl⟩ := List.getElem_of_mem (List.mem_of_mem_take hp)
    rw [List.getElem_zip]
    exact ⟨f2 _ _, a2 _ _⟩)
  omega
theorem herrors_ok {f a : List Int} (hf : hcheck f = 0) (ha : hcheck a = 0) (hl : f.length = a.length) : herrors f a = ((errAcc (f.zip a)).1, (errAcc (f.zip a)).2.1, (errAcc (f.zip a)).2.2, 0) := by
  unfold herrors; rw [if_neg (by simp [hf]), if_neg (by simp [ha]), if_neg (by simp [hl])]
theorem herrors_len {f a : List Int} (hf : hcheck f = 0) (ha : hcheck a = 0) (hl : f.length ≠ a.length) : herrors f a = (0, 0, 0, 3) := by
  unfold herrors; rw [if_neg (by simp [hf]), if_neg (by simp [ha]), if_pos hl]
/-- hours.Band -/
def bandOne (most n : Int) : Int × Int := (min (max (n - most) 0) 100000, min (max (n + most) 0) 100000)
def hband (zs : List Int) (most : Int) : List (Int × Int) × Int :=
  if hcheck zs ≠ 0 then ([], hcheck zs) else if outB most 0 100000 = true then ([], 1) else (zs.map (bandOne most), 0)
theorem herrors_ex : herrors [5, 5] [7, 4] = (2, 1, 5, 0) := by decide
theorem hband_ex : hband [5] 2 = ([(3, 7)], 0) := by decide
theorem herrors_bad {f a : List Int} (h : (herrors f a).2.2.2 ≠ 0) : (herrors f a).1 = 0 ∧ (herrors f a).2.1 = 0 ∧ (herrors f a).2.2.1 = 0 := by
  unfold herrors at h ⊢
  by_cases h1 : hcheck f = 0
  · by_cases h2 : hcheck a = 0
    · by_cases h3 : f.length = a.length
      · rw [if_neg (by simp [h1]), if_neg (by simp [h2]), if_neg (by simp [h3])] at h; exact absurd rfl h
      · rw [if_neg (by simp [h1]), if_neg (by simp [h2]), if_pos h3]; exact ⟨rfl, rfl, rfl⟩
    · rw [if_neg (by simp [h1]), if_pos h2]; exact ⟨rfl, rfl, rfl⟩
  · rw [if_pos h1]; exact ⟨rfl, rfl, rfl⟩
theorem herrors_good {f a : List Int} (h : (herrors f a).2.2.2 = 0) : hcheck f = 0 ∧ hcheck a = 0 ∧ f.length = a.length := by
  unfold herrors at h
  by_cases h1 : hcheck f = 0
  · by_cases h2 : hcheck a = 0
    · by_cases h3 : f.length = a.length
      · exact ⟨h1, h2, h3⟩
      · rw [if_neg (by simp [h1]), if_neg (by simp [h2]), if_pos h3] at h; simp at h
    · rw [if_neg (by simp [h1]), if_pos h2] at h; exact absurd h h2
  · rw [if_pos h1] at h; exact absurd h h1
theorem errAcc_sq (l : List (Int × Int)) : (errAcc l).1 ≤ (errAcc l).2.2 ∧ (errAcc l).2.1 ≤ (errAcc l).2.2 ∧ -(errAcc l).2.1 ≤ (errAcc l).2.2 ∧ 0 ≤ (errAcc l).2.2 := by
  induction l using snocInd with
  | h0 => simp [errAcc]
  | h1 l p ih =>
    rw [errAcc_snoc]
    generalize errAcc l = x at *
    simp only [errStep]
    generalize p.2 - p.1 = d
    have h1 : d ≤ d * d ∧ -d ≤ d * d := by
      rcases Int.lt_trichotomy d 0 with h | rfl | h
      · have h2 : (-d) * 1 ≤ (-d) * (-d) := Int.mul_le_mul_of_nonneg_left (by omega) (by omega)
        rw [Int.neg_mul_neg] at h2
        omega
      · simp
      · have h2 : d * 1 ≤ d * d := Int.mul_le_mul_of_nonneg_left (by omega) (by omega)
        omega
    omega
theorem errAcc_most (l : List (Int × Int)) : ∀ p ∈ l, p.2 - p.1 ≤ (errAcc l).1 ∧ -(p.2 - p.1) ≤ (errAcc l).1 := by
  induction l using snocInd with
  | h0 => simp
  | h1 l q ih =>
    intro p hp
    rw [errAcc_snoc]
    simp only [errStep]
    rcases List.mem_append.1 hp with h | h
    · have := ih p h; omega
    · rw [List.mem_singleton.1 h]; omega
theorem hband_good {f : List Int} {m : Int} (hf : hcheck f = 0) (h0 : 0 ≤ m) : hband f (min m 100000) = (f.map (bandOne (min m 100000)), 0) := by
  unfold hband
  rw [if_neg (by simp [hf]), if_neg (by rw [Bool.not_eq_true]; exact outB_false.2 (by omega))]
theorem band_holds {f a : List Int} (hf : hcheck f = 0) (ha : hcheck a = 0) (hm : (errAcc (f.zip a)).1 ≤ 100000) (k : Nat) (h1 : k < f.length) (h2 : k < a.length) (hn : 0 ≤ a[k]) :
    (bandOne (min (errAcc (f.zip a)).1 100000) f[k]).1 ≤ a[k] ∧ a[k] ≤ (bandOne (min (errAcc (f.zip a)).1 100000) f[k]).2 := by
  have b1 := (hcheck_ok hf).2 k h1
  have b2 := (hcheck_ok ha).2 k h2
  have h := errAcc_most (f.zip a) (f[k], a[k]) (by
    rw [List.mem_iff_getElem]
    exact ⟨k, by simp; omega, by simp⟩)
  simp only at h
  simp only [bandOne]
  omega
end Go.Proofs.YtoblpcljhblnmaaGreatDoor.Pl
