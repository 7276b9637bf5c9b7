/- The plain law of an auction: fills that fit and leave nothing to trade. No program. -/
import Derived.Test.YtibhgcldogfonaaGreatDoorVer
namespace Go.Proofs.YtibhgcldogfonaaGreatDoor.Pl
/-- the order wants the price above its own -/
def lowC (x : Ord × Int) : Prop := (x.1.buy = false ∧ 0 < x.2) ∨ (x.1.buy = true ∧ x.2 < x.1.pow)
def highC (x : Ord × Int) : Prop := (x.1.buy = true ∧ 0 < x.2) ∨ (x.1.buy = false ∧ x.2 < x.1.pow)
theorem fitStep_lo (s : Int × Int) (x : Ord × Int) : s.1 ≤ (fitStep s x).1 ∧ (lowC x → x.1.price ≤ (fitStep s x).1) ∧ ((fitStep s x).1 = s.1 ∨ (lowC x ∧ (fitStep s x).1 = x.1.price)) := by
  obtain ⟨⟨nm, b, pw, pr⟩, f⟩ := x
  unfold fitStep lowC
  cases b <;> by_cases g1 : 0 < f <;> by_cases g2 : f < pw <;> simp [g1, g2] <;> omega
theorem fitStep_hi (s : Int × Int) (x : Ord × Int) : (fitStep s x).2 ≤ s.2 ∧ (highC x → (fitStep s x).2 ≤ x.1.price) ∧ ((fitStep s x).2 = s.2 ∨ (highC x ∧ (fitStep s x).2 = x.1.price)) := by
  obtain ⟨⟨nm, b, pw, pr⟩, f⟩ := x
  unfold fitStep highC
  cases b <;> by_cases g1 : 0 < f <;> by_cases g2 : f < pw <;> simp [g1, g2] <;> omega
theorem fitL_lo (z : List (Ord × Int)) : ∀ s : Int × Int, s.1 ≤ (z.foldl fitStep s).1 ∧ (∀ x ∈ z, lowC x → x.1.price ≤ (z.foldl fitStep s).1) ∧ ((z.foldl fitStep s).1 = s.1 ∨ ∃ x ∈ z, lowC x ∧ (z.foldl fitStep s).1 = x.1.price) := by
  induction z with
  | nil => intro s; exact ⟨Int.le_refl _, by simp, .inl rfl⟩
  | cons a z ih =>
    intro s
    obtain ⟨h1, h2, h3⟩ := ih (fitStep s a)
    obtain ⟨g1, g2, g3⟩ := fitStep_lo s a
    rw [List.foldl_cons]
    refine ⟨by omega, fun x hx hl => ?_, ?_⟩
    · rcases List.mem_cons.1 hx with rfl | hx
      · have := g2 hl; omega
      · exact h2 x hx hl
    · rcases h3 with h3 | ⟨x, hx, hl, h3⟩
      · rcases g3 with g3 | ⟨hl, g3⟩
        · exact .inl (h3.trans g3)
        · exact .inr ⟨a, by simp, hl, h3.trans g3⟩
      · exact .inr ⟨x, by simp [hx], hl, h3⟩
theorem fitL_hi (z : List (Ord × Int)) : ∀ s : Int × Int, (z.foldl fitStep s).2 ≤ s.2 ∧ (∀ x ∈ z, highC x → (z.foldl fitStep s).2 ≤ x.1.price) ∧ ((z.foldl fitStep s).2 = s.2 ∨ ∃ x ∈ z, highC x ∧ (z.foldl fitStep s).2 = x.1.price) := by
  induction z with
  | nil => intro s; exact ⟨Int.le_refl _, by simp, .inl rfl⟩
  | cons a z ih =>
    intro s
    obtain ⟨h1, h2, h3⟩ := ih (fitStep s a)
    obtain ⟨g1, g2, g3⟩ := fitStep_hi s a
    rw [List.foldl_cons]
    refine ⟨by omega, fun x hx hl => ?_, ?_⟩
    · rcases List.mem_cons.1 hx with rfl | hx
      · have := g2 hl; omega
      · exact h2 x hx hl
    · rcases h3 with h3 | ⟨x, hx, hl, h3⟩
      · rcases g3 with g3 | ⟨hl, g3⟩
        · exact .inl (h3.trans g3)
        · exact .inr ⟨a, by simp, hl, h3.trans g3⟩
      · exact .inr ⟨x, by simp [hx], hl, h3⟩
/-- the i-th order and its fill -/
def oAt (l : List Ord) (i : Nat) : Ord := l.getD i default
def fAt (fs : List Int) (i : Nat) : Int := fs.getD i 0
theorem oAt_eq {l : List Ord} {i : Nat} (h : i < l.length) : oAt l i = l[i] := by unfold oAt; rw [List.getD_eq_getElem?_getD, List.getElem?_eq_getElem h]; rfl
theorem fAt_eq {l : List Int} {i : Nat} (h : i < l.length) : fAt l i = l[i] := by unfold fAt; rw [List.getD_eq_getElem?_getD, List.getElem?_eq_getElem h]; rfl
theorem zip_mem {l : List Ord} {fs : List Int} (hl : fs.length = l.length) {x : Ord × Int} (h : x ∈ l.zip fs) : ∃ i, i < l.length ∧ x = (oAt l i, fAt fs i) := by
  obtain ⟨i, hi, rfl⟩ := List.getElem_of_mem h
  rw [List.length_zip] at hi
  exact ⟨i, by omega, by rw [List.getElem_zip, oAt_eq (by omega), fAt_eq (by omega)]⟩
theorem mem_zip' {l : List Ord} {fs : List Int} (hl : fs.length = l.length) {i : Nat} (hi : i < l.length) : (oAt l i, fAt fs i) ∈ l.zip fs := by
  rw [oAt_eq hi, fAt_eq (by omega)]
  have : (l.zip fs)[i]'(by rw [List.length_zip]; omega) = (l[i], fs[i]'(by omega)) := List.getElem_zip
  rw [← this]
  exact List.getElem_mem _
theorem fit_lo {l : List Ord} {fs : List Int} (hl : fs.length = l.length) : (∀ i, i < l.length → lowC (oAt l i, fAt fs i) → (oAt l i).price ≤ (fit l fs).1) ∧ -1099511627776 ≤ (fit l fs).1 ∧ ((fit l fs).1 = -1099511627776 ∨ ∃ i, i < l.length ∧ lowC (oAt l i, fAt fs i) ∧ (fit l fs).1 = (oAt l i).price) := by
  obtain ⟨h1, h2, h3⟩ := fitL_lo (l.zip fs) (-1099511627776, 1099511627776)
  refine ⟨fun i hi hc => h2 _ (mem_zip' hl hi) hc, h1, ?_⟩
  rcases h3 with h3 | ⟨x, hx, hc, h3⟩
  · exact .inl h3
  · obtain ⟨i, hi, rfl⟩ := zip_mem hl hx
    exact .inr ⟨i, hi, hc, h3⟩
theorem fit_hi {l : List Ord} {fs : List Int} (hl : fs.length = l.length) : (∀ i, i < l.length → highC (oAt l i, fAt fs i) → (fit l fs).2 ≤ (oAt l i).price) ∧ (fit l fs).2 ≤ 1099511627776 ∧ ((fit l fs).2 = 1099511627776 ∨ ∃ i, i < l.length ∧ highC (oAt l i, fAt fs i) ∧ (fit l fs).2 = (oAt l i).price) := by
  obtain ⟨h1, h2, h3⟩ := fitL_hi (l.zip fs) (-1099511627776, 1099511627776)
  refine ⟨fun i hi hc => h2 _ (mem_zip' hl hi) hc, h1, ?_⟩
  rcases h3 with h3 | ⟨x, hx, hc, h3⟩
  · exact .inl h3
  · obtain ⟨i, hi, rfl⟩ := zip_mem hl hx
    exact .inr ⟨i, hi, hc, h3⟩
/- sums of a side -/
theorem foldl_add (l : List Int) : ∀ a : Int, l.foldl (· + ·) a = a + l.foldl (· + ·) 0 := by
  induction l with
  | nil => intro a; simp
  | cons x l ih => intro a; rw [List.foldl_cons, List.foldl_cons, ih, ih (0 + x)]; omega
theorem sideS_cons (b : Bool) (x : Ord × Int) (z : List (Ord × Int)) : sideS b (x :: z) = sidep b x + sideS b z := by
  unfold sideS
  rw [List.map_cons, List.foldl_cons, foldl_add]; omega
theorem sideS_append (b : Bool) (y z : List (Ord × Int)) : sideS b (y ++ z) = sideS b y + sideS b z := by
  induction y with
  | nil => simp [sideS]
  | cons x y ih => rw [List.cons_append, sideS_cons, sideS_cons, ih]; omega
theorem gains_cons (p : Int) (x : Ord × Int) (z : List (Ord × Int)) : gains p (x :: z) = ogain p x + gains p z := by
  unfold gains
  rw [List.map_cons, List.foldl_cons, foldl_add]; omega
/-- fills that are nowhere more on a side have no greater sum -/
theorem sideS_mono (b : Bool) : ∀ (l : List Ord) (fs gs : List Int), fs.length = l.length → gs.length = l.length → (∀ i, i < l.length → (oAt l i).buy = b → fAt fs i ≤ fAt gs i) → sideS b (l.zip fs) ≤ sideS b (l.zip gs) := by
  intro l
  induction l with
  | nil => intro fs gs _ _ _; simp [sideS]
  | cons o l ih =>
    intro fs gs hf hg h
    cases fs with
    | nil => cases hf
    | cons f fs =>
      cases gs with
      | nil => cases hg
      | cons g gs =>
        rw [List.zip_cons_cons, List.zip_cons_cons, sideS_cons, sideS_cons]
        have h1 := ih fs gs (by simpa using hf) (by simpa using hg) (fun i hi hb => h (i + 1) (by simpa using hi) hb)
        have h2 : sidep b (o, f) ≤ sidep b (o, g) := by
          unfold sidep
          split
          · rename_i hb
            exact h 0 (by simp) hb
          · exact Int.le_refl _
        omega
theorem sideS_lt (b : Bool) : ∀ (l : List Ord) (fs gs : List Int), fs.length = l.length → gs.length = l.length → (∀ i, i < l.length → (oAt l i).buy = b → fAt fs i ≤ fAt gs i) → ∀ j, j < l.length → (oAt l j).buy = b → fAt fs j < fAt gs j → sideS b (l.zip fs) < sideS b (l.zip gs) := by
  intro l
  induction l with
  | nil => intro fs gs _ _ _ j hj; simp at hj
  | cons o l ih =>
    intro fs gs hf hg h j hj hb hlt
    cases fs with
    | nil => cases hf
    | cons f fs =>
      cases gs with
      | nil => cases hg
      | cons g gs =>
        rw [List.zip_cons_cons, List.zip_cons_cons, sideS_cons, sideS_cons]
        have hf' : fs.length = l.length := by simpa using hf
        have hg' : gs.length = l.length := by simpa using hg
        have h1 := sideS_mono b l fs gs hf' hg' (fun i hi hb => h (i + 1) (by simpa using hi) hb)
        have h2 : sidep b (o, f) ≤ sidep b (o, g) := by
          unfold sidep
          split
          · rename_i hb
            exact h 0 (by simp) hb
          · exact Int.le_refl _
        cases j with
        | zero =>
          have h3 : sidep b (o, f) < sidep b (o, g) := by
            have hb' : o.buy = b := hb
            unfold sidep
            rw [if_pos hb', if_pos hb']
            exact hlt
          omega
        | succ j =>
          have := ih fs gs hf' hg' (fun i hi hb => h (i + 1) (by simpa using hi) hb) j (by simpa using hj) hb hlt
          omega
/-- where one fill is less and the sum is not, another is more -/
theorem other_more {b : Bool} {l : List Ord} {fs gs : List Int} (hf : fs.length = l.length) (hg : gs.length = l.length) {j : Nat} (hj : j < l.length) (hb : (oAt l j).buy = b) (hlt : fAt fs j < fAt gs j) (hs : sideS b (l.zip gs) ≤ sideS b (l.zip fs)) :
    ∃ k, k < l.length ∧ (oAt l k).buy = b ∧ fAt gs k < fAt fs k := by
  by_cases h : ∃ k, k < l.length ∧ (oAt l k).buy = b ∧ fAt gs k < fAt fs k
  · exact h
  · have := sideS_lt b l fs gs hf hg (fun i hi hb => by
      by_cases e : fAt fs i ≤ fAt gs i
      · exact e
      · exact absurd ⟨i, hi, hb, by omega⟩ h) j hj hb hlt
    omega
theorem some_more {b : Bool} {l : List Ord} {fs gs : List Int} (hf : fs.length = l.length) (hg : gs.length = l.length) (hs : sideS b (l.zip gs) < sideS b (l.zip fs)) : ∃ k, k < l.length ∧ (oAt l k).buy = b ∧ fAt gs k < fAt fs k := by
  by_cases h : ∃ k, k < l.length ∧ (oAt l k).buy = b ∧ fAt gs k < fAt fs k
  · exact h
  · have := sideS_mono b l fs gs hf hg (fun i hi hb => by
      by_cases e : fAt fs i ≤ fAt gs i
      · exact e
      · exact absurd ⟨i, hi, hb, by omega⟩ h)
    omega
/-- what a clearing gives -/
structure Cleared (l : List Ord) (fs : List Int) (q : Int) : Prop where
  len : fs.length = l.length
  rng : ∀ i, i < l.length → 0 ≤ fAt fs i ∧ fAt fs i ≤ (oAt l i).pow
  buys : sideS true (l.zip fs) = q
  sells : sideS false (l.zip fs) = q
  fits : (fit l fs).1 ≤ (fit l fs).2
  ends : ∃ t : Int, ∀ i, i < l.length → ((oAt l i).buy = true → t < (oAt l i).price → fAt fs i = (oAt l i).pow) ∧ ((oAt l i).buy = false → (oAt l i).price ≤ t → fAt fs i = (oAt l i).pow)
/-- the surplus of fills with equal sums does not depend on the price -/
theorem gains_move (p p' : Int) (z : List (Ord × Int)) : gains p z = gains p' z + (p' - p) * (sideS true z - sideS false z) := by
  induction z with
  | nil => simp [gains, sideS]
  | cons x z ih =>
    rw [gains_cons, gains_cons, sideS_cons, sideS_cons, ih]
    have : ogain p x = ogain p' x + (p' - p) * (sidep true x - sidep false x) := by
      obtain ⟨⟨nm, b, pw, pr⟩, f⟩ := x
      unfold ogain sidep
      cases b
      · simp only [Bool.false_eq_true, if_false, if_true]
        grind
      · simp only [if_true]
        simp
        grind
    rw [this]
    grind
theorem gains_mono (p : Int) : ∀ (l : List Ord) (fs gs : List Int), fs.length = l.length → gs.length = l.length → (∀ i, i < l.length → ogain p (oAt l i, fAt fs i) ≤ ogain p (oAt l i, fAt gs i)) → gains p (l.zip fs) ≤ gains p (l.zip gs) := by
  intro l
  induction l with
  | nil => intro fs gs _ _ _; simp [gains]
  | cons o l ih =>
    intro fs gs hf hg h
    cases fs with
    | nil => cases hf
    | cons f fs =>
      cases gs with
      | nil => cases hg
      | cons g gs =>
        rw [List.zip_cons_cons, List.zip_cons_cons, gains_cons, gains_cons]
        have h1 := ih fs gs (by simpa using hf) (by simpa using hg) (fun i hi => h (i + 1) (by simpa using hi))
        have h2 : ogain p (o, f) ≤ ogain p (o, g) := h 0 (by simp)
        omega
/-- at a price that fits, no fill of an order gains more -/
theorem ogain_best {l : List Ord} {fs : List Int} {q : Int} (h : Cleared l fs q) {i : Nat} (hi : i < l.length) {y : Int} (y0 : 0 ≤ y) (y1 : y ≤ (oAt l i).pow) : ogain (fit l fs).1 (oAt l i, y) ≤ ogain (fit l fs).1 (oAt l i, fAt fs i) := by
  have hlo := (fit_lo h.len).1 i hi
  have hhi := (fit_hi h.len).1 i hi
  have hf := h.fits
  obtain ⟨f0, f1⟩ := h.rng i hi
  generalize fAt fs i = f at *
  generalize oAt l i = o at *
  obtain ⟨nm, b, pw, pr⟩ := o
  generalize (fit l fs).1 = lo at *
  generalize (fit l fs).2 = hi' at *
  unfold lowC at hlo
  unfold highC at hhi
  unfold ogain
  cases b
  · simp at *
    -- a seller
    by_cases e : pr < lo
    · have : f = pw := by
        by_cases e2 : f < pw
        · have := hhi e2; omega
        · omega
      subst this
      have := Int.mul_le_mul_of_nonneg_right (c := lo - pr) y1 (by omega)
      grind
    · by_cases e1 : lo < pr
      · have : f = 0 := by
          by_cases e2 : 0 < f
          · have := hlo e2; omega
          · omega
        subst this
        have := Int.mul_nonneg y0 (show 0 ≤ pr - lo by omega)
        simp
        omega
      · have : pr = lo := by omega
        subst this
        simp
  · simp at *
    by_cases e : lo < pr
    · have : f = pw := by
        by_cases e2 : f < pw
        · have := hlo e2; omega
        · omega
      subst this
      exact Int.mul_le_mul_of_nonneg_right y1 (by omega)
    · by_cases e1 : pr < lo
      · have : f = 0 := by
          by_cases e2 : 0 < f
          · have := hhi e2; omega
          · omega
        subst this
        have := Int.mul_nonneg y0 (show 0 ≤ lo - pr by omega)
        grind
      · have : pr = lo := by omega
        subst this
        simp
/-- AuctionBest, plain -/
theorem surplus_best {l : List Ord} {fs gs : List Int} {q p : Int} (h : Cleared l fs q) (hg : gs.length = l.length) (hr : ∀ i, i < l.length → 0 ≤ fAt gs i ∧ fAt gs i ≤ (oAt l i).pow) (hs : sideS true (l.zip gs) = sideS false (l.zip gs)) :
    gains p (l.zip gs) ≤ gains p (l.zip fs) := by
  rw [gains_move p (fit l fs).1, gains_move p (fit l fs).1 (l.zip fs), hs, h.buys, h.sells]
  have := gains_mono (fit l fs).1 l gs fs hg h.len (fun i hi => ogain_best h hi (hr i hi).1 (hr i hi).2)
  simp
  exact this
theorem gains_zero (p : Int) (l : List Ord) : gains p (l.zip (List.replicate l.length 0)) = 0 ∧ ∀ b, sideS b (l.zip (List.replicate l.length 0)) = 0 := by
  induction l with
  | nil => exact ⟨rfl, fun b => rfl⟩
  | cons o l ih =>
    rw [List.length_cons, List.replicate_succ, List.zip_cons_cons]
    refine ⟨?_, fun b => ?_⟩
    · rw [gains_cons, ih.1]; unfold ogain; simp
    · rw [sideS_cons, ih.2]; unfold sidep; simp
theorem surplus_pos {l : List Ord} {fs : List Int} {q p : Int} (h : Cleared l fs q) (hp : ∀ i, i < l.length → 0 ≤ (oAt l i).pow) : 0 ≤ gains p (l.zip fs) := by
  obtain ⟨h1, h2⟩ := gains_zero p l
  have h3 : ∀ i, fAt (List.replicate l.length 0) i = 0 := fun i => by unfold fAt; rw [List.getD_eq_getElem?_getD, List.getElem?_replicate]; split <;> rfl
  have := surplus_best (p := p) h (gs := List.replicate l.length 0) (by simp) (fun i hi => by rw [h3]; exact ⟨Int.le_refl _, hp i hi⟩) (by rw [h2, h2])
  omega
end Go.Proofs.YtibhgcldogfonaaGreatDoor.Pl
