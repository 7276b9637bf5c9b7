/- The plain law of a dispatch: blocks in the order of their prices, filled in turn, cost least. No program. -/
import Derived.Test.YtchafkocobbndaaPOfferC
namespace Go.Proofs.Ytchafkocobbndaa.Pl
/- sums -/
def sumF {α : Type} (f : α → Int) : List α → Int
  | [] => 0
  | a :: l => f a + sumF f l
theorem sumF_append {α : Type} (f : α → Int) (l m : List α) : sumF f (l ++ m) = sumF f l + sumF f m := by
  induction l with
  | nil => simp [sumF]
  | cons a l ih => rw [List.cons_append, sumF, sumF, ih]; omega
theorem sumF_perm {α : Type} (f : α → Int) {l m : List α} (h : l.Perm m) : sumF f l = sumF f m := by
  induction h with
  | nil => rfl
  | cons x _ ih => rw [sumF, sumF, ih]
  | swap x y l => rw [sumF, sumF, sumF, sumF]; omega
  | trans _ _ ih1 ih2 => exact ih1.trans ih2
theorem sumF_map {α β : Type} (f : β → Int) (g : α → β) (l : List α) : sumF f (l.map g) = sumF (fun a => f (g a)) l := by
  induction l with
  | nil => rfl
  | cons a l ih => rw [List.map_cons, sumF, sumF, ih]
theorem sumF_zero {α : Type} {f : α → Int} {l : List α} (h : ∀ a ∈ l, f a = 0) : sumF f l = 0 := by
  induction l with
  | nil => rfl
  | cons a l ih => rw [sumF, h a (by simp), ih fun b hb => h b (by simp [hb])]; rfl
theorem sumF_congr {α : Type} {f g : α → Int} {l : List α} (h : ∀ a ∈ l, f a = g a) : sumF f l = sumF g l := by
  induction l with
  | nil => rfl
  | cons a l ih => rw [sumF, sumF, h a (by simp), ih fun b hb => h b (by simp [hb])]
theorem sumF_le {α : Type} {f g : α → Int} {l : List α} (h : ∀ a ∈ l, f a ≤ g a) : sumF f l ≤ sumF g l := by
  induction l with
  | nil => exact Int.le_refl _
  | cons a l ih =>
    have h1 := h a (by simp)
    have h2 := ih fun b hb => h b (by simp [hb])
    rw [sumF, sumF]; omega
theorem sumF_sub {α : Type} (f g : α → Int) (l : List α) : sumF (fun a => f a - g a) l = sumF f l - sumF g l := by
  induction l with
  | nil => rfl
  | cons a l ih => rw [sumF, sumF, sumF, ih]; omega
theorem sumF_mul {α : Type} (c : Int) (f : α → Int) (l : List α) : sumF (fun a => c * f a) l = c * sumF f l := by
  induction l with
  | nil => simp [sumF]
  | cons a l ih => rw [sumF, sumF, ih, Int.mul_add]
/-- sums over the places below n -/
def sumN (f : Nat → Int) : Nat → Int
  | 0 => 0
  | n + 1 => sumN f n + f n
theorem sumN_congr {f g : Nat → Int} {n : Nat} (h : ∀ i, i < n → f i = g i) : sumN f n = sumN g n := by
  induction n with
  | zero => rfl
  | succ n ih => rw [sumN, sumN, h n (by omega), ih fun i hi => h i (by omega)]
theorem sumN_le {f g : Nat → Int} {n : Nat} (h : ∀ i, i < n → f i ≤ g i) : sumN f n ≤ sumN g n := by
  induction n with
  | zero => exact Int.le_refl _
  | succ n ih =>
    have h1 := h n (by omega)
    have h2 := ih fun i hi => h i (by omega)
    rw [sumN, sumN]; omega
theorem sumN_sub (f g : Nat → Int) (n : Nat) : sumN (fun i => f i - g i) n = sumN f n - sumN g n := by
  induction n with
  | zero => rfl
  | succ n ih => rw [sumN, sumN, sumN, ih]; omega
theorem sumN_mul (c : Int) (f : Nat → Int) (n : Nat) : sumN (fun i => c * f i) n = c * sumN f n := by
  induction n with
  | zero => simp [sumN]
  | succ n ih => rw [sumN, sumN, ih, Int.mul_add]
theorem sumN_one {n g : Nat} (m : Int) (hg : g < n) : sumN (fun i => if i = g then m else 0) n = m := by
  induction n with
  | zero => omega
  | succ n ih =>
    rw [sumN]
    by_cases e : n = g
    · subst e
      rw [if_pos rfl, sumN_congr (g := fun _ => 0) (fun i hi => if_neg (by omega))]
      have : ∀ k, sumN (fun _ => (0 : Int)) k = 0 := fun k => by
        induction k with
        | zero => rfl
        | succ k ih => rw [sumN, ih]; rfl
      rw [this]; omega
    · rw [if_neg e, ih (by omega)]; omega
theorem sumN_add (f g : Nat → Int) (n : Nat) : sumN (fun i => f i + g i) n = sumN f n + sumN g n := by
  induction n with
  | zero => rfl
  | succ n ih => rw [sumN, sumN, sumN, ih]; omega
theorem sumN_zero (n : Nat) : sumN (fun _ => (0 : Int)) n = 0 := by
  induction n with
  | zero => rfl
  | succ n ih => rw [sumN, ih]; rfl
/- blocks: generator, power, price -/
abbrev B3 := Int × Int × Int
abbrev Off := ByteArray × List (Int × Int)
def steps (l : List Off) (k : Nat) : List (Int × Int) := (l.getD k (⟨#[]⟩, [])).2
def blocksK (l : List Off) : Nat → List B3
  | 0 => []
  | k + 1 => blocksK l k ++ (steps l k).map fun s => ((k : Int), s.1, s.2)
/-- the fill of the blocks in turn -/
def dstep (s : List Int × Int × Int) (b : B3) : List Int × Int × Int :=
  (s.1.set b.1.toNat (s.1.getD b.1.toNat 0 + min s.2.2 b.2.1), s.2.1 + min s.2.2 b.2.1 * b.2.2, s.2.2 - min s.2.2 b.2.1)
/-- what a block adds to the sum of f over what is filled -/
def filled (f : B3 → Int → Int) : List B3 → Int → Int
  | [], _ => 0
  | b :: bs, d => f b (min d b.2.1) + filled f bs (d - min d b.2.1)
def GoodB (n : Nat) (b : B3) : Prop := 0 ≤ b.1 ∧ b.1 < n ∧ 0 ≤ b.2.1 ∧ b.2.1 ≤ 100000 ∧ -1000000 ≤ b.2.2 ∧ b.2.2 ≤ 1000000
theorem getD_set {fs : List Int} {x y : Nat} {v : Int} : (fs.set x v).getD y 0 = if x = y ∧ y < fs.length then v else fs.getD y 0 := by
  rw [List.getD_eq_getElem?_getD, List.getD_eq_getElem?_getD, List.getElem?_set]
  by_cases e : x = y
  · subst e
    by_cases h : x < fs.length
    · simp [h]
    · simp [h]
  · simp [e]
theorem dfold_out {n : Nat} (g : Nat) (hg : g < n) : ∀ (bs : List B3) (out : List Int) (c d : Int), (∀ b ∈ bs, GoodB n b) → out.length = n → ((bs.foldl dstep (out, c, d)).1.getD g 0 = out.getD g 0 + filled (fun b m => if b.1.toNat = g then m else 0) bs d ∧ (bs.foldl dstep (out, c, d)).1.length = n) := by
  intro bs
  induction bs with
  | nil => intro out c d _ h; exact ⟨by simp [filled], h⟩
  | cons b bs ih =>
    intro out c d hb h
    obtain ⟨b0, b1, _⟩ := hb b (by simp)
    rw [List.foldl_cons, filled]
    obtain ⟨h1, h2⟩ := ih (out.set b.1.toNat (out.getD b.1.toNat 0 + min d b.2.1)) (c + min d b.2.1 * b.2.2) (d - min d b.2.1) (fun x hx => hb x (by simp [hx])) (by rw [List.length_set]; exact h)
    refine ⟨?_, h2⟩
    show (List.foldl dstep (out.set b.1.toNat (out.getD b.1.toNat 0 + min d b.2.1), c + min d b.2.1 * b.2.2, d - min d b.2.1) bs).1.getD g 0 = _
    rw [h1, getD_set]
    by_cases e : b.1.toNat = g
    · rw [if_pos ⟨e, by omega⟩, if_pos e, e]; omega
    · rw [if_neg (fun h => e h.1), if_neg e]; omega
theorem dfold_rest : ∀ (bs : List B3) (out : List Int) (c d : Int), (bs.foldl dstep (out, c, d)).2.1 = c + filled (fun b m => m * b.2.2) bs d ∧ (bs.foldl dstep (out, c, d)).2.2 = d - filled (fun _ m => m) bs d := by
  intro bs
  induction bs with
  | nil => intro out c d; exact ⟨by simp [filled], by simp [filled]⟩
  | cons b bs ih =>
    intro out c d
    rw [List.foldl_cons, filled, filled]
    obtain ⟨h1, h2⟩ := ih (out.set b.1.toNat (out.getD b.1.toNat 0 + min d b.2.1)) (c + min d b.2.1 * b.2.2) (d - min d b.2.1)
    have e : dstep (out, c, d) b = (out.set b.1.toNat (out.getD b.1.toNat 0 + min d b.2.1), c + min d b.2.1 * b.2.2, d - min d b.2.1) := rfl
    rw [e, h1, h2]
    omega
/-- fills at a price: cheaper blocks are full, dearer ones empty -/
def At (p : Int) : List B3 → Int → Prop
  | [], _ => True
  | b :: bs, d => (b.2.2 < p → min d b.2.1 = b.2.1) ∧ (p < b.2.2 → min d b.2.1 = 0) ∧ At p bs (d - min d b.2.1)
theorem at_zero {p : Int} : ∀ {bs : List B3}, (∀ b ∈ bs, 0 ≤ b.2.1) → (∀ b ∈ bs, p ≤ b.2.2) → At p bs 0 := by
  intro bs
  induction bs with
  | nil => intro _ _; trivial
  | cons b bs ih =>
    intro h0 h1
    have e0 := h0 b (by simp)
    have e1 := h1 b (by simp)
    have e : min (0 : Int) b.2.1 = 0 := by omega
    refine ⟨fun h => by omega, fun _ => e, ?_⟩
    rw [e]
    exact ih (fun x hx => h0 x (by simp [hx])) (fun x hx => h1 x (by simp [hx]))
theorem at_some : ∀ (bs : List B3) (d lo : Int), 0 ≤ d → (∀ b ∈ bs, 0 ≤ b.2.1) → bs.Pairwise (fun a b => a.2.2 ≤ b.2.2) → (∀ b ∈ bs, lo ≤ b.2.2) → ∃ p, lo ≤ p ∧ (p = lo ∨ ∃ b ∈ bs, p = b.2.2) ∧ At p bs d := by
  intro bs
  induction bs with
  | nil => intro d lo _ _ _ _; exact ⟨lo, Int.le_refl _, .inl rfl, trivial⟩
  | cons b bs ih =>
    intro d lo hd h0 hs hl
    obtain ⟨s1, s2⟩ := List.pairwise_cons.1 hs
    have hb := h0 b (by simp)
    have hlb := hl b (by simp)
    by_cases e : b.2.1 ≤ d
    · have em : min d b.2.1 = b.2.1 := by omega
      obtain ⟨p, p1, p2, p3⟩ := ih (d - b.2.1) b.2.2 (by omega) (fun x hx => h0 x (by simp [hx])) s2 s1
      refine ⟨p, by omega, ?_, ⟨fun _ => em, fun h => by omega, by rw [em]; exact p3⟩⟩
      rcases p2 with p2 | ⟨x, hx, p2⟩
      · exact .inr ⟨b, by simp, p2⟩
      · exact .inr ⟨x, by simp [hx], p2⟩
    · have em : min d b.2.1 = d := by omega
      refine ⟨b.2.2, hlb, .inr ⟨b, by simp, rfl⟩, ⟨fun h => by omega, fun h => by omega, ?_⟩⟩
      rw [em, Int.sub_self]
      exact at_zero (fun x hx => h0 x (by simp [hx])) s1
/-- what is filled at a price lies between the cheaper blocks and those that are not dearer -/
theorem at_between {p : Int} (g : B3 → Bool) : ∀ {bs : List B3} {d : Int}, 0 ≤ d → (∀ b ∈ bs, 0 ≤ b.2.1) → At p bs d →
    sumF (fun b => if g b ∧ b.2.2 < p then b.2.1 else 0) bs ≤ filled (fun b m => if g b then m else 0) bs d ∧ filled (fun b m => if g b then m else 0) bs d ≤ sumF (fun b => if g b ∧ b.2.2 ≤ p then b.2.1 else 0) bs := by
  intro bs
  induction bs with
  | nil => intro d _ _ _; exact ⟨Int.le_refl _, Int.le_refl _⟩
  | cons b bs ih =>
    intro d hd h0 h
    obtain ⟨h1, h2, h3⟩ := h
    have hb := h0 b (by simp)
    obtain ⟨i1, i2⟩ := ih (d := d - min d b.2.1) (by omega) (fun x hx => h0 x (by simp [hx])) h3
    rw [sumF, sumF, filled]
    cases hg : g b
    · simp at i1 i2 ⊢
      exact ⟨i1, i2⟩
    · simp only [true_and, if_true]
      constructor
      · by_cases e : b.2.2 < p
        · rw [if_pos e]; have := h1 e; omega
        · rw [if_neg e]; omega
      · by_cases e : b.2.2 ≤ p
        · rw [if_pos e]; omega
        · rw [if_neg e]; have := h2 (by omega); omega
/-- the gain of what is filled at a price -/
theorem at_gain {p : Int} : ∀ {bs : List B3} {d : Int}, At p bs d → p * filled (fun _ m => m) bs d - filled (fun b m => m * b.2.2) bs d = sumF (fun b => b.2.1 * max 0 (p - b.2.2)) bs := by
  intro bs
  induction bs with
  | nil => intro d _; simp [filled, sumF]
  | cons b bs ih =>
    intro d h
    obtain ⟨h1, h2, h3⟩ := h
    have i := ih h3
    rw [sumF, filled, filled, ← i]
    have : p * min d b.2.1 - min d b.2.1 * b.2.2 = b.2.1 * max 0 (p - b.2.2) := by
      rcases Int.lt_trichotomy b.2.2 p with e | e | e
      · rw [h1 e, show max 0 (p - b.2.2) = p - b.2.2 from by omega]; grind
      · rw [show max 0 (p - b.2.2) = 0 from by omega, e]; grind
      · rw [h2 e, show max 0 (p - b.2.2) = 0 from by omega]; grind
    grind
/-- all of a demand that the blocks can serve is filled -/
theorem filled_all : ∀ (bs : List B3) (d : Int), 0 ≤ d → (∀ b ∈ bs, 0 ≤ b.2.1) → filled (fun _ m => m) bs d = min d (sumF (fun b => b.2.1) bs) ∧ 0 ≤ sumF (fun b => b.2.1) bs := by
  intro bs
  induction bs with
  | nil => intro d hd _; simp [filled, sumF]; omega
  | cons b bs ih =>
    intro d hd h0
    have hb := h0 b (by simp)
    obtain ⟨h1, h2⟩ := ih (d - min d b.2.1) (by omega) (fun x hx => h0 x (by simp [hx]))
    rw [filled, sumF, h1]
    omega
/-- the sum over the generators of what is filled -/
theorem filled_gens (n : Nat) : ∀ (bs : List B3) (d : Int), (∀ b ∈ bs, GoodB n b) → sumN (fun g => filled (fun b m => if b.1.toNat = g then m else 0) bs d) n = filled (fun _ m => m) bs d := by
  intro bs
  induction bs with
  | nil => intro d _; simp only [filled]; exact sumN_zero n
  | cons b bs ih =>
    intro d hb
    obtain ⟨b0, b1, _⟩ := hb b (by simp)
    simp only [filled]
    rw [sumN_add, ih _ (fun x hx => hb x (by simp [hx]))]
    congr 1
    rw [sumN_congr (g := fun i => if i = b.1.toNat then min d b.2.1 else 0) (fun i _ => by
      by_cases e : b.1.toNat = i
      · rw [if_pos e, if_pos e.symm]
      · rw [if_neg e, if_neg (fun h => e h.symm)])]
    exact sumN_one _ (by omega)
/- the blocks of offers -/
theorem blocksK_good {l : List Off} {n m : Nat} (hg : ∀ k, k < n → Good (steps l k)) (hn : n ≤ m) : ∀ b ∈ blocksK l n, GoodB m b ∧ 1 ≤ b.2.1 := by
  induction n with
  | zero => intro b hb; simp [blocksK] at hb
  | succ n ih =>
    intro b hb
    rw [blocksK, List.mem_append] at hb
    rcases hb with hb | hb
    · exact ih (fun k hk => hg k (by omega)) (by omega) b hb
    · obtain ⟨s, hs, rfl⟩ := List.mem_map.1 hb
      obtain ⟨h1, h2, h3, h4⟩ := (hg n (by omega)).step s hs
      exact ⟨⟨Int.natCast_nonneg n, by show (n : Int) < m; omega, by show 0 ≤ s.1; omega, h2, h3, h4⟩, h1⟩
theorem blocksK_sum (l : List Off) (f : B3 → Int) (n : Nat) : sumF f (blocksK l n) = sumN (fun k => sumF (fun s => f ((k : Int), s.1, s.2)) (steps l k)) n := by
  induction n with
  | zero => rfl
  | succ n ih => rw [blocksK, sumF_append, sumF_map, ih]; rfl
theorem leastR_sum (P : Int) (st : List (Int × Int)) : leastR P st = sumF (fun s => if s.2 < P then s.1 else 0) st := by
  induction st with
  | nil => rfl
  | cons s st ih => rw [leastR, sumF, ih]
theorem mostR_sum (P : Int) (st : List (Int × Int)) : mostR P st = sumF (fun s => if s.2 ≤ P then s.1 else 0) st := by
  induction st with
  | nil => rfl
  | cons s st ih => rw [mostR, sumF, ih]
theorem best_sum (P : Int) (st : List (Int × Int)) : best P st = sumF (fun s => s.1 * max 0 (P - s.2)) st := by
  induction st with
  | nil => rfl
  | cons s st ih =>
    rw [best, sumF, ih]
    congr 1
    split
    · rw [show max 0 (P - s.2) = P - s.2 from by omega, Int.mul_comm]
    · rw [show max 0 (P - s.2) = 0 from by omega, Int.mul_zero]
theorem total_sum (st : List (Int × Int)) : total st = sumF (fun s => s.1) st := by
  induction st with
  | nil => rfl
  | cons s st ih => rw [total_cons, sumF, ih]
theorem pick_sum (l : List Off) (f : Int × Int → Int) {n g : Nat} (hg : g < n) : sumN (fun k => sumF (fun s => if ((k : Int)).toNat = g then f s else 0) (steps l k)) n = sumF f (steps l g) := by
  rw [sumN_congr (g := fun i => if i = g then sumF f (steps l g) else 0) (fun i _ => by
    by_cases e : i = g
    · subst e
      rw [if_pos rfl]
      exact sumF_congr fun s _ => if_pos (by simp)
    · rw [if_neg e]
      exact sumF_zero fun s _ => if_neg (by simpa using e))]
  exact sumN_one _ hg
/-- what the fill of all blocks in the order of their prices gives -/
structure Served (l : List Off) (n : Nat) (d : Int) (ps : List Int) (cost : Int) (p : Int) : Prop where
  len : ps.length = n
  sum : sumN (fun g => ps.getD g 0) n = d
  lo : -1000000 ≤ p
  hi : p ≤ 1000000
  at_ : ∀ g, g < n → leastR p (steps l g) ≤ ps.getD g 0 ∧ ps.getD g 0 ≤ mostR p (steps l g)
  cost : cost = sumN (fun g => costR (steps l g) (ps.getD g 0)) n
theorem served_of {l : List Off} {n : Nat} {d : Int} {bs : List B3} (hg : ∀ k, k < n → Good (steps l k)) (hd : 0 ≤ d) (ht : d ≤ sumN (fun k => total (steps l k)) n) (hp : bs.Perm (blocksK l n)) (hs : bs.Pairwise (fun a b => a.2.2 ≤ b.2.2)) :
    ∃ p, Served l n d (bs.foldl dstep (List.replicate n 0, 0, d)).1 (bs.foldl dstep (List.replicate n 0, 0, d)).2.1 p := by
  have hB : ∀ b ∈ bs, GoodB n b := fun b hb => (blocksK_good hg (Nat.le_refl _) b (hp.mem_iff.1 hb)).1
  have h0 : ∀ b ∈ bs, 0 ≤ b.2.1 := fun b hb => (hB b hb).2.2.1
  obtain ⟨p, p1, p2, p3⟩ := at_some bs d (-1000000) hd h0 hs (fun b hb => (hB b hb).2.2.2.2.1)
  have hp1 : p ≤ 1000000 := by
    rcases p2 with p2 | ⟨b, hb, p2⟩
    · omega
    · have := (hB b hb).2.2.2.2.2; omega
  have hx : ∀ g, g < n → (bs.foldl dstep (List.replicate n 0, 0, d)).1.getD g 0 = filled (fun b m => if b.1.toNat = g then m else 0) bs d := fun g hgn => by
    have := (dfold_out g hgn bs (List.replicate n 0) 0 d hB (by simp)).1
    rw [this]
    have : (List.replicate n (0 : Int)).getD g 0 = 0 := by rw [List.getD_eq_getElem?_getD, List.getElem?_replicate]; split <;> rfl
    omega
  have hsum : filled (fun _ m => m) bs d = d := by
    have h1 := (filled_all bs d hd h0).1
    have h2 : sumF (fun b => b.2.1) bs = sumN (fun k => total (steps l k)) n := by
      rw [sumF_perm _ hp, blocksK_sum]
      exact sumN_congr fun i _ => (total_sum _).symm
    rw [h1, h2]
    omega
  have hat : ∀ g, g < n → leastR p (steps l g) ≤ (bs.foldl dstep (List.replicate n 0, 0, d)).1.getD g 0 ∧ (bs.foldl dstep (List.replicate n 0, 0, d)).1.getD g 0 ≤ mostR p (steps l g) := fun g hgn => by
    obtain ⟨a1, a2⟩ := at_between (fun b => decide (b.1.toNat = g)) hd h0 p3
    rw [hx g hgn]
    have e1 : filled (fun b m => if decide (b.1.toNat = g) = true then m else 0) bs d = filled (fun b m => if b.1.toNat = g then m else 0) bs d := by
      congr 1; funext b m; simp
    rw [e1] at a1 a2
    rw [sumF_perm _ hp, blocksK_sum] at a1 a2
    rw [leastR_sum, mostR_sum, ← pick_sum l _ hgn, ← pick_sum l _ hgn]
    refine ⟨?_, ?_⟩
    · refine Int.le_trans (Int.le_of_eq (sumN_congr fun i _ => sumF_congr fun s _ => ?_)) a1
      by_cases e : i = g <;> by_cases e2 : s.2 < p <;> simp [e, e2]
    · refine Int.le_trans a2 (Int.le_of_eq (sumN_congr fun i _ => sumF_congr fun s _ => ?_))
      by_cases e : i = g <;> by_cases e2 : s.2 ≤ p <;> simp [e, e2]
  have hlen : (bs.foldl dstep (List.replicate n 0, 0, d)).1.length = n := by
    have : ∀ (bs : List B3) (s : List Int × Int × Int), (bs.foldl dstep s).1.length = s.1.length := by
      intro bs
      induction bs with
      | nil => intro s; rfl
      | cons b bs ih => intro s; rw [List.foldl_cons, ih]; show (s.1.set _ _).length = _; rw [List.length_set]
    rw [this]; simp
  have hsN : sumN (fun g => (bs.foldl dstep (List.replicate n 0, 0, d)).1.getD g 0) n = d := by
    rw [sumN_congr hx, filled_gens n bs d hB, hsum]
  refine ⟨p, hlen, hsN, p1, hp1, hat, ?_⟩
  have hc := (dfold_rest bs (List.replicate n 0) 0 d).1
  have hgain := at_gain p3
  rw [hsum, sumF_perm _ hp, blocksK_sum] at hgain
  have hb : sumN (fun k => sumF (fun s => s.1 * max 0 (p - s.2)) (steps l k)) n = sumN (fun k => p * (bs.foldl dstep (List.replicate n 0, 0, d)).1.getD k 0 - costR (steps l k) ((bs.foldl dstep (List.replicate n 0, 0, d)).1.getD k 0)) n :=
    sumN_congr fun k hk => by
      have hgk := hg k hk
      have hlm := least_most (P := p) (fun q hq => (hgk.step q hq).1)
      have hak := hat k hk
      rw [← best_sum]
      exact ((gain_best hgk p _ (by omega) (by omega)).2.2 hak).symm
  rw [hb, sumN_sub, sumN_mul, hsN] at hgain
  rw [hc]
  omega
/-- powers at a price have the greatest gain, hence the least cost of their sum -/
theorem served_least {l : List Off} {n : Nat} {d : Int} {ps xs : List Int} {cost p : Int} (hg : ∀ k, k < n → Good (steps l k)) (h : Served l n d ps cost p) (hx : ∀ k, k < n → 0 ≤ xs.getD k 0 ∧ xs.getD k 0 ≤ total (steps l k)) (hs : sumN (fun g => xs.getD g 0) n = d) :
    cost ≤ sumN (fun g => costR (steps l g) (xs.getD g 0)) n := by
  have h1 : sumN (fun k => p * xs.getD k 0 - costR (steps l k) (xs.getD k 0)) n ≤ sumN (fun k => best p (steps l k)) n := sumN_le fun k hk => (gain_best (hg k hk) p _ (hx k hk).1 (hx k hk).2).1
  have h2 : sumN (fun k => p * ps.getD k 0 - costR (steps l k) (ps.getD k 0)) n = sumN (fun k => best p (steps l k)) n := sumN_congr fun k hk => by
    have hgk := hg k hk
    have hlm := least_most (P := p) (fun q hq => (hgk.step q hq).1)
    have hak := h.at_ k hk
    exact (gain_best hgk p _ (by omega) (by omega)).2.2 hak
  rw [sumN_sub, sumN_mul, hs] at h1
  rw [sumN_sub, sumN_mul, h.sum] at h2
  have := h.cost
  omega
end Go.Proofs.Ytchafkocobbndaa.Pl
