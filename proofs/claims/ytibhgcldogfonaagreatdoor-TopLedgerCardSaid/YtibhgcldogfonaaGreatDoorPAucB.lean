/- The plain law of an auction: orders traded by merit are cleared; a further seller. No program. -/
import Derived.Test.YtibhgcldogfonaaGreatDoorPAuc
namespace Go.Proofs.YtibhgcldogfonaaGreatDoor.Pl
def dN (d : List Int) (k : Nat) : Nat := (d.getD k 0).toNat
/-- the places of one side in the order of their prices -/
structure Rk (b : Bool) (l : List Ord) (d : List Int) : Prop where
  pos : ∀ k, k < d.length → 0 ≤ d.getD k 0 ∧ dN d k < l.length ∧ (oAt l (dN d k)).buy = b
  ord : ∀ k k', k < k' → k' < d.length → 0 ≤ ocf b l (d.getD k' 0) (d.getD k 0)
  inj : ∀ k k', k < k' → k' < d.length → dN d k ≠ dN d k'
  all : ∀ i, i < l.length → (oAt l i).buy = b → ∃ k, k < d.length ∧ dN d k = i
theorem sideK_nodup (b : Bool) (l : List Ord) (k : Nat) : (sideK b l k).Nodup := by
  unfold sideK
  have h1 : (List.range k).Nodup := List.nodup_range
  have h2 := List.Pairwise.filter (fun i => (l.getD i default).buy == b) (List.nodup_iff_pairwise_ne.1 h1)
  rw [List.nodup_iff_pairwise_ne, List.pairwise_map]
  exact h2.imp fun h e => h (Int.ofNat.inj e)
theorem sideK_all (b : Bool) (l : List Ord) (i : Nat) (hi : i < l.length) (hb : (oAt l i).buy = b) : (i : Int) ∈ sideK b l l.length := by
  unfold sideK
  refine List.mem_map.2 ⟨i, ?_, rfl⟩
  rw [List.mem_filter, List.mem_range]
  exact ⟨hi, by unfold oAt at hb; simpa using hb⟩
theorem rk_of {b : Bool} {l : List Ord} {d : List Int} (hp : d.Perm (sideK b l l.length)) (ho : ∀ i j, i < j → j < d.length → 0 ≤ ocf b l (d.getD j 0) (d.getD i 0)) : Rk b l d := by
  have hm : ∀ k, (hk : k < d.length) → 0 ≤ d.getD k 0 ∧ d.getD k 0 < l.length ∧ (oAt l (dN d k)).buy = b := by
    intro k hk
    have h1 : d.getD k 0 = d[k] := by rw [List.getD_eq_getElem?_getD, List.getElem?_eq_getElem hk]; rfl
    unfold dN
    rw [h1]
    exact sideK_mem b l l.length _ (hp.mem_iff.1 (List.getElem_mem hk))
  refine ⟨fun k hk => ⟨(hm k hk).1, ?_, (hm k hk).2.2⟩, ho, ?_, ?_⟩
  · have := hm k hk; unfold dN; omega
  · intro k k' hkk hk'
    have hn : d.Nodup := hp.nodup_iff.2 (sideK_nodup b l l.length)
    have h0 := hm k (by omega)
    have h1 := hm k' hk'
    have e0 : d.getD k 0 = d[k]'(by omega) := by rw [List.getD_eq_getElem?_getD, List.getElem?_eq_getElem (by omega)]; rfl
    have e1 : d.getD k' 0 = d[k'] := by rw [List.getD_eq_getElem?_getD, List.getElem?_eq_getElem hk']; rfl
    have h2 := (List.pairwise_iff_getElem.1 hn) k k' (by omega) hk' hkk
    unfold dN
    omega
  · intro i hi hb
    have h1 := hp.mem_iff.2 (sideK_all b l i hi hb)
    obtain ⟨k, hk, e⟩ := List.getElem_of_mem h1
    refine ⟨k, hk, ?_⟩
    unfold dN
    rw [List.getD_eq_getElem?_getD, List.getElem?_eq_getElem hk]
    simp [e]
theorem Rk.le_true {l : List Ord} {d : List Int} (h : Rk true l d) {k k' : Nat} (hk : k ≤ k') (hk' : k' < d.length) : (oAt l (dN d k')).price ≤ (oAt l (dN d k)).price := by
  by_cases e : k = k'
  · subst e; exact Int.le_refl _
  · have := h.ord k k' (by omega) hk'
    unfold ocf at this
    simp at this
    unfold oAt dN
    exact this
theorem Rk.le_false {l : List Ord} {d : List Int} (h : Rk false l d) {k k' : Nat} (hk : k ≤ k') (hk' : k' < d.length) : (oAt l (dN d k)).price ≤ (oAt l (dN d k')).price := by
  by_cases e : k = k'
  · subst e; exact Int.le_refl _
  · have := h.ord k k' (by omega) hk'
    unfold ocf at this
    simp at this
    unfold oAt dN
    exact this
theorem Rk.eq {b : Bool} {l : List Ord} {d : List Int} (h : Rk b l d) {k k' : Nat} (hk : k < d.length) (hk' : k' < d.length) (e : dN d k = dN d k') : k = k' := by
  by_cases h1 : k < k'
  · exact absurd e (h.inj k k' h1 hk')
  · by_cases h2 : k' < k
    · exact absurd e.symm (h.inj k' k h2 hk)
    · omega
theorem fAt_set {fs : List Int} {x y : Nat} {v : Int} : fAt (fs.set x v) y = if x = y ∧ y < fs.length then v else fAt fs y := by
  unfold fAt
  rw [List.getD_eq_getElem?_getD, List.getD_eq_getElem?_getD, List.getElem?_set]
  by_cases e : x = y
  · subst e
    by_cases h : x < fs.length
    · simp [h]
    · simp [h]
  · simp [e]
theorem fAt_same {fs : List Int} {x : Nat} {v : Int} (h : x < fs.length) : fAt (fs.set x v) x = v := by rw [fAt_set, if_pos ⟨rfl, h⟩]
theorem fAt_other {fs : List Int} {x y : Nat} {v : Int} (h : x ≠ y) : fAt (fs.set x v) y = fAt fs y := by rw [fAt_set, if_neg (fun e => h e.1)]
/-- one side of the fills: full before i, nothing behind i -/
structure Side (l : List Ord) (d : List Int) (i : Nat) (fs : List Int) : Prop where
  le : i ≤ d.length
  full : ∀ k, k < i → fAt fs (dN d k) = (oAt l (dN d k)).pow
  zero : ∀ k, i < k → k < d.length → fAt fs (dN d k) = 0
  head : i < d.length → 0 ≤ fAt fs (dN d i) ∧ fAt fs (dN d i) < (oAt l (dN d i)).pow
theorem Side.far {l : List Ord} {d : List Int} {i : Nat} {fs : List Int} {x : Nat} {v : Int} (h : Side l d i fs) (hx : ∀ k, k < d.length → x ≠ dN d k) : Side l d i (fs.set x v) := by
  refine ⟨h.le, fun k hk => ?_, fun k hk hk' => ?_, fun hi => ?_⟩
  · rw [fAt_other (hx k (by have := h.le; omega))]; exact h.full k hk
  · rw [fAt_other (hx k hk')]; exact h.zero k hk hk'
  · rw [fAt_other (hx i hi)]; exact h.head hi
theorem Side.more {b : Bool} {l : List Ord} {d : List Int} {i : Nat} {fs : List Int} {v : Int} (h : Side l d i fs) (R : Rk b l d) (hl : fs.length = l.length) (hi : i < d.length) (h0 : 0 ≤ v) (h1 : v < (oAt l (dN d i)).pow) : Side l d i (fs.set (dN d i) v) := by
  have hx := (R.pos i hi).2.1
  refine ⟨h.le, fun k hk => ?_, fun k hk hk' => ?_, fun hi => ?_⟩
  · rw [fAt_other (fun e => by have := R.eq hi (by omega) e; omega)]; exact h.full k hk
  · rw [fAt_other (fun e => by have := R.eq hi hk' e; omega)]; exact h.zero k hk hk'
  · rw [fAt_same (by omega)]; exact ⟨h0, h1⟩
theorem Side.next {b : Bool} {l : List Ord} {d : List Int} {i : Nat} {fs : List Int} {v : Int} (h : Side l d i fs) (R : Rk b l d) (hl : fs.length = l.length) (hp : ∀ x, x < l.length → 1 ≤ (oAt l x).pow) (hi : i < d.length) (h1 : v = (oAt l (dN d i)).pow) : Side l d (i + 1) (fs.set (dN d i) v) := by
  have hx := (R.pos i hi).2.1
  refine ⟨by omega, fun k hk => ?_, fun k hk hk' => ?_, fun hi' => ?_⟩
  · by_cases e : k = i
    · subst e; rw [fAt_same (by omega), h1]
    · rw [fAt_other (fun e => by have := R.eq hi (by omega) e; omega)]; exact h.full k (by omega)
  · rw [fAt_other (fun e => by have := R.eq hi hk' e; omega)]; exact h.zero k (by omega) hk'
  · rw [fAt_other (fun e => by have := R.eq hi hi' e; omega), h.zero (i + 1) (by omega) hi']
    have := hp _ (R.pos (i + 1) hi').2.1
    omega
theorem sideS_set (b : Bool) : ∀ (l : List Ord) (fs : List Int) (x : Nat) (v : Int), fs.length = l.length → x < l.length → sideS b (l.zip (fs.set x v)) = sideS b (l.zip fs) + if (oAt l x).buy = b then v - fAt fs x else 0 := by
  intro l
  induction l with
  | nil => intro fs x v _ hx; simp at hx
  | cons o l ih =>
    intro fs x v hf hx
    cases fs with
    | nil => cases hf
    | cons f fs =>
      cases x with
      | zero =>
        rw [List.set_cons_zero, List.zip_cons_cons, List.zip_cons_cons, sideS_cons, sideS_cons]
        unfold sidep oAt fAt
        simp
        split <;> omega
      | succ x =>
        rw [List.set_cons_succ, List.zip_cons_cons, List.zip_cons_cons, sideS_cons, sideS_cons, ih fs x v (by simpa using hf) (by simpa using hx)]
        unfold oAt fAt
        simp
        omega
/-- the state of the clearing -/
structure Mer (l : List Ord) (db ds : List Int) (i j : Nat) (fs : List Int) (q : Int) : Prop where
  len : fs.length = l.length
  rng : ∀ x, x < l.length → 0 ≤ fAt fs x ∧ fAt fs x ≤ (oAt l x).pow
  buys : sideS true (l.zip fs) = q
  sells : sideS false (l.zip fs) = q
  sb : Side l db i fs
  ss : Side l ds j fs
  tr : ∀ a c, a < l.length → c < l.length → (oAt l a).buy = true → (oAt l c).buy = false → 0 < fAt fs a → 0 < fAt fs c → (oAt l c).price ≤ (oAt l a).price
theorem fAt_rep (n i : Nat) : fAt (List.replicate n 0) i = 0 := by unfold fAt; rw [List.getD_eq_getElem?_getD, List.getElem?_replicate]; split <;> rfl
theorem Mer.start {l : List Ord} {db ds : List Int} (Rb : Rk true l db) (Rs : Rk false l ds) (hp : ∀ x, x < l.length → 1 ≤ (oAt l x).pow) : Mer l db ds 0 0 (List.replicate l.length 0) 0 := by
  refine ⟨by simp, fun x hx => ?_, (gains_zero 0 l).2 _, (gains_zero 0 l).2 _, ?_, ?_, fun a c _ _ _ _ h => ?_⟩
  · rw [fAt_rep]; have := hp x hx; omega
  · refine ⟨by omega, fun k hk => absurd hk (by omega), fun k _ _ => fAt_rep _ _, fun hi => ?_⟩
    rw [fAt_rep]; have := hp _ (Rb.pos 0 hi).2.1; omega
  · refine ⟨by omega, fun k hk => absurd hk (by omega), fun k _ _ => fAt_rep _ _, fun hi => ?_⟩
    rw [fAt_rep]; have := hp _ (Rs.pos 0 hi).2.1; omega
  · rw [fAt_rep] at h; omega
theorem Side.step {b : Bool} {l : List Ord} {d : List Int} {i : Nat} {fs : List Int} {v : Int} (h : Side l d i fs) (R : Rk b l d) (hl : fs.length = l.length) (hp : ∀ x, x < l.length → 1 ≤ (oAt l x).pow) (hi : i < d.length) (h0 : 0 ≤ v) (h1 : v ≤ (oAt l (dN d i)).pow) :
    Side l d (if v = (oAt l (dN d i)).pow then i + 1 else i) (fs.set (dN d i) v) := by
  split
  · rename_i e; exact h.next R hl hp hi e
  · exact h.more R hl hi h0 (by omega)
theorem Mer.step {l : List Ord} {db ds : List Int} {i j : Nat} {fs : List Int} {q m : Int} (h : Mer l db ds i j fs q) (Rb : Rk true l db) (Rs : Rk false l ds) (hp : ∀ x, x < l.length → 1 ≤ (oAt l x).pow) (hi : i < db.length) (hj : j < ds.length)
    (hpr : (oAt l (dN ds j)).price ≤ (oAt l (dN db i)).price) (m0 : 0 ≤ m) (m1 : fAt fs (dN db i) + m ≤ (oAt l (dN db i)).pow) (m2 : fAt fs (dN ds j) + m ≤ (oAt l (dN ds j)).pow) :
    Mer l db ds (if fAt fs (dN db i) + m = (oAt l (dN db i)).pow then i + 1 else i) (if fAt fs (dN ds j) + m = (oAt l (dN ds j)).pow then j + 1 else j) ((fs.set (dN db i) (fAt fs (dN db i) + m)).set (dN ds j) (fAt fs (dN ds j) + m)) (q + m) := by
  obtain ⟨_, xb, bb⟩ := Rb.pos i hi
  obtain ⟨_, xs, bs⟩ := Rs.pos j hj
  have hbs : ∀ k, k < ds.length → dN db i ≠ dN ds k := fun k hk e => by
    have := (Rs.pos k hk).2.2; rw [← e, bb] at this; cases this
  have hsb : ∀ k, k < db.length → dN ds j ≠ dN db k := fun k hk e => by
    have := (Rb.pos k hk).2.2; rw [← e, bs] at this; cases this
  have hne := hbs j hj
  have hl := h.len
  have r1 := (h.rng _ xb).1
  have r2 := (h.rng _ xs).1
  have S1 := (h.sb.step Rb hl hp hi (v := fAt fs (dN db i) + m) (by omega) m1).far (x := dN ds j) (v := fAt fs (dN ds j) + m) hsb
  have S2 := ((h.ss.far (x := dN db i) (v := fAt fs (dN db i) + m) hbs)).step Rs (by rw [List.length_set]; exact hl) hp hj (v := fAt fs (dN ds j) + m) (by omega) m2
  refine ⟨by rw [List.length_set, List.length_set]; exact hl, fun x hx => ?_, ?_, ?_, S1, S2, fun a c ha hc ba bc fa fc => ?_⟩
  · have := h.rng x hx
    rw [fAt_set, fAt_set, List.length_set]
    split
    · rename_i e; obtain ⟨rfl, _⟩ := e; omega
    · split
      · rename_i e; obtain ⟨rfl, _⟩ := e; omega
      · exact this
  · rw [sideS_set _ _ _ _ _ (by rw [List.length_set]; exact hl) xs, sideS_set _ _ _ _ _ hl xb, h.buys, bb, bs]
    simp
    omega
  · rw [sideS_set _ _ _ _ _ (by rw [List.length_set]; exact hl) xs, sideS_set _ _ _ _ _ hl xb, h.sells, bb, bs, fAt_other hne]
    simp
    omega
  · obtain ⟨k, hk, rfl⟩ := Rb.all a ha ba
    obtain ⟨k', hk', rfl⟩ := Rs.all c hc bc
    have g1 : k ≤ i := by
      by_cases e : k ≤ i
      · exact e
      · rw [fAt_other (hsb k hk), fAt_other (fun e2 => by have := Rb.eq hi hk e2; omega), h.sb.zero k (by omega) hk] at fa
        omega
    have g2 : k' ≤ j := by
      by_cases e : k' ≤ j
      · exact e
      · rw [fAt_other (fun e2 => by have := Rs.eq hj hk' e2; omega), fAt_other (hbs k' hk'), h.ss.zero k' (by omega) hk'] at fc
        omega
    have := Rb.le_true g1 hi
    have := Rs.le_false g2 hj
    omega
theorem Side.pos_le {l : List Ord} {d : List Int} {i : Nat} {fs : List Int} (h : Side l d i fs) {k : Nat} (hk : k < d.length) (hf : 0 < fAt fs (dN d k)) : k ≤ i := by
  by_cases e : k ≤ i
  · exact e
  · rw [h.zero k (by omega) hk] at hf; omega
theorem Side.part_ge {l : List Ord} {d : List Int} {i : Nat} {fs : List Int} (h : Side l d i fs) {k : Nat} (hf : fAt fs (dN d k) < (oAt l (dN d k)).pow) : i ≤ k := by
  by_cases e : i ≤ k
  · exact e
  · rw [h.full k (by omega)] at hf; omega
theorem Mer.cleared {l : List Ord} {db ds : List Int} {i j : Nat} {fs : List Int} {q : Int} (h : Mer l db ds i j fs q) (Rb : Rk true l db) (Rs : Rk false l ds) (hpr : ∀ x, x < l.length → -1000000 ≤ (oAt l x).price ∧ (oAt l x).price ≤ 1000000)
    (he : i < db.length → j < ds.length → (oAt l (dN db i)).price < (oAt l (dN ds j)).price) : Cleared l fs q := by
  refine ⟨h.len, h.rng, h.buys, h.sells, ?_, ?_⟩
  · obtain ⟨_, _, h3⟩ := fit_lo h.len
    obtain ⟨_, _, g3⟩ := fit_hi h.len
    rcases h3 with h3 | ⟨a, ha, ca, h3⟩
    · rcases g3 with g3 | ⟨c, hc, cc, g3⟩
      · omega
      · have := hpr c hc; omega
    · rcases g3 with g3 | ⟨c, hc, cc, g3⟩
      · have := hpr a ha; omega
      · rw [h3, g3]
        rcases ca with ⟨ba, fa⟩ | ⟨ba, fa⟩
        · rcases cc with ⟨bc, fc⟩ | ⟨bc, fc⟩
          · exact h.tr c a hc ha bc ba fc fa
          · obtain ⟨k, hk, rfl⟩ := Rs.all a ha ba
            obtain ⟨k', hk', rfl⟩ := Rs.all c hc bc
            have g1 := Side.pos_le h.ss hk fa
            have g2 := h.ss.part_ge fc
            exact Rs.le_false (by omega) hk'
        · rcases cc with ⟨bc, fc⟩ | ⟨bc, fc⟩
          · obtain ⟨k, hk, rfl⟩ := Rb.all a ha ba
            obtain ⟨k', hk', rfl⟩ := Rb.all c hc bc
            have g1 := Side.pos_le h.sb hk' fc
            have g2 := h.sb.part_ge fa
            exact Rb.le_true (by omega) hk
          · obtain ⟨k, hk, rfl⟩ := Rb.all a ha ba
            obtain ⟨k', hk', rfl⟩ := Rs.all c hc bc
            have g1 := h.sb.part_ge fa
            have g2 := h.ss.part_ge fc
            have := he (by omega) (by omega)
            have := Rb.le_true g1 hk
            have := Rs.le_false g2 hk'
            omega
  · by_cases hi : i < db.length
    · refine ⟨(oAt l (dN db i)).price, fun x hx => ⟨fun bx px => ?_, fun bx px => ?_⟩⟩
      · obtain ⟨k, hk, rfl⟩ := Rb.all x hx bx
        by_cases e : k < i
        · exact h.sb.full k e
        · have := Rb.le_true (k := i) (k' := k) (by omega) hk; omega
      · obtain ⟨k, hk, rfl⟩ := Rs.all x hx bx
        by_cases e : k < j
        · exact h.ss.full k e
        · have := Rs.le_false (k := j) (k' := k) (by omega) hk
          have := he hi (by omega)
          omega
    · refine ⟨-2000000, fun x hx => ⟨fun bx px => ?_, fun bx px => ?_⟩⟩
      · obtain ⟨k, hk, rfl⟩ := Rb.all x hx bx
        exact h.sb.full k (by omega)
      · have := hpr x hx; omega
theorem sideS_bd (b : Bool) : ∀ (l : List Ord) (fs : List Int), fs.length = l.length → (∀ i, i < l.length → 0 ≤ fAt fs i ∧ fAt fs i ≤ 100000) → 0 ≤ sideS b (l.zip fs) ∧ sideS b (l.zip fs) ≤ 100000 * (l.length : Int) := by
  intro l
  induction l with
  | nil => intro fs _ _; simp [sideS]
  | cons o l ih =>
    intro fs hf h
    cases fs with
    | nil => cases hf
    | cons f fs =>
      rw [List.zip_cons_cons, sideS_cons]
      obtain ⟨h1, h2⟩ := ih fs (by simpa using hf) (fun i hi => h (i + 1) (by simpa using hi))
      have h3 : 0 ≤ sidep b (o, f) ∧ sidep b (o, f) ≤ 100000 := by
        have : 0 ≤ f ∧ f ≤ 100000 := h 0 (by simp)
        unfold sidep
        split
        · exact this
        · omega
      simp only [List.length_cons]
      omega
theorem Mer.q_bd {l : List Ord} {db ds : List Int} {i j n : Nat} {fs : List Int} {q : Int} (h : Mer l db ds i j fs q) (hp : ∀ x, x < n → 1 ≤ (oAt l x).pow ∧ (oAt l x).pow ≤ 100000 ∧ -1000000 ≤ (oAt l x).price ∧ (oAt l x).price ≤ 1000000) (hn : l.length = n) (h32 : n ≤ 32) : 0 ≤ q ∧ q ≤ 3200000 := by
  subst hn
  have := sideS_bd true l fs h.len (fun i hi => by have := h.rng i hi; have := hp i hi; omega)
  rw [h.buys] at this
  omega
/-- the price of a clearing -/
def cPrice (l : List Ord) (fs : List Int) (q : Int) : Int := if 0 < q then ((fit l fs).1 + (fit l fs).2) / 2 else 0
theorem pos_of {b : Bool} {l : List Ord} {fs : List Int} (hl : fs.length = l.length) (h : 0 < sideS b (l.zip fs)) : ∃ x, x < l.length ∧ (oAt l x).buy = b ∧ 0 < fAt fs x := by
  obtain ⟨k, hk, hb, hf⟩ := some_more (b := b) (fs := fs) (gs := List.replicate l.length 0) hl (by simp) (by rw [(gains_zero 0 l).2]; exact h)
  rw [fAt_rep] at hf
  exact ⟨k, hk, hb, hf⟩
theorem Cleared.fit_bd {l : List Ord} {fs : List Int} {q : Int} (h : Cleared l fs q) (hq : 0 < q) (hpr : ∀ x, x < l.length → -1000000 ≤ (oAt l x).price ∧ (oAt l x).price ≤ 1000000) : -1000000 ≤ (fit l fs).1 ∧ (fit l fs).2 ≤ 1000000 := by
  obtain ⟨b, hb, bb, fb⟩ := pos_of (b := true) h.len (by rw [h.buys]; exact hq)
  obtain ⟨s, hs, bs, fs'⟩ := pos_of (b := false) h.len (by rw [h.sells]; exact hq)
  have h1 := (fit_lo h.len).1 s hs (.inl ⟨bs, fs'⟩)
  have h2 := (fit_hi h.len).1 b hb (.inl ⟨bb, fb⟩)
  have := hpr b hb
  have := hpr s hs
  omega
/-- AuctionMore, plain -/
theorem oAt_app {l : List Ord} {o : Ord} {i : Nat} (hi : i < l.length) : oAt (l ++ [o]) i = oAt l i := by
  unfold oAt; rw [List.getD_eq_getElem?_getD, List.getD_eq_getElem?_getD, List.getElem?_append_left hi]
theorem oAt_last {l : List Ord} {o : Ord} : oAt (l ++ [o]) l.length = o := by
  unfold oAt; rw [List.getD_eq_getElem?_getD, List.getElem?_append_right (Nat.le_refl _)]; simp
theorem fAt_take {fs : List Int} {n i : Nat} (hi : i < n) : fAt (fs.take n) i = fAt fs i := by
  unfold fAt; rw [List.getD_eq_getElem?_getD, List.getD_eq_getElem?_getD, List.getElem?_take, if_pos hi]
theorem sideS_app {b : Bool} {l : List Ord} {o : Ord} {gs : List Int} (hg : gs.length = l.length + 1) : sideS b ((l ++ [o]).zip gs) = sideS b (l.zip (gs.take l.length)) + if o.buy = b then fAt gs l.length else 0 := by
  have h1 : gs = gs.take l.length ++ [fAt gs l.length] := by
    rw [fAt_eq (by omega)]
    rw [← List.take_succ_eq_append_getElem (by omega), List.take_of_length_le (by omega)]
  rw [h1, List.zip_append (by simp; omega), sideS_append, ← h1]
  congr 1
  show sideS b [(o, fAt gs l.length)] = _
  unfold sideS sidep
  simp
theorem auction_more {l : List Ord} {o : Ord} {fs gs : List Int} {q q' : Int} (h : Cleared l fs q) (g : Cleared (l ++ [o]) gs q') (ho : o.buy = false) : q ≤ q' ∧ (0 < q → cPrice (l ++ [o]) gs q' ≤ cPrice l fs q) := by
  have hl := h.len
  have gl : gs.length = l.length + 1 := by have := g.len; simpa using this
  have tl : (gs.take l.length).length = l.length := by rw [List.length_take]; omega
  have gb := g.buys
  have gs' := g.sells
  rw [sideS_app gl, ho] at gb gs'
  simp at gb gs'
  have glast := (g.rng l.length (by simp)).1
  have hb : ∀ i, i < l.length → oAt (l ++ [o]) i = oAt l i := fun i hi => oAt_app hi
  have hf : ∀ i, i < l.length → fAt (gs.take l.length) i = fAt gs i := fun i hi => fAt_take hi
  have hin : ∀ i, i < l.length → i < (l ++ [o]).length := fun i hi => by simp; omega
  have LO := (fit_lo hl).1
  have HI := (fit_hi hl).1
  have LO' := (fit_lo g.len).1
  have HI' := (fit_hi g.len).1
  have hfit := h.fits
  have gfit := g.fits
  -- the volume
  have V : q ≤ q' := by
    obtain ⟨t, ht⟩ := g.ends
    by_cases hv : q ≤ q'
    · exact hv
    · exfalso
      by_cases e : t < (fit l fs).2
      · -- every buyer with a fill is full behind the change
        have := sideS_mono true l fs (gs.take l.length) hl tl (fun i hi bi => by
          rw [hf i hi]
          by_cases e0 : 0 < fAt fs i
          · have p1 := HI i hi (.inl ⟨bi, e0⟩)
            have := (ht i (hin i hi)).1
            rw [hb i hi] at this
            rw [this bi (by omega)]
            exact (h.rng i hi).2
          · have := (g.rng i (hin i hi)).1
            omega)
        rw [h.buys, gb] at this
        omega
      · have := sideS_mono false l fs (gs.take l.length) hl tl (fun i hi bi => by
          rw [hf i hi]
          by_cases e0 : 0 < fAt fs i
          · have p1 := LO i hi (.inl ⟨bi, e0⟩)
            have := (ht i (hin i hi)).2
            rw [hb i hi] at this
            rw [this bi (by omega)]
            exact (h.rng i hi).2
          · have := (g.rng i (hin i hi)).1
            omega)
        rw [h.sells] at this
        omega
  refine ⟨V, fun hq => ?_⟩
  unfold cPrice
  rw [if_pos (by omega), if_pos hq]
  -- a buyer with more
  have MB : ∀ k, k < l.length → (oAt l k).buy = true → fAt fs k < fAt gs k → (fit (l ++ [o]) gs).2 ≤ (oAt l k).price ∧ (oAt l k).price ≤ (fit l fs).1 := fun k hk bk hlt => by
    have f0 := (h.rng k hk).1
    have p1 := HI' k (hin k hk) (.inl ⟨by rw [hb k hk]; exact bk, by show 0 < fAt gs k; omega⟩)
    rw [hb k hk] at p1
    have g1 := (g.rng k (hin k hk)).2
    rw [hb k hk] at g1
    exact ⟨p1, LO k hk (.inr ⟨bk, by show fAt fs k < (oAt l k).pow; omega⟩)⟩
  have MS : ∀ k, k < l.length → (oAt l k).buy = false → fAt gs k < fAt fs k → (fit (l ++ [o]) gs).2 ≤ (oAt l k).price ∧ (oAt l k).price ≤ (fit l fs).1 := fun k hk bk hlt => by
    have f1 := (h.rng k hk).2
    have g0 := (g.rng k (hin k hk)).1
    have p1 := HI' k (hin k hk) (.inr ⟨by rw [hb k hk]; exact bk, by rw [hb k hk]; show fAt gs k < (oAt l k).pow; omega⟩)
    rw [hb k hk] at p1
    exact ⟨p1, LO k hk (.inl ⟨bk, by show 0 < fAt fs k; omega⟩)⟩
  by_cases hm : (∃ k, k < l.length ∧ (oAt l k).buy = true ∧ fAt fs k < fAt gs k) ∨ (∃ k, k < l.length ∧ (oAt l k).buy = false ∧ fAt gs k < fAt fs k)
  · have : (fit (l ++ [o]) gs).2 ≤ (fit l fs).1 := by
      rcases hm with ⟨k, hk, bk, hlt⟩ | ⟨k, hk, bk, hlt⟩
      · have := MB k hk bk hlt; omega
      · have := MS k hk bk hlt; omega
    omega
  · have n1 : ∀ k, k < l.length → (oAt l k).buy = true → fAt gs k ≤ fAt fs k := fun k hk bk => by
      by_cases e : fAt gs k ≤ fAt fs k
      · exact e
      · exact absurd (.inl ⟨k, hk, bk, by omega⟩) hm
    have n2 : ∀ k, k < l.length → (oAt l k).buy = false → fAt fs k ≤ fAt gs k := fun k hk bk => by
      by_cases e : fAt fs k ≤ fAt gs k
      · exact e
      · exact absurd (.inr ⟨k, hk, bk, by omega⟩) hm
    -- then all fills are the same, and the new order has none
    have eb : ∀ k, k < l.length → (oAt l k).buy = true → fAt gs k = fAt fs k := fun k hk bk => by
      by_cases e : fAt gs k = fAt fs k
      · exact e
      · have := sideS_lt true l (gs.take l.length) fs tl hl (fun i hi bi => by rw [hf i hi]; exact n1 i hi bi) k hk bk (by rw [hf k hk]; have := n1 k hk bk; omega)
        rw [gb, h.buys] at this
        omega
    have es : ∀ k, k < l.length → (oAt l k).buy = false → fAt gs k = fAt fs k := fun k hk bk => by
      by_cases e : fAt gs k = fAt fs k
      · exact e
      · have hlt := sideS_lt false l fs (gs.take l.length) hl tl (fun i hi bi => by rw [hf i hi]; exact n2 i hi bi) k hk bk (by rw [hf k hk]; have := n2 k hk bk; omega)
        have hle := sideS_mono true l (gs.take l.length) fs tl hl (fun i hi bi => by rw [hf i hi]; exact n1 i hi bi)
        rw [gb, h.buys] at hle
        rw [h.sells] at hlt
        omega
    have e0 : fAt gs l.length = 0 := by
      have hle := sideS_mono true l (gs.take l.length) fs tl hl (fun i hi bi => by rw [hf i hi]; exact n1 i hi bi)
      rw [gb, h.buys] at hle
      have hge := sideS_mono false l fs (gs.take l.length) hl tl (fun i hi bi => by rw [hf i hi]; exact n2 i hi bi)
      rw [h.sells] at hge
      omega
    have ea : ∀ k, k < l.length → fAt gs k = fAt fs k := fun k hk => by
      cases hbk : (oAt l k).buy
      · exact es k hk hbk
      · exact eb k hk hbk
    have hlo : (fit (l ++ [o]) gs).1 ≤ (fit l fs).1 := by
      obtain ⟨_, b1, b2⟩ := fit_lo hl
      obtain ⟨_, c1, c2⟩ := fit_lo g.len
      rcases c2 with c2 | ⟨x, hx, cx, c2⟩
      · omega
      · by_cases e : x < l.length
        · rw [hb x e] at cx c2
          rw [ea x e] at cx
          have := LO x e cx
          omega
        · have : x = l.length := by simp at hx; omega
          subst this
          rw [oAt_last] at cx
          rcases cx with ⟨_, cx⟩ | ⟨cx, _⟩
          · simp only at cx; omega
          · simp only at cx; rw [ho] at cx; cases cx
    have hhi : (fit (l ++ [o]) gs).2 ≤ (fit l fs).2 := by
      obtain ⟨_, b1, b2⟩ := fit_hi hl
      obtain ⟨_, c1, _⟩ := fit_hi g.len
      rcases b2 with b2 | ⟨x, hx, cx, b2⟩
      · omega
      · have := HI' x (hin x hx) (by rw [hb x hx, ea x hx]; exact cx)
        rw [hb x hx] at this
        omega
    omega
/-- AuctionVerified, plain -/
theorem more_unbalanced {l : List Ord} {fs : List Int} {q d : Int} (h : Cleared l fs q) {x : Nat} (hx : x < l.length) (hd : d ≠ 0) : sideS true (l.zip (fs.set x (fAt fs x + d))) ≠ sideS false (l.zip (fs.set x (fAt fs x + d))) := by
  rw [sideS_set _ _ _ _ _ h.len hx, sideS_set _ _ _ _ _ h.len hx, h.buys, h.sells]
  cases (oAt l x).buy <;> simp <;> omega
end Go.Proofs.YtibhgcldogfonaaGreatDoor.Pl
