/- commit.follow, plain: its loops over patterns and generators; bounds of a path. No program. -/
import Derived.Test.YtchafkocobbndaaPCommitC
import Derived.Test.YtchafkocobbndaaPCommitD
namespace Go.Proofs.Ytchafkocobbndaa.Pl
def trA (l : List CU) (a : List (Bool × Int)) (q i : Nat) : (Bool × Int) × Int × Bool := tr (cu l i) (a.getD i (false, 0)) (q.testBit i)
/-- the place while the generators ahead of i have gone on -/
def pmix (l : List CU) (a : List (Bool × Int)) (q i : Nat) : List (Bool × Int) := (List.range 3).map fun j => if j < i then (trA l a q j).1 else a.getD j (false, 0)
theorem pmix_len (l : List CU) (a : List (Bool × Int)) (q i : Nat) : (pmix l a q i).length = 3 := by unfold pmix; simp
theorem pmix_at (l : List CU) (a : List (Bool × Int)) (q i j : Nat) (hj : j < 3) : (pmix l a q i).getD j (false, 0) = if j < i then (trA l a q j).1 else a.getD j (false, 0) := getD_map _ _ _ j hj
theorem pmix_zero {l : List CU} {a : List (Bool × Int)} {q : Nat} (ha : a.length = 3) : pmix l a q 0 = a := by
  refine List.ext_getElem (by rw [pmix_len, ha]) fun i h1 h2 => ?_
  simp [pmix, h2]
theorem pmix_set (l : List CU) (a : List (Bool × Int)) (q i : Nat) : (pmix l a q i).set i (trA l a q i).1 = pmix l a q (i + 1) := by
  refine List.ext_getElem (by simp [pmix]) fun j h1 h2 => ?_
  rw [List.getElem_set]
  simp only [pmix, List.getElem_map, List.getElem_range]
  by_cases e : i = j
  · subst e; rw [if_pos rfl, if_pos (Nat.lt_succ_self i)]
  · rw [if_neg e]
    by_cases h : j < i
    · rw [if_pos h, if_pos (by omega)]
    · rw [if_neg h, if_neg (by omega)]
theorem pmix_all {l : List CU} {a : List (Bool × Int)} {q : Nat} (h : ∀ j, l.length ≤ j → j < 3 → a.getD j (false, 0) = (false, 0)) : pmix l a q l.length = nextAt l a q := by
  unfold pmix nextAt
  refine List.map_congr_left fun j hj => ?_
  by_cases e : j < l.length
  · rw [if_pos e, if_pos e]; rfl
  · rw [if_neg e, if_neg e]; exact h j (by omega) (by simpa using hj)
def ncost (l : List CU) (a : List (Bool × Int)) (q i : Nat) : Int := sumN (fun j => (trA l a q j).2.1) i
theorem ncost_succ (l : List CU) (a : List (Bool × Int)) (q i : Nat) : ncost l a q (i + 1) = ncost l a q i + (trA l a q i).2.1 := rfl
theorem ncost_all (l : List CU) (a : List (Bool × Int)) (q : Nat) : ncost l a q l.length = nextCost l a q := rfl
def nok (l : List CU) (a : List (Bool × Int)) (q : Nat) : Nat → Bool
  | 0 => true
  | i + 1 => nok l a q i && (trA l a q i).2.2
theorem nok_iff (l : List CU) (a : List (Bool × Int)) (q i : Nat) : nok l a q i = true ↔ ∀ j, j < i → (trA l a q j).2.2 = true := by
  induction i with
  | zero => simp [nok]
  | succ i ih =>
    rw [nok, Bool.and_eq_true, ih]
    refine ⟨fun ⟨h1, h2⟩ j hj => ?_, fun h => ⟨fun j hj => h j (by omega), h i (by omega)⟩⟩
    by_cases e : j = i
    · rw [e]; exact h2
    · exact h1 j (by omega)
theorem nok_all (l : List CU) (a : List (Bool × Int)) (q : Nat) : nok l a q l.length = true ↔ nextOk l a q := nok_iff l a q l.length
theorem tr_cost {u : CU} (h : duCheck u = 0) (s : Bool × Int) (b : Bool) : 0 ≤ (tr u s b).2.1 ∧ (tr u s b).2.1 ≤ 1000000 := by
  obtain ⟨_, _, _, _, _, _, _, _, _, _, _, s0, s1⟩ := ucheck_ok (ustate_ok (duCheck_ok h).1).1
  unfold tr
  split
  · simp
  · split
    · simp
    · exact ⟨s0, s1⟩
theorem ncost_bd {l : List CU} (hl : ∀ u ∈ l, duCheck u = 0) (a : List (Bool × Int)) (q i : Nat) (hi : i ≤ l.length) : 0 ≤ ncost l a q i ∧ ncost l a q i ≤ 1000000 * (i : Int) := by
  induction i with
  | zero => simp [ncost, sumN]
  | succ i ih =>
    obtain ⟨a1, a2⟩ := ih (by omega)
    have := tr_cost (hl _ (cu_mem (by omega : i < l.length))) (a.getD i (false, 0)) (q.testBit i)
    rw [ncost_succ]
    unfold trA
    push_cast
    omega
theorem ocost_bd {u : CU} (h : duCheck u = 0) (x : Int) (x0 : 0 ≤ x) (x1 : x ≤ u.r.most) : -100000000000 ≤ ocost u.o.2 x ∧ ocost u.o.2 x ≤ 100000000000 := by
  obtain ⟨g, c1, c2, c3, c4⟩ := unit_facts h
  have hc := cacc_bd g x x0 (by omega) u.o.2.length
  rw [List.take_length] at hc
  have e : (cacc u.o.2 x).1 = ocost u.o.2 x := rfl
  rw [e] at hc
  omega
theorem pcost_bd {l : List CU} {on : Nat → Bool} {P : List Int} (hl3 : l.length ≤ 3) (hl : ∀ u ∈ l, duCheck u = 0) (hf : Fits l on P) : -300000000000 ≤ pcost l P ∧ pcost l P ≤ 300000000000 := by
  have key : ∀ n, n ≤ l.length → -100000000000 * (n : Int) ≤ sumN (fun i => ocost (cu l i).o.2 (max 0 (P.getD i 0))) n ∧ sumN (fun i => ocost (cu l i).o.2 (max 0 (P.getD i 0))) n ≤ 100000000000 * (n : Int) := fun n => by
    induction n with
    | zero => intro _; simp [sumN]
    | succ n ih =>
      intro hn
      obtain ⟨a1, a2⟩ := ih (by omega)
      have hm := hl _ (cu_mem (by omega : n < l.length))
      obtain ⟨_, c1, c2, c3, _⟩ := unit_facts hm
      have := ocost_bd hm (max 0 (P.getD n 0)) (by omega) (by rcases fits_pow hf (by omega : n < l.length) with e | e <;> omega)
      rw [sumN]
      push_cast
      omega
  obtain ⟨k1, k2⟩ := key l.length (Nat.le_refl _)
  unfold pcost
  omega
/-- what a path costs is bounded -/
theorem path_bd {l : List CU} {ds : List Int} (hl3 : l.length ≤ 3) (hl : ∀ u ∈ l, duCheck u = 0) (k : Nat) (V : List (List Int)) (hk : V.length = k) (h : PathOk l ds V) : -1000000000000 * (k : Int) ≤ pathCost l V ∧ pathCost l V ≤ 1000000000000 * (k : Int) := by
  induction k generalizing V with
  | zero =>
    have e : V = [] := List.eq_nil_of_length_eq_zero hk
    subst e
    have hc : pathCost l [] = 0 := by
      have e : sumN (fun i => (runU l [] i).2.2.1) l.length = 0 := (sumN_congr (f := fun i => (runU l [] i).2.2.1) (g := fun _ => 0) fun i _ => rfl).trans (sumN_zero _)
      unfold pathCost; rw [e]; rfl
    rw [hc]; simp
  | succ k ih =>
    rcases List.eq_nil_or_concat V with e | ⟨V', P, e⟩
    · subst e; simp at hk
    · rw [List.concat_eq_append] at e
      subst e
      obtain ⟨hV', hkd, hPl, hPs, q, hq, hf, hn⟩ := path_last hl3 hl h
      obtain ⟨_, _, ec⟩ := path_ext hl3 hl hV' hkd hPl hf hPs hn
      obtain ⟨a1, a2⟩ := ih V' (by rw [List.length_append] at hk; simpa using hk) hV'
      obtain ⟨p1, p2⟩ := pcost_bd hl3 hl hf
      obtain ⟨n1, n2⟩ := ncost_bd hl (pathAt l V') q l.length (Nat.le_refl _)
      rw [ncost_all] at n1 n2
      rw [ec]
      push_cast
      omega
theorem pathAt_bd {l : List CU} {ds : List Int} {V : List (List Int)} (hl3 : l.length ≤ 3) (hl : ∀ u ∈ l, duCheck u = 0) (h : PathOk l ds V) (i : Nat) : 0 ≤ ((pathAt l V).getD i (false, 0)).2 ∧ ((pathAt l V).getD i (false, 0)).2 ≤ 200000 := by
  by_cases hi : i < l.length
  · rw [pathAt_at hl3 hi]
    have := ustate_ok (run_valid hl hi (h.run i hi))
    exact ⟨by have := this.2.1; simp only; omega, this.2.2.1⟩
  · by_cases h3 : i < 3
    · unfold pathAt; rw [getD_map _ _ _ _ h3, if_neg hi]; simp
    · rw [List.getD_eq_getElem?_getD, List.getElem?_eq_none (by unfold pathAt; simp; omega)]; simp
theorem pathAt_rest {l : List CU} {V : List (List Int)} (j : Nat) (h : l.length ≤ j) (h3 : j < 3) : (pathAt l V).getD j (false, 0) = (false, 0) := by
  unfold pathAt; rw [getD_map _ _ _ _ h3, if_neg (by omega)]
theorem pathAt_len (l : List CU) (V : List (List Int)) : (pathAt l V).length = 3 := by unfold pathAt; simp
/-- what follow has given behind the patterns ahead of q -/
def FOkQ (l : List CU) (ds : List Int) (k : Nat) (w : Way) (q : Nat) (X : List Way) : Prop := (∀ x ∈ X, IsWay l ds (k + 1) x) ∧ ∀ q', q' < q → nextOk l w.at_ q' → ∀ P : List Int, P.length = l.length → Fits l q'.testBit P → psum l P = ds.getD k 0 → ∃ x ∈ X, x.at_ = nextAt l w.at_ q' ∧ x.cost ≤ w.cost + nextCost l w.at_ q' + pcost l P
theorem fokq_zero (l : List CU) (ds : List Int) (k : Nat) (w : Way) : FOkQ l ds k w 0 [] := ⟨fun x hx => absurd hx (by simp), fun q hq => absurd hq (by omega)⟩
theorem fokq_all {l : List CU} {ds : List Int} {k : Nat} {w : Way} {X : List Way} (h : FOkQ l ds k w (2 ^ l.length) X) : FOk l ds k w X := h
theorem fokq_skip {l : List CU} {ds : List Int} {k q : Nat} {w : Way} {X : List Way} (h : FOkQ l ds k w q X) (hn : nextOk l w.at_ q → ∀ P, Fits l q.testBit P → psum l P ≠ ds.getD k 0) : FOkQ l ds k w (q + 1) X := by
  refine ⟨h.1, fun q' hq' h1 P h2 h3 h4 => ?_⟩
  by_cases e : q' = q
  · subst e; exact absurd h4 (hn h1 P h3)
  · exact h.2 q' (by omega) h1 P h2 h3 h4
theorem fokq_add {l : List CU} {ds : List Int} {k q : Nat} {w : Way} {X : List Way} {P : List Int} {c : Int} (hl3 : l.length ≤ 3) (hl : ∀ u ∈ l, duCheck u = 0) (hk : k < ds.length) (hw : IsWay l ds k w) (h : FOkQ l ds k w q X) (hn : nextOk l w.at_ q) (hs : Srv l q.testBit (ds.getD k 0) P c) :
    FOkQ l ds k w (q + 1) (X ++ [⟨nextAt l w.at_ q, w.cost + nextCost l w.at_ q + c, w.pows ++ [P]⟩]) := by
  obtain ⟨w1, w2, w3, w4⟩ := hw
  subst w2
  rw [w3] at hn
  obtain ⟨e1, e2, e3⟩ := path_ext hl3 hl w1 hk hs.len hs.fit hs.sum hn
  refine ⟨fun x hx => ?_, fun q' hq' h1 P' h2 h3 h4 => ?_⟩
  · rcases List.mem_append.1 hx with hx | hx
    · exact h.1 x hx
    · rw [List.mem_singleton.1 hx]
      exact ⟨e1, by simp, by rw [w3]; exact e2.symm, by rw [e3, w4, w3, hs.ec]⟩
  · by_cases e : q' = q
    · subst e
      refine ⟨_, List.mem_append_right _ (List.mem_singleton.2 rfl), rfl, ?_⟩
      have := hs.best P' h3 h4
      simp only
      omega
    · obtain ⟨x, hx, r⟩ := h.2 q' (by omega) h1 P' h2 h3 h4
      exact ⟨x, List.mem_append_left _ hx, r⟩
/-- a place as memory holds it, two cells for each generator -/
theorem nextAt_three (l : List CU) (a : List (Bool × Int)) (q : Nat) : ∃ x0 x1 x2, nextAt l a q = [x0, x1, x2] := ⟨_, _, _, rfl⟩
end Go.Proofs.Ytchafkocobbndaa.Pl
