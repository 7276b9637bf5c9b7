/- Commitments, plain: paths of all generators, their extension by a period, and the invariant of commit.Best. No program. -/
import Derived.Test.YtchafkocobbndaaPCommit
import Derived.Test.YtchafkocobbndaaPDualB
namespace Go.Proofs.Ytchafkocobbndaa.Pl
/-- one generator from a period to the next: its state, the cost, whether it is permitted -/
def tr (u : CU) (s : Bool × Int) (b : Bool) : (Bool × Int) × Int × Bool :=
  if b = s.1 then ((s.1, min (s.2 + 1) 200000), 0, true) else if s.1 = true then ((false, 1), 0, decide (u.r.minOn ≤ s.2)) else ((true, 1), u.r.start, decide (u.r.minOff ≤ s.2))
theorem unext_tr {u : CU} {σ : St} (hck : duCheck u = 0) (hv : ustate u.r σ = 0) {p : Int} (hp : p = -1 ∨ (u.r.least ≤ p ∧ p ≤ u.r.most)) :
    ((unext u.r σ p).2.2 = 0 ↔ (tr u (σ.on, σ.since) (decide (p ≠ -1))).2.2 = true) ∧
    ((unext u.r σ p).2.2 = 0 → ((unext u.r σ p).1.on, (unext u.r σ p).1.since) = (tr u (σ.on, σ.since) (decide (p ≠ -1))).1 ∧ (unext u.r σ p).2.1 = (tr u (σ.on, σ.since) (decide (p ≠ -1))).2.1) := by
  obtain ⟨h1, h2, h3, h4, h5⟩ := duCheck_ok hck
  obtain ⟨c0, c1, c2, c3, c4⟩ := ustate_ok hv
  obtain ⟨r1, r2, r3, r4, r5, r6, r7, r8⟩ := ucheck_ok c0
  have e1 : ¬ (p ≠ -1 ∧ outB p u.r.least u.r.most = true) := by
    rintro ⟨a, b⟩
    rcases hp with hp | hp
    · exact a hp
    · rw [outB_false.2 hp] at b; cases b
  have e3 : ¬ (σ.on = true ∧ p ≠ -1 ∧ outB p (σ.power - u.r.down) (σ.power + u.r.up) = true) := by
    rintro ⟨a, b, c⟩
    have hpw := c3 a
    rcases hp with hp | hp
    · exact b hp
    · rw [outB_false.2 ⟨by omega, by omega⟩] at c; cases c
  unfold unext tr
  rw [if_neg e1]
  by_cases hpm : p = -1
  · subst hpm
    cases hon : σ.on with
    | false => simp
    | true =>
      by_cases hs : σ.since < u.r.minOn
      · simp [hs]
      · simp [hs, Int.not_lt.1 hs]
  · cases hon : σ.on with
    | false =>
      by_cases hs : σ.since < u.r.minOff
      · simp [hs, hpm]
      · simp [hs, hpm, Int.not_lt.1 hs]
    | true =>
      have e3' : ¬ (σ.on = true ∧ ¬ p = -1 ∧ outB p (σ.power - u.r.down) (σ.power + u.r.up) = true) := e3
      have e4 : outB p (σ.power - u.r.down) (σ.power + u.r.up) = false := by
        cases hh : outB p (σ.power - u.r.down) (σ.power + u.r.up)
        · rfl
        · exact absurd ⟨hon, hpm, hh⟩ e3'
      simp [hpm, e4]
/-- the powers of generator i -/
def col (V : List (List Int)) (i : Nat) : List Int := V.map fun P => P.getD i 0
theorem col_snoc (V : List (List Int)) (P : List Int) (i : Nat) : col (V ++ [P]) i = col V i ++ [P.getD i 0] := by unfold col; rw [List.map_append]; rfl
/-- the run of generator i -/
def runU (l : List CU) (V : List (List Int)) (i : Nat) : St × List St × Int × Int := racc (cu l i).r (cu l i).s (col V i)
structure PathOk (l : List CU) (ds : List Int) (V : List (List Int)) : Prop where
  len : V.length ≤ ds.length
  run : ∀ i, i < l.length → (runU l V i).2.2.2 = 0
  row : ∀ t, t < V.length → (V.getD t []).length = l.length ∧ psum l (V.getD t []) = ds.getD t 0
def pathCost (l : List CU) (V : List (List Int)) : Int := sumN (fun i => (runU l V i).2.2.1) l.length + sumN (fun t => pcost l (V.getD t [])) V.length
def pathAt (l : List CU) (V : List (List Int)) : List (Bool × Int) := (List.range 3).map fun i => if i < l.length then ((runU l V i).1.on, (runU l V i).1.since) else (false, 0)
theorem pathAt_at {l : List CU} {V : List (List Int)} {i : Nat} (hl : l.length ≤ 3) (hi : i < l.length) : (pathAt l V).getD i (false, 0) = ((runU l V i).1.on, (runU l V i).1.since) := by
  unfold pathAt
  rw [List.getD_eq_getElem?_getD, List.getElem?_map, List.getElem?_range (by omega)]
  simp [hi]
def nextAt (l : List CU) (a : List (Bool × Int)) (q : Nat) : List (Bool × Int) := (List.range 3).map fun i => if i < l.length then (tr (cu l i) (a.getD i (false, 0)) (q.testBit i)).1 else (false, 0)
def nextCost (l : List CU) (a : List (Bool × Int)) (q : Nat) : Int := sumN (fun i => (tr (cu l i) (a.getD i (false, 0)) (q.testBit i)).2.1) l.length
def nextOk (l : List CU) (a : List (Bool × Int)) (q : Nat) : Prop := ∀ i, i < l.length → (tr (cu l i) (a.getD i (false, 0)) (q.testBit i)).2.2 = true
theorem path_nil {l : List CU} {ds : List Int} : PathOk l ds [] := ⟨Nat.zero_le _, fun _ _ => rfl, fun t ht => absurd ht (by simp)⟩
theorem run_snoc (l : List CU) (V : List (List Int)) (P : List Int) (i : Nat) : runU l (V ++ [P]) i = rstep (cu l i).r (runU l V i) (P.getD i 0) := by
  unfold runU; rw [col_snoc, racc_snoc]
theorem getD_snoc (V : List (List Int)) (P : List Int) (t : Nat) : (V ++ [P]).getD t [] = if t < V.length then V.getD t [] else if t = V.length then P else [] := by
  rw [List.getD_eq_getElem?_getD, List.getD_eq_getElem?_getD]
  by_cases h : t < V.length
  · rw [if_pos h, List.getElem?_append_left h]
  · rw [if_neg h, List.getElem?_append_right (by omega)]
    by_cases e : t = V.length
    · subst e; simp
    · rw [if_neg e, List.getElem?_eq_none (by simp; omega)]; rfl
theorem run_valid {l : List CU} (hl : ∀ u ∈ l, duCheck u = 0) {V : List (List Int)} {i : Nat} (hi : i < l.length) (h : (runU l V i).2.2.2 = 0) : ustate (cu l i).r (runU l V i).1 = 0 :=
  (racc_inv _ _ (duCheck_ok (hl _ (cu_mem hi))).1 _ h).1
theorem fits_pow {l : List CU} {on : Nat → Bool} {P : List Int} (h : Fits l on P) {i : Nat} (hi : i < l.length) : P.getD i 0 = -1 ∨ ((cu l i).r.least ≤ P.getD i 0 ∧ P.getD i 0 ≤ (cu l i).r.most) := by
  obtain ⟨a, b⟩ := h i hi
  cases ho : on i with
  | false => exact .inl (a ho)
  | true => exact .inr (b ho)
theorem fits_bit {l : List CU} (hl : ∀ u ∈ l, duCheck u = 0) {on : Nat → Bool} {P : List Int} (h : Fits l on P) {i : Nat} (hi : i < l.length) : decide (P.getD i 0 ≠ -1) = on i := by
  obtain ⟨a, b⟩ := h i hi
  obtain ⟨_, c1, _⟩ := unit_facts (hl _ (cu_mem hi))
  cases ho : on i with
  | false => rw [a ho]; rfl
  | true => have := b ho; rw [decide_eq_true_iff]; omega
/-- a path goes on by a period -/
theorem path_ext {l : List CU} {ds : List Int} {V : List (List Int)} {P : List Int} {q : Nat} (hl3 : l.length ≤ 3) (hl : ∀ u ∈ l, duCheck u = 0) (hV : PathOk l ds V) (hk : V.length < ds.length) (hlen : P.length = l.length) (hf : Fits l q.testBit P) (hs : psum l P = ds.getD V.length 0) (hn : nextOk l (pathAt l V) q) :
    PathOk l ds (V ++ [P]) ∧ pathAt l (V ++ [P]) = nextAt l (pathAt l V) q ∧ pathCost l (V ++ [P]) = pathCost l V + nextCost l (pathAt l V) q + pcost l P := by
  have key : ∀ i, i < l.length → runU l (V ++ [P]) i = ((unext (cu l i).r (runU l V i).1 (P.getD i 0)).1, (runU l V i).2.1 ++ [(unext (cu l i).r (runU l V i).1 (P.getD i 0)).1], (runU l V i).2.2.1 + (unext (cu l i).r (runU l V i).1 (P.getD i 0)).2.1, 0) ∧ ((unext (cu l i).r (runU l V i).1 (P.getD i 0)).1.on, (unext (cu l i).r (runU l V i).1 (P.getD i 0)).1.since) = (tr (cu l i) ((pathAt l V).getD i (false, 0)) (q.testBit i)).1 ∧ (unext (cu l i).r (runU l V i).1 (P.getD i 0)).2.1 = (tr (cu l i) ((pathAt l V).getD i (false, 0)) (q.testBit i)).2.1 := fun i hi => by
    have hr := hV.run i hi
    obtain ⟨t1, t2⟩ := unext_tr (hl _ (cu_mem hi)) (run_valid hl hi hr) (fits_pow hf hi)
    rw [fits_bit hl hf hi, ← pathAt_at hl3 hi] at t1 t2
    have h0 := t1.2 (hn i hi)
    rw [run_snoc, rstep_ok _ _ _ hr h0]
    exact ⟨rfl, t2 h0⟩
  refine ⟨⟨by rw [List.length_append]; simp; omega, fun i hi => by rw [(key i hi).1], fun t ht => ?_⟩, ?_, ?_⟩
  · rw [getD_snoc]
    by_cases h : t < V.length
    · rw [if_pos h]; exact hV.row t h
    · have e : t = V.length := by rw [List.length_append] at ht; simp at ht; omega
      rw [if_neg h, if_pos e, e]
      exact ⟨hlen, hs⟩
  · unfold nextAt
    refine List.map_congr_left fun i _ => ?_
    by_cases hi : i < l.length
    · rw [if_pos hi, if_pos hi, (key i hi).1]
      exact (key i hi).2.1
    · rw [if_neg hi, if_neg hi]
  · unfold pathCost nextCost
    rw [sumN_congr (f := fun i => (runU l (V ++ [P]) i).2.2.1) (g := fun i => (runU l V i).2.2.1 + (tr (cu l i) ((pathAt l V).getD i (false, 0)) (q.testBit i)).2.1) (fun i hi => by rw [(key i hi).1]; simp only; rw [(key i hi).2.2]), sumN_add, List.length_append]
    have e : sumN (fun t => pcost l ((V ++ [P]).getD t [])) (V.length + [P].length) = sumN (fun t => pcost l (V.getD t [])) V.length + pcost l P := by
      show sumN _ V.length + _ = _
      rw [sumN_congr (g := fun t => pcost l (V.getD t [])) (fun t ht => by rw [getD_snoc, if_pos ht])]
      show _ + pcost l ((V ++ [P]).getD V.length []) = _
      rw [getD_snoc, if_neg (Nat.lt_irrefl _), if_pos rfl]
    rw [e]
    omega
theorem bits_ex (f : Nat → Bool) (n : Nat) : ∃ q, q < 2 ^ n ∧ ∀ i, i < n → q.testBit i = f i := by
  induction n with
  | zero => exact ⟨0, by simp, fun i hi => absurd hi (by omega)⟩
  | succ n ih =>
    obtain ⟨q, hq, hb⟩ := ih
    cases hf : f n with
    | false =>
      refine ⟨q, by rw [Nat.pow_succ]; omega, fun i hi => ?_⟩
      by_cases e : i = n
      · subst e; rw [hf]; exact Nat.testBit_lt_two_pow hq
      · exact hb i (by omega)
    | true =>
      refine ⟨2 ^ n + q, by rw [Nat.pow_succ]; omega, fun i hi => ?_⟩
      by_cases e : i = n
      · subst e; rw [hf, Nat.testBit_two_pow_add_eq, Nat.testBit_lt_two_pow hq]; rfl
      · rw [Nat.testBit_two_pow_add_gt (by omega)]; exact hb i (by omega)
/-- the last period of a path -/
theorem path_last {l : List CU} {ds : List Int} {V : List (List Int)} {P : List Int} (hl3 : l.length ≤ 3) (hl : ∀ u ∈ l, duCheck u = 0) (h : PathOk l ds (V ++ [P])) :
    PathOk l ds V ∧ V.length < ds.length ∧ P.length = l.length ∧ psum l P = ds.getD V.length 0 ∧ ∃ q, q < 2 ^ l.length ∧ Fits l q.testBit P ∧ nextOk l (pathAt l V) q := by
  have hlen := h.len
  rw [List.length_append] at hlen
  simp at hlen
  have hrow := h.row V.length (by simp)
  rw [getD_snoc, if_neg (Nat.lt_irrefl _), if_pos rfl] at hrow
  have hrun : ∀ i, i < l.length → (runU l V i).2.2.2 = 0 ∧ (unext (cu l i).r (runU l V i).1 (P.getD i 0)).2.2 = 0 := fun i hi => by
    have := h.run i hi
    rw [run_snoc] at this
    by_cases h0 : (runU l V i).2.2.2 = 0
    · refine ⟨h0, ?_⟩
      by_cases h1 : (unext (cu l i).r (runU l V i).1 (P.getD i 0)).2.2 = 0
      · exact h1
      · rw [rstep_err _ _ _ h0 h1] at this; exact absurd this h1
    · rw [show rstep (cu l i).r (runU l V i) (P.getD i 0) = runU l V i from if_pos h0] at this
      exact absurd this h0
  have hV : PathOk l ds V := ⟨by omega, fun i hi => (hrun i hi).1, fun t ht => by
    have := h.row t (by simp; omega)
    rw [getD_snoc, if_pos ht] at this
    exact this⟩
  obtain ⟨q, hq, hb⟩ := bits_ex (fun i => decide (P.getD i 0 ≠ -1)) l.length
  have hpw : ∀ i, i < l.length → P.getD i 0 = -1 ∨ ((cu l i).r.least ≤ P.getD i 0 ∧ P.getD i 0 ≤ (cu l i).r.most) := fun i hi => by
    by_cases e : P.getD i 0 = -1
    · exact .inl e
    · right
      have h1 := (hrun i hi).2
      unfold unext at h1
      split at h1
      · cases h1
      · rename_i h2
        have : outB (P.getD i 0) (cu l i).r.least (cu l i).r.most = false := by
          cases hh : outB (P.getD i 0) (cu l i).r.least (cu l i).r.most
          · rfl
          · exact absurd ⟨e, hh⟩ h2
        exact outB_false.1 this
  refine ⟨hV, by omega, hrow.1, hrow.2, q, hq, fun i hi => ?_, fun i hi => ?_⟩
  · rw [hb i hi]
    refine ⟨fun ho => by simpa using ho, fun ho => ?_⟩
    rcases hpw i hi with e | e
    · rw [e] at ho; cases ho
    · exact e
  · obtain ⟨t1, _⟩ := unext_tr (hl _ (cu_mem hi)) (run_valid hl hi (hrun i hi).1) (hpw i hi)
    rw [← pathAt_at hl3 hi] at t1
    rw [hb i hi]
    exact t1.1 (hrun i hi).2
structure Way where
  at_ : List (Bool × Int)
  cost : Int
  pows : List (List Int)
/-- a way is a path of k periods -/
def IsWay (l : List CU) (ds : List Int) (k : Nat) (w : Way) : Prop := PathOk l ds w.pows ∧ w.pows.length = k ∧ w.at_ = pathAt l w.pows ∧ w.cost = pathCost l w.pows
/-- the ways after k periods -/
def WInv (l : List CU) (ds : List Int) (k : Nat) (W : List Way) : Prop := (∀ w ∈ W, IsWay l ds k w) ∧ ∀ V, PathOk l ds V → V.length = k → ∃ w ∈ W, w.at_ = pathAt l V ∧ w.cost ≤ pathCost l V
/-- what follow gives for a way -/
def FOk (l : List CU) (ds : List Int) (k : Nat) (w : Way) (X : List Way) : Prop := (∀ x ∈ X, IsWay l ds (k + 1) x) ∧ ∀ q, q < 2 ^ l.length → nextOk l w.at_ q → ∀ P : List Int, P.length = l.length → Fits l q.testBit P → psum l P = ds.getD k 0 → ∃ x ∈ X, x.at_ = nextAt l w.at_ q ∧ x.cost ≤ w.cost + nextCost l w.at_ q + pcost l P
/-- what is kept of a list of ways: for each place one that costs least -/
def Kept (N X : List Way) : Prop := (∀ y ∈ N, y ∈ X) ∧ ∀ x ∈ X, ∃ y ∈ N, y.at_ = x.at_ ∧ y.cost ≤ x.cost
theorem winv_zero {l : List CU} {ds : List Int} (w : Way) (h1 : w.pows = []) (h2 : w.cost = 0) (h3 : w.at_ = pathAt l []) : WInv l ds 0 [w] := by
  have hc : pathCost l [] = 0 := by
    have e : sumN (fun i => (runU l [] i).2.2.1) l.length = 0 := by
      exact (sumN_congr (f := fun i => (runU l [] i).2.2.1) (g := fun _ => 0) fun i _ => rfl).trans (sumN_zero _)
    unfold pathCost
    rw [e]
    rfl
  refine ⟨fun x hx => ?_, fun V hV hl => ?_⟩
  · rw [List.mem_singleton.1 hx]
    exact ⟨by rw [h1]; exact path_nil, by rw [h1]; rfl, by rw [h1]; exact h3, by rw [h1, h2, hc]⟩
  · have e : V = [] := List.eq_nil_of_length_eq_zero hl
    subst e
    exact ⟨w, by simp, h3, by rw [h2, hc]; exact Int.le_refl _⟩
/-- the invariant goes on -/
theorem winv_succ {l : List CU} {ds : List Int} {k : Nat} {W N : List Way} {X : Way → List Way} (hl3 : l.length ≤ 3) (hl : ∀ u ∈ l, duCheck u = 0) (hW : WInv l ds k W) (hX : ∀ w ∈ W, FOk l ds k w (X w)) (hN : Kept N (W.flatMap X)) : WInv l ds (k + 1) N := by
  obtain ⟨w1, w2⟩ := hW
  obtain ⟨n1, n2⟩ := hN
  refine ⟨fun y hy => ?_, fun V hV hlen => ?_⟩
  · obtain ⟨w, hw, hx⟩ := List.mem_flatMap.1 (n1 y hy)
    exact (hX w hw).1 y hx
  · rcases List.eq_nil_or_concat V with e | ⟨V', P, e⟩
    · subst e; simp at hlen
    · rw [List.concat_eq_append] at e
      subst e
      obtain ⟨hV', hk, hPl, hPs, q, hq, hf, hn⟩ := path_last hl3 hl hV
      have hk' : V'.length = k := by rw [List.length_append] at hlen; simpa using hlen
      obtain ⟨w, hw, wa, wc⟩ := w2 V' hV' hk'
      rw [← wa] at hn
      rw [hk'] at hPs
      obtain ⟨x, hx, xa, xc⟩ := (hX w hw).2 q hq hn P hPl hf hPs
      obtain ⟨y, hy, ya, yc⟩ := n2 x (List.mem_flatMap.2 ⟨w, hw, hx⟩)
      rw [wa] at hn
      obtain ⟨_, e1, e2⟩ := path_ext hl3 hl hV' hk hPl hf (by rw [hk']; exact hPs) hn
      refine ⟨y, hy, by rw [ya, xa, wa, e1], ?_⟩
      rw [e2, ← wa]
      omega
end Go.Proofs.Ytchafkocobbndaa.Pl
