/- Commitments, plain: what commit.Cost accepts are the paths of all periods; the ways that Best keeps; its answer. No program. -/
import Derived.Test.YtchafkocobbndaaPCommitB
namespace Go.Proofs.Ytchafkocobbndaa.Pl
/-- what commit.Cost accepts -/
structure Acc (l : List CU) (ds : List Int) (S : List (List Int)) : Prop where
  ok : duAll l ds = 0
  n : S.length = l.length
  len : ∀ i, i < l.length → (S.getD i []).length = ds.length
  run : ∀ i, i < l.length → (urun (cu l i).r (cu l i).s (S.getD i [])).2.2 = 0
  sum : ∀ t, t < ds.length → sumN (fun i => max 0 ((S.getD i []).getD t 0)) l.length = ds.getD t 0
def accCost (l : List CU) (ds : List Int) (S : List (List Int)) : Int := sumN (fun i => (urun (cu l i).r (cu l i).s (S.getD i [])).2.1 + sumN (fun t => ocost (cu l i).o.2 (max 0 ((S.getD i []).getD t 0))) ds.length) l.length
theorem sumN_swap (f : Nat → Nat → Int) (n m : Nat) : sumN (fun i => sumN (fun t => f i t) m) n = sumN (fun t => sumN (fun i => f i t) n) m := by
  induction n with
  | zero => exact (sumN_zero m).symm
  | succ n ih =>
    rw [sumN, ih, ← sumN_add]
    rfl
theorem getD_map {α : Type} (n : Nat) (f : Nat → α) (d : α) (i : Nat) (h : i < n) : ((List.range n).map f).getD i d = f i := by
  rw [List.getD_eq_getElem?_getD, List.getElem?_map, List.getElem?_range h]
  rfl
theorem urun_racc {r : Rule} {s : St} {zs : List Int} (hv : ustate r s = 0) (hl : zs.length ≤ 24) : urun r s zs = (racc r s zs).2 := by
  unfold urun; rw [if_neg (by simpa using hv), if_neg (by omega)]
theorem list_getD {l m : List Int} (h1 : l.length = m.length) (h : ∀ t, t < l.length → l.getD t 0 = m.getD t 0) : l = m := by
  refine List.ext_getElem h1 fun i h2 h3 => ?_
  have := h i h2
  rw [List.getD_eq_getElem?_getD, List.getElem?_eq_getElem h2, List.getD_eq_getElem?_getD, List.getElem?_eq_getElem h3] at this
  exact this
theorem col_len (V : List (List Int)) (i : Nat) : (col V i).length = V.length := by unfold col; simp
theorem col_at (V : List (List Int)) (i t : Nat) (h : t < V.length) : (col V i).getD t 0 = (V.getD t []).getD i 0 := by
  unfold col
  rw [List.getD_eq_getElem?_getD, List.getElem?_map, List.getElem?_eq_getElem h, List.getD_eq_getElem?_getD (l := V), List.getElem?_eq_getElem h]
  rfl
/-- the schedules of a path -/
def cols (l : List CU) (V : List (List Int)) : List (List Int) := (List.range l.length).map (col V)
theorem acc_of_path {l : List CU} {ds : List Int} {V : List (List Int)} (hok : duAll l ds = 0) (h : PathOk l ds V) (hT : V.length = ds.length) : Acc l ds (cols l V) ∧ accCost l ds (cols l V) = pathCost l V := by
  obtain ⟨k1, k2, k3, k4⟩ := duAll_ok hok
  have hc : ∀ i, i < l.length → (cols l V).getD i [] = col V i := fun i hi => getD_map _ _ _ i hi
  have hu : ∀ i, i < l.length → urun (cu l i).r (cu l i).s (col V i) = (runU l V i).2 := fun i hi => urun_racc (duCheck_ok (k3 _ (cu_mem hi))).1 (by rw [col_len]; omega)
  refine ⟨⟨hok, by unfold cols; simp, fun i hi => by rw [hc i hi, col_len, hT], fun i hi => by rw [hc i hi, hu i hi]; exact h.run i hi, fun t ht => ?_⟩, ?_⟩
  · have := (h.row t (by omega)).2
    rw [← this]
    exact sumN_congr fun i hi => by rw [hc i hi, col_at _ _ _ (by omega)]
  · unfold accCost pathCost
    rw [sumN_congr (g := fun i => (runU l V i).2.2.1 + sumN (fun t => ocost (cu l i).o.2 (max 0 ((V.getD t []).getD i 0))) V.length) (fun i hi => by
      rw [hc i hi, hu i hi, ← hT]
      congr 1
      exact sumN_congr fun t ht => by rw [col_at _ _ _ ht]), sumN_add, sumN_swap]
    rfl
theorem path_of_acc {l : List CU} {ds : List Int} {S : List (List Int)} (h : Acc l ds S) : ∃ V, PathOk l ds V ∧ V.length = ds.length ∧ pathCost l V = accCost l ds S := by
  obtain ⟨k1, k2, k3, k4⟩ := duAll_ok h.ok
  let V := (List.range ds.length).map fun t => (List.range l.length).map fun i => (S.getD i []).getD t 0
  have hV : V.length = ds.length := by simp [V]
  have hr : ∀ t, t < ds.length → V.getD t [] = (List.range l.length).map fun i => (S.getD i []).getD t 0 := fun t ht => getD_map _ _ _ t ht
  have hc : ∀ i, i < l.length → col V i = S.getD i [] := fun i hi => list_getD (by rw [col_len, hV, h.len i hi]) fun t ht => by
    rw [col_len, hV] at ht
    rw [col_at _ _ _ (by omega), hr t ht, list_of _ _ _ hi]
  have hu : ∀ i, i < l.length → (runU l V i).2 = urun (cu l i).r (cu l i).s (S.getD i []) := fun i hi => by
    rw [urun_racc (duCheck_ok (k3 _ (cu_mem hi))).1 (by rw [h.len i hi]; omega), ← hc i hi]
    rfl
  have hp : ∀ t, t < ds.length → psum l (V.getD t []) = ds.getD t 0 := fun t ht => by
    rw [← h.sum t ht]
    exact sumN_congr fun i hi => by rw [hr t ht, list_of _ _ _ hi]
  refine ⟨V, ⟨by omega, fun i hi => by rw [hu i hi]; exact h.run i hi, fun t ht => ⟨by rw [hr t (by omega)]; simp, hp t (by omega)⟩⟩, hV, ?_⟩
  unfold accCost pathCost
  rw [sumN_add, sumN_swap, hV]
  congr 1
  · exact sumN_congr fun i hi => by rw [hu i hi]
  · exact sumN_congr fun t ht => sumN_congr fun i hi => by rw [hr t ht, list_of _ _ _ hi]
/-- one more way: the first at a place is kept till a cheaper one comes -/
def keepW (N : List Way) (x : Way) : List Way :=
  match N.findIdx? (fun y => y.at_ == x.at_) with
  | none => N ++ [x]
  | some i => if x.cost < (N.getD i ⟨[], 0, []⟩).cost then N.set i x else N
theorem kept_snoc {N X : List Way} (h : Kept N X) (x : Way) : Kept (keepW N x) (X ++ [x]) := by
  obtain ⟨h1, h2⟩ := h
  unfold keepW
  cases hf : N.findIdx? (fun y => y.at_ == x.at_) with
  | none =>
    refine ⟨fun y hy => ?_, fun z hz => ?_⟩
    · rcases List.mem_append.1 hy with hy | hy
      · exact List.mem_append_left _ (h1 y hy)
      · exact List.mem_append_right _ hy
    · rcases List.mem_append.1 hz with hz | hz
      · obtain ⟨y, hy, r⟩ := h2 z hz
        exact ⟨y, List.mem_append_left _ hy, r⟩
      · rw [List.mem_singleton.1 hz]
        exact ⟨x, by simp, rfl, Int.le_refl _⟩
  | some i =>
    obtain ⟨hi, hp, _⟩ := List.findIdx?_eq_some_iff_getElem.1 hf
    have hat : N[i].at_ = x.at_ := by simpa using hp
    have hg : N.getD i ⟨[], 0, []⟩ = N[i] := by rw [List.getD_eq_getElem?_getD, List.getElem?_eq_getElem hi]; rfl
    simp only
    rw [hg]
    by_cases hc : x.cost < N[i].cost
    · rw [if_pos hc]
      refine ⟨fun y hy => ?_, fun z hz => ?_⟩
      · rcases List.mem_or_eq_of_mem_set hy with hy | hy
        · exact List.mem_append_left _ (h1 y hy)
        · rw [hy]; simp
      · have hx : x ∈ N.set i x := List.mem_set hi x
        rcases List.mem_append.1 hz with hz | hz
        · obtain ⟨y, hy, ya, yc⟩ := h2 z hz
          obtain ⟨j, hj, e⟩ := List.getElem_of_mem hy
          by_cases hji : j = i
          · subst hji
            exact ⟨x, hx, by rw [← ya, ← e, hat], by rw [← e] at yc; omega⟩
          · refine ⟨y, ?_, ya, yc⟩
            have : (N.set i x)[j]'(by rw [List.length_set]; exact hj) = y := by rw [List.getElem_set_ne (by omega)]; exact e
            rw [← this]
            exact List.getElem_mem _
        · rw [List.mem_singleton.1 hz]
          exact ⟨x, hx, rfl, Int.le_refl _⟩
    · rw [if_neg hc]
      refine ⟨fun y hy => List.mem_append_left _ (h1 y hy), fun z hz => ?_⟩
      rcases List.mem_append.1 hz with hz | hz
      · exact h2 z hz
      · rw [List.mem_singleton.1 hz]
        exact ⟨N[i], List.getElem_mem _, hat, by omega⟩
theorem kept_nil : Kept [] [] := ⟨fun y hy => hy, fun x hx => absurd hx (by simp)⟩
/-- the cheapest way, the first of them -/
def leastW (w0 : Way) (W : List Way) : Way := W.foldl (fun a w => if w.cost < a.cost then w else a) w0
theorem leastW_snoc (w0 : Way) (W : List Way) (w : Way) : leastW w0 (W ++ [w]) = if w.cost < (leastW w0 W).cost then w else leastW w0 W := by unfold leastW; rw [List.foldl_append]; rfl
theorem leastW_spec (w0 : Way) (W : List Way) : (leastW w0 W = w0 ∨ leastW w0 W ∈ W) ∧ (leastW w0 W).cost ≤ w0.cost ∧ ∀ w ∈ W, (leastW w0 W).cost ≤ w.cost := by
  unfold leastW
  induction W generalizing w0 with
  | nil => exact ⟨.inl rfl, Int.le_refl _, fun w hw => absurd hw (by simp)⟩
  | cons w W ih =>
    rw [List.foldl_cons]
    obtain ⟨h1, h2, h3⟩ := ih (if w.cost < w0.cost then w else w0)
    by_cases hc : w.cost < w0.cost
    · simp only [hc, if_true] at h1 h2 h3 ⊢
      refine ⟨?_, by omega, fun x hx => ?_⟩
      · rcases h1 with h1 | h1
        · right; rw [h1]; simp
        · right; simp [h1]
      · rcases List.mem_cons.1 hx with rfl | hx
        · exact h2
        · exact h3 x hx
    · simp only [hc, if_false] at h1 h2 h3 ⊢
      refine ⟨?_, h2, fun x hx => ?_⟩
      · rcases h1 with h1 | h1
        · left; exact h1
        · right; simp [h1]
      · rcases List.mem_cons.1 hx with rfl | hx
        · omega
        · exact h3 x hx
/-- the answer of commit.Best: schedules, cost, error -/
def BestP (l : List CU) (ds : List Int) (s : List (List Int)) (c e : Int) : Prop :=
  (duAll l ds ≠ 0 ∧ s = [] ∧ c = 0 ∧ e = duAll l ds) ∨
  (duAll l ds = 0 ∧ s = [] ∧ c = 0 ∧ e = 8 ∧ ∀ V, PathOk l ds V → V.length ≠ ds.length) ∨
  (duAll l ds = 0 ∧ e = 0 ∧ ∃ V, PathOk l ds V ∧ V.length = ds.length ∧ s = cols l V ∧ c = pathCost l V ∧ ∀ V', PathOk l ds V' → V'.length = ds.length → c ≤ pathCost l V')
theorem best_none {l : List CU} {ds : List Int} (h : WInv l ds ds.length []) : ∀ V, PathOk l ds V → V.length ≠ ds.length := fun V hV hl => by
  obtain ⟨w, hw, _⟩ := h.2 V hV hl
  simp at hw
theorem best_some {l : List CU} {ds : List Int} {W : List Way} {w0 : Way} (hw0 : w0 ∈ W) (h : WInv l ds ds.length W) : PathOk l ds (leastW w0 W).pows ∧ (leastW w0 W).pows.length = ds.length ∧ (leastW w0 W).cost = pathCost l (leastW w0 W).pows ∧ ∀ V', PathOk l ds V' → V'.length = ds.length → (leastW w0 W).cost ≤ pathCost l V' := by
  obtain ⟨h1, h2, h3⟩ := leastW_spec w0 W
  have hm : leastW w0 W ∈ W := by
    rcases h1 with h1 | h1
    · rw [h1]; exact hw0
    · exact h1
  obtain ⟨a, b, _, d⟩ := h.1 _ hm
  refine ⟨a, b, d, fun V hV hl => ?_⟩
  obtain ⟨w, hw, _, wc⟩ := h.2 V hV hl
  have := h3 w hw
  omega
/-- CommitKept, plain -/
theorem kept_law {l : List CU} {ds : List Int} {s S : List (List Int)} {c e : Int} (h : BestP l ds s c e) :
    (e ≠ 0 → s = [] ∧ c = 0 ∧ ¬ Acc l ds S) ∧ (e = 0 → Acc l ds s ∧ accCost l ds s = c ∧ (Acc l ds S → c ≤ accCost l ds S)) := by
  rcases h with ⟨h1, h2, h3, h4⟩ | ⟨h1, h2, h3, h4, h5⟩ | ⟨h1, h4, V, v1, v2, v3, v4, v5⟩
  · exact ⟨fun _ => ⟨h2, h3, fun ha => h1 ha.ok⟩, fun he => absurd (h4.symm.trans he) h1⟩
  · refine ⟨fun _ => ⟨h2, h3, fun ha => ?_⟩, fun he => by omega⟩
    obtain ⟨V, v1, v2, _⟩ := path_of_acc ha
    exact h5 V v1 v2
  · refine ⟨fun he => absurd h4 he, fun _ => ?_⟩
    obtain ⟨a1, a2⟩ := acc_of_path h1 v1 v2
    refine ⟨by rw [v3]; exact a1, by rw [v3, a2, v4], fun ha => ?_⟩
    obtain ⟨V', w1, w2, w3⟩ := path_of_acc ha
    rw [← w3]
    exact v5 V' w1 w2
theorem costR_nonneg {st : List (Int × Int)} (h : ∀ p ∈ st, 1 ≤ p.1 ∧ 0 ≤ p.2) (x : Int) (hx : 0 ≤ x) : 0 ≤ costR st x := by
  induction st generalizing x with
  | nil => exact Int.le_refl _
  | cons s st ih =>
    obtain ⟨a, b⟩ := h s (by simp)
    have := ih (fun p hp => h p (by simp [hp])) (x - min x s.1) (by omega)
    have h2 : 0 ≤ min x s.1 * s.2 := Int.mul_nonneg (by omega) b
    rw [costR]
    omega
/-- CommitMore, plain: the path without its last period -/
theorem more_law {l : List CU} {ds : List Int} {V : List (List Int)} (hok : DOk l ds) (hpr : ∀ u ∈ l, ∀ p ∈ u.o.2, 0 ≤ p.2) (h : PathOk l ds V) (hT : V.length = ds.length) (hd : 0 < ds.length) :
    ∃ V', PathOk l ds.dropLast V' ∧ V'.length = ds.dropLast.length ∧ pathCost l V' ≤ pathCost l V := by
  rcases List.eq_nil_or_concat V with e | ⟨V', P, e⟩
  · subst e; simp at hT; omega
  · rw [List.concat_eq_append] at e
    subst e
    obtain ⟨hV', hk, hPl, hPs, q, hq, hf, hn⟩ := path_last hok.hl hok.hu h
    have hlen : V'.length = ds.dropLast.length := by rw [List.length_append] at hT; simp at hT ⊢; omega
    obtain ⟨_, _, ec⟩ := path_ext hok.hl hok.hu hV' hk hPl hf hPs hn
    refine ⟨V', ⟨by omega, hV'.run, fun t ht => ⟨(hV'.row t ht).1, ?_⟩⟩, hlen, ?_⟩
    · rw [(hV'.row t ht).2]
      have : t < ds.length - 1 := by simp at hlen; omega
      rw [List.getD_eq_getElem?_getD, List.getD_eq_getElem?_getD, List.getElem?_dropLast, if_pos this]
    · have h1 : 0 ≤ nextCost l (pathAt l V') q := sumN_nonneg fun i hi => by
        obtain ⟨_, _, _, _, _, _, _, _, _, _, _, s0, _⟩ := ucheck_ok (ustate_ok (duCheck_ok (hok.hu _ (cu_mem hi))).1).1
        unfold tr
        split
        · exact Int.le_refl _
        · split
          · exact Int.le_refl _
          · exact s0
      have h2 : 0 ≤ pcost l P := sumN_nonneg fun i hi => by
        obtain ⟨g, _⟩ := unit_facts (hok.hu _ (cu_mem hi))
        rw [ocost_eq]
        exact costR_nonneg (fun p hp => ⟨(g.step p hp).1, hpr _ (cu_mem hi) p hp⟩) _ (by omega)
      omega
end Go.Proofs.Ytchafkocobbndaa.Pl
