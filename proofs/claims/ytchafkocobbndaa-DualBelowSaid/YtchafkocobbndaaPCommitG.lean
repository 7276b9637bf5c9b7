/- CommitMore, CommitKept and commit.Cost, plain: the first checks, a period less, the loops of Cost. No program. -/
import Derived.Test.YtchafkocobbndaaPCommitC
import Derived.Test.YtchafkocobbndaaPCommitE
namespace Go.Proofs.Ytchafkocobbndaa.Pl
theorem alone_one {P : List Int} (h : P.length = 1) : ∃ p, P = [p] := by
  match P, h with
  | [p], _ => exact ⟨p, rfl⟩
theorem path_ex : PathOk [aloneCU] [12, 0] [[12], [-1]] := by
  refine ⟨by decide, fun i hi => ?_, fun t ht => ?_⟩
  · have : i = 0 := by simp at hi; omega
    subst this
    decide +kernel
  · have : t = 0 ∨ t = 1 := by simp at ht; omega
    rcases this with rfl | rfl
    · exact ⟨rfl, by decide +kernel⟩
    · exact ⟨rfl, by decide +kernel⟩
theorem best_ex {s : List (List Int)} {c e : Int} (h : BestP [aloneCU] [12, 0] s c e) : c = 75 ∧ e = 0 := by
  have hok : duAll [aloneCU] [12, 0] = 0 := by decide +kernel
  rcases h with ⟨h1, _⟩ | ⟨_, _, _, _, h5⟩ | ⟨h1, h4, V, v1, v2, v3, v4, v5⟩
  · exact absurd hok h1
  · exact absurd rfl (h5 _ path_ex)
  · refine ⟨?_, h4⟩
    have hc : pathCost [aloneCU] [[12], [-1]] = 75 := by decide +kernel
    have hle := v5 _ path_ex rfl
    obtain ⟨k1, k2, k3, k4⟩ := duAll_ok h1
    match V, v2 with
    | [P, Q], _ =>
      obtain ⟨hp, hs⟩ := v1.row 0 (by simp)
      obtain ⟨hq, hs2⟩ := v1.row 1 (by simp)
      obtain ⟨p, rfl⟩ := alone_one (P := P) hp
      obtain ⟨q, rfl⟩ := alone_one (P := Q) hq
      have e1 : max 0 p = 12 := by
        have e : psum [aloneCU] [p] = 0 + max 0 p := rfl
        have : psum [aloneCU] [p] = 12 := hs
        omega
      have e2 : max 0 q = 0 := by
        have e : psum [aloneCU] [q] = 0 + max 0 q := rfl
        have : psum [aloneCU] [q] = 0 := hs2
        omega
      obtain rfl : p = 12 := by omega
      obtain ⟨_, _, _, _, qq, _, hf, _⟩ := path_last (V := [[12]]) (P := [q]) k1 k3 v1
      have hf0 := hf 0 (by simp)
      have hq2 : q = -1 ∨ q = 0 := by
        cases hb : qq.testBit 0
        · exact .inl (hf0.1 hb)
        · have : (0 : Int) ≤ q := (hf0.2 hb).1
          right; omega
      rcases hq2 with rfl | rfl
      · omega
      · have : pathCost [aloneCU] [[12], [0]] = 75 := by decide +kernel
        omega
/-- no first price is negative -/
def Plus0 (l : List CU) : Prop := ∀ u ∈ l, 0 < u.o.2.length → 0 ≤ (u.o.2.getD 0 (0, 0)).2
theorem plus0_all {l : List CU} (hl : ∀ u ∈ l, duCheck u = 0) (h : Plus0 l) : ∀ u ∈ l, ∀ p ∈ u.o.2, 0 ≤ p.2 := by
  intro u hu p hp
  obtain ⟨g, _⟩ := unit_facts (hl u hu)
  have h0 := h u hu
  have hr := g.rise
  generalize u.o.2 = st at *
  cases st with
  | nil => simp at hp
  | cons a st =>
    have ha : 0 ≤ a.2 := h0 (by simp)
    rw [List.pairwise_cons] at hr
    rcases List.mem_cons.1 hp with rfl | hp
    · exact ha
    · have := hr.1 p hp; omega
theorem duAll_less {l : List CU} {ds : List Int} (h : duAll l ds = 0) : duAll l ds.dropLast = 0 := by
  unfold duAll at h ⊢
  split at h
  · cases h
  · rename_i h1
    rw [if_neg (by simp; omega)]
    split at h
    · rename_i h2; exact absurd h h2
    · rename_i h2
      rw [if_neg h2]
      split at h
      · cases h
      · rename_i h3
        rw [if_neg]
        intro h4
        apply h3
        unfold has at h4 ⊢
        rw [List.any_eq_true] at h4 ⊢
        obtain ⟨x, hx, hb⟩ := h4
        exact ⟨x, List.dropLast_subset ds hx, hb⟩
theorem less_law {l : List CU} {ds : List Int} {s s' : List (List Int)} {n m e f : Int} (h : BestP l ds s n e) (h' : BestP l ds.dropLast s' m f) (hd : 0 < ds.length) (hp : Plus0 l) (he : e = 0) : f = 0 ∧ m ≤ n := by
  rcases h with ⟨h1, h2, h3, h4⟩ | ⟨h1, h2, h3, h4, h5⟩ | ⟨h1, h4, V, v1, v2, v3, v4, v5⟩
  · exact absurd (h4.symm.trans he) h1
  · omega
  · have hok := duAll_ok h1
    obtain ⟨V', w1, w2, w3⟩ := more_law hok (plus0_all hok.hu hp) v1 v2 hd
    rcases h' with ⟨g1, _⟩ | ⟨_, _, _, _, g5⟩ | ⟨_, g4, U, u1, u2, u3, u4, u5⟩
    · exact absurd (duAll_less h1) g1
    · exact absurd w2 (g5 V' w1)
    · refine ⟨g4, ?_⟩
      have := u5 V' w1 w2
      omega
end Go.Proofs.Ytchafkocobbndaa.Pl
namespace Go.Proofs.Ytchafkocobbndaa.Pl
theorem run_val {u : CU} {zs : List Int} (h : (urun u.r u.s zs).2.2 = 0) (t : Nat) (ht : t < zs.length) : zs.getD t 0 = -1 ∨ (u.r.least ≤ zs.getD t 0 ∧ zs.getD t 0 ≤ u.r.most) := by
  obtain ⟨hv, _, _, h2⟩ := urun_good h
  have h3 := (racc_get hv h2 t ht (by rw [(racc_inv _ _ hv _ h2).2.1]; exact ht)).1
  have e : zs.getD t 0 = zs[t] := by rw [List.getD_eq_getElem?_getD, List.getElem?_eq_getElem ht]; rfl
  rw [e]
  by_cases h4 : zs[t] = -1
  · exact .inl h4
  · right
    unfold unext at h3
    cases ho : outB zs[t] u.r.least u.r.most
    · exact outB_false.1 ho
    · rw [if_pos ⟨h4, ho⟩] at h3
      simp at h3
theorem run_cost {u : CU} {zs : List Int} (h : (urun u.r u.s zs).2.2 = 0) : 0 ≤ (urun u.r u.s zs).2.1 ∧ (urun u.r u.s zs).2.1 ≤ 24000000 := by
  obtain ⟨hv, hl, e, h2⟩ := urun_good h
  rw [e]
  have := racc_inv _ _ hv _ h2
  omega
/-- the power that counts -/
def sv (S : List (List Int)) (i t : Nat) : Int := max 0 ((S.getD i []).getD t 0)
def runK (l : List CU) (S : List (List Int)) (i : Nat) : List St × Int × Int := urun (cu l i).r (cu l i).s (S.getD i [])
def costT (l : List CU) (S : List (List Int)) (i t : Nat) : Int := (runK l S i).2.1 + sumN (fun t => ocost (cu l i).o.2 (sv S i t)) t
def costK (l : List CU) (S : List (List Int)) (m i : Nat) : Int := sumN (fun i => costT l S i m) i
def sumK (S : List (List Int)) (i t : Nat) : Int := sumN (fun j => sv S j t) i
theorem costT_succ (l : List CU) (S : List (List Int)) (i t : Nat) : costT l S i (t + 1) = costT l S i t + ocost (cu l i).o.2 (sv S i t) := by unfold costT; rw [sumN]; omega
theorem costT_zero (l : List CU) (S : List (List Int)) (i : Nat) : costT l S i 0 = (runK l S i).2.1 := by unfold costT; rw [sumN]; omega
theorem costK_succ (l : List CU) (S : List (List Int)) (m i : Nat) : costK l S m (i + 1) = costK l S m i + costT l S i m := rfl
theorem sumK_succ (S : List (List Int)) (i t : Nat) : sumK S (i + 1) t = sumK S i t + sv S i t := rfl
/-- what is known when the runs before i went well -/
structure RunsOk (l : List CU) (ds : List Int) (S : List (List Int)) (i : Nat) : Prop where
  ok : duAll l ds = 0
  n : S.length = l.length
  len : ∀ i, i < l.length → (S.getD i []).length = ds.length
  run : ∀ j, j < i → (runK l S j).2.2 = 0
theorem sv_bd {l : List CU} {ds : List Int} {S : List (List Int)} {i j t : Nat} (h : RunsOk l ds S i) (hi : i ≤ l.length) (hj : j < i) (ht : t < ds.length) : 0 ≤ sv S j t ∧ sv S j t ≤ (cu l j).r.most ∧ (cu l j).r.most ≤ 100000 := by
  obtain ⟨k1, k2, k3, k4⟩ := duAll_ok h.ok
  obtain ⟨g, c1, c2, c3, c4⟩ := unit_facts (k3 _ (cu_mem (by omega : j < l.length)))
  have := run_val (h.run j hj) t (by rw [h.len j (by omega)]; exact ht)
  unfold sv
  omega
theorem ocost_sv {l : List CU} {ds : List Int} {S : List (List Int)} {i j t : Nat} (h : RunsOk l ds S i) (hi : i ≤ l.length) (hj : j < i) (ht : t < ds.length) : -100000000000 ≤ ocost (cu l j).o.2 (sv S j t) ∧ ocost (cu l j).o.2 (sv S j t) ≤ 100000000000 := by
  obtain ⟨k1, k2, k3, k4⟩ := duAll_ok h.ok
  obtain ⟨v0, v1, _⟩ := sv_bd h hi hj ht
  exact ocost_bd (k3 _ (cu_mem (by omega : j < l.length))) _ v0 v1
theorem costT_bd {l : List CU} {ds : List Int} {S : List (List Int)} {i j t : Nat} (h : RunsOk l ds S i) (hi : i ≤ l.length) (hj : j < i) (ht : t ≤ ds.length) : -100000000000 * (t : Int) ≤ costT l S j t ∧ costT l S j t ≤ 24000000 + 100000000000 * (t : Int) := by
  induction t with
  | zero =>
    have := run_cost (h.run j hj)
    rw [costT_zero]
    unfold runK
    omega
  | succ t ih =>
    have := ih (by omega)
    have := ocost_sv h hi hj (t := t) (by omega)
    rw [costT_succ]
    push_cast
    omega
theorem costK_bd {l : List CU} {ds : List Int} {S : List (List Int)} {i j : Nat} (h : RunsOk l ds S i) (hi : i ≤ l.length) (hj : j ≤ i) : -1000000000000 * (j : Int) ≤ costK l S ds.length j ∧ costK l S ds.length j ≤ 1000000000000 * (j : Int) := by
  obtain ⟨k1, k2, k3, k4⟩ := duAll_ok h.ok
  induction j with
  | zero => simp [costK, sumN]
  | succ j ih =>
    have := ih (by omega)
    have := costT_bd h hi (j := j) (by omega) (Nat.le_refl ds.length)
    rw [costK_succ]
    push_cast
    omega
theorem sumK_bd {l : List CU} {ds : List Int} {S : List (List Int)} {i j t : Nat} (h : RunsOk l ds S i) (hi : i ≤ l.length) (hj : j ≤ i) (ht : t < ds.length) : 0 ≤ sumK S j t ∧ sumK S j t ≤ 100000 * (j : Int) := by
  induction j with
  | zero => simp [sumK, sumN]
  | succ j ih =>
    have := ih (by omega)
    have := sv_bd h hi (j := j) (by omega) ht
    rw [sumK_succ]
    push_cast
    omega
theorem RunsOk.step {l : List CU} {ds : List Int} {S : List (List Int)} {i : Nat} (h : RunsOk l ds S i) (hr : (runK l S i).2.2 = 0) : RunsOk l ds S (i + 1) :=
  ⟨h.ok, h.n, h.len, fun j hj => by
    by_cases e : j = i
    · subst e; exact hr
    · exact h.run j (by omega)⟩
/-- what commit.Cost answers -/
def CostP (l : List CU) (ds : List Int) (S : List (List Int)) (c e : Int) : Prop := (e = 0 → Acc l ds S ∧ c = accCost l ds S) ∧ (Acc l ds S → e = 0)
theorem costP_all {l : List CU} {ds : List Int} (S : List (List Int)) (h : duAll l ds ≠ 0) : CostP l ds S 0 (duAll l ds) := ⟨fun e => absurd e h, fun a => a.ok⟩
theorem costP_len {l : List CU} {ds : List Int} {S : List (List Int)} (h : S.length ≠ l.length) : CostP l ds S 0 3 := ⟨fun e => by omega, fun a => absurd a.n h⟩
def badLen (m : Nat) (z : List Int) : Bool := decide (z.length ≠ m)
theorem costP_form {l : List CU} {ds : List Int} {S : List (List Int)} (hn : S.length = l.length) (h : has (badLen ds.length) S = true) : CostP l ds S 0 3 := ⟨fun e => by omega, fun a => by
  unfold has at h
  rw [List.any_eq_true] at h
  obtain ⟨z, hz, hb⟩ := h
  obtain ⟨i, hi, rfl⟩ := List.getElem_of_mem hz
  have := a.len i (by omega)
  rw [List.getD_eq_getElem?_getD, List.getElem?_eq_getElem hi] at this
  unfold badLen at hb
  simp at hb this
  exact absurd this hb⟩
theorem form_ok {l : List CU} {ds : List Int} {S : List (List Int)} (hok : duAll l ds = 0) (hn : S.length = l.length) (h : has (badLen ds.length) S = false) : RunsOk l ds S 0 := ⟨hok, hn, fun i hi => by
  have := has_false h i (by omega)
  unfold badLen at this
  rw [List.getD_eq_getElem?_getD, List.getElem?_eq_getElem (by omega : i < S.length)]
  simpa using this, fun j hj => absurd hj (by omega)⟩
theorem costP_run {l : List CU} {ds : List Int} {S : List (List Int)} {i : Nat} (hi : i < l.length) (hr : (runK l S i).2.2 ≠ 0) : CostP l ds S 0 (runK l S i).2.2 := ⟨fun e => absurd e hr, fun a => a.run i hi⟩
theorem sums_iff {l : List CU} {ds : List Int} {S : List (List Int)} : mixN (sumK S l.length) (fun _ => 0) ds.length ds.length = ds ↔ ∀ t, t < ds.length → sumK S l.length t = ds.getD t 0 := by
  constructor
  · intro h t ht
    have : (mixN (sumK S l.length) (fun _ => 0) ds.length ds.length).getD t 0 = ds.getD t 0 := congrArg (fun z => z.getD t 0) h
    rw [mixN_at _ _ ht, if_pos ht] at this
    exact this
  · intro h
    refine list_getD (mixN_len _ _ _ _) fun t ht => ?_
    rw [mixN_len] at ht
    rw [mixN_at _ _ ht, if_pos ht]
    exact h t ht
theorem costP_sums {l : List CU} {ds : List Int} {S : List (List Int)} (h : mixN (sumK S l.length) (fun _ => 0) ds.length ds.length ≠ ds) : CostP l ds S 0 14 := ⟨fun e => by omega, fun a => absurd (sums_iff.2 a.sum) h⟩
theorem costP_ok {l : List CU} {ds : List Int} {S : List (List Int)} (hr : RunsOk l ds S l.length) (h : mixN (sumK S l.length) (fun _ => 0) ds.length ds.length = ds) : CostP l ds S (costK l S ds.length l.length) 0 :=
  ⟨fun _ => ⟨⟨hr.ok, hr.n, hr.len, hr.run, sums_iff.1 h⟩, rfl⟩, fun _ => rfl⟩
theorem cost_ex {c e : Int} (h : CostP [aloneCU] [12] [[12]] c e) : c = 75 ∧ e = 0 := by
  have ha : Acc [aloneCU] [12] [[12]] := by
    refine ⟨by decide +kernel, rfl, fun i hi => ?_, fun i hi => ?_, fun t ht => ?_⟩
    · have : i = 0 := by simp at hi; omega
      subst this; rfl
    · have : i = 0 := by simp at hi; omega
      subst this; decide +kernel
    · have : t = 0 := by simp at ht; omega
      subst this; decide +kernel
  have he := h.2 ha
  have hc : accCost [aloneCU] [12] [[12]] = 75 := by decide +kernel
  exact ⟨by rw [(h.1 he).2, hc], he⟩
end Go.Proofs.Ytchafkocobbndaa.Pl
