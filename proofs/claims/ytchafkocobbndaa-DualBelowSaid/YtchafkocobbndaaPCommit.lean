/- commit.serve, plain: the steps of an offer above its least power, filled in the order of their prices, serve a demand at the least cost. No program. -/
import Derived.Test.YtchafkocobbndaaPDual
namespace Go.Proofs.Ytchafkocobbndaa.Pl
/-- the steps of an offer above the power u -/
def cutU : Int → List (Int × Int) → List (Int × Int)
  | _, [] => []
  | u, s :: st => if min u s.1 < s.1 then (s.1 - min u s.1, s.2) :: cutU (u - min u s.1) st else cutU (u - min u s.1) st
theorem cutU_zero {st : List (Int × Int)} (h : ∀ p ∈ st, 1 ≤ p.1) : cutU 0 st = st := by
  induction st with
  | nil => rfl
  | cons s st ih =>
    have hs := h s (by simp)
    have e : min 0 s.1 = 0 := by omega
    rw [cutU, e, if_pos (by omega), Int.sub_zero, Int.sub_zero, ih fun p hp => h p (by simp [hp])]
theorem costR_zero {st : List (Int × Int)} (h : ∀ p ∈ st, 1 ≤ p.1) : costR st 0 = 0 := by
  induction st with
  | nil => rfl
  | cons s st ih =>
    have hs := h s (by simp)
    have e : min 0 s.1 = 0 := by omega
    rw [costR, e, Int.zero_mul, Int.sub_zero, ih fun p hp => h p (by simp [hp])]
    rfl
theorem cutU_cost {st : List (Int × Int)} (h : ∀ p ∈ st, 1 ≤ p.1) (u x : Int) (u0 : 0 ≤ u) (x0 : 0 ≤ x) : costR (cutU u st) x = costR st (u + x) - costR st u := by
  induction st generalizing u x with
  | nil => simp [cutU, costR]
  | cons s st ih =>
    have hs := h s (by simp)
    have ht : ∀ p ∈ st, 1 ≤ p.1 := fun p hp => h p (by simp [hp])
    rw [cutU]
    by_cases hu : u < s.1
    · have e : min u s.1 = u := by omega
      have e2 : min (u + x) s.1 = u + min x (s.1 - u) := by omega
      rw [e, if_pos hu, Int.sub_self, cutU_zero ht, costR, costR, costR, e, e2, Int.sub_self, costR_zero ht]
      simp only
      rw [Int.add_mul, show u + x - (u + min x (s.1 - u)) = x - min x (s.1 - u) by omega]
      omega
    · have e : min u s.1 = s.1 := by omega
      have e2 : min (u + x) s.1 = s.1 := by omega
      rw [e, if_neg (by omega), ih ht (u - s.1) x (by omega) x0, costR, costR, e, e2, show u + x - s.1 = u - s.1 + x by omega]
      omega
theorem cutU_total {st : List (Int × Int)} (h : ∀ p ∈ st, 1 ≤ p.1) (u : Int) (u0 : 0 ≤ u) (u1 : u ≤ total st) : total (cutU u st) = total st - u := by
  induction st generalizing u with
  | nil => simp [cutU, total] at u1 ⊢; omega
  | cons s st ih =>
    have hs := h s (by simp)
    have ht : ∀ p ∈ st, 1 ≤ p.1 := fun p hp => h p (by simp [hp])
    rw [total_cons] at u1 ⊢
    rw [cutU]
    by_cases hu : u < s.1
    · have e : min u s.1 = u := by omega
      rw [e, if_pos hu, Int.sub_self, cutU_zero ht, total_cons]
      simp only
      omega
    · have e : min u s.1 = s.1 := by omega
      rw [e, if_neg (by omega), ih ht (u - s.1) (by omega) (by omega)]
      omega
theorem cutU_mem {st : List (Int × Int)} (h : ∀ p ∈ st, 1 ≤ p.1) (u : Int) (u0 : 0 ≤ u) : ∀ p ∈ cutU u st, ∃ s ∈ st, p.2 = s.2 ∧ 1 ≤ p.1 ∧ p.1 ≤ s.1 := by
  induction st generalizing u with
  | nil => intro p hp; simp [cutU] at hp
  | cons s st ih =>
    have hs := h s (by simp)
    have ht : ∀ p ∈ st, 1 ≤ p.1 := fun p hp => h p (by simp [hp])
    intro p hp
    rw [cutU] at hp
    split at hp
    · rcases List.mem_cons.1 hp with rfl | hp
      · exact ⟨s, by simp, rfl, by simp only; omega, by simp only; omega⟩
      · obtain ⟨q, hq, r⟩ := ih ht (u - min u s.1) (by omega) p hp
        exact ⟨q, by simp [hq], r⟩
    · obtain ⟨q, hq, r⟩ := ih ht (u - min u s.1) (by omega) p hp
      exact ⟨q, by simp [hq], r⟩
theorem cutU_rise {st : List (Int × Int)} (h : ∀ p ∈ st, 1 ≤ p.1) (hr : st.Pairwise (fun a b => a.2 ≤ b.2)) (u : Int) (u0 : 0 ≤ u) : (cutU u st).Pairwise (fun a b => a.2 ≤ b.2) := by
  induction st generalizing u with
  | nil => exact List.Pairwise.nil
  | cons s st ih =>
    have hs := h s (by simp)
    have ht : ∀ p ∈ st, 1 ≤ p.1 := fun p hp => h p (by simp [hp])
    obtain ⟨h1, h2⟩ := List.pairwise_cons.1 hr
    rw [cutU]
    split
    · refine List.pairwise_cons.2 ⟨fun b hb => ?_, ih ht h2 _ (by omega)⟩
      obtain ⟨q, hq, e, _⟩ := cutU_mem ht (u - min u s.1) (by omega) b hb
      rw [e]
      exact h1 q hq
    · exact ih ht h2 _ (by omega)
theorem cutU_good {st : List (Int × Int)} (h : Good st) (u : Int) (u0 : 0 ≤ u) (u1 : u ≤ total st) : Good (cutU u st) := by
  have h1 : ∀ p ∈ st, 1 ≤ p.1 := fun p hp => (h.step p hp).1
  refine ⟨fun p hp => ?_, cutU_rise h1 h.rise u u0, ?_⟩
  · obtain ⟨s, hs, e, a, b⟩ := cutU_mem h1 u u0 p hp
    have := h.step s hs
    omega
  · rw [cutU_total h1 u u0 u1]; have := h.sum; omega
instance : Inhabited CU := ⟨⟨⟨⟨#[]⟩, 0, 0, 0, 0, 0, 0, 0⟩, (⟨#[]⟩, []), ⟨false, 0, 0⟩⟩⟩
/-- generator i -/
def cu (l : List CU) (i : Nat) : CU := l.getD i default
theorem cu_mem {l : List CU} {i : Nat} (h : i < l.length) : cu l i ∈ l := by
  unfold cu; rw [List.getD_eq_getElem?_getD, List.getElem?_eq_getElem h]; exact List.getElem_mem _
/-- the offers of those that are on, above their least powers -/
def cutO (l : List CU) (on : Nat → Bool) : List Off := (List.range l.length).map fun i => (⟨#[]⟩, if on i then cutU (cu l i).r.least (cu l i).o.2 else [])
theorem cutO_steps {l : List CU} {on : Nat → Bool} {i : Nat} (h : i < l.length) : steps (cutO l on) i = if on i then cutU (cu l i).r.least (cu l i).o.2 else [] := by
  unfold steps cutO
  rw [List.getD_eq_getElem?_getD, List.getElem?_map, List.getElem?_range h]
  rfl
def slow (l : List CU) (on : Nat → Bool) (i : Nat) : Int := if on i then (cu l i).r.least else -1
/-- the powers that are permitted with a pattern -/
def Fits (l : List CU) (on : Nat → Bool) (xs : List Int) : Prop := ∀ i, i < l.length → (on i = false → xs.getD i 0 = -1) ∧ (on i = true → (cu l i).r.least ≤ xs.getD i 0 ∧ xs.getD i 0 ≤ (cu l i).r.most)
def psum (l : List CU) (xs : List Int) : Int := sumN (fun i => max 0 (xs.getD i 0)) l.length
def pcost (l : List CU) (xs : List Int) : Int := sumN (fun i => ocost (cu l i).o.2 (max 0 (xs.getD i 0))) l.length
structure Srv (l : List CU) (on : Nat → Bool) (d : Int) (ps : List Int) (c : Int) : Prop where
  len : ps.length = l.length
  fit : Fits l on ps
  sum : psum l ps = d
  ec : c = pcost l ps
  best : ∀ xs, Fits l on xs → psum l xs = d → c ≤ pcost l xs
theorem sumN_nonneg {f : Nat → Int} {n : Nat} (h : ∀ i, i < n → 0 ≤ f i) : 0 ≤ sumN f n := by
  induction n with
  | zero => exact Int.le_refl _
  | succ n ih => rw [sumN]; have := h n (by omega); have := ih fun i hi => h i (by omega); omega
theorem unit_facts {u : CU} (h : duCheck u = 0) : Good u.o.2 ∧ 0 ≤ u.r.least ∧ u.r.least ≤ u.r.most ∧ u.r.most ≤ 100000 ∧ total u.o.2 = u.r.most := by
  obtain ⟨h1, h2, h3, h4, h5⟩ := duCheck_ok h
  obtain ⟨g, _⟩ := ocheck_ok h2
  obtain ⟨c1, c2, c3, _⟩ := ucheck_ok (ustate_ok h1).1
  exact ⟨g, c1, c2, c3, h3⟩
theorem cutO_good {l : List CU} (hl : ∀ u ∈ l, duCheck u = 0) (on : Nat → Bool) (k : Nat) (hk : k < l.length) : Good (steps (cutO l on) k) := by
  rw [cutO_steps hk]
  obtain ⟨g, c1, c2, c3, c4⟩ := unit_facts (hl _ (cu_mem hk))
  split
  · exact cutU_good g _ c1 (by omega)
  · exact ⟨fun p hp => by simp at hp, List.Pairwise.nil, by simp [total]⟩
/-- what must be served above the least powers -/
def srem (l : List CU) (on : Nat → Bool) (d : Int) : Int := d - sumN (fun i => if on i then (cu l i).r.least else 0) l.length
def sbase (l : List CU) (on : Nat → Bool) : Int := sumN (fun i => if on i then ocost (cu l i).o.2 (cu l i).r.least else 0) l.length
def slows (l : List CU) (on : Nat → Bool) : List Int := (List.range l.length).map (slow l on)
theorem slows_at {l : List CU} {on : Nat → Bool} {i : Nat} (h : i < l.length) : (slows l on).getD i 0 = slow l on i := by
  unfold slows
  rw [List.getD_eq_getElem?_getD, List.getElem?_map, List.getElem?_range h]
  rfl
theorem slows_len (l : List CU) (on : Nat → Bool) : (slows l on).length = l.length := by unfold slows; simp
/-- powers that fit, above the least ones -/
theorem fits_above {l : List CU} {on : Nat → Bool} {xs : List Int} (hl : ∀ u ∈ l, duCheck u = 0) (h : Fits l on xs) (ys : List Int) (hy : ∀ i, i < l.length → ys.getD i 0 = xs.getD i 0 - slow l on i) :
    (∀ k, k < l.length → 0 ≤ ys.getD k 0 ∧ ys.getD k 0 ≤ total (steps (cutO l on) k)) ∧ psum l xs - (psum l xs - srem l on (psum l xs)) = sumN (fun i => ys.getD i 0) l.length ∧ pcost l xs = sbase l on + sumN (fun g => costR (steps (cutO l on) g) (ys.getD g 0)) l.length := by
  have key : ∀ i, i < l.length → 0 ≤ ys.getD i 0 ∧ ys.getD i 0 ≤ total (steps (cutO l on) i) ∧ max 0 (xs.getD i 0) = (if on i then (cu l i).r.least else 0) + ys.getD i 0 ∧ ocost (cu l i).o.2 (max 0 (xs.getD i 0)) = (if on i then ocost (cu l i).o.2 (cu l i).r.least else 0) + costR (steps (cutO l on) i) (ys.getD i 0) := fun i hi => by
    obtain ⟨g, c1, c2, c3, c4⟩ := unit_facts (hl _ (cu_mem hi))
    have h1 : ∀ p ∈ (cu l i).o.2, 1 ≤ p.1 := fun p hp => (g.step p hp).1
    obtain ⟨f1, f2⟩ := h i hi
    rw [hy i hi, cutO_steps hi]
    unfold slow
    cases ho : on i with
    | false =>
      have := f1 ho
      rw [this]
      simp only [Bool.false_eq_true, if_false]
      refine ⟨by omega, by simp [total], by omega, ?_⟩
      rw [ocost_eq, show max 0 (-1 : Int) = 0 by omega, costR_zero h1, show (-1 : Int) - -1 = 0 by omega]
      rfl
    | true =>
      obtain ⟨a, b⟩ := f2 ho
      simp only [if_true]
      rw [cutU_total h1 _ c1 (by omega), cutU_cost h1 _ _ c1 (by omega), ocost_eq, ocost_eq, show max 0 (xs.getD i 0) = xs.getD i 0 by omega, show (cu l i).r.least + (xs.getD i 0 - (cu l i).r.least) = xs.getD i 0 by omega]
      omega
  refine ⟨fun k hk => ⟨(key k hk).1, (key k hk).2.1⟩, ?_, ?_⟩
  · have e : psum l xs = sumN (fun i => (if on i then (cu l i).r.least else 0) + ys.getD i 0) l.length := sumN_congr fun i hi => (key i hi).2.2.1
    rw [sumN_add] at e
    unfold srem
    omega
  · have e : pcost l xs = sumN (fun i => (if on i then ocost (cu l i).o.2 (cu l i).r.least else 0) + costR (steps (cutO l on) i) (ys.getD i 0)) l.length := sumN_congr fun i hi => (key i hi).2.2.2
    rw [sumN_add] at e
    exact e
theorem list_of (n : Nat) (f : Nat → Int) (i : Nat) (h : i < n) : ((List.range n).map f).getD i 0 = f i := by
  rw [List.getD_eq_getElem?_getD, List.getElem?_map, List.getElem?_range h]
  rfl
/-- the fill of the blocks above the least powers serves the demand at the least cost, or nothing does -/
theorem serve_law {l : List CU} (hl : ∀ u ∈ l, duCheck u = 0) (on : Nat → Bool) (d : Int) {bs : List B3} (hp : bs.Perm (blocksK (cutO l on) l.length)) (hs : bs.Pairwise (fun a b => a.2.2 ≤ b.2.2)) (hr : 0 ≤ srem l on d) :
    ((bs.foldl dstep (slows l on, sbase l on, srem l on d)).2.2 = 0 → Srv l on d (bs.foldl dstep (slows l on, sbase l on, srem l on d)).1 (bs.foldl dstep (slows l on, sbase l on, srem l on d)).2.1) ∧
    ((bs.foldl dstep (slows l on, sbase l on, srem l on d)).2.2 ≠ 0 → ∀ xs, Fits l on xs → psum l xs ≠ d) := by
  have hg := cutO_good hl on
  have hB : ∀ b ∈ bs, GoodB l.length b := fun b hb => (blocksK_good hg (Nat.le_refl _) b (hp.mem_iff.1 hb)).1
  have h0 : ∀ b ∈ bs, 0 ≤ b.2.1 := fun b hb => (hB b hb).2.2.1
  have hfa := (filled_all bs (srem l on d) hr h0).1
  have hsumb : sumF (fun b => b.2.1) bs = sumN (fun k => total (steps (cutO l on) k)) l.length := by
    rw [sumF_perm _ hp, blocksK_sum]
    exact sumN_congr fun i _ => (total_sum _).symm
  obtain ⟨r1, r2⟩ := dfold_rest bs (slows l on) (sbase l on) (srem l on d)
  obtain ⟨q1, _⟩ := dfold_rest bs (List.replicate l.length 0) 0 (srem l on d)
  have hout : ∀ g, g < l.length → (bs.foldl dstep (slows l on, sbase l on, srem l on d)).1.getD g 0 = slow l on g + (bs.foldl dstep (List.replicate l.length 0, 0, srem l on d)).1.getD g 0 := fun g hgl => by
    rw [(dfold_out g hgl bs (slows l on) (sbase l on) (srem l on d) hB (slows_len l on)).1, (dfold_out g hgl bs (List.replicate l.length 0) 0 (srem l on d) hB (by simp)).1, slows_at hgl]
    have : (List.replicate l.length (0 : Int)).getD g 0 = 0 := by rw [List.getD_eq_getElem?_getD, List.getElem?_replicate]; split <;> rfl
    omega
  have hless : ∀ xs, Fits l on xs → psum l xs = d → srem l on d ≤ sumN (fun k => total (steps (cutO l on) k)) l.length := fun xs hx hxs => by
    obtain ⟨k1, k2, _⟩ := fits_above hl hx ((List.range l.length).map fun i => xs.getD i 0 - slow l on i) (fun i hi => list_of _ _ i hi)
    rw [hxs] at k2
    have := sumN_le (f := fun i => ((List.range l.length).map fun i => xs.getD i 0 - slow l on i).getD i 0) (g := fun k => total (steps (cutO l on) k)) (n := l.length) fun i hi => (k1 i hi).2
    omega
  constructor
  · intro hz
    rw [r2, hfa, hsumb] at hz
    have hle : srem l on d ≤ sumN (fun k => total (steps (cutO l on) k)) l.length := by omega
    obtain ⟨p, sv⟩ := served_of hg hr hle hp hs
    have hcc : (bs.foldl dstep (slows l on, sbase l on, srem l on d)).2.1 = sbase l on + (bs.foldl dstep (List.replicate l.length 0, 0, srem l on d)).2.1 := by rw [r1, q1]; omega
    generalize hF : bs.foldl dstep (List.replicate l.length 0, 0, srem l on d) = F at *
    have hlen : (bs.foldl dstep (slows l on, sbase l on, srem l on d)).1.length = l.length := by
      rcases Nat.eq_zero_or_pos l.length with h | h
      · have e : ∀ (bs : List B3) (s : List Int × Int × Int), (bs.foldl dstep s).1.length = s.1.length := by
          intro bs
          induction bs with
          | nil => intro s; rfl
          | cons b bs ih => intro s; rw [List.foldl_cons, ih]; show (s.1.set _ _).length = _; rw [List.length_set]
        rw [e, slows_len]
      · exact (dfold_out 0 h bs (slows l on) (sbase l on) (srem l on d) hB (slows_len l on)).2
    generalize bs.foldl dstep (slows l on, sbase l on, srem l on d) = R at *
    have hfit : Fits l on R.1 := fun i hi => by
      obtain ⟨g, c1, c2, c3, c4⟩ := unit_facts (hl _ (cu_mem hi))
      have h1 : ∀ p ∈ (cu l i).o.2, 1 ≤ p.1 := fun p hp => (g.step p hp).1
      have ha := sv.at_ i hi
      have hlm := least_most (P := p) (st := steps (cutO l on) i) (fun q hq => ((hg i hi).step q hq).1)
      rw [hout i hi]
      rw [cutO_steps hi] at ha hlm
      refine ⟨fun ho => ?_, fun ho => ?_⟩
      · rw [ho] at ha hlm
        simp only [Bool.false_eq_true, if_false] at ha hlm
        have e : total ([] : List (Int × Int)) = 0 := rfl
        unfold slow
        rw [ho]
        simp only [Bool.false_eq_true, if_false]
        omega
      · rw [ho] at ha hlm
        simp only [if_true] at ha hlm
        rw [cutU_total h1 _ c1 (by omega)] at hlm
        unfold slow
        rw [ho]
        simp only [if_true]
        omega
    obtain ⟨_, k2, k3⟩ := fits_above hl hfit F.1 (fun i hi => by rw [hout i hi]; omega)
    rw [sv.sum] at k2
    have hps : psum l R.1 = d := by unfold srem at k2; omega
    have hec : R.2.1 = pcost l R.1 := by rw [hcc, sv.cost]; exact k3.symm
    refine ⟨hlen, hfit, hps, hec, fun xs hx hxs => ?_⟩
    obtain ⟨m1, m2, m3⟩ := fits_above hl hx ((List.range l.length).map fun i => xs.getD i 0 - slow l on i) (fun i hi => list_of _ _ i hi)
    rw [hxs] at m2
    have := served_least hg sv m1 (by omega)
    rw [hcc, m3]
    omega
  · intro hz xs hx hxs
    have := hless xs hx hxs
    rw [r2, hfa, hsumb] at hz
    omega
/-- too little is asked for the least powers -/
theorem serve_low {l : List CU} (hl : ∀ u ∈ l, duCheck u = 0) {on : Nat → Bool} {d : Int} (hr : srem l on d < 0) (xs : List Int) (hx : Fits l on xs) : psum l xs ≠ d := fun h => by
  obtain ⟨k1, k2, _⟩ := fits_above hl hx ((List.range l.length).map fun i => xs.getD i 0 - slow l on i) (fun i hi => list_of _ _ i hi)
  rw [h] at k2
  have := sumN_nonneg (f := fun i => ((List.range l.length).map fun i => xs.getD i 0 - slow l on i).getD i 0) (n := l.length) fun i hi => (k1 i hi).1
  omega
end Go.Proofs.Ytchafkocobbndaa.Pl
