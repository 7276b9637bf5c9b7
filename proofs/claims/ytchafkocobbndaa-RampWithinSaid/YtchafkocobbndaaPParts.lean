/- Plain function convexpl.Restrict, and the law ConvexParts; nothing of the program stands here. -/
import Derived.Test.YtchafkocobbndaaPTurn
import Derived.Test.YtchafkocobbndaaPUnit
namespace Go.Proofs.Ytchafkocobbndaa.Pl
/-- convexpl.Restrict -/
def cRestrict (lo va : Int) (st : List (Int × Int)) (low hi : Int) : (Int × Int × List (Int × Int)) × Int :=
  if ccheck lo va st ≠ 0 then ((0, 0, []), ccheck lo va st)
  else if min (chigh lo st) hi < max lo low then ((0, 0, []), 8)
  else cMade (max lo low) (cvat lo va st (max lo low)) (ccut lo (max lo low) (min (chigh lo st) hi) st)
/-- the pieces of a cut, from the front -/
def cutR (x low hi : Int) : List (Int × Int) → List (Int × Int)
  | [] => []
  | p :: ps => (if 0 < cutN low hi x p then [(cutN low hi x p, p.2)] else []) ++ cutR (x + p.1) low hi ps
theorem cut_fold (low hi : Int) (ps : List (Int × Int)) (acc : List (Int × Int)) (x : Int) : (ps.foldl (cutstep low hi) (acc, x)).1 = acc ++ cutR x low hi ps := by
  induction ps generalizing acc x with
  | nil => simp [cutR]
  | cons p ps ih =>
    rw [List.foldl_cons, show cutstep low hi (acc, x) p = (if 0 < cutN low hi x p then acc ++ [(cutN low hi x p, p.2)] else acc, x + p.1) from rfl, ih, cutR]
    split <;> simp
theorem ccut_eq (lo low hi : Int) (ps : List (Int × Int)) : ccut lo low hi ps = cutR lo low hi ps := by
  unfold ccut cutacc; rw [cut_fold]; simp
theorem cutR_mem {x low hi : Int} {st : List (Int × Int)} (h : ∀ p ∈ st, 1 ≤ p.1) : ∀ q ∈ cutR x low hi st, 1 ≤ q.1 ∧ ∃ p ∈ st, q.2 = p.2 ∧ q.1 ≤ p.1 := by
  induction st generalizing x with
  | nil => simp [cutR]
  | cons p st ih =>
    intro q hq
    rw [cutR] at hq
    rcases List.mem_append.1 hq with hq | hq
    · split at hq
      · rw [List.mem_singleton] at hq
        subst hq
        refine ⟨by simp only; omega, p, by simp, rfl, ?_⟩
        have := h p (by simp)
        simp only [cutN]; omega
      · cases hq
    · obtain ⟨h1, r, hr, h2⟩ := ih (fun q hq => h q (by simp [hq])) q hq
      exact ⟨h1, r, by simp [hr], h2⟩
theorem cutR_up {x low hi : Int} {st : List (Int × Int)} (h : ∀ p ∈ st, 1 ≤ p.1) (hu : st.Pairwise (fun a b => a.2 < b.2)) : (cutR x low hi st).Pairwise (fun a b => a.2 < b.2) := by
  induction st generalizing x with
  | nil => exact List.Pairwise.nil
  | cons p st ih =>
    obtain ⟨u1, u2⟩ := List.pairwise_cons.1 hu
    have ht : ∀ q ∈ st, 1 ≤ q.1 := fun q hq => h q (by simp [hq])
    rw [cutR, List.pairwise_append]
    refine ⟨by split <;> simp, ih ht u2, fun a ha b hb => ?_⟩
    split at ha
    · rw [List.mem_singleton] at ha
      subst ha
      obtain ⟨_, r, hr, e, _⟩ := cutR_mem ht b hb
      rw [e]
      exact u1 r hr
    · cases ha
theorem cutR_len (x low hi : Int) (st : List (Int × Int)) : (cutR x low hi st).length ≤ st.length := by
  induction st generalizing x with
  | nil => simp [cutR]
  | cons p st ih =>
    rw [cutR, List.length_append, List.length_cons]
    have := ih (x + p.1)
    split <;> simp <;> omega
/-- all that lies behind the end is cut away -/
theorem cutR_none {x low hi : Int} {st : List (Int × Int)} (h : ∀ p ∈ st, 1 ≤ p.1) (hx : hi ≤ x ∨ hi ≤ low) : cutR x low hi st = [] := by
  induction st generalizing x with
  | nil => rfl
  | cons p st ih =>
    have h1 := h p (by simp)
    rw [cutR, if_neg (by simp only [cutN]; omega), ih (fun q hq => h q (by simp [hq])) (by omega)]
    rfl
theorem cutR_total {x low hi : Int} {st : List (Int × Int)} (h : ∀ p ∈ st, 1 ≤ p.1) (h1 : max low x ≤ hi) (h2 : hi ≤ x + total st) : total (cutR x low hi st) = hi - max low x := by
  induction st generalizing x with
  | nil => simp [cutR, total] at h2 ⊢; omega
  | cons p st ih =>
    have hp := h p (by simp)
    have ht : ∀ q ∈ st, 1 ≤ q.1 := fun q hq => h q (by simp [hq])
    rw [total_cons] at h2
    rw [cutR, total_app]
    by_cases hh : hi ≤ x + p.1
    · rw [cutR_none ht (.inl hh)]
      by_cases hn : 0 < cutN low hi x p
      · rw [if_pos hn]
        simp only [cutN] at hn
        simp [total, cutN]; omega
      · rw [if_neg hn]
        simp only [cutN] at hn
        simp [total]; omega
    · have := ih (x := x + p.1) ht (by omega) (by omega)
      rw [this]
      by_cases hn : 0 < cutN low hi x p
      · rw [if_pos hn]
        simp only [cutN] at hn
        simp [total, cutN]; omega
      · rw [if_neg hn]
        simp only [cutN] at hn
        simp [total]; omega
/-- the cost of a cut -/
theorem cutR_cost {x low hi y : Int} {st : List (Int × Int)} (h : ∀ p ∈ st, 1 ≤ p.1) (h1 : max low x ≤ y) (h2 : y ≤ hi) : costR (cutR x low hi st) (y - max low x) = costR st (y - x) - costR st (max low x - x) := by
  induction st generalizing x with
  | nil => simp [cutR, costR]
  | cons p st ih =>
    have hp := h p (by simp)
    have ht : ∀ q ∈ st, 1 ≤ q.1 := fun q hq => h q (by simp [hq])
    rw [cutR]
    by_cases hl : x + p.1 ≤ low
    · rw [if_neg (by simp only [cutN]; omega), List.nil_append]
      have := ih (x := x + p.1) ht (by omega)
      rw [show max low (x + p.1) = low by omega] at this
      rw [show max low x = low by omega, this, costR, costR, show min (y - x) p.1 = p.1 by omega, show min (low - x) p.1 = p.1 by omega,
        show y - x - p.1 = y - (x + p.1) by omega, show low - x - p.1 = low - (x + p.1) by omega]
      omega
    · generalize ha : max low x = a at *
      by_cases hn : 0 < cutN low hi x p
      · rw [if_pos hn, List.singleton_append, costR]
        simp only [cutN, ha] at hn ⊢
        by_cases hy : y ≤ x + p.1
        · rw [show min (y - a) (min hi (x + p.1) - a) = y - a by omega, show y - a - (y - a) = 0 by omega, costR_zero fun q hq => (cutR_mem ht q hq).1, costR, costR,
            show min (y - x) p.1 = y - x by omega, show min (a - x) p.1 = a - x by omega, show y - x - (y - x) = 0 by omega, show a - x - (a - x) = 0 by omega, costR_zero ht,
            show y - a = (y - x) - (a - x) by omega, Int.sub_mul]
          omega
        · have := ih (x := x + p.1) ht (by omega)
          rw [show max low (x + p.1) = x + p.1 by omega, show x + p.1 - (x + p.1) = 0 by omega, costR_zero ht] at this
          rw [show min (y - a) (min hi (x + p.1) - a) = p.1 - (a - x) by omega, show y - a - (p.1 - (a - x)) = y - (x + p.1) by omega, this, costR, costR,
            show min (y - x) p.1 = p.1 by omega, show min (a - x) p.1 = a - x by omega, show y - x - p.1 = y - (x + p.1) by omega, show a - x - (a - x) = 0 by omega, costR_zero ht, Int.sub_mul]
          omega
      · rw [if_neg hn, List.nil_append]
        simp only [cutN, ha] at hn
        rw [cutR_none ht (.inl (by omega)), show y = a by omega, costR]
        omega
/-- between two places the value lies between -/
theorem costR_mid {st : List (Int × Int)} (h : ∀ p ∈ st, 1 ≤ p.1) {va m : Int} (hm : ∀ k, -m ≤ va + rise (st.take k) ∧ va + rise (st.take k) ≤ m) (t : Int) (h0 : 0 ≤ t) (h1 : t ≤ total st) : -m ≤ va + costR st t ∧ va + costR st t ≤ m := by
  induction st generalizing va t with
  | nil => have := hm 0; simp [rise, costR] at this ⊢; exact this
  | cons p st ih =>
    have hp := h p (by simp)
    have ht : ∀ q ∈ st, 1 ≤ q.1 := fun q hq => h q (by simp [hq])
    have k0 := hm 0
    have k1 := hm 1
    rw [List.take_zero, show rise [] = 0 from rfl] at k0
    rw [List.take_succ_cons, List.take_zero, rise_cons, show rise [] = 0 from rfl] at k1
    rw [total_cons] at h1
    rw [costR]
    by_cases hl : t ≤ p.1
    · rw [show min t p.1 = t by omega, show t - t = 0 by omega, costR_zero ht]
      rcases Int.le_total 0 p.2 with hs | hs
      · have q1 := Int.mul_nonneg h0 hs
        have q2 : t * p.2 ≤ p.1 * p.2 := Int.mul_le_mul_of_nonneg_right hl hs
        omega
      · have q1 : t * p.2 ≤ 0 := Int.mul_nonpos_of_nonneg_of_nonpos h0 hs
        have q2 : p.1 * p.2 ≤ t * p.2 := Int.mul_le_mul_of_nonpos_right hl hs
        omega
    · rw [show min t p.1 = p.1 by omega]
      have := ih ht (va := va + p.1 * p.2) (fun k => by
        have := hm (k + 1)
        rw [List.take_succ_cons, rise_cons] at this
        omega) (t - p.1) (by omega) (by omega)
      omega
/-- the cost of the first pieces -/
theorem costR_take {st : List (Int × Int)} (h : ∀ p ∈ st, 1 ≤ p.1) (k : Nat) : costR st (total (st.take k)) = rise (st.take k) := by
  induction st generalizing k with
  | nil => simp [costR, rise]
  | cons p st ih =>
    have hp := h p (by simp)
    have ht : ∀ q ∈ st, 1 ≤ q.1 := fun q hq => h q (by simp [hq])
    cases k with
    | zero => rw [List.take_zero, show total [] = 0 from rfl, costR_zero h]; rfl
    | succ k =>
      have := total_pos (ps := st.take k) fun q hq => ht q (List.mem_of_mem_take hq)
      rw [List.take_succ_cons, total_cons, rise_cons, costR, show min (p.1 + total (st.take k)) p.1 = p.1 by omega, show p.1 + total (st.take k) - p.1 = total (st.take k) by omega, ih ht]
theorem GoodC.init {lo va : Int} {ps : List (Int × Int)} {p : Int × Int} (h : GoodC lo va (ps ++ [p])) : GoodC lo va ps := by
  refine ⟨fun q hq => h.step q (by simp [hq]), (List.pairwise_append.1 h.up).1, ?_, fun k => ?_⟩
  · have := h.place
    rw [total_snoc] at this
    have := h.step p (by simp)
    omega
  · rcases Nat.lt_or_ge ps.length k with hk | hk
    · have := h.value ps.length
      rw [List.take_append_of_le_length (Nat.le_refl _), List.take_length] at this
      rwa [List.take_of_length_le (by omega)]
    · have := h.value k
      rwa [List.take_append_of_le_length hk] at this
theorem kacc_ok {lo va : Int} (hlo : -1000000 ≤ lo ∧ lo ≤ 1000000) (hva : -1000000000000000 ≤ va ∧ va ≤ 1000000000000000) {ps : List (Int × Int)} (g : GoodC lo va ps) : (kacc lo va ps).2.2.1 = 0 := by
  induction ps using snocInd with
  | h0 => rfl
  | h1 ps p ih =>
    have h0 := ih g.init
    obtain ⟨_, i1, i2, i3⟩ := kacc_good hlo hva h0
    have hs := g.step p (by simp)
    have hp := g.place
    rw [total_snoc] at hp
    have hv := g.value (ps.length + 1)
    rw [List.take_of_length_le (by simp), rise_snoc] at hv
    rw [kacc_snoc, kstep_ok h0 (badPiece_false.2 hs) ?_ ?_]
    · rw [i3]
      induction ps using snocInd with
      | h0 => rfl
      | h1 l q _ =>
        have e : lastPrice (l ++ [q]) = some q.2 := by simp [lastPrice]
        rw [e]
        have := (List.pairwise_append.1 g.up).2.2 q (by simp) p (by simp)
        simp only [notMore, decide_eq_false_iff_not]
        omega
    · simp only [Bool.or_eq_false_iff, decide_eq_false_iff_not, outm_false]
      rw [i1, i2]
      omega
theorem good_check {lo va : Int} {ps : List (Int × Int)} (hlo : -1000000 ≤ lo ∧ lo ≤ 1000000) (hva : -1000000000000000 ≤ va ∧ va ≤ 1000000000000000) (hl : ps.length ≤ 64) (g : GoodC lo va ps) : ccheck lo va ps = 0 := by
  unfold ccheck
  rw [if_neg (by omega), if_neg (by rw [Bool.not_eq_true, Bool.or_eq_false_iff, outm_false, outm_false]; exact ⟨hlo, hva⟩)]
  exact kacc_ok hlo hva g
theorem cvat_bd {lo va : Int} {st : List (Int × Int)} (g : GoodC lo va st) (x : Int) (h0 : lo ≤ x) (h1 : x ≤ chigh lo st) : -1000000000000000 ≤ cvat lo va st x ∧ cvat lo va st x ≤ 1000000000000000 := by
  unfold chigh at h1
  exact costR_mid g.long g.value (x - lo) (by omega) (by omega)
/-- a part of a valid function -/
theorem restrict_ok {lo va : Int} {st : List (Int × Int)} (h : ccheck lo va st = 0) {low hi : Int} (h0 : lo ≤ low) (h1 : low ≤ hi) (h2 : hi ≤ chigh lo st) :
    cRestrict lo va st low hi = ((low, cvat lo va st low, cutR lo low hi st), 0) ∧ ∀ x, cAt low (cvat lo va st low) (cutR lo low hi st) x = if x < low ∨ hi < x then (0, 4) else (cvat lo va st x, 0) := by
  obtain ⟨g, hl, hlo, hva⟩ := ccheck_ok h
  have hp := g.place
  have hh : chigh lo st = lo + total st := rfl
  have hpos := fun q hq => (cutR_mem (x := lo) (low := low) (hi := hi) g.long q hq).1
  have htot := cutR_total (x := lo) (low := low) (hi := hi) g.long (by omega) (by omega)
  rw [show max low lo = low by omega] at htot
  have hcost := fun y (a : low ≤ y) (b : y ≤ hi) => cutR_cost (x := lo) (low := low) (hi := hi) (y := y) g.long (by omega) b
  rw [show max low lo = low by omega] at hcost
  have hvl := cvat_bd g low h0 (by omega)
  have g' : GoodC low (cvat lo va st low) (cutR lo low hi st) := by
    refine ⟨fun q hq => ?_, cutR_up g.long g.up, by omega, fun k => ?_⟩
    · obtain ⟨q1, r, hr, e, q2⟩ := cutR_mem g.long q hq
      have := g.step r hr
      rw [e]
      omega
    · have ht := total_take_bd hpos k
      rw [htot] at ht
      have hc := hcost (low + total ((cutR lo low hi st).take k)) (by omega) (by omega)
      rw [show low + total ((cutR lo low hi st).take k) - low = total ((cutR lo low hi st).take k) by omega, costR_take hpos] at hc
      have hv := cvat_bd g (low + total ((cutR lo low hi st).take k)) (by omega) (by omega)
      rw [hc]
      unfold cvat at hv ⊢
      omega
  have hc : ccheck low (cvat lo va st low) (cutR lo low hi st) = 0 := good_check (by omega) hvl (by have := cutR_len lo low hi st; omega) g'
  constructor
  · unfold cRestrict
    rw [if_neg (by simpa using h), if_neg (by omega), show max lo low = low by omega, show min (chigh lo st) hi = hi by omega, ccut_eq]
    exact cMade_ok g'.up hc
  · intro x
    unfold cAt
    rw [if_neg (by simpa using hc), show chigh low (cutR lo low hi st) = hi by unfold chigh; omega]
    by_cases hx : x < low ∨ hi < x
    · rw [if_pos hx, if_pos hx]
    · rw [if_neg hx, if_neg hx]
      have hc := hcost x (by omega) (by omega)
      unfold cvat
      rw [hc]
      have : va + costR st (low - lo) + (costR st (x - lo) - costR st (low - lo)) = va + costR st (x - lo) := by omega
      rw [this]
/-- the law ConvexParts -/
theorem parts_law {lo va : Int} {st : List (Int × Int)} (h : ccheck lo va st = 0) {mid : Int} (h0 : lo ≤ mid) (h1 : mid ≤ chigh lo st) (x : Int) :
    ∃ l1 v1 s1 l2 v2 s2, cRestrict lo va st lo mid = ((l1, v1, s1), 0) ∧ cRestrict lo va st mid (chigh lo st) = ((l2, v2, s2), 0) ∧
      (((cAt l1 v1 s1 x).2 = 0 ∨ (cAt l2 v2 s2 x).2 = 0) ↔ (cAt lo va st x).2 = 0) ∧ ((cAt l1 v1 s1 x).2 = 0 → (cAt l1 v1 s1 x).1 = (cAt lo va st x).1) ∧ ((cAt l2 v2 s2 x).2 = 0 → (cAt l2 v2 s2 x).1 = (cAt lo va st x).1) := by
  obtain ⟨a1, a2⟩ := restrict_ok h (Int.le_refl lo) h0 h1
  obtain ⟨b1, b2⟩ := restrict_ok h h0 h1 (Int.le_refl _)
  refine ⟨_, _, _, _, _, _, a1, b1, ?_⟩
  rw [a2 x, b2 x]
  have e : cAt lo va st x = if x < lo ∨ chigh lo st < x then (0, 4) else (cvat lo va st x, 0) := by unfold cAt; rw [if_neg (by simpa using h)]
  rw [e]
  by_cases c1 : x < lo ∨ mid < x <;> by_cases c2 : x < mid ∨ chigh lo st < x <;> by_cases c3 : x < lo ∨ chigh lo st < x <;> simp only [c1, c2, c3, if_true, if_false] <;> simp <;> omega
end Go.Proofs.Ytchafkocobbndaa.Pl
