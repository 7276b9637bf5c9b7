/- Plain functions convexpl.Conjugate, Convolve and Add; what determines a convex function; the laws ConvexFenchel and ConvexRing. No program. -/
import Derived.Test.YtchafkocobbndaaPConv
import Derived.Test.YtchafkocobbndaaPParts
namespace Go.Proofs.Ytchafkocobbndaa.Pl
/-- convexpl.Conjugate -/
def cConj (lo va : Int) (st : List (Int × Int)) (s : Int) : Int × Int := if ccheck lo va st ≠ 0 then (0, ccheck lo va st) else if outm s 10000000 = true then (0, 4) else (s * (lo + lowR s st) - cvat lo va st (lo + lowR s st), 0)
theorem mulC_bd {s x : Int} (s0 : -10000000 ≤ s) (s1 : s ≤ 10000000) (x0 : -1000000 ≤ x) (x1 : x ≤ 1000000) : -40000000000000 ≤ s * x ∧ s * x ≤ 40000000000000 := by
  have m0 := Int.mul_le_mul_of_nonneg_right s1 (show 0 ≤ x + 1000000 by omega)
  have m1 := Int.mul_le_mul_of_nonneg_right s0 (show 0 ≤ x + 1000000 by omega)
  have m2 := Int.mul_le_mul_of_nonneg_right s1 (show 0 ≤ 1000000 - x by omega)
  have m3 := Int.mul_le_mul_of_nonneg_right s0 (show 0 ≤ 1000000 - x by omega)
  rw [Int.mul_add s] at m0 m1
  rw [Int.mul_sub s] at m2 m3
  omega
theorem best_none {s : Int} {ps : List (Int × Int)} (h : ∀ q ∈ ps, s ≤ q.2) : best s ps = 0 := by
  induction ps with
  | nil => rfl
  | cons p ps ih => have := h p (by simp); rw [best, if_neg (by omega), ih fun q hq => h q (by simp [hq])]; rfl
theorem lowR_none {s : Int} {ps : List (Int × Int)} (h : ∀ q ∈ ps, s ≤ q.2) : lowR s ps = 0 := by
  cases ps with
  | nil => rfl
  | cons p ps => have := h p (by simp); rw [lowR, if_pos this]
/-- the greatest gain is reached between the two places of slope s -/
theorem tight {ps : List (Int × Int)} (h : ∀ p ∈ ps, 1 ≤ p.1) (hu : ps.Pairwise (fun a b => a.2 < b.2)) (s x : Int) (h0 : lowR s ps ≤ x) (h1 : x ≤ lowR (s + 1) ps) : s * x - costR ps x = best s ps := by
  induction ps generalizing x with
  | nil =>
    simp [lowR] at h0 h1
    have : x = 0 := by omega
    subst this
    simp [costR, best]
  | cons p ps ih =>
    have hp := h p (by simp)
    have ht : ∀ q ∈ ps, 1 ≤ q.1 := fun q hq => h q (by simp [hq])
    obtain ⟨u1, u2⟩ := List.pairwise_cons.1 hu
    have hb := lowR_bd (s := s) ht
    have hb1 := lowR_bd (s := s + 1) ht
    rw [lowR] at h0 h1
    by_cases e1 : s + 1 ≤ p.2
    · rw [if_pos e1] at h1
      rw [if_pos (by omega)] at h0
      have : x = 0 := by omega
      subst this
      rw [costR_zero h, best_none]
      · omega
      · intro q hq
        rcases List.mem_cons.1 hq with rfl | hq
        · omega
        · have := u1 q hq; omega
    · rw [if_neg e1] at h1
      by_cases e2 : s ≤ p.2
      · rw [if_pos e2] at h0
        have e : p.2 = s := by omega
        rw [lowR_none (fun q hq => by have := u1 q hq; omega)] at h1
        rw [costR, show min x p.1 = x by omega, show x - x = 0 by omega, costR_zero ht, best, if_neg (by omega), best_none (fun q hq => by have := u1 q hq; omega), e, Int.mul_comm]
        omega
      · rw [if_neg e2] at h0
        have := ih ht u2 (x - p.1) (by omega) (by omega)
        rw [costR, show min x p.1 = p.1 by omega, best, if_pos (by omega), ← this, Int.sub_mul, Int.mul_sub, Int.mul_comm p.1 p.2]
        omega
theorem lowR_mono {ps : List (Int × Int)} (h : ∀ p ∈ ps, 1 ≤ p.1) {s t : Int} (hst : s ≤ t) : lowR s ps ≤ lowR t ps := by
  induction ps with
  | nil => exact Int.le_refl _
  | cons p ps ih =>
    have hp := h p (by simp)
    have ht : ∀ q ∈ ps, 1 ≤ q.1 := fun q hq => h q (by simp [hq])
    have := ih ht
    have := lowR_bd (s := t) ht
    rw [lowR, lowR]
    split <;> split <;> omega
theorem conj_best {ps : List (Int × Int)} (h : ∀ p ∈ ps, 1 ≤ p.1) (hu : ps.Pairwise (fun a b => a.2 < b.2)) (s : Int) : s * lowR s ps - costR ps (lowR s ps) = best s ps :=
  tight h hu s _ (Int.le_refl _) (lowR_mono h (by omega))
theorem conj_eq {lo va : Int} {st : List (Int × Int)} (g : GoodC lo va st) (s : Int) : s * (lo + lowR s st) - cvat lo va st (lo + lowR s st) = s * lo - va + best s st := by
  have := conj_best g.long g.up s
  unfold cvat
  rw [show lo + lowR s st - lo = lowR s st by omega, Int.mul_add]
  omega
theorem conj_good {lo va : Int} {st : List (Int × Int)} {s : Int} (h : (cConj lo va st s).2 = 0) : ccheck lo va st = 0 ∧ cConj lo va st s = (s * lo - va + best s st, 0) ∧ -10000000 ≤ s ∧ s ≤ 10000000 := by
  unfold cConj at h ⊢
  by_cases h0 : ccheck lo va st = 0
  · rw [if_neg (by simpa using h0)] at h ⊢
    cases h1 : outm s 10000000
    · rw [if_neg (by simp), conj_eq (ccheck_ok h0).1]
      exact ⟨h0, rfl, outm_false.1 h1⟩
    · rw [h1, if_pos rfl] at h; cases h
  · rw [if_pos h0] at h; exact absurd h h0
theorem Sorted2.of {ps : List (Int × Int)} (h : ps.Pairwise (fun a b => a.2 < b.2)) : Sorted2 ps := h.imp fun {_ _} h => Int.le_of_lt h
/-- the conjugate bounds the values -/
theorem conj_above {lo va : Int} {st : List (Int × Int)} {s x : Int} (h : (cConj lo va st s).2 = 0) (hx : (cAt lo va st x).2 = 0) : s * x - (cAt lo va st x).1 ≤ (cConj lo va st s).1 := by
  obtain ⟨h0, e, _, _⟩ := conj_good h
  obtain ⟨g, _, _, _⟩ := ccheck_ok h0
  rw [e]
  unfold cAt at hx ⊢
  rw [if_neg (by simpa using h0)] at hx ⊢
  by_cases hr : x < lo ∨ chigh lo st < x
  · rw [if_pos hr] at hx; cases hx
  · rw [if_neg hr]
    unfold chigh at hr
    have := (cost_dual (fun q hq => by have := g.long q hq; omega) (Sorted2.of g.up) (x := x - lo) (by omega) (by omega)).1 s
    simp only [cvat]
    rw [Int.mul_sub] at this
    omega
/-- the pieces of a convolution, in order -/
def psort (l : List (Int × Int)) : List (Int × Int) := l.mergeSort (fun a b => decide (a.2 ≤ b.2))
theorem psort_perm (l : List (Int × Int)) : (psort l).Perm l := List.mergeSort_perm _ _
theorem psort_sorted (l : List (Int × Int)) : Sorted2 (psort l) := by
  have := List.pairwise_mergeSort (le := fun a b : Int × Int => decide (a.2 ≤ b.2)) (fun a b c h1 h2 => by simp at h1 h2 ⊢; omega) (fun a b => by simp; omega) l
  exact this.imp fun {_ _} h => of_decide_eq_true h
/-- joined sorted pieces rise strictly -/
theorem cjoin_up {l : List (Int × Int)} (h : Sorted2 l) : (cjoin l).Pairwise (fun a b => a.2 < b.2) ∧ ∀ q ∈ cjoin l, ∃ p ∈ l, q.2 = p.2 := by
  induction l using snocInd with
  | h0 => exact ⟨List.Pairwise.nil, by simp [cjoin]⟩
  | h1 l p ih =>
    obtain ⟨h1, _, h3⟩ := List.pairwise_append.1 h
    obtain ⟨i1, i2⟩ := ih h1
    have hle : ∀ q ∈ cjoin l, q.2 ≤ p.2 := fun q hq => by
      obtain ⟨r, hr, e⟩ := i2 q hq
      have := h3 r hr p (by simp)
      omega
    rw [cjoin_snoc]
    generalize cjoin l = m at *
    induction m using snocInd with
    | h0 => rw [jstep_nil]; exact ⟨List.pairwise_singleton _ _, fun q hq => ⟨p, by simp, by rw [List.mem_singleton.1 hq]⟩⟩
    | h1 m z _ =>
      obtain ⟨j1, _, j3⟩ := List.pairwise_append.1 i1
      have hz := hle z (by simp)
      rw [jstep_snoc]
      by_cases e : z.2 = p.2
      · rw [if_pos e]
        refine ⟨List.pairwise_append.2 ⟨j1, List.pairwise_singleton _ _, fun a ha b hb => ?_⟩, fun q hq => ?_⟩
        · rw [List.mem_singleton.1 hb]; exact j3 a ha z (by simp)
        · rcases List.mem_append.1 hq with hq | hq
          · obtain ⟨r, hr, e⟩ := i2 q (by simp [hq]); exact ⟨r, by simp [hr], e⟩
          · rw [List.mem_singleton.1 hq]; exact ⟨p, by simp, e⟩
      · rw [if_neg e]
        refine ⟨List.pairwise_append.2 ⟨i1, List.pairwise_singleton _ _, fun a ha b hb => ?_⟩, fun q hq => ?_⟩
        · rw [List.mem_singleton.1 hb]
          rcases List.mem_append.1 ha with ha | ha
          · have := j3 a ha z (by simp); omega
          · rw [List.mem_singleton.1 ha]; omega
        · rcases List.mem_append.1 hq with hq | hq
          · obtain ⟨r, hr, e⟩ := i2 q hq; exact ⟨r, by simp [hr], e⟩
          · rw [List.mem_singleton.1 hq]; exact ⟨p, by simp, rfl⟩
theorem costR_one_ {ps : List (Int × Int)} (h : ∀ p ∈ ps, 1 ≤ p.1) {r : Int × Int} {rs : List (Int × Int)} (e : ps = r :: rs) : costR ps 1 = r.2 := by
  subst e
  have := h r (by simp)
  rw [costR, show min 1 r.1 = 1 by omega, show (1 : Int) - 1 = 0 by omega, costR_zero fun q hq => h q (by simp [hq])]
  omega
theorem total_cons_pos {p : Int × Int} {ps : List (Int × Int)} (h : ∀ q ∈ p :: ps, 1 ≤ q.1) : 1 ≤ total (p :: ps) := by
  have := h p (by simp)
  have := total_pos fun q hq => h q (List.mem_cons_of_mem _ hq)
  rw [total_cons]
  omega
/-- a longer first piece gives smaller values behind the shorter one -/
theorem first_short {p q : Int × Int} {ps qs : List (Int × Int)} (h1 : ∀ z ∈ p :: ps, 1 ≤ z.1) (h2 : ∀ z ∈ q :: qs, 1 ≤ z.1) (u1 : (p :: ps).Pairwise (fun a b => a.2 < b.2)) (ht : total (p :: ps) = total (q :: qs)) (hs : p.2 = q.2) (hl : p.1 < q.1) : 0 ≤ p.1 + 1 ∧ p.1 + 1 ≤ total (p :: ps) ∧ costR (p :: ps) (p.1 + 1) ≠ costR (q :: qs) (p.1 + 1) := by
  have hp := h1 p (by simp)
  have t1 : ∀ z ∈ ps, 1 ≤ z.1 := fun z hz => h1 z (by simp [hz])
  have t2 : ∀ z ∈ qs, 1 ≤ z.1 := fun z hz => h2 z (by simp [hz])
  have hb := total_pos t2
  rw [total_cons, total_cons] at ht
  refine ⟨by omega, by rw [total_cons]; omega, ?_⟩
  rw [costR, costR, show min (p.1 + 1) p.1 = p.1 by omega, show p.1 + 1 - p.1 = 1 by omega, show min (p.1 + 1) q.1 = p.1 + 1 by omega, show p.1 + 1 - (p.1 + 1) = 0 by omega, costR_zero t2, Int.add_mul]
  cases hps : ps with
  | nil => rw [hps, show total [] = 0 from rfl] at ht; omega
  | cons r rs =>
    rw [← hps, costR_one_ t1 hps]
    have := (List.pairwise_cons.1 u1).1 r (by rw [hps]; simp)
    rw [hs] at this ⊢
    omega
/-- a convex function is determined by its values -/
theorem same_of_values {ps qs : List (Int × Int)} (h1 : ∀ p ∈ ps, 1 ≤ p.1) (h2 : ∀ p ∈ qs, 1 ≤ p.1) (u1 : ps.Pairwise (fun a b => a.2 < b.2)) (u2 : qs.Pairwise (fun a b => a.2 < b.2)) (ht : total ps = total qs) (hv : ∀ x, 0 ≤ x → x ≤ total ps → costR ps x = costR qs x) : ps = qs := by
  induction ps generalizing qs with
  | nil =>
    cases qs with
    | nil => rfl
    | cons q qs => have := total_cons_pos h2; rw [← ht] at this; simp [total] at this
  | cons p ps ih =>
    cases qs with
    | nil => have := total_cons_pos h1; rw [ht] at this; simp [total] at this
    | cons q qs =>
      have hp := h1 p (by simp)
      have hq := h2 q (by simp)
      have t1 : ∀ z ∈ ps, 1 ≤ z.1 := fun z hz => h1 z (by simp [hz])
      have t2 : ∀ z ∈ qs, 1 ≤ z.1 := fun z hz => h2 z (by simp [hz])
      have b1 := total_pos t1
      have hs : p.2 = q.2 := by
        have := hv 1 (by omega) (total_cons_pos h1)
        rwa [costR_one_ h1 rfl, costR_one_ h2 rfl] at this
      have hl : p.1 = q.1 := by
        rcases Int.lt_trichotomy p.1 q.1 with h | h | h
        · obtain ⟨a, b, c⟩ := first_short h1 h2 u1 ht hs h
          exact absurd (hv _ a b) c
        · exact h
        · obtain ⟨a, b, c⟩ := first_short h2 h1 u2 ht.symm hs.symm h
          exact absurd (hv _ a (by rw [ht]; exact b)).symm c
      have e : p = q := Prod.ext hl hs
      subst e
      have ht' : total ps = total qs := by rw [total_cons, total_cons] at ht; omega
      rw [ih t1 t2 (List.pairwise_cons.1 u1).2 (List.pairwise_cons.1 u2).2 ht' fun x x0 x1 => ?_]
      have := hv (p.1 + x) (by omega) (by rw [total_cons]; omega)
      rw [costR, costR, show min (p.1 + x) p.1 = p.1 by omega, show p.1 + x - p.1 = x by omega] at this
      omega
/-- .. and by its greatest gains -/
theorem same_of_best {ps qs : List (Int × Int)} (h1 : ∀ p ∈ ps, 1 ≤ p.1) (h2 : ∀ p ∈ qs, 1 ≤ p.1) (u1 : ps.Pairwise (fun a b => a.2 < b.2)) (u2 : qs.Pairwise (fun a b => a.2 < b.2)) (ht : total ps = total qs) (hb : ∀ s, best s ps = best s qs) : ps = qs :=
  same_of_values h1 h2 u1 u2 ht fun x x0 x1 => cost_same (fun q hq => by have := h1 q hq; omega) (fun q hq => by have := h2 q hq; omega) (Sorted2.of u1) (Sorted2.of u2) hb x0 x1 (by omega)
theorem cjoin_same {l m : List (Int × Int)} (hl : ∀ q ∈ l, 1 ≤ q.1) (h : l.Perm m) (s1 : Sorted2 l) (s2 : Sorted2 m) : cjoin l = cjoin m := by
  have hm : ∀ q ∈ m, 1 ≤ q.1 := fun q hq => hl q (h.mem_iff.2 hq)
  refine same_of_best (cjoin_keeps hl).1 (cjoin_keeps hm).1 (cjoin_up s1).1 (cjoin_up s2).1 ?_ fun s => ?_
  · rw [(cjoin_keeps hl).2.1, (cjoin_keeps hm).2.1, total_perm h]
  · rw [cjoin_best, cjoin_best, best_perm s h]
/-- convexpl.Convolve -/
def cConv (lo1 va1 : Int) (ps : List (Int × Int)) (lo2 va2 : Int) (qs : List (Int × Int)) : (Int × Int × List (Int × Int)) × Int :=
  if ccheck lo1 va1 ps ≠ 0 then ((0, 0, []), ccheck lo1 va1 ps) else if ccheck lo2 va2 qs ≠ 0 then ((0, 0, []), ccheck lo2 va2 qs) else cMade (lo1 + lo2) (va1 + va2) (psort (ps ++ qs))
theorem cConv_of {lo1 va1 lo2 va2 : Int} {ps qs L : List (Int × Int)} (h1 : ccheck lo1 va1 ps = 0) (h2 : ccheck lo2 va2 qs = 0) (hp : L.Perm (ps ++ qs)) (hs : Sorted2 L) : cMade (lo1 + lo2) (va1 + va2) L = cConv lo1 va1 ps lo2 va2 qs := by
  have hl : ∀ q ∈ L, 1 ≤ q.1 := fun q hq => by
    rcases List.mem_append.1 (hp.mem_iff.1 hq) with h | h
    · exact (ccheck_ok h1).1.long q h
    · exact (ccheck_ok h2).1.long q h
  unfold cConv
  rw [if_neg (by simpa using h1), if_neg (by simpa using h2)]
  unfold cMade
  rw [cjoin_same hl (hp.trans (psort_perm _).symm) hs (psort_sorted _)]
/-- what a good Convolve says -/
theorem conv_ok {lo1 va1 lo2 va2 : Int} {ps qs : List (Int × Int)} (h : (cConv lo1 va1 ps lo2 va2 qs).2 = 0) : ccheck lo1 va1 ps = 0 ∧ ccheck lo2 va2 qs = 0 ∧ ∃ H, cConv lo1 va1 ps lo2 va2 qs = ((lo1 + lo2, va1 + va2, H), 0) ∧ ccheck (lo1 + lo2) (va1 + va2) H = 0 ∧ total H = total ps + total qs ∧ ∀ s, best s H = best s ps + best s qs := by
  unfold cConv at h ⊢
  by_cases h1 : ccheck lo1 va1 ps = 0
  · rw [if_neg (by simpa using h1)] at h ⊢
    by_cases h2 : ccheck lo2 va2 qs = 0
    · rw [if_neg (by simpa using h2)] at h ⊢
      obtain ⟨e, g, _, ht, hb⟩ := conv_step (ccheck_ok h1).1 (ccheck_ok h2).1 (psort_perm (ps ++ qs)) h
      have hc : ccheck (lo1 + lo2) (va1 + va2) (cjoin (psort (ps ++ qs))) = 0 := by
        unfold cMade at h
        by_cases hc : ccheck (lo1 + lo2) (va1 + va2) (cjoin (psort (ps ++ qs))) = 0
        · exact hc
        · rw [if_pos hc] at h; simp at h
      exact ⟨h1, h2, _, e, hc, ht, hb⟩
    · rw [if_pos h2] at h; exact absurd h h2
  · rw [if_pos h1] at h; exact absurd h h1
/-- ConvexFenchel, plain -/
theorem fenchel_law {lf vf lg vg : Int} {pf pg : List (Int × Int)} {s : Int} (h : (cConv lf vf pf lg vg pg).2 = 0) (h1 : (cConj lf vf pf s).2 = 0) (h2 : (cConj lg vg pg s).2 = 0) (h3 : (cConj (cConv lf vf pf lg vg pg).1.1 (cConv lf vf pf lg vg pg).1.2.1 (cConv lf vf pf lg vg pg).1.2.2 s).2 = 0) :
    (cConj (cConv lf vf pf lg vg pg).1.1 (cConv lf vf pf lg vg pg).1.2.1 (cConv lf vf pf lg vg pg).1.2.2 s).1 = (cConj lf vf pf s).1 + (cConj lg vg pg s).1 := by
  obtain ⟨_, _, H, e, _, _, hb⟩ := conv_ok h
  rw [e] at h3 ⊢
  rw [(conj_good h3).2.1, (conj_good h1).2.1, (conj_good h2).2.1]
  simp only
  rw [hb, Int.mul_add]
  omega
/-- Convolve is commutative -/
theorem conv_comm {lf vf lg vg : Int} {pf pg : List (Int × Int)} (h : (cConv lf vf pf lg vg pg).2 = 0) : cConv lg vg pg lf vf pf = cConv lf vf pf lg vg pg := by
  obtain ⟨h1, h2, _⟩ := conv_ok h
  rw [← cConv_of h2 h1 ((psort_perm (pf ++ pg)).trans List.perm_append_comm) (psort_sorted _), Int.add_comm lg, Int.add_comm vg]
  unfold cConv
  rw [if_neg (by simpa using h1), if_neg (by simpa using h2)]
/-- Convolve is associative -/
theorem conv_assoc {lf vf lg vg lh vh la va lc vc : Int} {pf pg ph pa pc : List (Int × Int)} (ha : cConv lf vf pf lg vg pg = ((la, va, pa), 0)) (hc : cConv lg vg pg lh vh ph = ((lc, vc, pc), 0))
    (hx : (cConv la va pa lh vh ph).2 = 0) (hy : (cConv lf vf pf lc vc pc).2 = 0) : cConv la va pa lh vh ph = cConv lf vf pf lc vc pc := by
  obtain ⟨_, _, A, ea, _, ta, ba⟩ := conv_ok (show (cConv lf vf pf lg vg pg).2 = 0 by rw [ha])
  obtain ⟨_, _, C, ec, _, tc, bc⟩ := conv_ok (show (cConv lg vg pg lh vh ph).2 = 0 by rw [hc])
  rw [ha] at ea
  rw [hc] at ec
  simp only [Prod.mk.injEq] at ea ec
  obtain ⟨⟨rfl, rfl, rfl⟩, _⟩ := ea
  obtain ⟨⟨rfl, rfl, rfl⟩, _⟩ := ec
  obtain ⟨_, _, X, ex, cx, tx, bx⟩ := conv_ok hx
  obtain ⟨_, _, Y, ey, cy, ty, by_⟩ := conv_ok hy
  have gx := (ccheck_ok cx).1
  have gy := (ccheck_ok cy).1
  have e : X = Y := same_of_best gx.long gy.long gx.up gy.up (by omega) fun s => by have := bx s; have := by_ s; have := ba s; have := bc s; omega
  rw [ex, ey, e, Int.add_assoc, Int.add_assoc]
/-- the values of a convolution: no split is cheaper, and one has the value -/
theorem conv_le {lo1 va1 lo2 va2 : Int} {ps qs H : List (Int × Int)} (g1 : GoodC lo1 va1 ps) (g2 : GoodC lo2 va2 qs) (g : GoodC (lo1 + lo2) (va1 + va2) H) (ht : total H = total ps + total qs) (hb : ∀ s, best s H = best s ps + best s qs) {x y : Int} (x0 : lo1 ≤ x) (x1 : x ≤ lo1 + total ps) (y0 : lo2 ≤ y) (y1 : y ≤ lo2 + total qs) :
    cvat (lo1 + lo2) (va1 + va2) H (x + y) ≤ cvat lo1 va1 ps x + cvat lo2 va2 qs y := by
  obtain ⟨_, s, e⟩ := cost_dual (fun q hq => by have := g.long q hq; omega) (Sorted2.of g.up) (x := x + y - (lo1 + lo2)) (by omega) (by omega)
  have k1 := (cost_dual (fun q hq => by have := g1.long q hq; omega) (Sorted2.of g1.up) (x := x - lo1) (by omega) (by omega)).1 s
  have k2 := (cost_dual (fun q hq => by have := g2.long q hq; omega) (Sorted2.of g2.up) (x := y - lo2) (by omega) (by omega)).1 s
  have := hb s
  rw [show x + y - (lo1 + lo2) = (x - lo1) + (y - lo2) by omega] at e
  unfold cvat
  rw [show x + y - (lo1 + lo2) = (x - lo1) + (y - lo2) by omega]
  rw [Int.mul_add] at e
  omega
theorem lowR_sum {ps : List (Int × Int)} (hu : ps.Pairwise (fun a b => a.2 < b.2)) (s : Int) : lowR s ps = leastR s ps := by
  rw [leastR_sum]
  induction ps with
  | nil => rfl
  | cons p ps ih =>
    obtain ⟨u1, u2⟩ := List.pairwise_cons.1 hu
    rw [lowR, sumF, ← ih u2]
    by_cases e : s ≤ p.2
    · rw [if_pos e, if_neg (by omega), lowR_none fun q hq => by have := u1 q hq; omega]; rfl
    · rw [if_neg e, if_pos (by omega)]
/-- the slope of a place -/
theorem some_slope {ps : List (Int × Int)} (h : ∀ p ∈ ps, 1 ≤ p.1) (hu : ps.Pairwise (fun a b => a.2 < b.2)) (x : Int) (x0 : 0 ≤ x) (x1 : x ≤ total ps) : ∃ s, (∀ p ps', ps = p :: ps' → p.2 ≤ s) ∧ lowR s ps ≤ x ∧ x ≤ lowR (s + 1) ps := by
  induction ps generalizing x with
  | nil => exact ⟨0, by simp, by simp [lowR]; exact x0, by simpa [lowR, total] using x1⟩
  | cons p ps ih =>
    have hp := h p (by simp)
    have ht : ∀ q ∈ ps, 1 ≤ q.1 := fun q hq => h q (by simp [hq])
    obtain ⟨u1, u2⟩ := List.pairwise_cons.1 hu
    by_cases hx : x ≤ p.1
    · refine ⟨p.2, fun q ps' e => by injection e with e _; rw [e]; exact Int.le_refl _, ?_, ?_⟩
      · rw [lowR, if_pos (Int.le_refl _)]; exact x0
      · have := lowR_bd (s := p.2 + 1) ht
        rw [lowR, if_neg (by omega)]; omega
    · rw [total_cons] at x1
      obtain ⟨s, s1, s2, s3⟩ := ih ht u2 (x - p.1) (by omega) (by omega)
      cases hps : ps with
      | nil => rw [hps] at x1; simp [total] at x1; omega
      | cons r rs =>
        have k1 := s1 r rs hps
        have k2 := u1 r (by rw [hps]; simp)
        rw [← hps]
        refine ⟨s, fun q ps' e => by injection e with e _; rw [← e]; omega, ?_, ?_⟩
        · rw [lowR, if_neg (by omega)]; omega
        · rw [lowR, if_neg (by omega)]; omega
theorem lowR_best {ps : List (Int × Int)} (hu : ps.Pairwise (fun a b => a.2 < b.2)) (s : Int) : lowR s ps = best s ps - best (s - 1) ps := by
  rw [lowR_sum hu, leastR_sum, best_sum, best_sum, ← sumF_sub]
  refine sumF_congr fun q _ => ?_
  by_cases e : q.2 < s
  · rw [if_pos e, show max 0 (s - q.2) = max 0 (s - 1 - q.2) + 1 by omega, Int.mul_add]; omega
  · rw [if_neg e, show max 0 (s - q.2) = 0 by omega, show max 0 (s - 1 - q.2) = 0 by omega]; omega
theorem conv_some {lo1 va1 lo2 va2 : Int} {ps qs H : List (Int × Int)} (g1 : GoodC lo1 va1 ps) (g2 : GoodC lo2 va2 qs) (g : GoodC (lo1 + lo2) (va1 + va2) H) (htot : total H = total ps + total qs) (hbst : ∀ s, best s H = best s ps + best s qs) {z : Int} (z0 : lo1 + lo2 ≤ z) (z1 : z ≤ lo1 + lo2 + (total ps + total qs)) :
    ∃ x y, x + y = z ∧ lo1 ≤ x ∧ x ≤ lo1 + total ps ∧ lo2 ≤ y ∧ y ≤ lo2 + total qs ∧ cvat (lo1 + lo2) (va1 + va2) H z = cvat lo1 va1 ps x + cvat lo2 va2 qs y := by
  have hlow : ∀ s, lowR s H = lowR s ps + lowR s qs := fun s => by
    rw [lowR_best g.up, lowR_best g1.up, lowR_best g2.up, hbst, hbst]
    omega
  obtain ⟨s, _, s1, s2⟩ := some_slope g.long g.up (z - (lo1 + lo2)) (by omega) (by omega)
  have e := tight g.long g.up s _ s1 s2
  rw [hlow] at s1 s2
  have m1 := lowR_mono g1.long (show s ≤ s + 1 by omega)
  have m2 := lowR_mono g2.long (show s ≤ s + 1 by omega)
  have b1 := lowR_bd (s := s) g1.long
  have b2 := lowR_bd (s := s) g2.long
  have c1 := lowR_bd (s := s + 1) g1.long
  have c2 := lowR_bd (s := s + 1) g2.long
  obtain ⟨x, hx⟩ : ∃ x, x = max (lowR s ps) (min (lowR (s + 1) ps) (z - (lo1 + lo2) - lowR s qs)) := ⟨_, rfl⟩
  have t1 := tight g1.long g1.up s x (by omega) (by omega)
  have t2 := tight g2.long g2.up s (z - (lo1 + lo2) - x) (by omega) (by omega)
  refine ⟨lo1 + x, z - lo1 - x, by omega, by omega, by omega, by omega, by omega, ?_⟩
  unfold cvat
  rw [show lo1 + x - lo1 = x by omega, show z - lo1 - x - lo2 = z - (lo1 + lo2) - x by omega]
  rw [hbst] at e
  rw [Int.mul_sub] at t2
  omega
/-- the loop of convexpl.Add: pieces of equal length put together -/
def addL : List (Int × Int) → List (Int × Int) → List (Int × Int)
  | (m, s) :: a, (k, t) :: b => (min m k, s + t) :: (if m < k then addL a ((k - m, t) :: b) else if k < m then addL ((m - k, s) :: a) b else addL a b)
  | [], _ => []
  | _ :: _, [] => []
  termination_by a b => a.length + b.length
theorem addL_nil (b : List (Int × Int)) : addL [] b = [] := by rw [addL]
theorem addL_nil2 (a : List (Int × Int)) : addL a [] = [] := by cases a <;> rw [addL]
theorem addL_cons (m s k t : Int) (a b : List (Int × Int)) : addL ((m, s) :: a) ((k, t) :: b) = (min m k, s + t) :: (if m < k then addL a ((k - m, t) :: b) else if k < m then addL ((m - k, s) :: a) b else addL a b) := by rw [addL]
theorem add_ind {P : List (Int × Int) → List (Int × Int) → Prop} (h0 : ∀ b, P [] b) (h1 : ∀ a, P a []) (h2 : ∀ m s a k t b, (m < k → P a ((k - m, t) :: b)) → (k < m → P ((m - k, s) :: a) b) → P a b → P ((m, s) :: a) ((k, t) :: b)) : ∀ a b, P a b := by
  have : ∀ n (a b : List (Int × Int)), a.length + b.length = n → P a b := by
    intro n
    induction n using Nat.strongRecOn with
    | _ n ih =>
      intro a b e
      cases a with
      | nil => exact h0 b
      | cons p a =>
        cases b with
        | nil => exact h1 _
        | cons q b =>
          simp at e
          exact h2 _ _ _ _ _ _ (fun _ => ih (a.length + (b.length + 1)) (by omega) _ _ (by simp)) (fun _ => ih (a.length + 1 + b.length) (by omega) _ _ (by simp)) (ih (a.length + b.length) (by omega) _ _ rfl)
  exact fun a b => this _ a b rfl
theorem addL_len (a b : List (Int × Int)) : (addL a b).length ≤ a.length + b.length := by
  refine add_ind (P := fun a b => (addL a b).length ≤ a.length + b.length) ?_ ?_ ?_ a b
  · intro b; rw [addL_nil]; simp
  · intro a; rw [addL_nil2]; simp
  · intro m s a k t b i1 i2 i3
    rw [addL_cons]
    simp only [List.length_cons] at i1 i2 ⊢
    by_cases h1 : m < k
    · rw [if_pos h1]; have := i1 h1; omega
    · rw [if_neg h1]
      by_cases h2 : k < m
      · rw [if_pos h2]; have := i2 h2; omega
      · rw [if_neg h2]; omega
theorem addL_comm (a b : List (Int × Int)) : addL a b = addL b a := by
  refine add_ind (P := fun a b => addL a b = addL b a) ?_ ?_ ?_ a b
  · intro b; rw [addL_nil, addL_nil2]
  · intro a; rw [addL_nil, addL_nil2]
  · intro m s a k t b i1 i2 i3
    rw [addL_cons, addL_cons, show min k m = min m k by omega, Int.add_comm t s]
    by_cases h1 : m < k
    · rw [if_pos h1, if_neg (by omega), if_pos h1, i1 h1]
    · rw [if_neg h1]
      by_cases h2 : k < m
      · rw [if_pos h2, if_pos h2, i2 h2]
      · rw [if_neg h2, if_neg h2, if_neg h1, i3]
theorem addL_mem (a b : List (Int × Int)) : (∀ q ∈ a, 1 ≤ q.1) → (∀ q ∈ b, 1 ≤ q.1) → ∀ q ∈ addL a b, 1 ≤ q.1 ∧ ∃ p ∈ a, ∃ r ∈ b, q.2 = p.2 + r.2 := by
  refine add_ind (P := fun a b => (∀ q ∈ a, 1 ≤ q.1) → (∀ q ∈ b, 1 ≤ q.1) → ∀ q ∈ addL a b, 1 ≤ q.1 ∧ ∃ p ∈ a, ∃ r ∈ b, q.2 = p.2 + r.2) ?_ ?_ ?_ a b
  · intro b _ _ q hq; rw [addL_nil] at hq; cases hq
  · intro a _ _ q hq; rw [addL_nil2] at hq; cases hq
  · intro m s a k t b i1 i2 i3 ha hb q hq
    have hm := ha (m, s) (by simp)
    have hk := hb (k, t) (by simp)
    have ta : ∀ q ∈ a, 1 ≤ q.1 := fun q hq => ha q (by simp [hq])
    have tb : ∀ q ∈ b, 1 ≤ q.1 := fun q hq => hb q (by simp [hq])
    simp only at hm hk
    rw [addL_cons] at hq
    rcases List.mem_cons.1 hq with rfl | hq
    · exact ⟨by simp only; omega, (m, s), by simp, (k, t), by simp, rfl⟩
    · by_cases h1 : m < k
      · rw [if_pos h1] at hq
        obtain ⟨j0, p, hp, r, hr, e⟩ := i1 h1 ta (fun q hq => by rcases List.mem_cons.1 hq with rfl | hq; · simp only; omega
                                                                 · exact tb q hq) q hq
        refine ⟨j0, p, by simp [hp], ?_⟩
        rcases List.mem_cons.1 hr with rfl | hr
        · exact ⟨(k, t), by simp, e⟩
        · exact ⟨r, by simp [hr], e⟩
      · rw [if_neg h1] at hq
        by_cases h2 : k < m
        · rw [if_pos h2] at hq
          obtain ⟨j0, p, hp, r, hr, e⟩ := i2 h2 (fun q hq => by rcases List.mem_cons.1 hq with rfl | hq; · simp only; omega
                                                                · exact ta q hq) tb q hq
          refine ⟨j0, ?_⟩
          rcases List.mem_cons.1 hp with rfl | hp
          · exact ⟨(m, s), by simp, r, by simp [hr], e⟩
          · exact ⟨p, by simp [hp], r, by simp [hr], e⟩
        · rw [if_neg h2] at hq
          obtain ⟨j0, p, hp, r, hr, e⟩ := i3 ta tb q hq
          exact ⟨j0, p, by simp [hp], r, by simp [hr], e⟩
theorem addL_up (a b : List (Int × Int)) : (∀ q ∈ a, 1 ≤ q.1) → (∀ q ∈ b, 1 ≤ q.1) → a.Pairwise (fun a b => a.2 < b.2) → b.Pairwise (fun a b => a.2 < b.2) → (addL a b).Pairwise (fun a b => a.2 < b.2) := by
  refine add_ind (P := fun a b => (∀ q ∈ a, 1 ≤ q.1) → (∀ q ∈ b, 1 ≤ q.1) → a.Pairwise (fun a b => a.2 < b.2) → b.Pairwise (fun a b => a.2 < b.2) → (addL a b).Pairwise (fun a b => a.2 < b.2)) ?_ ?_ ?_ a b
  · intro b _ _ _ _; rw [addL_nil]; exact List.Pairwise.nil
  · intro a _ _ _ _; rw [addL_nil2]; exact List.Pairwise.nil
  · intro m s a k t b i1 i2 i3 ha hb ua ub
    have hm := ha (m, s) (by simp)
    have hk := hb (k, t) (by simp)
    have ta : ∀ q ∈ a, 1 ≤ q.1 := fun q hq => ha q (by simp [hq])
    have tb : ∀ q ∈ b, 1 ≤ q.1 := fun q hq => hb q (by simp [hq])
    obtain ⟨a1, a2⟩ := List.pairwise_cons.1 ua
    obtain ⟨b1, b2⟩ := List.pairwise_cons.1 ub
    simp only at hm hk
    rw [addL_cons, List.pairwise_cons]
    by_cases h1 : m < k
    · have hb' : ∀ q ∈ (k - m, t) :: b, 1 ≤ q.1 := fun q hq => by
        rcases List.mem_cons.1 hq with rfl | hq
        · simp only; omega
        · exact tb q hq
      rw [if_pos h1]
      refine ⟨fun q hq => ?_, i1 h1 ta hb' a2 (List.pairwise_cons.2 ⟨b1, b2⟩)⟩
      obtain ⟨_, p, hp, r, hr, e⟩ := addL_mem _ _ ta hb' q hq
      have := a1 p hp
      rw [e]
      rcases List.mem_cons.1 hr with rfl | hr
      · simp only at this ⊢; omega
      · have := b1 r hr; simp only at *; omega
    · rw [if_neg h1]
      by_cases h2 : k < m
      · have ha' : ∀ q ∈ (m - k, s) :: a, 1 ≤ q.1 := fun q hq => by
          rcases List.mem_cons.1 hq with rfl | hq
          · simp only; omega
          · exact ta q hq
        rw [if_pos h2]
        refine ⟨fun q hq => ?_, i2 h2 ha' tb (List.pairwise_cons.2 ⟨a1, a2⟩) b2⟩
        obtain ⟨_, p, hp, r, hr, e⟩ := addL_mem _ _ ha' tb q hq
        have := b1 r hr
        rw [e]
        rcases List.mem_cons.1 hp with rfl | hp
        · simp only at this ⊢; omega
        · have := a1 p hp; simp only at *; omega
      · rw [if_neg h2]
        refine ⟨fun q hq => ?_, i3 ta tb a2 b2⟩
        obtain ⟨_, p, hp, r, hr, e⟩ := addL_mem _ _ ta tb q hq
        have := b1 r hr
        have := a1 p hp
        rw [e]
        simp only at *
        omega
theorem addL_cost (a b : List (Int × Int)) : (∀ q ∈ a, 1 ≤ q.1) → (∀ q ∈ b, 1 ≤ q.1) → total a = total b → total (addL a b) = total a ∧ ∀ x, 0 ≤ x → x ≤ total a → costR (addL a b) x = costR a x + costR b x := by
  refine add_ind (P := fun a b => (∀ q ∈ a, 1 ≤ q.1) → (∀ q ∈ b, 1 ≤ q.1) → total a = total b → total (addL a b) = total a ∧ ∀ x, 0 ≤ x → x ≤ total a → costR (addL a b) x = costR a x + costR b x) ?_ ?_ ?_ a b
  · intro b _ hb e
    cases b with
    | nil => rw [addL_nil]; exact ⟨rfl, fun x _ _ => by simp [costR]⟩
    | cons q b => have := total_cons_pos hb; rw [← e] at this; simp [total] at this
  · intro a ha _ e
    cases a with
    | nil => rw [addL_nil]; exact ⟨rfl, fun x _ _ => by simp [costR]⟩
    | cons q a => have := total_cons_pos ha; rw [e] at this; simp [total] at this
  · intro m s a k t b i1 i2 i3 ha hb e
    have hm := ha (m, s) (by simp)
    have hk := hb (k, t) (by simp)
    have ta : ∀ q ∈ a, 1 ≤ q.1 := fun q hq => ha q (by simp [hq])
    have tb : ∀ q ∈ b, 1 ≤ q.1 := fun q hq => hb q (by simp [hq])
    simp only at hm hk
    have za := total_pos ta
    have zb := total_pos tb
    rw [total_cons, total_cons] at e
    simp only at e
    rw [addL_cons, total_cons, total_cons]
    simp only
    by_cases h1 : m < k
    · have hb' : ∀ q ∈ (k - m, t) :: b, 1 ≤ q.1 := fun q hq => by
        rcases List.mem_cons.1 hq with rfl | hq
        · simp only; omega
        · exact tb q hq
      obtain ⟨j1, j2⟩ := i1 h1 ta hb' (by rw [total_cons]; simp only; omega)
      rw [if_pos h1]
      refine ⟨by omega, fun x x0 x1 => ?_⟩
      rw [costR, costR, costR]
      simp only
      rw [show min m k = m by omega, j2 _ (by omega) (by omega), costR]
      simp only
      rw [Int.mul_add, show min x k = min x m + min (x - min x m) (k - m) by omega, Int.add_mul, show x - (min x m + min (x - min x m) (k - m)) = x - min x m - min (x - min x m) (k - m) by omega]
      omega
    · rw [if_neg h1]
      by_cases h2 : k < m
      · have ha' : ∀ q ∈ (m - k, s) :: a, 1 ≤ q.1 := fun q hq => by
          rcases List.mem_cons.1 hq with rfl | hq
          · simp only; omega
          · exact ta q hq
        obtain ⟨j1, j2⟩ := i2 h2 ha' tb (by rw [total_cons]; simp only; omega)
        rw [total_cons] at j1 j2
        simp only at j1 j2
        rw [if_pos h2]
        refine ⟨by omega, fun x x0 x1 => ?_⟩
        rw [costR, costR, costR]
        simp only
        rw [show min m k = k by omega, j2 _ (by omega) (by omega), costR]
        simp only
        rw [Int.mul_add, show min x m = min x k + min (x - min x k) (m - k) by omega, Int.add_mul, show x - (min x k + min (x - min x k) (m - k)) = x - min x k - min (x - min x k) (m - k) by omega]
        omega
      · have hmk : m = k := by omega
        subst hmk
        obtain ⟨j1, j2⟩ := i3 ta tb (by omega)
        rw [if_neg h2]
        refine ⟨by omega, fun x x0 x1 => ?_⟩
        rw [costR, costR, costR]
        simp only
        rw [show min m m = m by omega, j2 _ (by omega) (by omega), Int.mul_add]
        omega
/-- convexpl.Add -/
def cAdd (lo1 va1 : Int) (ps : List (Int × Int)) (lo2 va2 : Int) (qs : List (Int × Int)) : (Int × Int × List (Int × Int)) × Int :=
  if ccheck lo1 va1 ps ≠ 0 then ((0, 0, []), ccheck lo1 va1 ps) else if ccheck lo2 va2 qs ≠ 0 then ((0, 0, []), ccheck lo2 va2 qs)
  else if min (chigh lo1 ps) (chigh lo2 qs) < max lo1 lo2 then ((0, 0, []), 8)
  else cMade (max lo1 lo2) (cvat lo1 va1 ps (max lo1 lo2) + cvat lo2 va2 qs (max lo1 lo2)) (addL (ccut lo1 (max lo1 lo2) (min (chigh lo1 ps) (chigh lo2 qs)) ps) (ccut lo2 (max lo1 lo2) (min (chigh lo1 ps) (chigh lo2 qs)) qs))
/-- the pieces of a sum on the common arguments -/
theorem add_pieces {lo1 va1 lo2 va2 : Int} {ps qs : List (Int × Int)} (g1 : GoodC lo1 va1 ps) (g2 : GoodC lo2 va2 qs) {low hi : Int} (h1 : lo1 ≤ low) (h2 : lo2 ≤ low) (hlh : low ≤ hi) (h3 : hi ≤ chigh lo1 ps) (h4 : hi ≤ chigh lo2 qs) :
    ∃ L, addL (ccut lo1 low hi ps) (ccut lo2 low hi qs) = L ∧ (∀ q ∈ L, 1 ≤ q.1) ∧ L.Pairwise (fun a b => a.2 < b.2) ∧ total L = hi - low ∧ ∀ x, low ≤ x → x ≤ hi → cvat low (cvat lo1 va1 ps low + cvat lo2 va2 qs low) L x = cvat lo1 va1 ps x + cvat lo2 va2 qs x := by
  have p1 := fun q hq => (cutR_mem (x := lo1) (low := low) (hi := hi) g1.long q hq).1
  have p2 := fun q hq => (cutR_mem (x := lo2) (low := low) (hi := hi) g2.long q hq).1
  have u1 := cutR_up (x := lo1) (low := low) (hi := hi) g1.long g1.up
  have u2 := cutR_up (x := lo2) (low := low) (hi := hi) g2.long g2.up
  have e1 : chigh lo1 ps = lo1 + total ps := rfl
  have e2 : chigh lo2 qs = lo2 + total qs := rfl
  have t1 := cutR_total (x := lo1) (low := low) (hi := hi) g1.long (by omega) (by omega)
  have t2 := cutR_total (x := lo2) (low := low) (hi := hi) g2.long (by omega) (by omega)
  rw [ccut_eq, ccut_eq]
  have ht : total (cutR lo1 low hi ps) = total (cutR lo2 low hi qs) := by rw [t1, t2]; omega
  obtain ⟨c1, c2⟩ := addL_cost _ _ p1 p2 ht
  refine ⟨_, rfl, fun q hq => (addL_mem _ _ p1 p2 q hq).1, addL_up _ _ p1 p2 u1 u2, by rw [c1, t1]; omega, fun x x0 x1 => ?_⟩
  have k1 := cutR_cost (x := lo1) (low := low) (hi := hi) (y := x) g1.long (by omega) x1
  have k2 := cutR_cost (x := lo2) (low := low) (hi := hi) (y := x) g2.long (by omega) x1
  rw [show max low lo1 = low by omega] at k1
  rw [show max low lo2 = low by omega] at k2
  unfold cvat
  rw [c2 (x - low) (by omega) (by rw [t1]; omega), k1, k2]
  omega
/-- what a good Add says -/
theorem add_ok {lo1 va1 lo2 va2 : Int} {ps qs : List (Int × Int)} (h : (cAdd lo1 va1 ps lo2 va2 qs).2 = 0) :
    ccheck lo1 va1 ps = 0 ∧ ccheck lo2 va2 qs = 0 ∧ max lo1 lo2 ≤ min (chigh lo1 ps) (chigh lo2 qs) ∧ ∃ va L, cAdd lo1 va1 ps lo2 va2 qs = ((max lo1 lo2, va, L), 0) ∧ ccheck (max lo1 lo2) va L = 0 ∧ chigh (max lo1 lo2) L = min (chigh lo1 ps) (chigh lo2 qs) ∧
      ∀ x, max lo1 lo2 ≤ x → x ≤ min (chigh lo1 ps) (chigh lo2 qs) → cvat (max lo1 lo2) va L x = cvat lo1 va1 ps x + cvat lo2 va2 qs x := by
  unfold cAdd at h ⊢
  by_cases h1 : ccheck lo1 va1 ps = 0
  · rw [if_neg (by simpa using h1)] at h ⊢
    by_cases h2 : ccheck lo2 va2 qs = 0
    · rw [if_neg (by simpa using h2)] at h ⊢
      by_cases h3 : min (chigh lo1 ps) (chigh lo2 qs) < max lo1 lo2
      · rw [if_pos h3] at h; cases h
      · rw [if_neg h3] at h ⊢
        obtain ⟨L, e, hl, hu, ht, hv⟩ := add_pieces (ccheck_ok h1).1 (ccheck_ok h2).1 (low := max lo1 lo2) (hi := min (chigh lo1 ps) (chigh lo2 qs)) (by omega) (by omega) (by omega) (by omega) (by omega)
        rw [e] at h ⊢
        have hc := cMade_fine hu h
        exact ⟨h1, h2, by omega, _, L, cMade_ok hu hc, hc, by unfold chigh at ht ⊢; omega, hv⟩
    · rw [if_pos h2] at h; exact absurd h h2
  · rw [if_pos h1] at h; exact absurd h h1
theorem add_comm {lf vf lg vg : Int} {pf pg : List (Int × Int)} (h : (cAdd lf vf pf lg vg pg).2 = 0) : cAdd lg vg pg lf vf pf = cAdd lf vf pf lg vg pg := by
  obtain ⟨h1, h2, h3, _⟩ := add_ok h
  unfold cAdd
  simp only [h1, h2, ne_eq, not_true_eq_false, if_false]
  rw [show max lg lf = max lf lg by omega, show min (chigh lg pg) (chigh lf pf) = min (chigh lf pf) (chigh lg pg) by omega, addL_comm, Int.add_comm (cvat lg vg pg _)]
/-- two valid functions with the same arguments and values are the same -/
theorem same_fun {lo v1 v2 : Int} {ps qs : List (Int × Int)} (g1 : GoodC lo v1 ps) (g2 : GoodC lo v2 qs) (hh : chigh lo ps = chigh lo qs) (hv : ∀ x, lo ≤ x → x ≤ chigh lo ps → cvat lo v1 ps x = cvat lo v2 qs x) : v1 = v2 ∧ ps = qs := by
  have e1 : chigh lo ps = lo + total ps := rfl
  have e2 : chigh lo qs = lo + total qs := rfl
  have t1 := total_pos g1.long
  have h0 := hv lo (Int.le_refl _) (by omega)
  unfold cvat at h0
  rw [show lo - lo = 0 by omega, costR_zero g1.long, costR_zero g2.long] at h0
  refine ⟨by omega, same_of_values g1.long g2.long g1.up g2.up (by omega) fun x x0 x1 => ?_⟩
  have := hv (lo + x) (by omega) (by omega)
  unfold cvat at this
  rw [show lo + x - lo = x by omega] at this
  omega
theorem add_assoc {lf vf lg vg lh vh la va lc vc : Int} {pf pg ph pa pc : List (Int × Int)} (ha : cAdd lf vf pf lg vg pg = ((la, va, pa), 0)) (hc : cAdd lg vg pg lh vh ph = ((lc, vc, pc), 0))
    (hx : (cAdd la va pa lh vh ph).2 = 0) (hy : (cAdd lf vf pf lc vc pc).2 = 0) : cAdd la va pa lh vh ph = cAdd lf vf pf lc vc pc := by
  obtain ⟨_, _, _, A1, A2, ea, _, ta, ba⟩ := add_ok (show (cAdd lf vf pf lg vg pg).2 = 0 by rw [ha])
  obtain ⟨_, _, _, C1, C2, ec, _, tc, bc⟩ := add_ok (show (cAdd lg vg pg lh vh ph).2 = 0 by rw [hc])
  rw [ha] at ea
  rw [hc] at ec
  simp only [Prod.mk.injEq] at ea ec
  obtain ⟨⟨rfl, rfl, rfl⟩, _⟩ := ea
  obtain ⟨⟨rfl, rfl, rfl⟩, _⟩ := ec
  obtain ⟨_, _, kx, X1, X2, ex, cx, tx, bx⟩ := add_ok hx
  obtain ⟨_, _, ky, Y1, Y2, ey, cy, ty, by_⟩ := add_ok hy
  rw [ex, ey]
  have el : max (max lf lg) lh = max lf (max lg lh) := by omega
  rw [el] at cx tx bx kx ⊢
  obtain ⟨e1, e2⟩ := same_fun (ccheck_ok cx).1 (ccheck_ok cy).1 (by omega) fun x x0 x1 => by
    rw [bx x x0 (by omega), by_ x x0 (by omega), ba x (by omega) (by omega), bc x (by omega) (by omega)]
    omega
  rw [e1, e2]
end Go.Proofs.Ytchafkocobbndaa.Pl
