/- The convolution of convex functions, plain: the values of a function are told by the greatest gains at all prices; the law DispatchConvolves. No program. -/
import Derived.Test.YtchafkocobbndaaPTurn
import Derived.Test.YtchafkocobbndaaPWelf
namespace Go.Proofs.Ytchafkocobbndaa.Pl
def blk0 (s : Int × Int) : B3 := (0, s.1, s.2)
theorem costR_filled : ∀ (ps : List (Int × Int)) (x : Int), costR ps x = filled (fun b m => m * b.2.2) (ps.map blk0) x := by
  intro ps
  induction ps with
  | nil => intro x; rfl
  | cons p ps ih => intro x; rw [costR, List.map_cons, filled, ih]; rfl
theorem best_blk (p : Int) (ps : List (Int × Int)) : sumF (fun b : B3 => b.2.1 * max 0 (p - b.2.2)) (ps.map blk0) = best p ps := by
  rw [sumF_map, best_sum]
  rfl
theorem total_blk (ps : List (Int × Int)) : sumF (fun b : B3 => b.2.1) (ps.map blk0) = total ps := by
  rw [sumF_map, total_sum]
  rfl
theorem best_perm (p : Int) {a b : List (Int × Int)} (h : a.Perm b) : best p a = best p b := by rw [best_sum, best_sum, sumF_perm _ h]
theorem total_perm {a b : List (Int × Int)} (h : a.Perm b) : total a = total b := by rw [total_sum, total_sum, sumF_perm _ h]
theorem best_app (p : Int) (a b : List (Int × Int)) : best p (a ++ b) = best p a + best p b := by rw [best_sum, best_sum, best_sum, sumF_append]
/-- no price gives more than its greatest gain -/
theorem cost_weak : ∀ {bs : List B3} (p d : Int), 0 ≤ d → (∀ b ∈ bs, 0 ≤ b.2.1) → p * filled (fun _ m => m) bs d - filled (fun b m => m * b.2.2) bs d ≤ sumF (fun b => b.2.1 * max 0 (p - b.2.2)) bs := by
  intro bs
  induction bs with
  | nil => intro p d _ _; simp [filled, sumF]
  | cons b bs ih =>
    intro p d hd h0
    have hb := h0 b (by simp)
    have i := ih p (d - min d b.2.1) (by omega) (fun x hx => h0 x (by simp [hx]))
    rw [sumF, filled, filled]
    have m0 : 0 ≤ min d b.2.1 := by omega
    have m1 : min d b.2.1 ≤ b.2.1 := by omega
    have k1 : min d b.2.1 * (p - b.2.2) ≤ min d b.2.1 * max 0 (p - b.2.2) := Int.mul_le_mul_of_nonneg_left (by omega) m0
    have k2 : min d b.2.1 * max 0 (p - b.2.2) ≤ b.2.1 * max 0 (p - b.2.2) := Int.mul_le_mul_of_nonneg_right m1 (by omega)
    have e : p * (min d b.2.1 + filled (fun _ m => m) bs (d - min d b.2.1)) = p * filled (fun _ m => m) bs (d - min d b.2.1) + min d b.2.1 * (p - b.2.2) + min d b.2.1 * b.2.2 := by grind
    rw [e]
    omega
/-- the value of a sorted function at x, by the greatest gains -/
theorem cost_dual {ps : List (Int × Int)} (h1 : ∀ q ∈ ps, 0 ≤ q.1) (hs : ps.Pairwise (fun a b => a.2 ≤ b.2)) {x : Int} (x0 : 0 ≤ x) (x1 : x ≤ total ps) :
    (∀ p, p * x - costR ps x ≤ best p ps) ∧ ∃ p, p * x - costR ps x = best p ps := by
  have h0 : ∀ b ∈ ps.map blk0, 0 ≤ b.2.1 := fun b hb => by
    obtain ⟨q, hq, rfl⟩ := List.mem_map.1 hb
    exact h1 q hq
  have hf : filled (fun _ m => m) (ps.map blk0) x = x := by
    rw [(filled_all _ x x0 h0).1, total_blk]
    omega
  have hs2 : (ps.map blk0).Pairwise (fun a b => a.2.2 ≤ b.2.2) := by
    rw [List.pairwise_map]
    exact hs
  constructor
  · intro p
    have := cost_weak p x x0 h0
    rw [hf, best_blk, ← costR_filled] at this
    exact this
  · cases hm : (ps.map blk0) with
    | nil =>
      refine ⟨0, ?_⟩
      have hp : ps = [] := by simpa using hm
      subst hp
      simp [costR, best]
    | cons b0 bs0 =>
      obtain ⟨p, _, _, p3⟩ := at_some (ps.map blk0) x b0.2.2 x0 h0 hs2 (fun b hb => by
        rw [hm] at hb hs2
        rcases List.mem_cons.1 hb with rfl | hb
        · exact Int.le_refl _
        · exact (List.pairwise_cons.1 hs2).1 b hb)
      have := at_gain p3
      rw [hf, best_blk, ← costR_filled] at this
      exact ⟨p, this⟩
/-- what determines a convex function: two sorted lists of pieces with the same greatest gains have the same values -/
theorem cost_same {ps qs : List (Int × Int)} (h1 : ∀ q ∈ ps, 0 ≤ q.1) (h2 : ∀ q ∈ qs, 0 ≤ q.1) (hs : ps.Pairwise (fun a b => a.2 ≤ b.2)) (ht : qs.Pairwise (fun a b => a.2 ≤ b.2)) (hb : ∀ p, best p ps = best p qs) {x : Int} (x0 : 0 ≤ x) (x1 : x ≤ total ps) (x2 : x ≤ total qs) : costR ps x = costR qs x := by
  obtain ⟨w1, p, s1⟩ := cost_dual h1 hs x0 x1
  obtain ⟨w2, q, s2⟩ := cost_dual h2 ht x0 x2
  have a := w1 q
  have b := w2 p
  rw [hb q] at a
  rw [← hb p] at b
  omega
theorem jstep_best (p : Int) (l : List (Int × Int)) (q : Int × Int) : best p (jstep l q) = best p l + best p [q] := by
  induction l using snocInd with
  | h0 => rw [jstep_nil]; simp [best]
  | h1 l z _ =>
    rw [jstep_snoc]
    by_cases h : z.2 = q.2
    · rw [if_pos h, best_app, best_app, best_sum p [(z.1 + q.1, z.2)], best_sum p [z], best_sum p [q]]
      simp only [sumF]
      rw [h, Int.add_mul]
      omega
    · rw [if_neg h, best_app]
theorem cjoin_best (p : Int) (ps : List (Int × Int)) : best p (cjoin ps) = best p ps := by
  induction ps using snocInd with
  | h0 => rfl
  | h1 ps q ih => rw [cjoin_snoc, jstep_best, ih, best_app]
/-- pieces in the order of their slopes -/
def Sorted2 (ps : List (Int × Int)) : Prop := ps.Pairwise (fun a b => a.2 ≤ b.2)
/-- convexpl.Convolve of two valid functions, the sorted pieces at hand -/
theorem conv_step {lo1 va1 lo2 va2 : Int} {ps qs L : List (Int × Int)} (h1 : GoodC lo1 va1 ps) (h2 : GoodC lo2 va2 qs) (hp : L.Perm (ps ++ qs)) (h : (cMade (lo1 + lo2) (va1 + va2) L).2 = 0) :
    cMade (lo1 + lo2) (va1 + va2) L = ((lo1 + lo2, va1 + va2, cjoin L), 0) ∧ GoodC (lo1 + lo2) (va1 + va2) (cjoin L) ∧ (cjoin L).length ≤ 64 ∧ total (cjoin L) = total ps + total qs ∧ ∀ p, best p (cjoin L) = best p ps + best p qs := by
  have hl : ∀ q ∈ L, 1 ≤ q.1 := fun q hq => by
    rcases List.mem_append.1 (hp.mem_iff.1 hq) with h | h
    · exact (h1.step q h).1
    · exact (h2.step q h).1
  have hc : ccheck (lo1 + lo2) (va1 + va2) (cjoin L) = 0 := by
    unfold cMade at h
    by_cases hc : ccheck (lo1 + lo2) (va1 + va2) (cjoin L) = 0
    · exact hc
    · rw [if_pos hc] at h; simp at h
  obtain ⟨g, l64, _, _⟩ := ccheck_ok hc
  refine ⟨by unfold cMade; rw [if_neg (by simpa using hc)], g, l64, ?_, fun p => ?_⟩
  · rw [(cjoin_keeps hl).2.1, total_perm hp, total_app]
  · rw [cjoin_best, best_perm p hp, best_app]
/-- the cost of a dispatch is told by the greatest gains of all offers -/
theorem served_dual {l : List Off} {n : Nat} {d cost p0 : Int} {ps : List Int} (hg : ∀ k, k < n → Good (steps l k)) (h : Served l n d ps cost p0) :
    (∀ p, p * d - cost ≤ sumN (fun k => best p (steps l k)) n) ∧ p0 * d - cost = sumN (fun k => best p0 (steps l k)) n := by
  have hb : ∀ k, k < n → 0 ≤ ps.getD k 0 ∧ ps.getD k 0 ≤ total (steps l k) := fun k hk => by
    have := h.at_ k hk
    have := least_most (P := p0) (fun q hq => ((hg k hk).step q hq).1)
    omega
  have e : ∀ p, p * d - cost = sumN (fun k => p * ps.getD k 0 - costR (steps l k) (ps.getD k 0)) n := fun p => by
    rw [sumN_sub, sumN_mul, h.sum, ← h.cost]
  constructor
  · intro p
    rw [e p]
    exact sumN_le fun k hk => (gain_best (hg k hk) p _ (hb k hk).1 (hb k hk).2).1
  · rw [e p0]
    exact sumN_congr fun k hk => (gain_best (hg k hk) p0 _ (hb k hk).1 (hb k hk).2).2.2 (h.at_ k hk)
/-- .. hence the value of the convolution of the offers' functions -/
theorem conv_cost {l : List Off} {n : Nat} {d cost p0 : Int} {ps : List Int} {F : List (Int × Int)} (hg : ∀ k, k < n → Good (steps l k)) (h : Served l n d ps cost p0) (h1 : ∀ q ∈ F, 0 ≤ q.1) (hs : Sorted2 F) (hb : ∀ p, best p F = sumN (fun k => best p (steps l k)) n) (d0 : 0 ≤ d) (d1 : d ≤ total F) : costR F d = cost := by
  obtain ⟨w1, p, s1⟩ := cost_dual h1 hs d0 d1
  obtain ⟨w2, s2⟩ := served_dual hg h
  have a := w1 p0
  have b := w2 p
  rw [hb p0] at a
  rw [← hb p] at b
  omega
end Go.Proofs.Ytchafkocobbndaa.Pl
