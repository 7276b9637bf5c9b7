/- Plain function convexpl.Of, and the law ConvexOffer; nothing of the program stands here. -/
import Derived.Test.YtjdagpmfnmodbaaPTurn
namespace Go.Proofs.Ytjdagpmfnmodbaa.Pl
/-- convexpl.Of -/
def cOf (nm : ByteArray) (st : List (Int × Int)) : (Int × Int × List (Int × Int)) × Int := if ocheck nm st ≠ 0 then ((0, 0, []), ocheck nm st) else cMade 0 0 st
theorem costR_app {a b : List (Int × Int)} (h : ∀ p ∈ a, 1 ≤ p.1) (x : Int) (hx : 0 ≤ x) : costR (a ++ b) x = costR a x + costR b (x - min x (total a)) := by
  induction a generalizing x with
  | nil => rw [List.nil_append, show total [] = 0 from rfl, show x - min x 0 = x by omega, costR]; omega
  | cons p a ih =>
    have hp := h p (by simp)
    have ht : ∀ q ∈ a, 1 ≤ q.1 := fun q hq => h q (by simp [hq])
    have := total_pos ht
    rw [List.cons_append, costR, costR, ih ht (x - min x p.1) (by omega), total_cons, show x - min x p.1 - min (x - min x p.1) (total a) = x - min x (p.1 + total a) by omega]
    omega
theorem costR_one (p : Int × Int) (x : Int) : costR [p] x = min x p.1 * p.2 := by simp [costR]
theorem jstep_keeps {l : List (Int × Int)} (h : ∀ q ∈ l, 1 ≤ q.1) (p : Int × Int) (hp : 1 ≤ p.1) :
    (∀ q ∈ jstep l p, 1 ≤ q.1) ∧ total (jstep l p) = total l + p.1 ∧ ∀ x, 0 ≤ x → costR (jstep l p) x = costR (l ++ [p]) x := by
  induction l using snocInd with
  | h0 => rw [jstep_nil]; exact ⟨by simp; exact hp, by simp [total], fun _ _ => rfl⟩
  | h1 l q _ =>
    have hq := h q (by simp)
    have hl : ∀ z ∈ l, 1 ≤ z.1 := fun z hz => h z (by simp [hz])
    rw [jstep_snoc]
    by_cases he : q.2 = p.2
    · rw [if_pos he]
      refine ⟨fun z hz => ?_, by rw [total_snoc, total_snoc]; omega, fun x hx => ?_⟩
      · rcases List.mem_append.1 hz with hz | hz
        · exact hl z hz
        · rw [List.mem_singleton] at hz; subst hz; simp only; omega
      · rw [costR_app hl x hx, List.append_assoc, costR_app hl x hx, List.singleton_append, costR_one, costR, costR_one, ← he, ← Int.add_mul]
        have : min (x - min x (total l)) (q.1 + p.1) = min (x - min x (total l)) q.1 + min (x - min x (total l) - min (x - min x (total l)) q.1) p.1 := by omega
        simp only
        rw [this]
    · rw [if_neg he]
      refine ⟨fun z hz => ?_, by rw [total_snoc], fun _ _ => rfl⟩
      rcases List.mem_append.1 hz with hz | hz
      · exact h z hz
      · rw [List.mem_singleton] at hz; subst hz; exact hp
theorem cjoin_keeps {st : List (Int × Int)} (h : ∀ q ∈ st, 1 ≤ q.1) : (∀ q ∈ cjoin st, 1 ≤ q.1) ∧ total (cjoin st) = total st ∧ ∀ x, 0 ≤ x → costR (cjoin st) x = costR st x := by
  induction st using snocInd with
  | h0 => exact ⟨by simp [cjoin], rfl, fun _ _ => rfl⟩
  | h1 st p ih =>
    have hp := h p (by simp)
    have hs : ∀ q ∈ st, 1 ≤ q.1 := fun q hq => h q (by simp [hq])
    obtain ⟨i1, i2, i3⟩ := ih hs
    obtain ⟨j1, j2, j3⟩ := jstep_keeps i1 p hp
    rw [cjoin_snoc]
    refine ⟨j1, by rw [j2, i2, total_snoc], fun x hx => ?_⟩
    rw [j3 x hx, costR_app i1 x hx, costR_app hs x hx, i2, i3 x hx]
theorem cOf_bad {nm : ByteArray} {st : List (Int × Int)} (h : (cOf nm st).2 ≠ 0) : (cOf nm st).1.2.2 = [] := by
  unfold cOf at h ⊢
  by_cases h0 : ocheck nm st = 0
  · rw [if_neg (by simpa using h0)] at h ⊢
    unfold cMade at h ⊢
    split at h
    · rename_i h1; rw [if_pos h1]
    · exact absurd rfl h
  · rw [if_pos h0]
end Go.Proofs.Ytjdagpmfnmodbaa.Pl
