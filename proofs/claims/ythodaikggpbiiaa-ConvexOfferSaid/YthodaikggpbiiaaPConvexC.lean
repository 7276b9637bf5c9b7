/- Plain functions convexpl.At, High, Least; nothing of the program stands here. -/
import Derived.Test.YthodaikggpbiiaaPConvexB
namespace Go.Proofs.Ythodaikggpbiiaa.Pl
def cAt (lo va : Int) (st : List (Int × Int)) (x : Int) : Int × Int := if ccheck lo va st ≠ 0 then (0, ccheck lo va st) else if x < lo ∨ chigh lo st < x then (0, 4) else (cvat lo va st x, 0)
def cHigh (lo va : Int) (st : List (Int × Int)) : Int × Int := if ccheck lo va st ≠ 0 then (0, ccheck lo va st) else (chigh lo st, 0)
def cLeast (lo va : Int) (st : List (Int × Int)) : Int × Int × Int := if ccheck lo va st ≠ 0 then (0, 0, ccheck lo va st) else (lo + lowR 0 st, cvat lo va st (lo + lowR 0 st), 0)
/-- the law ConvexLeast -/
theorem least_law (lo va : Int) (st : List (Int × Int)) (x : Int) (h : (cLeast lo va st).2.2 = 0) :
    (cAt lo va st (cLeast lo va st).1).2 = 0 ∧ (cAt lo va st (cLeast lo va st).1).1 = (cLeast lo va st).2.1 ∧
    ((cAt lo va st x).2 ≠ 0 ∨ ((cLeast lo va st).2.1 ≤ (cAt lo va st x).1 ∧ ((cLeast lo va st).2.1 < (cAt lo va st x).1 ∨ (cLeast lo va st).1 ≤ x))) := by
  by_cases h0 : ccheck lo va st = 0
  · obtain ⟨g, _, _, _⟩ := ccheck_ok h0
    have e : cLeast lo va st = (lo + lowR 0 st, cvat lo va st (lo + lowR 0 st), 0) := by unfold cLeast; rw [if_neg (by simpa using h0)]
    have hb := lowR_bd (s := 0) g.long
    have e2 : cAt lo va st (lo + lowR 0 st) = (cvat lo va st (lo + lowR 0 st), 0) := by
      unfold cAt chigh; rw [if_neg (by simpa using h0), if_neg (by omega)]
    rw [e]
    simp only
    rw [e2]
    refine ⟨rfl, rfl, ?_⟩
    by_cases hx : x < lo ∨ chigh lo st < x
    · left
      unfold cAt; rw [if_neg (by simpa using h0), if_pos hx]; simp
    · right
      have e3 : cAt lo va st x = (cvat lo va st x, 0) := by unfold cAt; rw [if_neg (by simpa using h0), if_neg hx]
      rw [e3]
      have := low_least g.long g.up (x - lo) (by omega)
      simp only [cvat]
      rw [show lo + lowR 0 st - lo = lowR 0 st by omega]
      omega
  · unfold cLeast at h; rw [if_pos h0] at h; exact absurd h h0
end Go.Proofs.Ythodaikggpbiiaa.Pl
