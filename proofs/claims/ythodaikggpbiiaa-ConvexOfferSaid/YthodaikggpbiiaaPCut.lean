/- Plain functions convexpl.cut, made, Restrict, Turn, Move, Of; nothing of the program stands here. -/
import Derived.Test.YthodaikggpbiiaaPConvexC
namespace Go.Proofs.Ythodaikggpbiiaa.Pl
/-- convexpl.cut, as the loop computes it: the pieces, the argument -/
def cutN (low hi x : Int) (p : Int × Int) : Int := min hi (x + p.1) - max low x
def cutstep (low hi : Int) (a : List (Int × Int) × Int) (p : Int × Int) : List (Int × Int) × Int :=
  (if 0 < cutN low hi a.2 p then a.1 ++ [(cutN low hi a.2 p, p.2)] else a.1, a.2 + p.1)
def cutacc (lo low hi : Int) (ps : List (Int × Int)) : List (Int × Int) × Int := ps.foldl (cutstep low hi) ([], lo)
theorem cutacc_snoc (lo low hi : Int) (ps : List (Int × Int)) (p : Int × Int) : cutacc lo low hi (ps ++ [p]) = cutstep low hi (cutacc lo low hi ps) p := by unfold cutacc; rw [List.foldl_append]; rfl
def ccut (lo low hi : Int) (ps : List (Int × Int)) : List (Int × Int) := (cutacc lo low hi ps).1
theorem cutacc_x (lo low hi : Int) (ps : List (Int × Int)) : (cutacc lo low hi ps).2 = lo + total ps := by
  induction ps using snocInd with
  | h0 => simp [cutacc, total]
  | h1 ps p ih => rw [cutacc_snoc, total_snoc]; simp only [cutstep]; omega
theorem cutacc_len (lo low hi : Int) (ps : List (Int × Int)) : (cutacc lo low hi ps).1.length ≤ ps.length := by
  induction ps using snocInd with
  | h0 => simp [cutacc]
  | h1 ps p ih =>
    rw [cutacc_snoc, List.length_append]
    simp only [cutstep]
    split
    · simp; exact ih
    · simp; omega
end Go.Proofs.Ythodaikggpbiiaa.Pl
