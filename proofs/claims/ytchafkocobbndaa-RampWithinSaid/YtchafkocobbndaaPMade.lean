/- Plain functions convexpl.cut, made, Restrict, Turn, Move, Of; nothing of the program stands here. Plain function convexpl.made: pieces with equal slopes joined, and its laws; nothing of the program stands here. -/
import Derived.Test.YtchafkocobbndaaPConvex
namespace Go.Proofs.Ytchafkocobbndaa.Pl
/-- convexpl.cut, as the loop computes it: the pieces, the argument -/
def cutN (low hi x : Int) (p : Int × Int) : Int := min hi (x + p.1) - max low x
def cutstep (low hi : Int) (a : List (Int × Int) × Int) (p : Int × Int) : List (Int × Int) × Int :=
  (if 0 < cutN low hi a.2 p then a.1 ++ [(cutN low hi a.2 p, p.2)] else a.1, a.2 + p.1)
def cutacc (lo low hi : Int) (ps : List (Int × Int)) : List (Int × Int) × Int := ps.foldl (cutstep low hi) ([], lo)
theorem cutacc_snoc (lo low hi : Int) (ps : List (Int × Int)) (p : Int × Int) : cutacc lo low hi (ps ++ [p]) = cutstep low hi (cutacc lo low hi ps) p := by unfold cutacc; rw [List.foldl_append]; rfl
def ccut (lo low hi : Int) (ps : List (Int × Int)) : List (Int × Int) := (cutacc lo low hi ps).1
theorem cutacc_x (lo low hi : Int) (ps : List (Int × Int)) : (cutacc lo low hi ps).2 = lo + total ps := by
  induction ps using snocInd with
  | h0 => simp [cutacc, total]
  | h1 ps p ih => rw [cutacc_snoc, total_snoc]; simp only [cutstep]; omega
theorem cutacc_len (lo low hi : Int) (ps : List (Int × Int)) : (cutacc lo low hi ps).1.length ≤ ps.length := by
  induction ps using snocInd with
  | h0 => simp [cutacc]
  | h1 ps p ih =>
    rw [cutacc_snoc, List.length_append]
    simp only [cutstep]
    split
    · simp; exact ih
    · simp; omega
end Go.Proofs.Ytchafkocobbndaa.Pl
namespace Go.Proofs.Ytchafkocobbndaa.Pl
def jstep (l : List (Int × Int)) (p : Int × Int) : List (Int × Int) :=
  match l.getLast? with
  | some q => if q.2 = p.2 then l.dropLast ++ [(q.1 + p.1, q.2)] else l ++ [p]
  | none => l ++ [p]
def cjoin (ps : List (Int × Int)) : List (Int × Int) := ps.foldl jstep []
theorem cjoin_snoc (ps : List (Int × Int)) (p : Int × Int) : cjoin (ps ++ [p]) = jstep (cjoin ps) p := by unfold cjoin; rw [List.foldl_append]; rfl
theorem jstep_nil (p : Int × Int) : jstep [] p = [p] := rfl
theorem jstep_snoc (l : List (Int × Int)) (q p : Int × Int) : jstep (l ++ [q]) p = if q.2 = p.2 then l ++ [(q.1 + p.1, q.2)] else l ++ [q] ++ [p] := by
  unfold jstep; rw [List.getLast?_concat]; simp
theorem jstep_len (l : List (Int × Int)) (p : Int × Int) : (jstep l p).length ≤ l.length + 1 := by
  induction l using snocInd with
  | h0 => simp [jstep_nil]
  | h1 l q _ => rw [jstep_snoc]; split <;> simp
theorem cjoin_len (ps : List (Int × Int)) : (cjoin ps).length ≤ ps.length := by
  induction ps using snocInd with
  | h0 => simp [cjoin]
  | h1 ps p ih => rw [cjoin_snoc, List.length_append]; have := jstep_len (cjoin ps) p; simp; omega
/-- the joined pieces stay small -/
theorem cjoin_bd {ps : List (Int × Int)} (h : ∀ p ∈ ps, 1 ≤ p.1 ∧ p.1 ≤ 2000000) : ∀ q ∈ cjoin ps, 1 ≤ q.1 ∧ q.1 ≤ 2000000 * (ps.length : Int) := by
  induction ps using snocInd with
  | h0 => simp [cjoin]
  | h1 ps p ih =>
    have i1 := ih fun q hq => h q (by simp [hq])
    have hp := h p (by simp)
    rw [cjoin_snoc, List.length_append]
    generalize cjoin ps = l at *
    induction l using snocInd with
    | h0 => intro q hq; rw [jstep_nil, List.mem_singleton] at hq; subst hq; simp; omega
    | h1 l q _ =>
      have hq1 := i1 q (by simp)
      rw [jstep_snoc]
      intro z hz
      split at hz
      · rcases List.mem_append.1 hz with hz | hz
        · have := i1 z (by simp [hz]); simp; omega
        · rw [List.mem_singleton] at hz; subst hz; simp; omega
      · rcases List.mem_append.1 hz with hz | hz
        · have := i1 z hz; simp; omega
        · rw [List.mem_singleton] at hz; subst hz; simp; omega
/-- strictly rising slopes: nothing is joined -/
theorem cjoin_rise {ps : List (Int × Int)} (h : ps.Pairwise (fun a b => a.2 < b.2)) : cjoin ps = ps := by
  induction ps using snocInd with
  | h0 => rfl
  | h1 ps p ih =>
    obtain ⟨h1, _, h3⟩ := List.pairwise_append.1 h
    rw [cjoin_snoc, ih h1]
    induction ps using snocInd with
    | h0 => rfl
    | h1 l q _ =>
      have := h3 q (by simp) p (by simp)
      rw [jstep_snoc, if_neg (by omega)]
/-- convexpl.made: low, value, pieces, error -/
def cMade (lo va : Int) (ps : List (Int × Int)) : (Int × Int × List (Int × Int)) × Int := if ccheck lo va (cjoin ps) ≠ 0 then ((0, 0, []), 2) else ((lo, va, cjoin ps), 0)
end Go.Proofs.Ytchafkocobbndaa.Pl
