/- Plain functions for package convexpl, and their laws; nothing of the program stands here. A piece is a pair: length, slope. -/
import Derived.Test.YthodaikggpbiiaaPOfferB
namespace Go.Proofs.Ythodaikggpbiiaa.Pl
def outm (n m : Int) : Bool := decide (n < -m) || decide (m < n)
theorem outm_false {n m : Int} : outm n m = false ↔ -m ≤ n ∧ n ≤ m := by unfold outm; simp
def badPiece (p : Int × Int) : Bool := decide (p.1 < 1) || decide (2000000 < p.1) || outm p.2 10000000
def notMore (x : Int) : Option Int → Bool
  | some q => decide (x ≤ q)
  | none => false
/-- one piece of convexpl.Check: the argument, the value, the error, the last slope -/
def kstep (a : Int × Int × Int × Option Int) (p : Int × Int) : Int × Int × Int × Option Int :=
  if a.2.2.1 ≠ 0 then a else if badPiece p = true then (0, 0, 4, none) else if notMore p.2 a.2.2.2 = true then (0, 0, 3, none)
  else if (decide (1000000 < a.1 + p.1) || outm (a.2.1 + p.1 * p.2) 1000000000000000) = true then (0, 0, 4, none) else (a.1 + p.1, a.2.1 + p.1 * p.2, 0, some p.2)
def kacc (lo va : Int) (ps : List (Int × Int)) : Int × Int × Int × Option Int := ps.foldl kstep (lo, va, 0, none)
theorem kacc_snoc (lo va : Int) (ps : List (Int × Int)) (p : Int × Int) : kacc lo va (ps ++ [p]) = kstep (kacc lo va ps) p := by unfold kacc; rw [List.foldl_append]; rfl
/-- convexpl.Check -/
def ccheck (lo va : Int) (ps : List (Int × Int)) : Int := if 64 < ps.length then 2 else if (outm lo 1000000 || outm va 1000000000000000) = true then 4 else (kacc lo va ps).2.2.1
theorem kstep_stuck (a : Int × Int × Int × Option Int) (ps : List (Int × Int)) (h : a.2.2.1 ≠ 0) : ps.foldl kstep a = a := by
  induction ps with
  | nil => rfl
  | cons p ps ih => rw [List.foldl_cons, show kstep a p = a from if_pos h, ih]
theorem kacc_stuck (lo va : Int) (ps : List (Int × Int)) (k : Nat) (h : (kacc lo va (ps.take k)).2.2.1 ≠ 0) : kacc lo va ps = kacc lo va (ps.take k) := by
  have : kacc lo va ps = (ps.drop k).foldl kstep (kacc lo va (ps.take k)) := by
    unfold kacc; rw [← List.foldl_append, List.take_append_drop]
  rw [this, kstep_stuck _ _ h]
theorem kacc_pre {lo va : Int} {ps : List (Int × Int)} (h : (kacc lo va ps).2.2.1 = 0) (k : Nat) : (kacc lo va (ps.take k)).2.2.1 = 0 := by
  by_cases h0 : (kacc lo va (ps.take k)).2.2.1 = 0
  · exact h0
  · rw [kacc_stuck lo va ps k h0] at h; exact h
theorem kstep_bad {a : Int × Int × Int × Option Int} {p : Int × Int} (h0 : a.2.2.1 = 0) (h : badPiece p = true) : kstep a p = (0, 0, 4, none) := by
  unfold kstep; rw [if_neg (by simpa using h0), if_pos h]
theorem kstep_low {a : Int × Int × Int × Option Int} {p : Int × Int} (h0 : a.2.2.1 = 0) (h1 : badPiece p = false) (h : notMore p.2 a.2.2.2 = true) : kstep a p = (0, 0, 3, none) := by
  unfold kstep; rw [if_neg (by simpa using h0), if_neg (by simp [h1]), if_pos h]
theorem kstep_sum {a : Int × Int × Int × Option Int} {p : Int × Int} (h0 : a.2.2.1 = 0) (h1 : badPiece p = false) (h2 : notMore p.2 a.2.2.2 = false) (h : (decide (1000000 < a.1 + p.1) || outm (a.2.1 + p.1 * p.2) 1000000000000000) = true) : kstep a p = (0, 0, 4, none) := by
  unfold kstep; rw [if_neg (by simpa using h0), if_neg (by simp [h1]), if_neg (by simp [h2]), if_pos h]
theorem kstep_ok {a : Int × Int × Int × Option Int} {p : Int × Int} (h0 : a.2.2.1 = 0) (h1 : badPiece p = false) (h2 : notMore p.2 a.2.2.2 = false) (h : (decide (1000000 < a.1 + p.1) || outm (a.2.1 + p.1 * p.2) 1000000000000000) = false) : kstep a p = (a.1 + p.1, a.2.1 + p.1 * p.2, 0, some p.2) := by
  unfold kstep; rw [if_neg (by simpa using h0), if_neg (by simp [h1]), if_neg (by simp [h2]), if_neg (by simp [h])]
theorem kstep_inv {a : Int × Int × Int × Option Int} {p : Int × Int} (h : (kstep a p).2.2.1 = 0) : a.2.2.1 = 0 ∧ badPiece p = false ∧ notMore p.2 a.2.2.2 = false ∧ (decide (1000000 < a.1 + p.1) || outm (a.2.1 + p.1 * p.2) 1000000000000000) = false ∧ kstep a p = (a.1 + p.1, a.2.1 + p.1 * p.2, 0, some p.2) := by
  by_cases h0 : a.2.2.1 = 0
  · cases h1 : badPiece p
    · cases h2 : notMore p.2 a.2.2.2
      · cases h3 : (decide (1000000 < a.1 + p.1) || outm (a.2.1 + p.1 * p.2) 1000000000000000)
        · exact ⟨h0, rfl, rfl, rfl, kstep_ok h0 h1 h2 h3⟩
        · rw [kstep_sum h0 h1 h2 h3] at h; simp at h
      · rw [kstep_low h0 h1 h2] at h; simp at h
    · rw [kstep_bad h0 h1] at h; simp at h
  · unfold kstep at h; rw [if_pos h0] at h; exact absurd h h0
theorem badPiece_false {p : Int × Int} : badPiece p = false ↔ 1 ≤ p.1 ∧ p.1 ≤ 2000000 ∧ -10000000 ≤ p.2 ∧ p.2 ≤ 10000000 := by
  simp only [badPiece, Bool.or_eq_false_iff, decide_eq_false_iff_not, outm_false]; omega
/-- the value behind all pieces -/
def rise (ps : List (Int × Int)) : Int := ps.foldl (fun n p => n + p.1 * p.2) 0
theorem rise_snoc (ps : List (Int × Int)) (p : Int × Int) : rise (ps ++ [p]) = rise ps + p.1 * p.2 := by unfold rise; rw [List.foldl_append]; rfl
/-- what a valid function is -/
structure GoodC (lo va : Int) (ps : List (Int × Int)) : Prop where
  step : ∀ p ∈ ps, 1 ≤ p.1 ∧ p.1 ≤ 2000000 ∧ -10000000 ≤ p.2 ∧ p.2 ≤ 10000000
  up : ps.Pairwise (fun a b => a.2 < b.2)
  place : -1000000 ≤ lo ∧ lo + total ps ≤ 1000000
  value : ∀ k, -1000000000000000 ≤ va + rise (ps.take k) ∧ va + rise (ps.take k) ≤ 1000000000000000
theorem kacc_good {lo va : Int} (hlo : -1000000 ≤ lo ∧ lo ≤ 1000000) (hva : -1000000000000000 ≤ va ∧ va ≤ 1000000000000000) {ps : List (Int × Int)} (h : (kacc lo va ps).2.2.1 = 0) :
    GoodC lo va ps ∧ (kacc lo va ps).1 = lo + total ps ∧ (kacc lo va ps).2.1 = va + rise ps ∧ (kacc lo va ps).2.2.2 = lastPrice ps := by
  induction ps using snocInd with
  | h0 => exact ⟨⟨by simp, List.Pairwise.nil, by simp [total]; exact hlo, by simp [rise]; exact hva⟩, by simp [kacc, total], by simp [kacc, rise], rfl⟩
  | h1 ps p ih =>
    rw [kacc_snoc] at h ⊢
    obtain ⟨h0, h1, h2, h3, h4⟩ := kstep_inv h
    obtain ⟨g, i1, i2, i3⟩ := ih h0
    rw [h4]
    have hb := badPiece_false.1 h1
    simp only [Bool.or_eq_false_iff, decide_eq_false_iff_not, outm_false] at h3
    refine ⟨⟨?_, ?_, by rw [total_snoc]; omega, fun k => ?_⟩, by rw [total_snoc, i1]; simp only; omega, by rw [rise_snoc, i2]; simp only; omega, by simp [lastPrice]⟩
    · intro q hq
      rcases List.mem_append.1 hq with hq | hq
      · exact g.step q hq
      · rw [List.mem_singleton.1 hq]; exact hb
    · rw [List.pairwise_append]
      refine ⟨g.up, List.pairwise_singleton _ _, fun a ha b hb => ?_⟩
      rw [List.mem_singleton.1 hb]
      rw [i3] at h2
      induction ps using snocInd with
      | h0 => cases ha
      | h1 ps z _ =>
        have hz : lastPrice (ps ++ [z]) = some z.2 := by simp [lastPrice]
        rw [hz] at h2
        simp only [notMore, decide_eq_false_iff_not] at h2
        rcases List.mem_append.1 ha with ha | ha
        · have := (List.pairwise_append.1 g.up).2.2 a ha z (by simp)
          omega
        · rw [List.mem_singleton.1 ha]; omega
    · rcases Nat.lt_or_ge ps.length k with hk | hk
      · rw [List.take_of_length_le (by simp; omega), rise_snoc]
        omega
      · rw [List.take_append_of_le_length hk]
        exact g.value k
theorem ccheck_ok {lo va : Int} {ps : List (Int × Int)} (h : ccheck lo va ps = 0) : GoodC lo va ps ∧ ps.length ≤ 64 ∧ (-1000000 ≤ lo ∧ lo ≤ 1000000) ∧ (-1000000000000000 ≤ va ∧ va ≤ 1000000000000000) := by
  unfold ccheck at h
  by_cases h1 : 64 < ps.length
  · rw [if_pos h1] at h; omega
  · rw [if_neg h1] at h
    cases h2 : (outm lo 1000000 || outm va 1000000000000000)
    · rw [h2, if_neg (by simp)] at h
      simp only [Bool.or_eq_false_iff, outm_false] at h2
      exact ⟨(kacc_good h2.1 h2.2 h).1, by omega, h2.1, h2.2⟩
    · rw [h2, if_pos rfl] at h; omega
theorem kacc_bd {lo va : Int} (hlo : -1000000 ≤ lo ∧ lo ≤ 1000000) (hva : -1000000000000000 ≤ va ∧ va ≤ 1000000000000000) {ps : List (Int × Int)} (h : (kacc lo va ps).2.2.1 = 0) :
    -1000000 ≤ (kacc lo va ps).1 ∧ (kacc lo va ps).1 ≤ 1000000 ∧ -1000000000000000 ≤ (kacc lo va ps).2.1 ∧ (kacc lo va ps).2.1 ≤ 1000000000000000 := by
  obtain ⟨g, h1, h2, _⟩ := kacc_good hlo hva h
  have hv := g.value ps.length
  rw [List.take_length] at hv
  have hp : ∀ l : List (Int × Int), (∀ p ∈ l, 1 ≤ p.1) → 0 ≤ total l := by
    intro l hl
    induction l using snocInd with
    | h0 => simp [total]
    | h1 l p ih => rw [total_snoc]; have := ih fun q hq => hl q (by simp [hq]); have := hl p (by simp); omega
  have := hp ps fun p hp => (g.step p hp).1
  have := g.place
  omega
theorem piece_bd {m p : Int} (m0 : 0 ≤ m) (m1 : m ≤ 2000000) (s3 : -10000000 ≤ p) (s4 : p ≤ 10000000) : -20000000000000 ≤ m * p ∧ m * p ≤ 20000000000000 := by
  have u1 : m * p ≤ m * 10000000 := Int.mul_le_mul_of_nonneg_left s4 m0
  have u2 : m * (-10000000) ≤ m * p := Int.mul_le_mul_of_nonneg_left s3 m0
  omega
end Go.Proofs.Ythodaikggpbiiaa.Pl
