/- Plain functions for package convexpl, and their laws; nothing of the program stands here. A piece is a pair: length, slope. Plain functions for values, arguments and the least value of convex functions, and their laws; nothing of the program stands here. Plain functions convexpl.At, High, Least; nothing of the program stands here. -/
import Derived.Test.YtchafkocobbndaaPOfferB
namespace Go.Proofs.Ytchafkocobbndaa.Pl
def outm (n m : Int) : Bool := decide (n < -m) || decide (m < n)
theorem outm_false {n m : Int} : outm n m = false ↔ -m ≤ n ∧ n ≤ m := by unfold outm; simp
def badPiece (p : Int × Int) : Bool := decide (p.1 < 1) || decide (2000000 < p.1) || outm p.2 10000000
def notMore (x : Int) : Option Int → Bool
  | some q => decide (x ≤ q)
  | none => false
/-- one piece of convexpl.Check: the argument, the value, the error, the last slope -/
def kstep (a : Int × Int × Int × Option Int) (p : Int × Int) : Int × Int × Int × Option Int :=
  if a.2.2.1 ≠ 0 then a else if badPiece p = true then (0, 0, 4, none) else if notMore p.2 a.2.2.2 = true then (0, 0, 3, none)
  else if (decide (1000000 < a.1 + p.1) || outm (a.2.1 + p.1 * p.2) 1000000000000000) = true then (0, 0, 4, none) else (a.1 + p.1, a.2.1 + p.1 * p.2, 0, some p.2)
def kacc (lo va : Int) (ps : List (Int × Int)) : Int × Int × Int × Option Int := ps.foldl kstep (lo, va, 0, none)
theorem kacc_snoc (lo va : Int) (ps : List (Int × Int)) (p : Int × Int) : kacc lo va (ps ++ [p]) = kstep (kacc lo va ps) p := by unfold kacc; rw [List.foldl_append]; rfl
/-- convexpl.Check -/
def ccheck (lo va : Int) (ps : List (Int × Int)) : Int := if 64 < ps.length then 2 else if (outm lo 1000000 || outm va 1000000000000000) = true then 4 else (kacc lo va ps).2.2.1
theorem kstep_stuck (a : Int × Int × Int × Option Int) (ps : List (Int × Int)) (h : a.2.2.1 ≠ 0) : ps.foldl kstep a = a := by
  induction ps with
  | nil => rfl
  | cons p ps ih => rw [List.foldl_cons, show kstep a p = a from if_pos h, ih]
theorem kacc_stuck (lo va : Int) (ps : List (Int × Int)) (k : Nat) (h : (kacc lo va (ps.take k)).2.2.1 ≠ 0) : kacc lo va ps = kacc lo va (ps.take k) := by
  have : kacc lo va ps = (ps.drop k).foldl kstep (kacc lo va (ps.take k)) := by
    unfold kacc; rw [← List.foldl_append, List.take_append_drop]
  rw [this, kstep_stuck _ _ h]
theorem kacc_pre {lo va : Int} {ps : List (Int × Int)} (h : (kacc lo va ps).2.2.1 = 0) (k : Nat) : (kacc lo va (ps.take k)).2.2.1 = 0 := by
  by_cases h0 : (kacc lo va (ps.take k)).2.2.1 = 0
  · exact h0
  · rw [kacc_stuck lo va ps k h0] at h; exact h
theorem kstep_bad {a : Int × Int × Int × Option Int} {p : Int × Int} (h0 : a.2.2.1 = 0) (h : badPiece p = true) : kstep a p = (0, 0, 4, none) := by
  unfold kstep; rw [if_neg (by simpa using h0), if_pos h]
theorem kstep_low {a : Int × Int × Int × Option Int} {p : Int × Int} (h0 : a.2.2.1 = 0) (h1 : badPiece p = false) (h : notMore p.2 a.2.2.2 = true) : kstep a p = (0, 0, 3, none) := by
  unfold kstep; rw [if_neg (by simpa using h0), if_neg (by simp [h1]), if_pos h]
theorem kstep_sum {a : Int × Int × Int × Option Int} {p : Int × Int} (h0 : a.2.2.1 = 0) (h1 : badPiece p = false) (h2 : notMore p.2 a.2.2.2 = false) (h : (decide (1000000 < a.1 + p.1) || outm (a.2.1 + p.1 * p.2) 1000000000000000) = true) : kstep a p = (0, 0, 4, none) := by
  unfold kstep; rw [if_neg (by simpa using h0), if_neg (by simp [h1]), if_neg (by simp [h2]), if_pos h]
theorem kstep_ok {a : Int × Int × Int × Option Int} {p : Int × Int} (h0 : a.2.2.1 = 0) (h1 : badPiece p = false) (h2 : notMore p.2 a.2.2.2 = false) (h : (decide (1000000 < a.1 + p.1) || outm (a.2.1 + p.1 * p.2) 1000000000000000) = false) : kstep a p = (a.1 + p.1, a.2.1 + p.1 * p.2, 0, some p.2) := by
  unfold kstep; rw [if_neg (by simpa using h0), if_neg (by simp [h1]), if_neg (by simp [h2]), if_neg (by simp [h])]
theorem kstep_inv {a : Int × Int × Int × Option Int} {p : Int × Int} (h : (kstep a p).2.2.1 = 0) : a.2.2.1 = 0 ∧ badPiece p = false ∧ notMore p.2 a.2.2.2 = false ∧ (decide (1000000 < a.1 + p.1) || outm (a.2.1 + p.1 * p.2) 1000000000000000) = false ∧ kstep a p = (a.1 + p.1, a.2.1 + p.1 * p.2, 0, some p.2) := by
  by_cases h0 : a.2.2.1 = 0
  · cases h1 : badPiece p
    · cases h2 : notMore p.2 a.2.2.2
      · cases h3 : (decide (1000000 < a.1 + p.1) || outm (a.2.1 + p.1 * p.2) 1000000000000000)
        · exact ⟨h0, rfl, rfl, rfl, kstep_ok h0 h1 h2 h3⟩
        · rw [kstep_sum h0 h1 h2 h3] at h; simp at h
      · rw [kstep_low h0 h1 h2] at h; simp at h
    · rw [kstep_bad h0 h1] at h; simp at h
  · unfold kstep at h; rw [if_pos h0] at h; exact absurd h h0
theorem badPiece_false {p : Int × Int} : badPiece p = false ↔ 1 ≤ p.1 ∧ p.1 ≤ 2000000 ∧ -10000000 ≤ p.2 ∧ p.2 ≤ 10000000 := by
  simp only [badPiece, Bool.or_eq_false_iff, decide_eq_false_iff_not, outm_false]; omega
/-- the value behind all pieces -/
def rise (ps : List (Int × Int)) : Int := ps.foldl (fun n p => n + p.1 * p.2) 0
theorem rise_snoc (ps : List (Int × Int)) (p : Int × Int) : rise (ps ++ [p]) = rise ps + p.1 * p.2 := by unfold rise; rw [List.foldl_append]; rfl
/-- what a valid function is -/
structure GoodC (lo va : Int) (ps : List (Int × Int)) : Prop where
  step : ∀ p ∈ ps, 1 ≤ p.1 ∧ p.1 ≤ 2000000 ∧ -10000000 ≤ p.2 ∧ p.2 ≤ 10000000
  up : ps.Pairwise (fun a b => a.2 < b.2)
  place : -1000000 ≤ lo ∧ lo + total ps ≤ 1000000
  value : ∀ k, -1000000000000000 ≤ va + rise (ps.take k) ∧ va + rise (ps.take k) ≤ 1000000000000000
theorem kacc_good {lo va : Int} (hlo : -1000000 ≤ lo ∧ lo ≤ 1000000) (hva : -1000000000000000 ≤ va ∧ va ≤ 1000000000000000) {ps : List (Int × Int)} (h : (kacc lo va ps).2.2.1 = 0) :
    GoodC lo va ps ∧ (kacc lo va ps).1 = lo + total ps ∧ (kacc lo va ps).2.1 = va + rise ps ∧ (kacc lo va ps).2.2.2 = lastPrice ps := by
  induction ps using snocInd with
  | h0 => exact ⟨⟨by simp, List.Pairwise.nil, by simp [total]; exact hlo, by simp [rise]; exact hva⟩, by simp [kacc, total], by simp [kacc, rise], rfl⟩
  | h1 ps p ih =>
    rw [kacc_snoc] at h ⊢
    obtain ⟨h0, h1, h2, h3, h4⟩ := kstep_inv h
    obtain ⟨g, i1, i2, i3⟩ := ih h0
    rw [h4]
    have hb := badPiece_false.1 h1
    simp only [Bool.or_eq_false_iff, decide_eq_false_iff_not, outm_false] at h3
    refine ⟨⟨?_, ?_, by rw [total_snoc]; omega, fun k => ?_⟩, by rw [total_snoc, i1]; simp only; omega, by rw [rise_snoc, i2]; simp only; omega, by simp [lastPrice]⟩
    · intro q hq
      rcases List.mem_append.1 hq with hq | hq
      · exact g.step q hq
      · rw [List.mem_singleton.1 hq]; exact hb
    · rw [List.pairwise_append]
      refine ⟨g.up, List.pairwise_singleton _ _, fun a ha b hb => ?_⟩
      rw [List.mem_singleton.1 hb]
      rw [i3] at h2
      induction ps using snocInd with
      | h0 => cases ha
      | h1 ps z _ =>
        have hz : lastPrice (ps ++ [z]) = some z.2 := by simp [lastPrice]
        rw [hz] at h2
        simp only [notMore, decide_eq_false_iff_not] at h2
        rcases List.mem_append.1 ha with ha | ha
        · have := (List.pairwise_append.1 g.up).2.2 a ha z (by simp)
          omega
        · rw [List.mem_singleton.1 ha]; omega
    · rcases Nat.lt_or_ge ps.length k with hk | hk
      · rw [List.take_of_length_le (by simp; omega), rise_snoc]
        omega
      · rw [List.take_append_of_le_length hk]
        exact g.value k
theorem ccheck_ok {lo va : Int} {ps : List (Int × Int)} (h : ccheck lo va ps = 0) : GoodC lo va ps ∧ ps.length ≤ 64 ∧ (-1000000 ≤ lo ∧ lo ≤ 1000000) ∧ (-1000000000000000 ≤ va ∧ va ≤ 1000000000000000) := by
  unfold ccheck at h
  by_cases h1 : 64 < ps.length
  · rw [if_pos h1] at h; omega
  · rw [if_neg h1] at h
    cases h2 : (outm lo 1000000 || outm va 1000000000000000)
    · rw [h2, if_neg (by simp)] at h
      simp only [Bool.or_eq_false_iff, outm_false] at h2
      exact ⟨(kacc_good h2.1 h2.2 h).1, by omega, h2.1, h2.2⟩
    · rw [h2, if_pos rfl] at h; omega
theorem kacc_bd {lo va : Int} (hlo : -1000000 ≤ lo ∧ lo ≤ 1000000) (hva : -1000000000000000 ≤ va ∧ va ≤ 1000000000000000) {ps : List (Int × Int)} (h : (kacc lo va ps).2.2.1 = 0) :
    -1000000 ≤ (kacc lo va ps).1 ∧ (kacc lo va ps).1 ≤ 1000000 ∧ -1000000000000000 ≤ (kacc lo va ps).2.1 ∧ (kacc lo va ps).2.1 ≤ 1000000000000000 := by
  obtain ⟨g, h1, h2, _⟩ := kacc_good hlo hva h
  have hv := g.value ps.length
  rw [List.take_length] at hv
  have hp : ∀ l : List (Int × Int), (∀ p ∈ l, 1 ≤ p.1) → 0 ≤ total l := by
    intro l hl
    induction l using snocInd with
    | h0 => simp [total]
    | h1 l p ih => rw [total_snoc]; have := ih fun q hq => hl q (by simp [hq]); have := hl p (by simp); omega
  have := hp ps fun p hp => (g.step p hp).1
  have := g.place
  omega
theorem piece_bd {m p : Int} (m0 : 0 ≤ m) (m1 : m ≤ 2000000) (s3 : -10000000 ≤ p) (s4 : p ≤ 10000000) : -20000000000000 ≤ m * p ∧ m * p ≤ 20000000000000 := by
  have u1 : m * p ≤ m * 10000000 := Int.mul_le_mul_of_nonneg_left s4 m0
  have u2 : m * (-10000000) ≤ m * p := Int.mul_le_mul_of_nonneg_left s3 m0
  omega
end Go.Proofs.Ytchafkocobbndaa.Pl
namespace Go.Proofs.Ytchafkocobbndaa.Pl
def vacc (va left : Int) (ps : List (Int × Int)) : Int × Int := ps.foldl cstep (va, left)
theorem vacc_snoc (va left : Int) (ps : List (Int × Int)) (p : Int × Int) : vacc va left (ps ++ [p]) = cstep (vacc va left ps) p := by unfold vacc; rw [List.foldl_append]; rfl
/-- convexpl.high, convexpl.at -/
def chigh (lo : Int) (ps : List (Int × Int)) : Int := lo + total ps
def cvat (lo va : Int) (ps : List (Int × Int)) (x : Int) : Int := va + costR ps (x - lo)
theorem vacc_at (lo va : Int) (ps : List (Int × Int)) (x : Int) : (vacc va (x - lo) ps).1 = cvat lo va ps x := cfold ps va (x - lo)
/-- convexpl.lowest -/
def lowR (s : Int) : List (Int × Int) → Int
  | [] => 0
  | p :: ps => if s ≤ p.2 then 0 else p.1 + lowR s ps
theorem lowR_all {s : Int} {ps : List (Int × Int)} (h : ∀ p ∈ ps, p.2 < s) : lowR s ps = total ps := by
  induction ps with
  | nil => rfl
  | cons p ps ih =>
    have := h p (by simp)
    rw [lowR, if_neg (by omega), total_cons, ih fun q hq => h q (by simp [hq])]
theorem lowR_stop {s : Int} (l r : List (Int × Int)) (p : Int × Int) (h : ∀ q ∈ l, q.2 < s) (hp : s ≤ p.2) : lowR s (l ++ p :: r) = total l := by
  induction l with
  | nil => rw [List.nil_append, lowR, if_pos hp]; rfl
  | cons q l ih =>
    have := h q (by simp)
    rw [List.cons_append, lowR, if_neg (by omega), total_cons, ih fun q hq => h q (by simp [hq])]
theorem total_pos {ps : List (Int × Int)} (h : ∀ p ∈ ps, 1 ≤ p.1) : 0 ≤ total ps := by
  induction ps with
  | nil => simp [total]
  | cons p ps ih => rw [total_cons]; have := h p (by simp); have := ih fun q hq => h q (by simp [hq]); omega
theorem lowR_bd {s : Int} {ps : List (Int × Int)} (h : ∀ p ∈ ps, 1 ≤ p.1) : 0 ≤ lowR s ps ∧ lowR s ps ≤ total ps := by
  induction ps with
  | nil => simp [lowR, total]
  | cons p ps ih =>
    have h1 := h p (by simp)
    have h2 := ih fun q hq => h q (by simp [hq])
    rw [lowR, total_cons]
    split <;> omega
theorem total_take_bd {ps : List (Int × Int)} (h : ∀ p ∈ ps, 1 ≤ p.1) (k : Nat) : 0 ≤ total (ps.take k) ∧ total (ps.take k) ≤ total ps := by
  refine ⟨total_pos fun p hp => h p (List.mem_of_mem_take hp), ?_⟩
  have e : total ps = total (ps.take k) + total (ps.drop k) := by
    conv => lhs; rw [← List.take_append_drop k ps]
    generalize ps.take k = a
    generalize ps.drop k = b
    induction a with
    | nil => simp [total]
    | cons p a ih => rw [List.cons_append, total_cons, total_cons, ih]; omega
  have := total_pos (ps := ps.drop k) fun p hp => h p (List.mem_of_mem_drop hp)
  omega
theorem GoodC.long {lo va : Int} {ps : List (Int × Int)} (h : GoodC lo va ps) : ∀ p ∈ ps, 1 ≤ p.1 := fun p hp => (h.step p hp).1
/-- what a run of convexpl.at can reach -/
theorem vacc_bd {lo va : Int} {ps : List (Int × Int)} (h : GoodC lo va ps) (hva : -1000000000000000 ≤ va ∧ va ≤ 1000000000000000) (left : Int) (h0 : 0 ≤ left) (h1 : left ≤ 2000000) (k : Nat) :
    0 ≤ (vacc va left (ps.take k)).2 ∧ (vacc va left (ps.take k)).2 ≤ 2000000 ∧ -1000000000000000 - 20000000000000 * (k : Int) ≤ (vacc va left (ps.take k)).1 ∧ (vacc va left (ps.take k)).1 ≤ 1000000000000000 + 20000000000000 * (k : Int) := by
  induction k with
  | zero => simp [vacc]; omega
  | succ k ih =>
    obtain ⟨i1, i2, i3, i4⟩ := ih
    rcases Nat.lt_or_ge k ps.length with hk | hk
    · rw [List.take_succ_eq_append_getElem hk, vacc_snoc]
      obtain ⟨s1, s2, s3, s4⟩ := h.step ps[k] (List.getElem_mem hk)
      generalize vacc va left (ps.take k) = a at *
      generalize ps[k] = p at *
      simp only [cstep]
      have hm := piece_bd (m := min a.2 p.1) (p := p.2) (by omega) (by omega) s3 s4
      refine ⟨?_, ?_, ?_, ?_⟩ <;> omega
    · rw [List.take_of_length_le (by omega)]
      rw [List.take_of_length_le hk] at i1 i2 i3 i4
      refine ⟨?_, ?_, ?_, ?_⟩ <;> omega
theorem costR_zero {ps : List (Int × Int)} (h : ∀ p ∈ ps, 1 ≤ p.1) : costR ps 0 = 0 := by
  induction ps with
  | nil => rfl
  | cons p ps ih =>
    have := h p (by simp)
    rw [costR, show min 0 p.1 = 0 by omega, Int.zero_mul, show (0 : Int) - 0 = 0 by omega, ih fun q hq => h q (by simp [hq])]
    omega
theorem costR_up {ps : List (Int × Int)} (h : ∀ p ∈ ps, 1 ≤ p.1) (hs : ∀ p ∈ ps, 0 ≤ p.2) (x : Int) (hx : 0 ≤ x) : 0 ≤ costR ps x := by
  induction ps generalizing x with
  | nil => simp [costR]
  | cons p ps ih =>
    have h1 := h p (by simp)
    have h2 := ih (fun q hq => h q (by simp [hq])) (fun q hq => hs q (by simp [hq])) (x - min x p.1) (by omega)
    have h3 : 0 ≤ min x p.1 * p.2 := Int.mul_nonneg (by omega) (hs p (by simp))
    rw [costR]
    omega
/-- lowest: the least argument of the least value -/
theorem low_least {ps : List (Int × Int)} (h : ∀ p ∈ ps, 1 ≤ p.1) (hu : ps.Pairwise (fun a b => a.2 < b.2)) (x : Int) (hx : 0 ≤ x) :
    costR ps (lowR 0 ps) ≤ costR ps x ∧ (costR ps (lowR 0 ps) < costR ps x ∨ lowR 0 ps ≤ x) := by
  induction ps generalizing x with
  | nil => simp [lowR, costR]; exact hx
  | cons p ps ih =>
    have h1 := h p (by simp)
    have ht : ∀ q ∈ ps, 1 ≤ q.1 := fun q hq => h q (by simp [hq])
    obtain ⟨u1, u2⟩ := List.pairwise_cons.1 hu
    by_cases hp : 0 ≤ p.2
    · rw [lowR, if_pos hp, costR_zero h]
      refine ⟨costR_up h (fun q hq => ?_) x hx, .inr hx⟩
      rcases List.mem_cons.1 hq with rfl | hq
      · exact hp
      · have := u1 q hq; omega
    · have hb := lowR_bd (s := 0) ht
      have e : costR (p :: ps) (lowR 0 (p :: ps)) = p.1 * p.2 + costR ps (lowR 0 ps) := by
        rw [lowR, if_neg hp, costR, show min (p.1 + lowR 0 ps) p.1 = p.1 by omega, show p.1 + lowR 0 ps - p.1 = lowR 0 ps by omega]
      rw [e, lowR, if_neg hp, costR]
      by_cases hx1 : p.1 ≤ x
      · have := ih ht u2 (x - p.1) (by omega)
        rw [show min x p.1 = p.1 by omega]
        omega
      · rw [show min x p.1 = x by omega, show x - x = 0 by omega]
        have h2 := (ih ht u2 0 (by omega)).1
        have h3 : p.1 * p.2 < x * p.2 := Int.mul_lt_mul_of_neg_right (by omega) (by omega)
        omega
end Go.Proofs.Ytchafkocobbndaa.Pl
namespace Go.Proofs.Ytchafkocobbndaa.Pl
def cAt (lo va : Int) (st : List (Int × Int)) (x : Int) : Int × Int := if ccheck lo va st ≠ 0 then (0, ccheck lo va st) else if x < lo ∨ chigh lo st < x then (0, 4) else (cvat lo va st x, 0)
def cHigh (lo va : Int) (st : List (Int × Int)) : Int × Int := if ccheck lo va st ≠ 0 then (0, ccheck lo va st) else (chigh lo st, 0)
def cLeast (lo va : Int) (st : List (Int × Int)) : Int × Int × Int := if ccheck lo va st ≠ 0 then (0, 0, ccheck lo va st) else (lo + lowR 0 st, cvat lo va st (lo + lowR 0 st), 0)
/-- the law ConvexLeast -/
theorem least_law (lo va : Int) (st : List (Int × Int)) (x : Int) (h : (cLeast lo va st).2.2 = 0) :
    (cAt lo va st (cLeast lo va st).1).2 = 0 ∧ (cAt lo va st (cLeast lo va st).1).1 = (cLeast lo va st).2.1 ∧
    ((cAt lo va st x).2 ≠ 0 ∨ ((cLeast lo va st).2.1 ≤ (cAt lo va st x).1 ∧ ((cLeast lo va st).2.1 < (cAt lo va st x).1 ∨ (cLeast lo va st).1 ≤ x))) := by
  by_cases h0 : ccheck lo va st = 0
  · obtain ⟨g, _, _, _⟩ := ccheck_ok h0
    have e : cLeast lo va st = (lo + lowR 0 st, cvat lo va st (lo + lowR 0 st), 0) := by unfold cLeast; rw [if_neg (by simpa using h0)]
    have hb := lowR_bd (s := 0) g.long
    have e2 : cAt lo va st (lo + lowR 0 st) = (cvat lo va st (lo + lowR 0 st), 0) := by
      unfold cAt chigh; rw [if_neg (by simpa using h0), if_neg (by omega)]
    rw [e]
    simp only
    rw [e2]
    refine ⟨rfl, rfl, ?_⟩
    by_cases hx : x < lo ∨ chigh lo st < x
    · left
      unfold cAt; rw [if_neg (by simpa using h0), if_pos hx]; simp
    · right
      have e3 : cAt lo va st x = (cvat lo va st x, 0) := by unfold cAt; rw [if_neg (by simpa using h0), if_neg hx]
      rw [e3]
      have := low_least g.long g.up (x - lo) (by omega)
      simp only [cvat]
      rw [show lo + lowR 0 st - lo = lowR 0 st by omega]
      omega
  · unfold cLeast at h; rw [if_pos h0] at h; exact absurd h h0
end Go.Proofs.Ytchafkocobbndaa.Pl
