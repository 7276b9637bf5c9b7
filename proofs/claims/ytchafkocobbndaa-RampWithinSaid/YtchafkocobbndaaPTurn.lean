/- Plain functions convexpl.Move, Turn, and the law ConvexTurns; nothing of the program stands here. Plain function convexpl.Of, and the law ConvexOffer; nothing of the program stands here. -/
import Derived.Test.YtchafkocobbndaaPMade
namespace Go.Proofs.Ytchafkocobbndaa.Pl
/-- convexpl.Move -/
def cMove (lo va : Int) (st : List (Int × Int)) (x y : Int) : (Int × Int × List (Int × Int)) × Int :=
  if ccheck lo va st ≠ 0 then ((0, 0, []), ccheck lo va st) else if (outm x 2000000 || outm y 1000000000000000) = true then ((0, 0, []), 4) else cMade (lo + x) (va + y) st
/-- the pieces of convexpl.Turn -/
def turnP (st : List (Int × Int)) : List (Int × Int) := (st.map fun p => (p.1, -p.2)).reverse
def cTurn (lo va : Int) (st : List (Int × Int)) : (Int × Int × List (Int × Int)) × Int :=
  if ccheck lo va st ≠ 0 then ((0, 0, []), ccheck lo va st) else cMade (-(chigh lo st)) (cvat lo va st (chigh lo st)) (turnP st)
theorem turnP_turnP (st : List (Int × Int)) : turnP (turnP st) = st := by
  unfold turnP
  rw [List.map_reverse, List.reverse_reverse, List.map_map]
  conv => rhs; rw [← List.map_id st]
  apply List.map_congr_left
  intro p _
  simp
theorem turnP_up {st : List (Int × Int)} (h : st.Pairwise (fun a b => a.2 < b.2)) : (turnP st).Pairwise (fun a b => a.2 < b.2) := by
  unfold turnP
  rw [List.pairwise_reverse, List.pairwise_map]
  exact h.imp (fun h => by simp; omega)
theorem turnP_len (st : List (Int × Int)) : (turnP st).length = st.length := by simp [turnP]
theorem turnP_mem {st : List (Int × Int)} {q : Int × Int} (h : q ∈ turnP st) : ∃ p ∈ st, q = (p.1, -p.2) := by
  unfold turnP at h
  rw [List.mem_reverse, List.mem_map] at h
  obtain ⟨p, hp, rfl⟩ := h
  exact ⟨p, hp, rfl⟩
theorem turnP_cons (p : Int × Int) (st : List (Int × Int)) : turnP (p :: st) = turnP st ++ [(p.1, -p.2)] := by simp [turnP]
/-- the pieces that the loop of Turn has collected after k rounds -/
theorem turnP_step (st : List (Int × Int)) (k : Nat) (hk : k < st.length) : turnP (st.drop k) = turnP (st.drop (k + 1)) ++ [(st[k].1, -st[k].2)] := by
  rw [List.drop_eq_getElem_cons hk, turnP_cons]
theorem total_app (a b : List (Int × Int)) : total (a ++ b) = total a + total b := by
  induction a with
  | nil => simp [total]
  | cons p a ih => rw [List.cons_append, total_cons, total_cons, ih]; omega
theorem total_turn (st : List (Int × Int)) : total (turnP st) = total st := by
  induction st with
  | nil => rfl
  | cons p st ih => rw [turnP_cons, total_app, ih, show total [(p.1, -p.2)] = p.1 from by simp [total], total_cons]; omega
theorem rise_cons (p : Int × Int) (st : List (Int × Int)) : rise (p :: st) = p.1 * p.2 + rise st := by
  have h : ∀ (l : List (Int × Int)) (n : Int), l.foldl (fun n p => n + p.1 * p.2) n = n + l.foldl (fun n p => n + p.1 * p.2) 0 := by
    intro l
    induction l with
    | nil => intro n; simp
    | cons q l ih => intro n; rw [List.foldl_cons, List.foldl_cons, ih, ih (0 + q.1 * q.2)]; omega
  unfold rise
  rw [List.foldl_cons, h]
  omega
theorem rise_turn (st : List (Int × Int)) : rise (turnP st) = -rise st := by
  induction st with
  | nil => rfl
  | cons p st ih => rw [turnP_cons, rise_snoc, rise_cons, ih]; simp only [Int.mul_neg]; omega
theorem costR_all {st : List (Int × Int)} (h : ∀ p ∈ st, 1 ≤ p.1) : costR st (total st) = rise st := by
  induction st with
  | nil => rfl
  | cons p st ih =>
    have h0 := total_pos (ps := st) fun q hq => h q (by simp [hq])
    have h1 := h p (by simp)
    rw [costR, total_cons, show min (p.1 + total st) p.1 = p.1 by omega, show p.1 + total st - p.1 = total st by omega, ih fun q hq => h q (by simp [hq]), rise_cons]
theorem cvat_high {lo va : Int} {st : List (Int × Int)} (h : ∀ p ∈ st, 1 ≤ p.1) : cvat lo va st (chigh lo st) = va + rise st := by
  unfold cvat chigh
  rw [show lo + total st - lo = total st by omega, costR_all h]
theorem cMade_ok {lo va : Int} {st : List (Int × Int)} (hu : st.Pairwise (fun a b => a.2 < b.2)) (h : ccheck lo va st = 0) : cMade lo va st = ((lo, va, st), 0) := by
  unfold cMade; rw [cjoin_rise hu, if_neg (by simpa using h)]
theorem cMade_fine {lo va : Int} {st : List (Int × Int)} (hu : st.Pairwise (fun a b => a.2 < b.2)) (h : (cMade lo va st).2 = 0) : ccheck lo va st = 0 := by
  unfold cMade at h
  rw [cjoin_rise hu] at h
  by_cases h0 : ccheck lo va st = 0
  · exact h0
  · rw [if_pos h0] at h; simp at h
theorem cTurn_bad {lo va : Int} {st : List (Int × Int)} (h : (cTurn lo va st).2 ≠ 0) : (cTurn lo va st).1.2.2 = [] := by
  unfold cTurn at h ⊢
  by_cases h0 : ccheck lo va st = 0
  · rw [if_neg (by simpa using h0)] at h ⊢
    unfold cMade at h ⊢
    split at h
    · rename_i h1; rw [if_pos h1]
    · exact absurd rfl h
  · rw [if_pos h0]
/-- Turn there and back -/
theorem turn_back {lo va : Int} {st : List (Int × Int)} (h : (cTurn lo va st).2 = 0) :
    ∃ lo' va', cTurn lo va st = ((lo', va', turnP st), 0) ∧ cTurn lo' va' (turnP st) = ((lo, va, st), 0) := by
  by_cases h0 : ccheck lo va st = 0
  · obtain ⟨g, _, _, _⟩ := ccheck_ok h0
    have e : cTurn lo va st = cMade (-(chigh lo st)) (cvat lo va st (chigh lo st)) (turnP st) := by unfold cTurn; rw [if_neg (by simpa using h0)]
    rw [e] at h ⊢
    have hu := turnP_up g.up
    have h1 := cMade_fine hu h
    refine ⟨_, _, cMade_ok hu h1, ?_⟩
    obtain ⟨g', _, _, _⟩ := ccheck_ok h1
    have e2 : cTurn (-(chigh lo st)) (cvat lo va st (chigh lo st)) (turnP st) = cMade (-(chigh (-(chigh lo st)) (turnP st))) (cvat (-(chigh lo st)) (cvat lo va st (chigh lo st)) (turnP st) (chigh (-(chigh lo st)) (turnP st))) (turnP (turnP st)) := by
      unfold cTurn; rw [if_neg (by simpa using h1)]
    rw [e2, cvat_high g'.long, rise_turn, cvat_high g.long, turnP_turnP]
    have e3 : -(chigh (-(chigh lo st)) (turnP st)) = lo := by unfold chigh; rw [total_turn]; omega
    rw [e3, show va + rise st + -rise st = va by omega]
    exact cMade_ok g.up h0
  · unfold cTurn at h; rw [if_pos h0] at h; exact absurd h h0
/-- Move there and back -/
theorem move_back {lo va : Int} {st : List (Int × Int)} {x y : Int} (h0 : ccheck lo va st = 0) (h : (cMove lo va st x y).2 = 0) :
    cMove lo va st x y = ((lo + x, va + y, st), 0) ∧ (∀ x' y', (cMove (lo + x) (va + y) st x' y').2 = 0 → x' = -x → y' = -y → cMove (lo + x) (va + y) st x' y' = ((lo, va, st), 0)) ∧ (-2000000 ≤ x ∧ x ≤ 2000000) ∧ (-1000000000000000 ≤ y ∧ y ≤ 1000000000000000) := by
  obtain ⟨g, _, _, _⟩ := ccheck_ok h0
  unfold cMove at h ⊢
  rw [if_neg (by simpa using h0)] at h ⊢
  cases ho : (outm x 2000000 || outm y 1000000000000000)
  · rw [ho, if_neg (by simp)] at h
    rw [if_neg (by simp)]
    have h1 := cMade_fine g.up h
    rw [Bool.or_eq_false_iff, outm_false, outm_false] at ho
    refine ⟨cMade_ok g.up h1, ?_, ho.1, ho.2⟩
    intro x' y' h2 hx hy
    subst hx hy
    rw [if_neg (by simpa using h1)] at h2 ⊢
    cases ho : (outm (-x) 2000000 || outm (-y) 1000000000000000)
    · rw [if_neg (by simp), show lo + x + -x = lo by omega, show va + y + -y = va by omega]
      exact cMade_ok g.up h0
    · rw [ho, if_pos rfl] at h2; simp at h2
  · rw [ho, if_pos rfl] at h; simp at h
end Go.Proofs.Ytchafkocobbndaa.Pl
namespace Go.Proofs.Ytchafkocobbndaa.Pl
/-- convexpl.Of -/
def cOf (nm : ByteArray) (st : List (Int × Int)) : (Int × Int × List (Int × Int)) × Int := if ocheck nm st ≠ 0 then ((0, 0, []), ocheck nm st) else cMade 0 0 st
theorem costR_app {a b : List (Int × Int)} (h : ∀ p ∈ a, 1 ≤ p.1) (x : Int) (hx : 0 ≤ x) : costR (a ++ b) x = costR a x + costR b (x - min x (total a)) := by
  induction a generalizing x with
  | nil => rw [List.nil_append, show total [] = 0 from rfl, show x - min x 0 = x by omega, costR]; omega
  | cons p a ih =>
    have hp := h p (by simp)
    have ht : ∀ q ∈ a, 1 ≤ q.1 := fun q hq => h q (by simp [hq])
    have := total_pos ht
    rw [List.cons_append, costR, costR, ih ht (x - min x p.1) (by omega), total_cons, show x - min x p.1 - min (x - min x p.1) (total a) = x - min x (p.1 + total a) by omega]
    omega
theorem costR_one (p : Int × Int) (x : Int) : costR [p] x = min x p.1 * p.2 := by simp [costR]
theorem jstep_keeps {l : List (Int × Int)} (h : ∀ q ∈ l, 1 ≤ q.1) (p : Int × Int) (hp : 1 ≤ p.1) :
    (∀ q ∈ jstep l p, 1 ≤ q.1) ∧ total (jstep l p) = total l + p.1 ∧ ∀ x, 0 ≤ x → costR (jstep l p) x = costR (l ++ [p]) x := by
  induction l using snocInd with
  | h0 => rw [jstep_nil]; exact ⟨by simp; exact hp, by simp [total], fun _ _ => rfl⟩
  | h1 l q _ =>
    have hq := h q (by simp)
    have hl : ∀ z ∈ l, 1 ≤ z.1 := fun z hz => h z (by simp [hz])
    rw [jstep_snoc]
    by_cases he : q.2 = p.2
    · rw [if_pos he]
      refine ⟨fun z hz => ?_, by rw [total_snoc, total_snoc]; omega, fun x hx => ?_⟩
      · rcases List.mem_append.1 hz with hz | hz
        · exact hl z hz
        · rw [List.mem_singleton] at hz; subst hz; simp only; omega
      · rw [costR_app hl x hx, List.append_assoc, costR_app hl x hx, List.singleton_append, costR_one, costR, costR_one, ← he, ← Int.add_mul]
        have : min (x - min x (total l)) (q.1 + p.1) = min (x - min x (total l)) q.1 + min (x - min x (total l) - min (x - min x (total l)) q.1) p.1 := by omega
        simp only
        rw [this]
    · rw [if_neg he]
      refine ⟨fun z hz => ?_, by rw [total_snoc], fun _ _ => rfl⟩
      rcases List.mem_append.1 hz with hz | hz
      · exact h z hz
      · rw [List.mem_singleton] at hz; subst hz; exact hp
theorem cjoin_keeps {st : List (Int × Int)} (h : ∀ q ∈ st, 1 ≤ q.1) : (∀ q ∈ cjoin st, 1 ≤ q.1) ∧ total (cjoin st) = total st ∧ ∀ x, 0 ≤ x → costR (cjoin st) x = costR st x := by
  induction st using snocInd with
  | h0 => exact ⟨by simp [cjoin], rfl, fun _ _ => rfl⟩
  | h1 st p ih =>
    have hp := h p (by simp)
    have hs : ∀ q ∈ st, 1 ≤ q.1 := fun q hq => h q (by simp [hq])
    obtain ⟨i1, i2, i3⟩ := ih hs
    obtain ⟨j1, j2, j3⟩ := jstep_keeps i1 p hp
    rw [cjoin_snoc]
    refine ⟨j1, by rw [j2, i2, total_snoc], fun x hx => ?_⟩
    rw [j3 x hx, costR_app i1 x hx, costR_app hs x hx, i2, i3 x hx]
theorem cOf_bad {nm : ByteArray} {st : List (Int × Int)} (h : (cOf nm st).2 ≠ 0) : (cOf nm st).1.2.2 = [] := by
  unfold cOf at h ⊢
  by_cases h0 : ocheck nm st = 0
  · rw [if_neg (by simpa using h0)] at h ⊢
    unfold cMade at h ⊢
    split at h
    · rename_i h1; rw [if_pos h1]
    · exact absurd rfl h
  · rw [if_pos h0]
end Go.Proofs.Ytchafkocobbndaa.Pl
