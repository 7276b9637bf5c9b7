/- Plain functions for package dual (the checks, the best schedule of one generator), and their laws; nothing of the program stands here. -/
import Derived.Test.YtchafkocobbndaaPRun
import Derived.Test.YtchafkocobbndaaPDisp
import Derived.Test.YtchafkocobbndaaPOfferC
import Derived.Test.YtchafkocobbndaaPHours
namespace Go.Proofs.Ytchafkocobbndaa.Pl
structure CU where
  r : Rule
  o : Off
  s : St
/-- dual.Check -/
def duCheck (u : CU) : Int :=
  if ustate u.r u.s ≠ 0 then ustate u.r u.s else if ocheck u.o.1 u.o.2 ≠ 0 then ocheck u.o.1 u.o.2
  else if total u.o.2 ≠ u.r.most ∨ (u.r.name.toList == u.o.1.toList) = false then 3 else if u.r.up < u.r.most ∨ u.r.down < u.r.most then 1 else 0
theorem duCheck_ok {u : CU} (h : duCheck u = 0) : ustate u.r u.s = 0 ∧ ocheck u.o.1 u.o.2 = 0 ∧ total u.o.2 = u.r.most ∧ u.r.most ≤ u.r.up ∧ u.r.most ≤ u.r.down := by
  unfold duCheck at h
  split at h
  · rename_i h1; exact absurd h h1
  · rename_i h1
    split at h
    · rename_i h2; exact absurd h h2
    · rename_i h2
      split at h
      · cases h
      · rename_i h3
        split at h
        · cases h
        · rename_i h4
          refine ⟨by simpa using h1, by simpa using h2, ?_, by omega, by omega⟩
          by_cases e : total u.o.2 = u.r.most
          · exact e
          · exact absurd (Or.inl e) h3
def nmEq (nm : ByteArray) (z : CU) : Bool := z.r.name.toList == nm.toList
def duAllS (prev : List CU) (u : CU) : Int := if duCheck u ≠ 0 then duCheck u else if has (nmEq u.r.name) prev = true then 7 else 0
def duAllK (l : List CU) : Nat → Int
  | 0 => 0
  | k + 1 => if duAllK l k = 0 then (match l[k]? with | some u => duAllS (l.take k) u | none => 0) else duAllK l k
def badDem (d : Int) : Bool := decide (d < 0) || decide (1000000 < d)
/-- dual.CheckAll -/
def duAll (l : List CU) (ds : List Int) : Int := if 3 < l.length ∨ 8 < ds.length then 2 else if duAllK l l.length ≠ 0 then duAllK l l.length else if has badDem ds = true then 4 else 0
theorem duAllK_stay {l : List CU} {k m : Nat} (h : k ≤ m) (he : duAllK l k ≠ 0) : duAllK l m = duAllK l k := by
  induction m with
  | zero => rw [show k = 0 from by omega]
  | succ m ih =>
    by_cases e : k = m + 1
    · rw [e]
    · have := ih (by omega)
      rw [duAllK, if_neg (by rw [this]; exact he), this]
theorem duAllK_succ {l : List CU} {k : Nat} (hk : k < l.length) (h0 : duAllK l k = 0) : duAllK l (k + 1) = duAllS (l.take k) l[k] := by
  rw [duAllK, if_pos h0, List.getElem?_eq_getElem hk]
theorem duAllK_err {l : List CU} {ds : List Int} {k : Nat} {e : Int} (hn : ¬ (3 < l.length ∨ 8 < ds.length)) (hk : k < l.length) (h0 : duAllK l k = 0) (h : duAllS (l.take k) l[k] = e) (he : e ≠ 0) : duAll l ds = e := by
  have h1 : duAllK l (k + 1) = e := by rw [duAllK_succ hk h0, h]
  have h2 : duAllK l l.length = e := by rw [duAllK_stay (show k + 1 ≤ l.length by omega) (by rw [h1]; exact he), h1]
  rw [duAll, if_neg hn, if_pos (by rw [h2]; exact he), h2]
theorem duAllK_pre {l : List CU} {k : Nat} (h : duAllK l k = 0) (j : Nat) (hj : j < l.length) (hjk : j < k) : duAllS (l.take j) l[j] = 0 := by
  induction k with
  | zero => omega
  | succ k ih =>
    have h0 : duAllK l k = 0 := by
      by_cases e : duAllK l k = 0
      · exact e
      · rw [duAllK, if_neg e] at h; exact absurd h e
    by_cases e : j = k
    · subst e
      rw [duAllK_succ hj h0] at h
      exact h
    · exact ih h0 (by omega)
structure DOk (l : List CU) (ds : List Int) : Prop where
  hl : l.length ≤ 3
  hd : ds.length ≤ 8
  hu : ∀ u ∈ l, duCheck u = 0
  hr : ∀ d ∈ ds, 0 ≤ d ∧ d ≤ 1000000
theorem badDem_false {d : Int} (h : badDem d = false) : 0 ≤ d ∧ d ≤ 1000000 := by
  unfold badDem at h
  rw [Bool.or_eq_false_iff, decide_eq_false_iff_not, decide_eq_false_iff_not] at h
  omega
theorem duAll_ok {l : List CU} {ds : List Int} (h : duAll l ds = 0) : DOk l ds := by
  unfold duAll at h
  split at h
  · cases h
  · rename_i h1
    split at h
    · rename_i h2; exact absurd h h2
    · rename_i h2
      split at h
      · cases h
      · rename_i h3
        refine ⟨by omega, by omega, fun u hu => ?_, fun d hd => ?_⟩
        · obtain ⟨j, hj, rfl⟩ := List.getElem_of_mem hu
          have := duAllK_pre (by simpa using h2) j hj hj
          unfold duAllS at this
          split at this
          · rename_i h4; exact absurd this h4
          · rename_i h4; simpa using h4
        · obtain ⟨j, hj, rfl⟩ := List.getElem_of_mem hd
          exact badDem_false (has_false (by simpa using h3) j hj)
/-! dual.single -/
def dpow (u : CU) (p : Int) : Int := max (leastR p u.o.2) u.r.least
def dgain (u : CU) (p : Int) : Int := p * dpow u p - ocost u.o.2 (dpow u p)
/-- a list of n numbers of which the first k are written -/
def fillN (f : Nat → Int) (n k : Nat) : List Int := (List.range n).map fun j => if j < k then f j else 0
theorem fillN_len (f : Nat → Int) (n k : Nat) : (fillN f n k).length = n := by unfold fillN; simp
theorem fillN_zero (f : Nat → Int) (n : Nat) : fillN f n 0 = List.replicate n 0 := by
  refine List.ext_getElem (by simp [fillN]) fun i h1 h2 => ?_
  simp [fillN]
theorem fillN_set (f : Nat → Int) (n k : Nat) : (fillN f n k).set k (f k) = fillN f n (k + 1) := by
  refine List.ext_getElem (by simp [fillN]) fun i h1 h2 => ?_
  rw [List.getElem_set]
  simp only [fillN, List.getElem_map, List.getElem_range]
  by_cases e : k = i
  · subst e; rw [if_pos rfl, if_pos (Nat.lt_succ_self k)]
  · rw [if_neg e]
    by_cases h : i < k
    · rw [if_pos h, if_pos (Nat.lt_succ_of_lt h)]
    · rw [if_neg h, if_neg (fun h2 => (Nat.lt_succ_iff_lt_or_eq.1 h2).elim h (fun h3 => e h3.symm))]
theorem fillN_at (f : Nat → Int) {n k j : Nat} (hj : j < n) (hk : j < k) : (fillN f n k).getD j 0 = f j := by
  unfold fillN
  rw [List.getD_eq_getElem?_getD, List.getElem?_map, List.getElem?_range hj]
  simp [hk]
/-- period j of a pattern -/
def dbit (u : CU) (ps : List Int) (k j : Nat) : Int := if k.testBit j then dpow u (ps.getD j 0) else -1
/-- the schedule of a pattern, of which t periods are written -/
def dsch (u : CU) (ps : List Int) (k : Nat) : List Int := fillN (dbit u ps k) ps.length ps.length
def dsumN (u : CU) (ps : List Int) (k t : Nat) : Int := sumN (fun j => if k.testBit j then dgain u (ps.getD j 0) else 0) t
def dval (u : CU) (ps : List Int) (k : Nat) : Int := dsumN u ps k ps.length - (urun u.r u.s (dsch u ps k)).2.1
def dsgStep (u : CU) (ps : List Int) (a : List Int × Int × Bool) (k : Nat) : List Int × Int × Bool :=
  if (urun u.r u.s (dsch u ps k)).2.2 = 0 ∧ (a.2.2 = false ∨ a.2.1 < dval u ps k) then (dsch u ps k, dval u ps k, true) else a
def dsgl (u : CU) (ps : List Int) : Nat → List Int × Int × Bool
  | 0 => ([], 0, false)
  | k + 1 => dsgStep u ps (dsgl u ps k) k
/-- dual.single -/
def dsingle (u : CU) (ps : List Int) : List Int × Int × Bool := dsgl u ps (2 ^ ps.length)
theorem dsch_len (u : CU) (ps : List Int) (k : Nat) : (dsch u ps k).length = ps.length := fillN_len _ _ _
theorem dsch_at (u : CU) (ps : List Int) (k j : Nat) (hj : j < ps.length) : (dsch u ps k).getD j 0 = dbit u ps k j := fillN_at _ hj hj
def dgood (u : CU) (ps : List Int) (k : Nat) : Prop := (urun u.r u.s (dsch u ps k)).2.2 = 0
theorem dsgl_spec (u : CU) (ps : List Int) (K : Nat) :
    ((dsgl u ps K).2.2 = true → ∃ k, k < K ∧ dgood u ps k ∧ (dsgl u ps K).1 = dsch u ps k ∧ (dsgl u ps K).2.1 = dval u ps k) ∧
    (∀ k, k < K → dgood u ps k → (dsgl u ps K).2.2 = true ∧ dval u ps k ≤ (dsgl u ps K).2.1) := by
  induction K with
  | zero => exact ⟨fun h => absurd h (by simp [dsgl]), fun k hk => absurd hk (by omega)⟩
  | succ K ih =>
    obtain ⟨i1, i2⟩ := ih
    rw [dsgl]
    generalize dsgl u ps K = a at *
    unfold dsgStep
    by_cases hc : (urun u.r u.s (dsch u ps K)).2.2 = 0 ∧ (a.2.2 = false ∨ a.2.1 < dval u ps K)
    · rw [if_pos hc]
      refine ⟨fun _ => ⟨K, by omega, hc.1, rfl, rfl⟩, fun k hk hg => ⟨rfl, ?_⟩⟩
      by_cases e : k = K
      · subst e; exact Int.le_refl _
      · obtain ⟨j1, j2⟩ := i2 k (by omega) hg
        rcases hc.2 with h | h
        · rw [h] at j1; cases j1
        · exact Int.le_trans j2 (Int.le_of_lt h)
    · rw [if_neg hc]
      refine ⟨fun h => ?_, fun k hk hg => ?_⟩
      · obtain ⟨k, h1, h2⟩ := i1 h
        exact ⟨k, by omega, h2⟩
      · by_cases e : k = K
        · subst e
          have h2 : ¬ (a.2.2 = false ∨ a.2.1 < dval u ps k) := fun h => hc ⟨hg, h⟩
          refine ⟨?_, ?_⟩
          · cases h3 : a.2.2
            · exact absurd (Or.inl h3) h2
            · rfl
          · exact Int.not_lt.1 fun h => h2 (Or.inr h)
        · exact i2 k (by omega) hg
theorem dpow_bd {u : CU} (h : duCheck u = 0) (p : Int) : u.r.least ≤ dpow u p ∧ dpow u p ≤ u.r.most ∧ 0 ≤ dpow u p ∧ dpow u p ≤ 100000 := by
  obtain ⟨h1, h2, h3, h4, h5⟩ := duCheck_ok h
  obtain ⟨g, _⟩ := ocheck_ok h2
  obtain ⟨c1, c2, c3, _⟩ := ucheck_ok (ustate_ok h1).1
  have := least_most (P := p) (st := u.o.2) fun q hq => (g.step q hq).1
  unfold dpow
  omega
theorem dgain_bd {u : CU} (h : duCheck u = 0) (p : Int) (p0 : -2000000 ≤ p) (p1 : p ≤ 2000000) : -200000000000 ≤ p * dpow u p ∧ p * dpow u p ≤ 200000000000 ∧ -100000000000 ≤ ocost u.o.2 (dpow u p) ∧ ocost u.o.2 (dpow u p) ≤ 100000000000 := by
  obtain ⟨b1, b2, b3, b4⟩ := dpow_bd h p
  obtain ⟨h1, h2, h3, h4, h5⟩ := duCheck_ok h
  obtain ⟨g, _⟩ := ocheck_ok h2
  have hc := cacc_bd g (dpow u p) b3 b4 u.o.2.length
  rw [List.take_length] at hc
  have e : (cacc u.o.2 (dpow u p)).1 = ocost u.o.2 (dpow u p) := rfl
  obtain ⟨c1, c2, c3, c4⟩ := hc
  rw [e] at c3 c4
  generalize ocost u.o.2 (dpow u p) = oc at *
  generalize dpow u p = x at *
  have m1 : p * x ≤ 2000000 * x := Int.mul_le_mul_of_nonneg_right p1 b3
  have m2 : -2000000 * x ≤ p * x := Int.mul_le_mul_of_nonneg_right p0 b3
  omega
theorem dsumN_bd {u : CU} {ps : List Int} (h : duCheck u = 0) (hp : ∀ p ∈ ps, -2000000 ≤ p ∧ p ≤ 2000000) (k t : Nat) (ht : t ≤ ps.length) : -300000000000 * (t : Int) ≤ dsumN u ps k t ∧ dsumN u ps k t ≤ 300000000000 * (t : Int) := by
  induction t with
  | zero => exact ⟨by simp [dsumN, sumN], by simp [dsumN, sumN]⟩
  | succ t ih =>
    obtain ⟨i1, i2⟩ := ih (by omega)
    have e : dsumN u ps k (t + 1) = dsumN u ps k t + (if k.testBit t then dgain u (ps.getD t 0) else 0) := rfl
    rw [e]
    have hg : ps.getD t 0 ∈ ps := by rw [List.getD_eq_getElem?_getD, List.getElem?_eq_getElem (by omega)]; exact List.getElem_mem _
    obtain ⟨q0, q1⟩ := hp _ hg
    obtain ⟨g1, g2, g3, g4⟩ := dgain_bd h _ q0 q1
    have e2 : dgain u (ps.getD t 0) = ps.getD t 0 * dpow u (ps.getD t 0) - ocost u.o.2 (dpow u (ps.getD t 0)) := rfl
    rw [e2]
    split <;> (push_cast; omega)
theorem urun_bd (r : Rule) (s : St) (zs : List Int) : 0 ≤ (urun r s zs).2.1 ∧ (urun r s zs).2.1 ≤ 24000000 := by
  by_cases h : (urun r s zs).2.2 = 0
  · obtain ⟨h1, h2, h3, h4⟩ := urun_good h
    obtain ⟨_, _, j1, j2⟩ := racc_inv r s h1 zs h4
    rw [h3]
    omega
  · rw [(urun_bad h).2]; omega
theorem getD_mem {ps : List Int} {t : Nat} (h : t < ps.length) : ps.getD t 0 ∈ ps := by
  rw [List.getD_eq_getElem?_getD, List.getElem?_eq_getElem h]; exact List.getElem_mem _
end Go.Proofs.Ytchafkocobbndaa.Pl
