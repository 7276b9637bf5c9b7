/- dual.Single and dual.Step, plain: a schedule is always found; the new prices. No program. -/
import Derived.Test.YtchafkocobbndaaPDual
namespace Go.Proofs.Ytchafkocobbndaa.Pl
theorem fold_ok {r : Rule} (P : St → Prop) (Q : Int → Prop) (hs : ∀ s p, P s → Q p → (unext r s p).2.2 = 0 ∧ P (unext r s p).1) (zs : List Int) (a : St × List St × Int × Int) (ha : P a.1) (h0 : a.2.2.2 = 0) (hz : ∀ z ∈ zs, Q z) : (zs.foldl (rstep r) a).2.2.2 = 0 := by
  induction zs generalizing a with
  | nil => exact h0
  | cons z zs ih =>
    rw [List.foldl_cons]
    obtain ⟨h1, h2⟩ := hs a.1 z ha (hz z (by simp))
    rw [rstep_ok r a z h0 h1]
    exact ih _ h2 rfl fun y hy => hz y (by simp [hy])
theorem dsch_mem {u : CU} {ps : List Int} {k : Nat} {z : Int} (h : z ∈ dsch u ps k) : ∃ j, j < ps.length ∧ z = dbit u ps k j := by
  unfold dsch fillN at h
  obtain ⟨j, hj, rfl⟩ := List.mem_map.1 h
  rw [List.mem_range] at hj
  exact ⟨j, hj, by rw [if_pos hj]⟩
theorem dgood_ex {u : CU} {ps : List Int} (h : duCheck u = 0) (hl : ps.length ≤ 8) : ∃ k, k < 2 ^ ps.length ∧ dgood u ps k := by
  obtain ⟨h1, h2, h3, h4, h5⟩ := duCheck_ok h
  obtain ⟨c0, c1, c2, c3, c4⟩ := ustate_ok h1
  obtain ⟨r1, r2, r3, r4, r5, r6, r7, r8⟩ := ucheck_ok c0
  have key : ∀ k, (racc u.r u.s (dsch u ps k)).2.2.2 = 0 → dgood u ps k := fun k hk => by
    unfold dgood urun
    rw [if_neg (by simpa using h1), if_neg (by rw [dsch_len]; omega)]
    exact hk
  cases hon : u.s.on with
  | false =>
    refine ⟨0, Nat.two_pow_pos _, key 0 ?_⟩
    refine fold_ok (fun s => s.on = false) (fun p => p = -1) (fun s p hs hp => ?_) _ _ hon rfl fun z hz => ?_
    · subst hp
      unfold unext
      rw [if_neg (by simp), if_neg (by simp [hs]), if_neg (by simp [hs])]
      exact ⟨rfl, rfl⟩
    · obtain ⟨j, hj, rfl⟩ := dsch_mem hz
      unfold dbit
      rw [if_neg (by simp)]
  | true =>
    refine ⟨2 ^ ps.length - 1, by have := Nat.two_pow_pos ps.length; omega, key _ ?_⟩
    refine fold_ok (fun s => s.on = true ∧ 0 ≤ s.power ∧ s.power ≤ u.r.most) (fun p => u.r.least ≤ p ∧ p ≤ u.r.most ∧ 0 ≤ p) (fun s p hs hp => ?_) _ _ ⟨hon, by have := c3 hon; show 0 ≤ u.s.power; omega, (c3 hon).2⟩ rfl fun z hz => ?_
    · obtain ⟨s1, s2, s3⟩ := hs
      obtain ⟨p1, p2, p3⟩ := hp
      have e1 : outB p u.r.least u.r.most = false := outB_false.2 ⟨p1, p2⟩
      have e2 : outB p (s.power - u.r.down) (s.power + u.r.up) = false := outB_false.2 ⟨by omega, by omega⟩
      have hp1 : p ≠ -1 := by omega
      unfold unext
      rw [if_neg (by simp [e1]), if_neg (by simp [s1, hp1]), if_neg (by simp [e2])]
      refine ⟨rfl, ?_⟩
      simp only [hp1, if_false]
      exact ⟨by simpa using hp1, p3, p2⟩
    · obtain ⟨j, hj, rfl⟩ := dsch_mem hz
      unfold dbit
      rw [if_pos (by rw [Nat.testBit_two_pow_sub_one]; simpa using hj)]
      obtain ⟨b1, b2, b3, b4⟩ := dpow_bd h (ps.getD j 0)
      exact ⟨b1, b2, b3⟩
theorem dsingle_ok {u : CU} {ps : List Int} (h : duCheck u = 0) (hl : ps.length ≤ 8) : ∃ k, k < 2 ^ ps.length ∧ dgood u ps k ∧ (dsingle u ps).1 = dsch u ps k ∧ (dsingle u ps).2.1 = dval u ps k ∧ ∀ j, j < 2 ^ ps.length → dgood u ps j → dval u ps j ≤ (dsingle u ps).2.1 := by
  obtain ⟨i1, i2⟩ := dsgl_spec u ps (2 ^ ps.length)
  obtain ⟨k, hk, hg⟩ := dgood_ex h hl
  obtain ⟨j, j1, j2, j3, j4⟩ := i1 (i2 k hk hg).1
  exact ⟨j, j1, j2, j3, j4, fun q hq hqg => (i2 q hq hqg).2⟩
theorem dsingle_len {u : CU} {ps : List Int} (h : duCheck u = 0) (hl : ps.length ≤ 8) : (dsingle u ps).1.length = ps.length := by
  obtain ⟨k, _, _, e, _⟩ := dsingle_ok h hl
  rw [e, dsch_len]
theorem dsingle_bd {u : CU} {ps : List Int} (h : duCheck u = 0) (hl : ps.length ≤ 8) (t : Nat) : (dsingle u ps).1.getD t 0 ≤ 100000 ∧ -1 ≤ (dsingle u ps).1.getD t 0 := by
  obtain ⟨k, _, _, e, _⟩ := dsingle_ok h hl
  rw [e]
  by_cases ht : t < ps.length
  · rw [dsch_at u ps k t ht]
    obtain ⟨b1, b2, b3, b4⟩ := dpow_bd h (ps.getD t 0)
    unfold dbit
    split <;> omega
  · rw [List.getD_eq_getElem?_getD, List.getElem?_eq_none (by rw [dsch_len]; omega)]
    exact ⟨by decide, by decide⟩
def badPr (p : Int) : Bool := decide (p < -2000000) || decide (2000000 < p)
theorem badPr_false {p : Int} (h : badPr p = false) : -2000000 ≤ p ∧ p ≤ 2000000 := by
  unfold badPr at h
  rw [Bool.or_eq_false_iff, decide_eq_false_iff_not, decide_eq_false_iff_not] at h
  omega
theorem prices_ok {ps : List Int} (h : has badPr ps = false) : ∀ p ∈ ps, -2000000 ≤ p ∧ p ≤ 2000000 := fun p hp => by
  obtain ⟨j, hj, rfl⟩ := List.getElem_of_mem hp
  exact badPr_false (has_false h j hj)
/-- dual.Single -/
def dSingle (u : CU) (ps : List Int) : List Int × Int × Int := if duCheck u ≠ 0 then ([], 0, duCheck u) else if 8 < ps.length then ([], 0, 2) else if has badPr ps = true then ([], 0, 4) else ((dsingle u ps).1, (dsingle u ps).2.1, 0)
/-- dual.check -/
def dchk (l : List CU) (ds ps : List Int) : Int := if duAll l ds ≠ 0 then duAll l ds else if ps.length ≠ ds.length then 3 else if has badPr ps = true then 4 else 0
theorem dchk_ok {l : List CU} {ds ps : List Int} (h : dchk l ds ps = 0) : DOk l ds ∧ ps.length = ds.length ∧ ∀ p ∈ ps, -2000000 ≤ p ∧ p ≤ 2000000 := by
  unfold dchk at h
  split at h
  · rename_i h1; exact absurd h h1
  · rename_i h1
    split at h
    · cases h
    · rename_i h2
      split at h
      · cases h
      · rename_i h3
        exact ⟨duAll_ok (by simpa using h1), by simpa using h2, prices_ok (by simpa using h3)⟩
/-- what a list of generators serves in period t -/
def dsup (ps : List Int) (l : List CU) (t : Nat) : Int := sumF (fun u => max 0 ((dsingle u ps).1.getD t 0)) l
theorem dsup_snoc (ps : List Int) (l : List CU) (u : CU) (t : Nat) : dsup ps (l ++ [u]) t = dsup ps l t + max 0 ((dsingle u ps).1.getD t 0) := by
  unfold dsup; rw [sumF_append]; simp [sumF]
theorem dsup_bd {ps : List Int} (l : List CU) (h : ∀ u ∈ l, duCheck u = 0) (hl : ps.length ≤ 8) (t : Nat) : 0 ≤ dsup ps l t ∧ dsup ps l t ≤ 100000 * (l.length : Int) := by
  unfold dsup
  induction l with
  | nil => simp [sumF]
  | cons u l ih =>
    obtain ⟨i1, i2⟩ := ih fun v hv => h v (by simp [hv])
    have := dsingle_bd (h u (by simp)) hl t
    rw [sumF]
    simp only [List.length_cons]
    push_cast
    omega
/-- a list of n numbers: f before place k, g from there on -/
def mixN (f g : Nat → Int) (n k : Nat) : List Int := (List.range n).map fun j => if j < k then f j else g j
theorem mixN_len (f g : Nat → Int) (n k : Nat) : (mixN f g n k).length = n := by unfold mixN; simp
theorem mixN_set (f g : Nat → Int) (n k : Nat) : (mixN f g n k).set k (f k) = mixN f g n (k + 1) := by
  refine List.ext_getElem (by simp [mixN]) fun i h1 h2 => ?_
  rw [List.getElem_set]
  simp only [mixN, List.getElem_map, List.getElem_range]
  by_cases e : k = i
  · subst e; rw [if_pos rfl, if_pos (Nat.lt_succ_self k)]
  · rw [if_neg e]
    by_cases h : i < k
    · rw [if_pos h, if_pos (Nat.lt_succ_of_lt h)]
    · rw [if_neg h, if_neg (fun h2 => (Nat.lt_succ_iff_lt_or_eq.1 h2).elim h (fun h3 => e h3.symm))]
theorem mixN_at (f g : Nat → Int) {n k j : Nat} (hj : j < n) : (mixN f g n k).getD j 0 = if j < k then f j else g j := by
  unfold mixN
  rw [List.getD_eq_getElem?_getD, List.getElem?_map, List.getElem?_range hj]
  rfl
theorem mixN_full (f g h : Nat → Int) (n : Nat) : mixN f g n n = mixN h f n 0 := by
  refine List.ext_getElem (by simp [mixN]) fun i h1 h2 => ?_
  rw [mixN_len] at h1
  simp [mixN, h1]
theorem mixN_list (f : Nat → Int) (l : List Int) : mixN f (fun j => l.getD j 0) l.length 0 = l := by
  refine List.ext_getElem (by simp [mixN]) fun i h1 h2 => ?_
  simp only [mixN, List.getElem_map, List.getElem_range]
  rw [if_neg (by omega), List.getD_eq_getElem?_getD, List.getElem?_eq_getElem h2]
  rfl
theorem mixN_zero (f : Nat → Int) (n : Nat) : mixN f (fun _ => 0) n 0 = List.replicate n 0 := by
  refine List.ext_getElem (by simp [mixN]) fun i h1 h2 => ?_
  simp [mixN]
theorem mixN_congr {f f' g g' : Nat → Int} {n k : Nat} (hf : ∀ j, j < n → j < k → f j = f' j) (hg : ∀ j, j < n → ¬ j < k → g j = g' j) : mixN f g n k = mixN f' g' n k := by
  refine List.ext_getElem (by simp [mixN]) fun i h1 h2 => ?_
  rw [mixN_len] at h1
  simp only [mixN, List.getElem_map, List.getElem_range]
  by_cases h : i < k
  · rw [if_pos h, if_pos h, hf i h1 h]
  · rw [if_neg h, if_neg h, hg i h1 h]
/-- the new price -/
def dnew (l : List CU) (ds ps : List Int) (b : Int) (t : Nat) : Int :=
  if dsup ps l t < ds.getD t 0 then min (ps.getD t 0 + b) 2000000 else if ds.getD t 0 < dsup ps l t then max (ps.getD t 0 - b) (-2000000) else ps.getD t 0
/-- dual.Step -/
def dStep (l : List CU) (ds ps : List Int) (b : Int) : List Int × Int :=
  if dchk l ds ps ≠ 0 then ([], dchk l ds ps) else if b < 1 ∨ 1000000 < b then ([], 1) else (mixN (dnew l ds ps b) (fun _ => 0) ps.length ps.length, 0)
theorem dStep_ok {l : List CU} {ds ps : List Int} {b : Int} (h : (dStep l ds ps b).2 = 0) : dchk l ds ps = 0 ∧ 1 ≤ b ∧ b ≤ 1000000 ∧ dStep l ds ps b = (mixN (dnew l ds ps b) (fun _ => 0) ps.length ps.length, 0) := by
  unfold dStep at h ⊢
  split at h
  · rename_i h1; exact absurd h h1
  · rename_i h1
    rw [if_neg h1]
    split at h
    · cases h
    · rename_i h2
      rw [if_neg h2]
      exact ⟨by simpa using h1, by omega, by omega, rfl⟩
theorem dStep_bad {l : List CU} {ds ps : List Int} {b : Int} (h : (dStep l ds ps b).2 ≠ 0) : (dStep l ds ps b).1 = [] := by
  unfold dStep at h ⊢
  split at h
  · rename_i h1; rw [if_pos h1]
  · rename_i h1
    rw [if_neg h1]
    split at h
    · rename_i h2; rw [if_pos h2]
    · exact absurd rfl h
/-- the law of a step, at one period -/
theorem dnew_law {l : List CU} {ds ps : List Int} {b : Int} {t : Nat} (b1 : 1 ≤ b) (p0 : -2000000 ≤ ps.getD t 0) (p1 : ps.getD t 0 ≤ 2000000) :
    dnew l ds ps b t - ps.getD t 0 ≤ b ∧ -b ≤ dnew l ds ps b t - ps.getD t 0 ∧ (dnew l ds ps b t ≠ 2000000 → dnew l ds ps b t ≠ -2000000 → (dsup ps l t = ds.getD t 0 ↔ dnew l ds ps b t - ps.getD t 0 = 0)) ∧ (0 < dnew l ds ps b t - ps.getD t 0 → dsup ps l t ≤ ds.getD t 0) ∧ -2000000 ≤ dnew l ds ps b t ∧ dnew l ds ps b t ≤ 2000000 := by
  unfold dnew
  generalize dsup ps l t = s
  generalize ds.getD t 0 = d
  generalize ps.getD t 0 = p at *
  split
  · refine ⟨by omega, by omega, fun h1 h2 => by omega, by omega, by omega, by omega⟩
  · split
    · refine ⟨by omega, by omega, fun h1 h2 => by omega, by omega, by omega, by omega⟩
    · refine ⟨by omega, by omega, fun h1 h2 => by omega, by omega, by omega, by omega⟩
def aloneCU : CU := ⟨⟨⟨#[65]⟩, 0, 20, 20, 20, 1, 1, 9⟩, (⟨#[65]⟩, [(10, 5), (10, 8)]), ⟨false, 5, 0⟩⟩
theorem dStep_ex : dStep [aloneCU] [12] [0] 3 = ([3], 0) := by decide +kernel
end Go.Proofs.Ytchafkocobbndaa.Pl
