/- Plain functions for package unit, and their laws; nothing of the program stands here. -/
import Derived.Test.YtoblpcljhblnmaaGreatDoorPName
namespace Go.Proofs.YtoblpcljhblnmaaGreatDoor.Pl
structure Rule where
  name : ByteArray
  least : Int
  most : Int
  up : Int
  down : Int
  minOn : Int
  minOff : Int
  start : Int
structure St where
  on : Bool
  since : Int
  power : Int
def St.zero : St := ⟨false, 0, 0⟩
def badRule (r : Rule) : Bool := outB r.least 0 r.most || decide (100000 < r.most) || outB r.up 1 100000 || outB r.down 1 100000 || outB r.minOn 1 24 || outB r.minOff 1 24 || outB r.start 0 1000000
/-- unit.Check -/
def ucheck (r : Rule) : Int := if nameB r.name = false then 6 else if badRule r = true then 4 else 0
/-- unit.CheckState -/
def ustate (r : Rule) (s : St) : Int :=
  if ucheck r ≠ 0 then ucheck r else if (outB s.since 1 200000 || (s.on && outB s.power r.least r.most)) = true then 4 else if (!s.on && decide (s.power ≠ 0)) = true then 3 else 0
/-- unit.next -/
def unext (r : Rule) (s : St) (p : Int) : St × Int × Int :=
  if p ≠ -1 ∧ outB p r.least r.most = true then (St.zero, 0, 4)
  else if (s.on = true ∧ p = -1 ∧ s.since < r.minOn) ∨ (s.on = false ∧ p ≠ -1 ∧ s.since < r.minOff) then (St.zero, 0, 12)
  else if s.on = true ∧ p ≠ -1 ∧ outB p (s.power - r.down) (s.power + r.up) = true then (St.zero, 0, 17)
  else (⟨decide (p ≠ -1), if decide (p ≠ -1) = s.on then min (s.since + 1) 200000 else 1, if p = -1 then 0 else p⟩, if p ≠ -1 ∧ s.on = false then r.start else 0, 0)
theorem ucheck_ok {r : Rule} (h : ucheck r = 0) : 0 ≤ r.least ∧ r.least ≤ r.most ∧ r.most ≤ 100000 ∧ 1 ≤ r.up ∧ r.up ≤ 100000 ∧ 1 ≤ r.down ∧ r.down ≤ 100000 ∧ 1 ≤ r.minOn ∧ r.minOn ≤ 24 ∧ 1 ≤ r.minOff ∧ r.minOff ≤ 24 ∧ 0 ≤ r.start ∧ r.start ≤ 1000000 := by
  unfold ucheck at h
  by_cases h1 : nameB r.name = false
  · rw [if_pos h1] at h; omega
  · rw [if_neg h1] at h
    by_cases h2 : badRule r = true
    · rw [if_pos h2] at h; omega
    · simp only [badRule, Bool.not_eq_true, Bool.or_eq_false_iff, outB_false, decide_eq_false_iff_not] at h2
      omega
theorem ustate_ok {r : Rule} {s : St} (h : ustate r s = 0) : ucheck r = 0 ∧ 1 ≤ s.since ∧ s.since ≤ 200000 ∧ (s.on = true → r.least ≤ s.power ∧ s.power ≤ r.most) ∧ (s.on = false → s.power = 0) := by
  unfold ustate at h
  by_cases h1 : ucheck r = 0
  · rw [if_neg (by simpa using h1)] at h
    by_cases h2 : (outB s.since 1 200000 || (s.on && outB s.power r.least r.most)) = true
    · rw [if_pos h2] at h; omega
    · rw [if_neg h2] at h
      by_cases h3 : (!s.on && decide (s.power ≠ 0)) = true
      · rw [if_pos h3] at h; omega
      · simp only [Bool.not_eq_true, Bool.or_eq_false_iff, outB_false, Bool.and_eq_false_iff] at h2
        simp at h3
        refine ⟨h1, h2.1.1, h2.1.2, fun h => ?_, fun h => ?_⟩
        · rcases h2.2 with h4 | h4
          · rw [h] at h4; cases h4
          · exact h4
        · exact h3 h
  · rw [if_pos h1] at h; exact absurd h h1
/-- unit.Next -/
def unextC (r : Rule) (s : St) (p : Int) : St × Int × Int := if ustate r s ≠ 0 then (St.zero, 0, ustate r s) else unext r s p
/-- unit.Range -/
def urange (r : Rule) (s : St) : Int × Int × Int :=
  if ustate r s ≠ 0 then (0, 0, ustate r s) else if s.on = true then (max r.least (s.power - r.down), min r.most (s.power + r.up), 0)
  else if s.since < r.minOff then (0, 0, 12) else (r.least, r.most, 0)
theorem urange_bad {r : Rule} {s : St} (h : (urange r s).2.2 ≠ 0) : (urange r s).1 = 0 ∧ (urange r s).2.1 = 0 := by
  unfold urange at h ⊢
  by_cases h1 : ustate r s = 0
  · rw [if_neg (by simpa using h1)] at h ⊢
    cases h2 : s.on
    · rw [if_neg (by simp [h2])] at h ⊢
      by_cases h3 : s.since < r.minOff
      · rw [if_pos h3]; exact ⟨rfl, rfl⟩
      · rw [if_neg h3] at h; exact absurd rfl h
    · rw [if_pos h2] at h; exact absurd rfl h
  · rw [if_pos h1]; exact ⟨rfl, rfl⟩
theorem urange_good {r : Rule} {s : St} (h : (urange r s).2.2 = 0) : ustate r s = 0 ∧ 0 ≤ (urange r s).1 ∧ (urange r s).1 ≤ (urange r s).2.1 ∧ (urange r s).2.1 ≤ 100000 ∧
    ∀ p, (urange r s).1 ≤ p → p ≤ (urange r s).2.1 → ∃ si c, unextC r s p = (⟨true, si, p⟩, c, 0) ∧ ustate r ⟨true, si, p⟩ = 0 := by
  unfold urange at h ⊢
  by_cases h1 : ustate r s = 0
  · rw [if_neg (by simpa using h1)] at h ⊢
    obtain ⟨h2, s1, s2, s3, s4⟩ := ustate_ok h1
    obtain ⟨r1, r2, r3, r4, r5, r6, r7, r8, r9, r10, r11, r12, r13⟩ := ucheck_ok h2
    have fin : ∀ si p, 1 ≤ si → si ≤ 200000 → r.least ≤ p → p ≤ r.most → ustate r ⟨true, si, p⟩ = 0 := by
      intro si p a1 a2 a3 a4
      unfold ustate
      rw [if_neg (by simpa using h2), if_neg (by rw [outB_false.2 ⟨a1, a2⟩, outB_false.2 ⟨a3, a4⟩]; simp), if_neg (by simp)]
    cases h3 : s.on
    · rw [if_neg (by simp [h3])] at h ⊢
      by_cases h4 : s.since < r.minOff
      · rw [if_pos h4] at h; simp at h
      · rw [if_neg h4] at h ⊢
        refine ⟨h1, r1, r2, r3, fun p p1 p2 => ⟨1, r.start, ?_, fin _ _ (by omega) (by omega) p1 p2⟩⟩
        simp only at p1 p2
        unfold unextC
        rw [if_neg (by simpa using h1)]
        unfold unext
        have hp : p ≠ -1 := by omega
        rw [if_neg (by simp [hp, outB_false.2 ⟨p1, p2⟩]), if_neg (by simp [h3, hp, h4]), if_neg (by simp [h3])]
        simp [h3, hp]
    · rw [if_pos rfl]
      have s3 := s3 h3
      refine ⟨h1, by simp only; omega, by simp only; omega, by simp only; omega, fun p p1 p2 => ⟨min (s.since + 1) 200000, 0, ?_, fin _ _ (by omega) (by omega) (by simp only at p1; omega) (by simp only at p2; omega)⟩⟩
      simp only at p1 p2
      unfold unextC
      rw [if_neg (by simpa using h1)]
      unfold unext
      have hp : p ≠ -1 := by omega
      rw [if_neg (by simp only [not_and, Bool.not_eq_true]; intro _; exact outB_false.2 (by omega)), if_neg (by simp [h3, hp]), if_neg (by simp only [not_and, Bool.not_eq_true]; intro _ _; exact outB_false.2 (by omega))]
      simp [h3, hp]
  · rw [if_pos h1] at h; exact absurd h h1
/-- within -/
def withinF (n lo hi : Int) : Int := lo + n.tmod (hi - lo + 1) % (hi - lo + 1)
theorem tmod_bd (n s : Int) (hs : 0 < s) : -s < n.tmod s ∧ n.tmod s < s := by
  constructor
  · have h1 := Int.tmod_lt_of_pos (-n) hs
    rw [Int.neg_tmod] at h1
    omega
  · exact Int.tmod_lt_of_pos n hs
theorem emod_bd (n s : Int) (hs : 0 < s) : 0 ≤ n % s ∧ n % s < s := ⟨Int.emod_nonneg _ (by omega), Int.emod_lt_of_pos _ hs⟩
theorem withinF_bd (n lo hi : Int) (h : lo ≤ hi) : lo ≤ withinF n lo hi ∧ withinF n lo hi ≤ hi := by
  unfold withinF
  obtain ⟨h1, h2⟩ := emod_bd (n.tmod (hi - lo + 1)) (hi - lo + 1) (by omega)
  omega
theorem unextC_ex1 : unextC ⟨⟨#[65]⟩, 10, 50, 5, 5, 2, 2, 7⟩ ⟨true, 1, 20⟩ (-1) = (St.zero, 0, 12) := by rfl
theorem unextC_ex2 : unextC ⟨⟨#[65]⟩, 10, 50, 5, 5, 2, 2, 7⟩ ⟨false, 2, 0⟩ 20 = (⟨true, 1, 20⟩, 7, 0) := by rfl
end Go.Proofs.YtoblpcljhblnmaaGreatDoor.Pl
