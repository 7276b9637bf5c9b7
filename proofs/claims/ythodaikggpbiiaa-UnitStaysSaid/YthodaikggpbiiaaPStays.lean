/- Plain law behind UnitStays; nothing of the program stands here. -/
import Derived.Test.YthodaikggpbiiaaPRun
namespace Go.Proofs.Ythodaikggpbiiaa.Pl
/-- 'since' is -1, or the period of the last change -/
def stayInv (σ : St) (k since : Int) : Prop := since = -1 ∨ (0 ≤ since ∧ since < k ∧ σ.since = k - since)
theorem stay_step {r : Rule} {σ : St} {p : Int} (hv : ustate r σ = 0) (hx : (unext r σ p).2.2 = 0) (k since : Int) (h0 : 0 ≤ k) (h1 : k ≤ 24) (h : stayInv σ k since) :
    ((unext r σ p).1.on ≠ σ.on → stayInv (unext r σ p).1 (k + 1) k ∧ (0 ≤ since → (if σ.on then r.minOn else r.minOff) ≤ k - since)) ∧
    ((unext r σ p).1.on = σ.on → stayInv (unext r σ p).1 (k + 1) since) := by
  obtain ⟨_, _, _, u1, _, u3, u4, u5⟩ := unext_valid hv hx
  rw [u1]
  have e : ∀ b : Bool, (decide (p ≠ -1) = b) ↔ (decide (p ≠ -1) = b) := fun _ => Iff.rfl
  constructor
  · intro hne
    rw [if_neg hne] at u3
    refine ⟨.inr ⟨h0, by omega, by rw [u3]; omega⟩, fun hs => ?_⟩
    rcases h with h | ⟨_, h2, h3⟩
    · omega
    · cases ho : σ.on
      · rw [ho] at hne
        have hp : p ≠ -1 := by intro hp; apply hne; simp [hp]
        have : ¬ σ.since < r.minOff := fun hh => u5 ⟨ho, hp, hh⟩
        simp only [Bool.false_eq_true, if_false]
        omega
      · rw [ho] at hne
        have hp : p = -1 := by
          by_cases hp : p = -1
          · exact hp
          · exact absurd (by simp [hp]) hne
        have : ¬ σ.since < r.minOn := fun hh => u4 ⟨ho, hp, hh⟩
        simp only [if_true]
        omega
  · intro heq
    rw [if_pos heq] at u3
    rcases h with h | ⟨h1, h2, h3⟩
    · exact .inl h
    · exact .inr ⟨h1, by omega, by rw [u3]; omega⟩
end Go.Proofs.Ythodaikggpbiiaa.Pl
