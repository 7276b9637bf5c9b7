/- Plain functions for names; nothing of the program stands here. -/
import Derived.Test.YtoblpcljhblnmaaGreatDoorPHours
namespace Go.Proofs.YtoblpcljhblnmaaGreatDoor.Pl
/-- may this byte stand at this place of a name? -/
def okByte (i : Nat) (c : UInt8) : Bool := decide ((65 ≤ c.toNat ∧ c.toNat ≤ 90) ∨ (0 < i ∧ 48 ≤ c.toNat ∧ c.toNat ≤ 57))
def nameB (s : ByteArray) : Bool := (s.data.toList.zipIdx.all fun p => okByte p.2 p.1) && decide (1 ≤ s.size ∧ s.size ≤ 8)
theorem nameB_all {s : ByteArray} (h : ∀ j (hj : j < s.size), okByte j s[j] = true) : nameB s = decide (1 ≤ s.size ∧ s.size ≤ 8) := by
  unfold nameB
  have : (s.data.toList.zipIdx.all fun p => okByte p.2 p.1) = true := by
    rw [List.all_eq_true]
    rintro ⟨c, j⟩ hp
    obtain ⟨hj, e⟩ := List.mem_zipIdx_iff_getElem?.1 hp |> List.getElem?_eq_some_iff.1
    have := h j (by simpa using hj)
    rw [← e]
    exact this
  rw [this, Bool.true_and]
theorem nameB_no {s : ByteArray} (j : Nat) (hj : j < s.size) (h : okByte j s[j] = false) : nameB s = false := by
  unfold nameB
  have : (s.data.toList.zipIdx.all fun p => okByte p.2 p.1) = false := by
    rw [List.all_eq_false]
    refine ⟨(s[j], j), ?_, by simp [h]⟩
    rw [List.mem_zipIdx_iff_getElem?]
    exact List.getElem?_eq_some_iff.2 ⟨by simpa using hj, rfl⟩
  rw [this, Bool.false_and]
end Go.Proofs.YtoblpcljhblnmaaGreatDoor.Pl
