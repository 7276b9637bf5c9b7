/- Cuts of slices of integers: the value behind the cut under one name. No condition. -/
import Derived.Test.YtpbomomgjhbljaaBase
namespace Go.Proofs.Ytpbomomgjhbljaa
open Go.RowKit
theorem elem_ints : Try.prog.underlying 22 = some (.slice (Try.prog.elem 22)) := by kernel_rfl
theorem size_ints : ∀ w : World, (sizeOf (Try.prog.elem 22)).run Try.prog w = .ok 1 w := fun _ => by kernel_rfl
theorem Reads.take_ {w : World} {B n : Nat} {A : Option Addr} {zs : List Int} (h : Reads w B 1 A n (ints zs)) {k : Nat} (hk : k ≤ n) : Reads w B 1 A k (ints (zs.take k)) := by
  refine ⟨by have := h.int_len; simp [ints]; omega, fun h0 => ?_⟩
  obtain ⟨ad, e, hb, hc⟩ := h.2 (by omega)
  refine ⟨ad, e, hb, fun j u hu => hc j u ?_⟩
  unfold ints at hu ⊢
  rw [List.map_take, List.getElem?_take] at hu
  split at hu
  · exact hu
  · cases hu
/-- 's[k:]' -/
theorem slice_from {w0 : World} {B n c : Nat} {A : Option Addr} {zs : List Int} (hr : Reads w0 B 1 A n (ints zs)) (hnc : n ≤ c) (l : Int) (k : Nat) (hl : l = k) (hk : k ≤ n) :
    ∃ A' c', (∀ w, (Instr.slice 22 (.slice A n c) (some (.int .i64 l)) none none).run Try.prog w = .ok (.slice A' (n - k) c') w) ∧ Reads w0 B 1 A' (n - k) (ints (zs.drop k)) := by
  subst hl
  refine ⟨if c = k then A else A.map (·.add (k * 1)), c - k, fun w => ?_, ?_⟩
  · rw [run_slice_l w 22 A n c elem_ints .i64 k (by omega) (by omega), size_ints]
    simp [sliced, Result.andThen]
  · have := hr.cut hk hnc
    unfold ints at this ⊢
    rw [Nat.mul_one] at this ⊢
    rw [List.map_drop]
    exact this
end Go.Proofs.Ytpbomomgjhbljaa
