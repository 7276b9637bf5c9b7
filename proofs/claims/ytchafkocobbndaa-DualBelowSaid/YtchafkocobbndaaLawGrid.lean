/- Arguments that are slices of slices of integers, opened. No condition. -/
import Derived.Test.YtchafkocobbndaaLawB
import Derived.Test.YtchafkocobbndaaCost
namespace Go.Proofs.Ytchafkocobbndaa
open Go.ChangeShapes Go.WideShapes Go.ChangeAt Go.RowKit Go.Deep
section
variable {H : Type} {enc : TypeId × Value → H} {W : World} {base : Nat} {sp : Nat → Bool} {held : Bool}
set_option maxRecDepth 100000 in
theorem row_cells {n : Nat} {cs : List Value} {y : DataW H × List MemPlace} (hy : DataW.trod enc Try.prog W base sp held n 23 cs = some y) :
    ∃ r : MRow, cs = [rowv r] ∧ Reads W W.heap.size 1 r.1 r.2.2.length (ints r.2.2) := by
  have hv : ∃ v, cs = [v] := by
    rcases Go.Deep.open_slice Try.underlying23 hy with ⟨hcs, _⟩ | ⟨a, len, cap, m, n, D, Pl, hcs, _⟩
    · exact ⟨_, hcs⟩
    · exact ⟨_, hcs⟩
  obtain ⟨v, rfl⟩ := hv
  obtain ⟨A, k, c, zs, rfl, _, _, hr, _⟩ := open_ints_cells Try.underlying23 Try.underlying3 (by kernel_rfl) hy
  have hk := hr.int_len
  exact ⟨(A, c, zs), by unfold rowv; rw [← hk], by rw [hk]; exact hr⟩
set_option maxRecDepth 100000 in
theorem open_grid_arg {r : Reach} {b0 : Nat} {v : Value} {d : DataW H} {p : List MemPlace} (hv : Value.okWide Try.prog W r b0 41 v) (h : DataW.Trod enc Try.prog W base sp held 41 v d p) :
    ∃ (A : Option Addr) (n c : Nat) (l : List MRow), v = .slice A n c ∧ n ≤ c ∧ c ≤ maxLen ∧ Grid W A n l := by
  obtain ⟨A, n, c, rfl⟩ := okWide_slice Try.underlying41 hv
  obtain ⟨fuel, hf⟩ := h
  obtain ⟨A, n, c, l, e, h1, h2, h3, h4⟩ := open_slice_of (fun r : MRow => [rowv r]) (fun r : MRow => Reads W W.heap.size 1 r.1 r.2.2.length (ints r.2.2)) 1 (by omega) (fun _ => rfl) Try.underlying41 (by kernel_rfl) (fun n cs y hy => row_cells hy) hf
  have e2 : l.flatMap (fun r : MRow => [rowv r]) = l.map rowv := by
    clear h3 h4 hf
    induction l with
    | nil => rfl
    | cons x l ih => rw [List.flatMap_cons, ih]; rfl
  rw [e2] at h3
  exact ⟨A, n, c, l, e, h1, h2, h3, h4⟩
end
end Go.Proofs.Ytchafkocobbndaa
