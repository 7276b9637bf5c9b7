/- Arguments that are convex functions, opened. No condition. -/
import Derived.Test.YtjdagpmfnmodbaaLawB
import Derived.Test.YtjdagpmfnmodbaaConvex
namespace Go.Proofs.Ytjdagpmfnmodbaa
open Go.ChangeShapes Go.WideShapes Go.ChangeAt Go.RowKit
section
variable {H : Type} {enc : TypeId × Value → H} {W : World} {base : Nat} {sp : Nat → Bool} {held : Bool}
theorem cells_Convex : Try.prog.cellsOf 30 = 3 := by kernel_rfl
theorem cells_ConvexPiece : Try.prog.cellsOf 73 = 2 := by kernel_rfl
set_option maxRecDepth 100000 in
theorem open_convex {r : Reach} {b0 : Nat} {v : Value} {d : DataW H} {p : List MemPlace} (hv : Value.okWide Try.prog W r b0 30 v) (h : DataW.Trod enc Try.prog W base sp held 30 v d p) :
    ∃ (lo va : Int) (A : Option Addr) (n c : Nat) (st : List (Int × Int)), v = vCx lo va A n c ∧ Reads W W.heap.size 2 A n (pairs st) := by
  obtain ⟨cs, rfl, hl, n, hf⟩ := open_struct_arg Try.underlying30 (by kernel_rfl) cells_Convex hv h
  obtain ⟨c0, c1, c2, rfl⟩ := list3 hl
  obtain ⟨_, _, e0, h0⟩ := hf 0 _ rfl
  obtain ⟨_, _, e1, h1⟩ := hf 1 _ rfl
  obtain ⟨_, _, e2, h2⟩ := hf 2 _ rfl
  injection e0 with e0; injection e1 with e1; injection e2 with e2
  subst e0 e1 e2
  obtain ⟨lo, rfl, _⟩ := int_cell Try.underlying3 h0
  obtain ⟨va, rfl, _⟩ := int_cell Try.underlying3 h1
  obtain ⟨A, k, c, st, rfl, _, _, hr⟩ := open_pairs_cells Try.underlying28 Try.underlying73 (by kernel_rfl) cells_ConvexPiece Try.underlying3 Try.underlying3 h2
  exact ⟨lo, va, A, k, c, st, rfl, hr⟩
end
end Go.Proofs.Ytjdagpmfnmodbaa
