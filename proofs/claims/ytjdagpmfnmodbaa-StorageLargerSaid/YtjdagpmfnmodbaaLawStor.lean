/- Arguments that are storages, opened. No condition. -/
import Derived.Test.YtjdagpmfnmodbaaLawB
import Derived.Test.YtjdagpmfnmodbaaStorA
namespace Go.Proofs.Ytjdagpmfnmodbaa
open Go.ChangeShapes Go.WideShapes Go.ChangeAt Go.RowKit
section
variable {H : Type} {enc : TypeId × Value → H} {W : World} {base : Nat} {sp : Nat → Bool} {held : Bool}
theorem cells_Plan : Try.prog.cellsOf 70 = 5 := by kernel_rfl
theorem list5 {α : Type} {l : List α} (h : l.length = 5) : ∃ a b c d e, l = [a, b, c, d, e] := by
  match l, h with
  | [a, b, c, d, e], _ => exact ⟨a, b, c, d, e, rfl⟩
set_option maxRecDepth 100000 in
theorem open_plan {r : Reach} {b0 : Nat} {v : Value} {d : DataW H} {p : List MemPlace} (hv : Value.okWide Try.prog W r b0 70 v) (h : DataW.Trod enc Try.prog W base sp held 70 v d p) :
    ∃ ch dis cap beg en : Int, v = vSt ch dis cap beg en := by
  obtain ⟨cs, rfl, hl, n, hf⟩ := open_struct_arg Try.underlying70 (by kernel_rfl) cells_Plan hv h
  obtain ⟨c0, c1, c2, c3, c4, rfl⟩ := list5 hl
  obtain ⟨_, _, e0, h0⟩ := hf 0 _ rfl
  obtain ⟨_, _, e1, h1⟩ := hf 1 _ rfl
  obtain ⟨_, _, e2, h2⟩ := hf 2 _ rfl
  obtain ⟨_, _, e3, h3⟩ := hf 3 _ rfl
  obtain ⟨_, _, e4, h4⟩ := hf 4 _ rfl
  injection e0 with e0; injection e1 with e1; injection e2 with e2; injection e3 with e3; injection e4 with e4
  subst e0 e1 e2 e3 e4
  obtain ⟨a0, rfl, _⟩ := int_cell Try.underlying3 h0
  obtain ⟨a1, rfl, _⟩ := int_cell Try.underlying3 h1
  obtain ⟨a2, rfl, _⟩ := int_cell Try.underlying3 h2
  obtain ⟨a3, rfl, _⟩ := int_cell Try.underlying3 h3
  obtain ⟨a4, rfl, _⟩ := int_cell Try.underlying3 h4
  exact ⟨a0, a1, a2, a3, a4, rfl⟩
end
end Go.Proofs.Ytjdagpmfnmodbaa
