/- Arguments that are rules and states of generators, opened. No condition. -/
import Derived.Test.YthodaikggpbiiaaLaw
import Derived.Test.YthodaikggpbiiaaUnit
import Derived.Deep.Fields
namespace Go.Proofs.Ythodaikggpbiiaa
open Go.ChangeShapes Go.WideShapes Go.ChangeAt Go.RowKit Go.Deep
section
variable {H : Type} {enc : TypeId × Value → H} {W : World} {base : Nat} {sp : Nat → Bool} {held : Bool}
theorem cells_UnitRule : Try.prog.cellsOf 43 = 8 := by kernel_rfl
theorem cells_UnitState : Try.prog.cellsOf 45 = 3 := by kernel_rfl
theorem open_rule {r : Reach} {b0 : Nat} {v : Value} {d : DataW H} {p : List MemPlace} (hv : Value.okWide Try.prog W r b0 43 v) (h : DataW.Trod enc Try.prog W base sp held 43 v d p) :
    ∃ R : Pl.Rule, v = vRule R ∧ R.name.size ≤ 9223372036854775807 := by
  obtain ⟨cs, rfl, hl, n, hf⟩ := open_struct_arg Try.underlying43 (by kernel_rfl) cells_UnitRule hv h
  obtain ⟨c0, c1, c2, c3, c4, c5, c6, c7, rfl⟩ := list8 hl
  obtain ⟨_, _, e0, h0⟩ := hf 0 _ rfl
  obtain ⟨_, _, e1, h1⟩ := hf 1 _ rfl
  obtain ⟨_, _, e2, h2⟩ := hf 2 _ rfl
  obtain ⟨_, _, e3, h3⟩ := hf 3 _ rfl
  obtain ⟨_, _, e4, h4⟩ := hf 4 _ rfl
  obtain ⟨_, _, e5, h5⟩ := hf 5 _ rfl
  obtain ⟨_, _, e6, h6⟩ := hf 6 _ rfl
  obtain ⟨_, _, e7, h7⟩ := hf 7 _ rfl
  injection e0 with e0; injection e1 with e1; injection e2 with e2; injection e3 with e3; injection e4 with e4; injection e5 with e5; injection e6 with e6; injection e7 with e7
  subst e0 e1 e2 e3 e4 e5 e6 e7
  obtain ⟨nm, rfl, hn⟩ := string_cell Try.underlying9 h0
  obtain ⟨a1, rfl, _⟩ := int_cell Try.underlying3 h1
  obtain ⟨a2, rfl, _⟩ := int_cell Try.underlying3 h2
  obtain ⟨a3, rfl, _⟩ := int_cell Try.underlying3 h3
  obtain ⟨a4, rfl, _⟩ := int_cell Try.underlying3 h4
  obtain ⟨a5, rfl, _⟩ := int_cell Try.underlying3 h5
  obtain ⟨a6, rfl, _⟩ := int_cell Try.underlying3 h6
  obtain ⟨a7, rfl, _⟩ := int_cell Try.underlying3 h7
  exact ⟨⟨nm, a1, a2, a3, a4, a5, a6, a7⟩, rfl, hn⟩
theorem open_state {r : Reach} {b0 : Nat} {v : Value} {d : DataW H} {p : List MemPlace} (hv : Value.okWide Try.prog W r b0 45 v) (h : DataW.Trod enc Try.prog W base sp held 45 v d p) :
    ∃ S : Pl.St, v = vSt S := by
  obtain ⟨cs, rfl, hl, n, hf⟩ := open_struct_arg Try.underlying45 (by kernel_rfl) cells_UnitState hv h
  obtain ⟨c0, c1, c2, rfl⟩ := list3 hl
  obtain ⟨_, _, e0, h0⟩ := hf 0 _ rfl
  obtain ⟨_, _, e1, h1⟩ := hf 1 _ rfl
  obtain ⟨_, _, e2, h2⟩ := hf 2 _ rfl
  injection e0 with e0; injection e1 with e1; injection e2 with e2
  subst e0 e1 e2
  obtain ⟨b, rfl⟩ := bool_cell Try.underlying4 h0
  obtain ⟨a1, rfl, _⟩ := int_cell Try.underlying3 h1
  obtain ⟨a2, rfl, _⟩ := int_cell Try.underlying3 h2
  exact ⟨⟨b, a1, a2⟩, rfl⟩
end
end Go.Proofs.Ythodaikggpbiiaa
