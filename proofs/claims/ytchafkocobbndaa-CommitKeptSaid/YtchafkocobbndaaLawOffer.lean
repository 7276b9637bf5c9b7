/- Arguments that are offers, opened. No condition. -/
import Derived.Test.YtchafkocobbndaaLawB
import Derived.Test.YtchafkocobbndaaOfferB
namespace Go.Proofs.Ytchafkocobbndaa
open Go.ChangeShapes Go.WideShapes Go.ChangeAt Go.RowKit
set_option maxRecDepth 100000
section
variable {H : Type} {enc : TypeId × Value → H} {W : World} {base : Nat} {sp : Nat → Bool} {held : Bool}
theorem cells_Offer : Try.prog.cellsOf 31 = 2 := by kernel_rfl
theorem cells_OfferStep : Try.prog.cellsOf 45 = 2 := by kernel_rfl
theorem open_offer {r : Reach} {b0 : Nat} {v : Value} {d : DataW H} {p : List MemPlace} (hv : Value.okWide Try.prog W r b0 31 v) (h : DataW.Trod enc Try.prog W base sp held 31 v d p) :
    ∃ (nm : ByteArray) (A : Option Addr) (n c : Nat) (st : List (Int × Int)), v = vOff nm A n c ∧ nm.size ≤ 9223372036854775807 ∧ Reads W W.heap.size 2 A n (pairs st) := by
  obtain ⟨cs, rfl, hl, n, hf⟩ := open_struct_arg Try.underlying31 (by kernel_rfl) cells_Offer hv h
  obtain ⟨c0, c1, rfl⟩ := list2 hl
  obtain ⟨_, _, e0, h0⟩ := hf 0 _ rfl
  obtain ⟨_, _, e1, h1⟩ := hf 1 _ rfl
  injection e0 with e0; injection e1 with e1
  subst e0 e1
  obtain ⟨nm, rfl, hn⟩ := string_cell Try.underlying9 h0
  obtain ⟨A, k, c, st, rfl, _, _, hr⟩ := open_pairs_cells Try.underlying29 Try.underlying45 (by kernel_rfl) cells_OfferStep Try.underlying3 Try.underlying3 h1
  exact ⟨nm, A, k, c, st, rfl, hn, hr⟩
end
end Go.Proofs.Ytchafkocobbndaa
