/- An argument that is a distance relay: what it is, cell by cell. No condition. -/
import Derived.Test.YtpamgeemmbbkkaaLawNet
import Derived.Test.YtpamgeemmbbkkaaZCheck
namespace Go.Proofs.Ytpamgeemmbbkkaa
open Go.ChangeShapes Go.WideShapes Go.ChangeAt Go.RowKit Go.Deep
set_option maxRecDepth 100000
section
variable {H : Type} {enc : TypeId × Value → H} {W : World} {base : Nat} {sp : Nat → Bool} {held : Bool}
theorem cells_ZoneRelay : Try.prog.cellsOf 32 = 3 := by kernel_rfl
theorem cells_ZoneStep : Try.prog.cellsOf 71 = 2 := by kernel_rfl
theorem open_relay {r : Reach} {b0 : Nat} {v : Value} {d : DataW H} {p : List MemPlace} (hv : Value.okWide Try.prog W r b0 32 v) (h : DataW.Trod enc Try.prog W base sp held 32 v d p) :
    ∃ (node br : ByteArray) (A : Option Addr) (n c : Nat) (zs : List (Int × Int)), v = vRelay node br A n c ∧ n ≤ c ∧ c ≤ maxLen ∧ Reads W W.heap.size 2 A n (pairs zs) := by
  obtain ⟨cs, rfl, hl, n, hf⟩ := open_struct_arg Try.underlying32 (by kernel_rfl) cells_ZoneRelay hv h
  obtain ⟨c0, c1, c2, rfl⟩ := listn3 hl
  obtain ⟨_, _, e0, h0⟩ := hf 0 _ rfl
  obtain ⟨_, _, e1, h1⟩ := hf 1 _ rfl
  obtain ⟨_, _, e2, h2⟩ := hf 2 _ rfl
  injection e0 with e0; injection e1 with e1; injection e2 with e2
  subst e0 e1 e2
  obtain ⟨nd, rfl, _⟩ := string_cell Try.underlying9 h0
  obtain ⟨br, rfl, _⟩ := string_cell Try.underlying9 h1
  obtain ⟨A, k, c, st, rfl, hk, hc, hr⟩ := open_pairs_cells Try.underlying30 Try.underlying71 (by kernel_rfl) cells_ZoneStep Try.underlying3 Try.underlying3 h2
  exact ⟨nd, br, A, k, c, st, rfl, hk, hc, hr⟩
end
end Go.Proofs.Ytpamgeemmbbkkaa
