/- Words for the rows of the ledger's laws: arguments opened (slices of entries, an entry). No condition. -/
import Derived.Test.YtnnfkfimicmboaaDoorLawLaid
namespace Go.Proofs.YtnnfkfimicmboaaDoor
open Go.ChangeShapes Go.WideShapes Go.ChangeAt Go.RowKit
set_option maxRecDepth 100000
section
variable {H : Type} {enc : TypeId × Value → H} {W : World} {base : Nat} {sp : Nat → Bool} {held : Bool}
theorem bytes_ent : Tryd.prog.bytesOf 31 = 40 := by kernel_rfl
theorem open_ent {n : Nat} {cs : List Value} {y : DataW H × List MemPlace} (h : DataW.trod enc Tryd.prog W base sp held n 31 cs = some y) : ∃ a : Pl.LE, cs = ecells a ∧ EntIn a := by
  obtain ⟨hl, m, hf⟩ := open_struct_cells Tryd.underlying31 (by kernel_rfl) h (by kernel_rfl)
  obtain ⟨a, b, c, rfl⟩ : ∃ a b c, cs = [a, b, c] := by
    match cs, hl with
    | [a, b, c], _ => exact ⟨a, b, c, rfl⟩
  obtain ⟨_, y0, e0, t0⟩ := hf 0 _ rfl
  obtain ⟨_, y1, e1, t1⟩ := hf 1 _ rfl
  obtain ⟨_, y2, e2, t2⟩ := hf 2 _ rfl
  injection e0 with e0; subst e0
  injection e1 with e1; subst e1
  injection e2 with e2; subst e2
  obtain ⟨s, rfl, hs⟩ := string_cell Tryd.underlying9 t0
  obtain ⟨t, rfl, ht⟩ := string_cell Tryd.underlying9 t1
  obtain ⟨p, rfl, hp⟩ := int_cell Tryd.underlying3 t2
  exact ⟨(s, t, p), rfl, hs, ht, hp.1, hp.2⟩
theorem open_ents_arg {r : Reach} {b0 : Nat} {v : Value} {d : DataW H} {p : List MemPlace} (hv : Value.okWide Tryd.prog W r b0 22 v) (h : DataW.Trod enc Tryd.prog W base sp held 22 v d p) :
    ∃ (A : Option Addr) (n c : Nat) (l : List Pl.LE), v = .slice A n c ∧ n ≤ c ∧ c ≤ maxLen ∧ Ents W A n l := by
  obtain ⟨A, n, c, rfl⟩ := okWide_slice Tryd.underlying22 hv
  obtain ⟨fuel, hf⟩ := h
  obtain ⟨A', n', c', l, h1, h2, h3, h4, h5⟩ := open_slice_of ecells EntIn 3 (by omega) (fun _ => rfl) Tryd.underlying22 (by kernel_rfl) (fun n cs y h => open_ent h) hf
  exact ⟨A', n', c', l, h1, h2, h3, h4, h5⟩
theorem ents_reach {A : Option Addr} {n c : Nat} {d : DataW H} {p : List MemPlace} (h : DataW.Trod enc Tryd.prog W base sp held 22 (.slice A n c) d p) {ts : List TypeId} {ds : List (DataW H)}
    (hsz : (DataW.weightsEach Tryd.prog ts ds).all (· ≤ reachBytes) = true) {j : Nat} (ht : ts[j]? = some 22) (hd : ds[j]? = some d) : n * 40 ≤ 140737488351232 := by
  obtain ⟨fuel, hf⟩ := h
  rcases Go.Deep.open_slice Tryd.underlying22 hf with ⟨hcs, _⟩ | ⟨a, len, cap, m, k, D, Q, hcs, _, hl, hm, hmm, hx, _⟩
  · injection hcs with hcs _
    injection hcs with _ hn _
    subst hn
    decide
  · injection hcs with hcs _
    injection hcs with _ hn _
    subst hn
    injection hx with hx _
    subst hx
    have := sized_slice hsz ht hd Tryd.underlying22
    rw [bytes_ent] at this
    simp only [List.length_map, List.length_range, reachBytes] at this
    have h2 : n * 40 ≤ (n + (m - n)) * 40 := Nat.mul_le_mul_right 40 (by omega)
    omega
theorem open_ent_arg {r : Reach} {b0 : Nat} {v : Value} {d : DataW H} {p : List MemPlace} (hv : Value.okWide Tryd.prog W r b0 31 v) (h : DataW.Trod enc Tryd.prog W base sp held 31 v d p) :
    ∃ o : Pl.LE, v = .agg #[.string o.1, .string o.2.1, .int .i64 o.2.2] ∧ EntIn o := by
  obtain ⟨cs, rfl, _⟩ := okWide_struct Tryd.underlying31 hv
  obtain ⟨fuel, hf⟩ := h
  obtain ⟨a, ha, hq⟩ := open_ent hf
  refine ⟨a, ?_, hq⟩
  have : cs = (ecells a).toArray := by rw [← ha]; first | rfl | simp [Value.cells]
  rw [this]
  rfl
end
/-- the laws' list of variables is met by a world laid for it -/
def laidX (w : World) : Prop := laidMetH Tryd.prog Rows.ledgerBackRow.laid w
noncomputable def laidW (os : Os) : World := World.laidAll Tryd.prog os Rows.ledgerBackRow.laid
end Go.Proofs.YtnnfkfimicmboaaDoor
