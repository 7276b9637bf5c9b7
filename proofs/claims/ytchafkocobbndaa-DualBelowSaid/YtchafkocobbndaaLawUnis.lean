/- Arguments that are offers, or slices of generators of a commitment, opened. No condition. -/
import Derived.Test.YtchafkocobbndaaLawB
import Derived.Test.YtchafkocobbndaaOfferB
import Derived.Test.YtchafkocobbndaaDUnit
import Derived.Deep.Fields
namespace Go.Proofs.Ytchafkocobbndaa
open Go.ChangeShapes Go.WideShapes Go.ChangeAt Go.RowKit
set_option maxRecDepth 100000
section
variable {H : Type} {enc : TypeId × Value → H} {W : World} {base : Nat} {sp : Nat → Bool} {held : Bool}
theorem cells_Offer : Try.prog.cellsOf 31 = 2 := by kernel_rfl
theorem cells_OfferStep : Try.prog.cellsOf 45 = 2 := by kernel_rfl
theorem open_offer {r : Reach} {b0 : Nat} {v : Value} {d : DataW H} {p : List MemPlace} (hv : Value.okWide Try.prog W r b0 31 v) (h : DataW.Trod enc Try.prog W base sp held 31 v d p) :
    ∃ (nm : ByteArray) (A : Option Addr) (n c : Nat) (st : List (Int × Int)), v = vOff nm A n c ∧ nm.size ≤ 9223372036854775807 ∧ Reads W W.heap.size 2 A n (pairs st) := by
  obtain ⟨cs, rfl, hl, n, hf⟩ := open_struct_arg Try.underlying31 (by kernel_rfl) cells_Offer hv h
  obtain ⟨c0, c1, rfl⟩ := list2 hl
  obtain ⟨_, _, e0, h0⟩ := hf 0 _ rfl
  obtain ⟨_, _, e1, h1⟩ := hf 1 _ rfl
  injection e0 with e0; injection e1 with e1
  subst e0 e1
  obtain ⟨nm, rfl, hn⟩ := string_cell Try.underlying9 h0
  obtain ⟨A, k, c, st, rfl, _, _, hr⟩ := open_pairs_cells Try.underlying29 Try.underlying45 (by kernel_rfl) cells_OfferStep Try.underlying3 Try.underlying3 h1
  exact ⟨nm, A, k, c, st, rfl, hn, hr⟩
end
end Go.Proofs.Ytchafkocobbndaa
namespace Go.Proofs.Ytchafkocobbndaa
open Go.ChangeShapes Go.WideShapes Go.ChangeAt Go.RowKit Go.Deep
section
variable {H : Type} {enc : TypeId × Value → H} {W : World} {base : Nat} {sp : Nat → Bool} {held : Bool}
theorem cells_UnitRule : Try.prog.cellsOf 28 = 8 := by kernel_rfl
theorem cells_UnitState : Try.prog.cellsOf 33 = 3 := by kernel_rfl
theorem cells_CommitUnit : Try.prog.cellsOf 35 = 13 := by kernel_rfl
set_option maxRecDepth 100000 in
theorem rule_cells {n : Nat} {cs : List Value} {y : DataW H × List MemPlace} (hy : DataW.trod enc Try.prog W base sp held n 28 cs = some y) :
    ∃ R : Pl.Rule, cs = [.string R.name, .int .i64 R.least, .int .i64 R.most, .int .i64 R.up, .int .i64 R.down, .int .i64 R.minOn, .int .i64 R.minOff, .int .i64 R.start] ∧ R.name.size ≤ 9223372036854775807 := by
  obtain ⟨hl, m, hf⟩ := open_struct_cells Try.underlying28 (by kernel_rfl) hy (by rw [cells_UnitRule]; rfl)
  obtain ⟨c0, c1, c2, c3, c4, c5, c6, c7, rfl⟩ := list8 (l := cs) (by simpa using hl)
  obtain ⟨_, _, e0, h0⟩ := hf 0 _ rfl
  obtain ⟨_, _, e1, h1⟩ := hf 1 _ rfl
  obtain ⟨_, _, e2, h2⟩ := hf 2 _ rfl
  obtain ⟨_, _, e3, h3⟩ := hf 3 _ rfl
  obtain ⟨_, _, e4, h4⟩ := hf 4 _ rfl
  obtain ⟨_, _, e5, h5⟩ := hf 5 _ rfl
  obtain ⟨_, _, e6, h6⟩ := hf 6 _ rfl
  obtain ⟨_, _, e7, h7⟩ := hf 7 _ rfl
  injection e0 with e0; injection e1 with e1; injection e2 with e2; injection e3 with e3; injection e4 with e4; injection e5 with e5; injection e6 with e6; injection e7 with e7
  subst e0 e1 e2 e3 e4 e5 e6 e7
  obtain ⟨nm, rfl, hn⟩ := string_cell Try.underlying9 h0
  obtain ⟨a1, rfl, _⟩ := int_cell Try.underlying3 h1
  obtain ⟨a2, rfl, _⟩ := int_cell Try.underlying3 h2
  obtain ⟨a3, rfl, _⟩ := int_cell Try.underlying3 h3
  obtain ⟨a4, rfl, _⟩ := int_cell Try.underlying3 h4
  obtain ⟨a5, rfl, _⟩ := int_cell Try.underlying3 h5
  obtain ⟨a6, rfl, _⟩ := int_cell Try.underlying3 h6
  obtain ⟨a7, rfl, _⟩ := int_cell Try.underlying3 h7
  exact ⟨⟨nm, a1, a2, a3, a4, a5, a6, a7⟩, rfl, hn⟩
set_option maxRecDepth 100000 in
theorem state_cells {n : Nat} {cs : List Value} {y : DataW H × List MemPlace} (hy : DataW.trod enc Try.prog W base sp held n 33 cs = some y) :
    ∃ S : Pl.St, cs = [.bool S.on, .int .i64 S.since, .int .i64 S.power] := by
  obtain ⟨hl, m, hf⟩ := open_struct_cells Try.underlying33 (by kernel_rfl) hy (by rw [cells_UnitState]; rfl)
  obtain ⟨c0, c1, c2, rfl⟩ := list3 (l := cs) (by simpa using hl)
  obtain ⟨_, _, e0, h0⟩ := hf 0 _ rfl
  obtain ⟨_, _, e1, h1⟩ := hf 1 _ rfl
  obtain ⟨_, _, e2, h2⟩ := hf 2 _ rfl
  injection e0 with e0; injection e1 with e1; injection e2 with e2
  subst e0 e1 e2
  obtain ⟨b, rfl⟩ := bool_cell Try.underlying4 h0
  obtain ⟨a1, rfl, _⟩ := int_cell Try.underlying3 h1
  obtain ⟨a2, rfl, _⟩ := int_cell Try.underlying3 h2
  exact ⟨⟨b, a1, a2⟩, rfl⟩
set_option maxRecDepth 100000 in
theorem offer_cells {n : Nat} {cs : List Value} {y : DataW H × List MemPlace} (hy : DataW.trod enc Try.prog W base sp held n 31 cs = some y) :
    ∃ (nm : ByteArray) (A : Option Addr) (k c : Nat) (st : List (Int × Int)), cs = [.string nm, .slice A k c] ∧ nm.size ≤ 9223372036854775807 ∧ k ≤ c ∧ Reads W W.heap.size 2 A k (pairs st) := by
  obtain ⟨hl, m, hff⟩ := open_struct_cells Try.underlying31 (by kernel_rfl) hy (by rw [cells_Offer]; rfl)
  obtain ⟨a, b, rfl⟩ := list2 (l := cs) (by simpa using hl)
  obtain ⟨_, y0, e0, t0⟩ := hff 0 _ rfl
  obtain ⟨_, y1, e1, t1⟩ := hff 1 _ rfl
  injection e0 with e0; subst e0
  injection e1 with e1; subst e1
  obtain ⟨s, rfl, hs⟩ := string_cell Try.underlying9 t0
  obtain ⟨A, k, c, st, rfl, hkc, _, hr⟩ := open_pairs_cells Try.underlying29 Try.underlying45 (by kernel_rfl) cells_OfferStep Try.underlying3 Try.underlying3 t1
  exact ⟨s, A, k, c, st, rfl, hs, hkc, hr⟩
theorem take8 {α : Type} {a : List α} (h : a.length = 13) : a = (a.drop 0).take 8 ++ ((a.drop 8).take 2 ++ (a.drop 10).take 3) := by
  match a, h with
  | [_, _, _, _, _, _, _, _, _, _, _, _, _], _ => rfl
set_option maxRecDepth 100000 in
theorem open_uni_cells {f0 f1 f2 : Field} (he : Try.prog.underlying 35 = some (.struct #[f0, f1, f2])) (o0 : f0.offset = 0) (k0 : f0.type = 28) (o1 : f1.offset = 8) (k1 : f1.type = 31) (o2 : f2.offset = 10) (k2 : f2.type = 33) {n : Nat} {cs : List Value} {y : DataW H × List MemPlace}
    (hy : DataW.trod enc Try.prog W base sp held n 35 cs = some y) : ∃ u : MU, cs = ucells u ∧ UnIn W u := by
  obtain ⟨xs, m, _, _, hlen, hxl, hf⟩ := DataW.trod_struct he hy
  rw [cells_CommitUnit] at hlen
  have hx3 : xs.length = 3 := hxl
  have h0 := hf 0 f0 rfl
  have h1 := hf 1 f1 rfl
  have h2 := hf 2 f2 rfl
  rw [o0, k0, cells_UnitRule, List.getElem?_eq_getElem (by omega)] at h0
  rw [o1, k1, cells_Offer, List.getElem?_eq_getElem (by omega)] at h1
  rw [o2, k2, cells_UnitState, List.getElem?_eq_getElem (by omega)] at h2
  obtain ⟨R, hR, hn⟩ := rule_cells h0
  obtain ⟨nm, A, k, c, st, hO, z1, z2, z3⟩ := offer_cells h1
  obtain ⟨S, hS⟩ := state_cells h2
  refine ⟨⟨R, nm, A, k, c, st, S⟩, ?_, hn, z1, z2, z3⟩
  rw [take8 hlen, hR, hO, hS]
  rfl
set_option maxRecDepth 100000 in
theorem open_unis_arg {r : Reach} {b0 : Nat} {v : Value} {d : DataW H} {p : List MemPlace} (hv : Value.okWide Try.prog W r b0 22 v) (h : DataW.Trod enc Try.prog W base sp held 22 v d p) :
    ∃ (A : Option Addr) (n c : Nat) (l : List MU), v = .slice A n c ∧ n ≤ c ∧ c ≤ maxLen ∧ Unis W A n l := by
  obtain ⟨A, n, c, rfl⟩ := okWide_slice Try.underlying22 hv
  obtain ⟨fuel, hf⟩ := h
  obtain ⟨A, n, c, l, e, h1, h2, h3, h4⟩ := open_slice_of ucells (UnIn W) 13 (by omega) (fun _ => rfl) Try.underlying22 cells_CommitUnit (fun n cs y hy => open_uni_cells Try.underlying35 rfl rfl rfl rfl rfl rfl hy) hf
  exact ⟨A, n, c, l, e, h1, h2, h3, h4⟩
end
end Go.Proofs.Ytchafkocobbndaa
