/- Arguments that are a relay's program, or slices of slices of texts: what they are, cell by cell. No condition. -/
import Derived.Test.YtpamgeemmbbkkaaLawRow
import Derived.Test.YtpamgeemmbbkkaaBlk15
namespace Go.Proofs.Ytpamgeemmbbkkaa
open Go.ChangeShapes Go.WideShapes Go.ChangeAt Go.RowKit Go.Deep
set_option maxRecDepth 100000
theorem listn2 {l : List Value} (h : l.length = 2) : ∃ a0 a1, l = [a0, a1] := by
  match l, h with
  | [a0, a1], _ => exact ⟨a0, a1, rfl⟩
theorem listn3 {l : List Value} (h : l.length = 3) : ∃ a0 a1 a2, l = [a0, a1, a2] := by
  match l, h with
  | [a0, a1, a2], _ => exact ⟨a0, a1, a2, rfl⟩
section
variable {H : Type} {enc : TypeId × Value → H} {W : World} {base : Nat} {sp : Nat → Bool} {held : Bool}
theorem cells_RelayNode : Try.prog.cellsOf 93 = 3 := by kernel_rfl
theorem cells_RelayRule : Try.prog.cellsOf 96 = 2 := by kernel_rfl
theorem open_RNode {n : Nat} {cs : List Value} {y : DataW H × List MemPlace} (h : DataW.trod enc Try.prog W base sp held n 93 cs = some y) : ∃ a, cs = rnC a ∧ a.name.size ≤ 9223372036854775807 := by
  obtain ⟨hl, m, hf⟩ := open_struct_cells Try.underlying93 (by kernel_rfl) h (by rw [cells_RelayNode]; rfl)
  obtain ⟨a0, a1, a2, rfl⟩ := listn3 (l := cs) (by simpa using hl)
  obtain ⟨_, y0, e0, t0⟩ := hf 0 _ rfl
  obtain ⟨_, y1, e1, t1⟩ := hf 1 _ rfl
  obtain ⟨_, y2, e2, t2⟩ := hf 2 _ rfl
  injection e0 with e0; subst e0
  injection e1 with e1; subst e1
  injection e2 with e2; subst e2
  obtain ⟨x0, rfl, _⟩ := int_cell Try.underlying3 t0
  obtain ⟨x1, rfl, z1⟩ := string_cell Try.underlying9 t1
  obtain ⟨x2, rfl, _⟩ := int_cell Try.underlying3 t2
  exact ⟨⟨x0, x1, x2⟩, rfl, z1⟩
theorem open_MRul {n : Nat} {cs : List Value} {y : DataW H × List MemPlace} (h : DataW.trod enc Try.prog W base sp held n 96 cs = some y) : ∃ a, cs = rulC a ∧ RulIn W W.heap.size a := by
  obtain ⟨hl, m, hf⟩ := open_struct_cells Try.underlying96 (by kernel_rfl) h (by rw [cells_RelayRule]; rfl)
  obtain ⟨a0, a1, rfl⟩ := listn2 (l := cs) (by simpa using hl)
  obtain ⟨_, y0, e0, t0⟩ := hf 0 _ rfl
  obtain ⟨_, y1, e1, t1⟩ := hf 1 _ rfl
  injection e0 with e0; subst e0
  injection e1 with e1; subst e1
  obtain ⟨x0, rfl, z0⟩ := string_cell Try.underlying9 t0
  obtain ⟨A, n, c, l, rfl, q1, m1, r1, z1⟩ := open_slice_of rnC (fun a => a.name.size ≤ 9223372036854775807) 3 (by omega) (fun _ => rfl) Try.underlying94 cells_RelayNode (fun n cs y h => open_RNode h) t1
  have hlen : l.length = n := by
    have h3 := r1.1
    rw [flat_length rnC 3 l (fun _ => rfl)] at h3
    omega
  have hm : maxLen = 281474976710655 ∨ maxLen ≤ 9223372036854775807 := .inr (by decide)
  exact ⟨⟨x0, A, n, c, l⟩, rfl, by show n ≤ _; omega, q1, ⟨r1, hlen⟩, z0, z1⟩
theorem open_prog_arg {r : Reach} {b0 : Nat} {v : Value} {d : DataW H} {p : List MemPlace} (hv : Value.okWide Try.prog W r b0 60 v) (h : DataW.Trod enc Try.prog W base sp held 60 v d p) :
    ∃ (A : Option Addr) (n c : Nat) (l : List MRul), v = .slice A n c ∧ n ≤ c ∧ c ≤ maxLen ∧ Ruls W W.heap.size A n l := by
  obtain ⟨A, n, c, rfl⟩ := okWide_slice Try.underlying60 hv
  obtain ⟨fuel, hf⟩ := h
  obtain ⟨A, n, c, l, e, h1, h2, h3, h4⟩ := open_slice_of rulC (RulIn W W.heap.size) 2 (by omega) (fun _ => rfl) Try.underlying60 cells_RelayRule (fun n cs y h => open_MRul h) hf
  have hlen : l.length = n := by
    have h5 := h3.1
    rw [flat_length rulC 2 l (fun _ => rfl)] at h5
    omega
  exact ⟨A, n, c, l, e, h1, h2, ⟨h3, hlen⟩, h4⟩
theorem flat_txt : ∀ l : List ByteArray, l.flatMap (fun s : ByteArray => [Value.string s]) = txts l
  | [] => rfl
  | a :: l => by rw [List.flatMap_cons, flat_txt l]; rfl
theorem open_txt1 {n : Nat} {cs : List Value} {y : DataW H × List MemPlace} (h : DataW.trod enc Try.prog W base sp held n 9 cs = some y) : ∃ a : ByteArray, cs = [.string a] ∧ a.size ≤ 9223372036854775807 := by
  obtain ⟨z, hc, _, hw⟩ := DataW.trod_string Try.underlying9 h
  exact ⟨z, hc, hw⟩
theorem open_MTx {n : Nat} {cs : List Value} {y : DataW H × List MemPlace} (h : DataW.trod enc Try.prog W base sp held n 22 cs = some y) : ∃ a, cs = txC a ∧ (a.n ≤ 9223372036854775807 ∧ a.n ≤ a.c ∧ Reads W W.heap.size 1 a.A a.n (txts a.ts)) := by
  have hv : ∃ v, cs = [v] := by
    rcases Go.Deep.open_slice Try.underlying22 h with ⟨hcs, _⟩ | ⟨a, len, cap, m, n, D, Pl, hcs, _⟩
    · exact ⟨_, hcs⟩
    · exact ⟨_, hcs⟩
  obtain ⟨v, rfl⟩ := hv
  obtain ⟨A, n, c, l, rfl, h2, h3, h4, h5⟩ := open_slice_of (fun s : ByteArray => [Value.string s]) (fun a => a.size ≤ 9223372036854775807) 1 (by omega) (fun _ => rfl) Try.underlying22 (by kernel_rfl) (fun n cs y h => open_txt1 h) h
  rw [flat_txt] at h4
  have hm : maxLen ≤ 9223372036854775807 := by decide
  exact ⟨⟨A, n, c, l⟩, rfl, by show n ≤ _; omega, h2, h4⟩
theorem open_tgrid_arg {r : Reach} {b0 : Nat} {v : Value} {d : DataW H} {p : List MemPlace} (hv : Value.okWide Try.prog W r b0 61 v) (h : DataW.Trod enc Try.prog W base sp held 61 v d p) :
    ∃ (A : Option Addr) (n c : Nat) (l : List MTx), v = .slice A n c ∧ n ≤ c ∧ c ≤ maxLen ∧ TGrid W W.heap.size A n l := by
  obtain ⟨A, n, c, rfl⟩ := okWide_slice Try.underlying61 hv
  obtain ⟨fuel, hf⟩ := h
  obtain ⟨A, n, c, l, e, h1, h2, h3, h4⟩ := open_slice_of txC (fun a => a.n ≤ 9223372036854775807 ∧ a.n ≤ a.c ∧ Reads W W.heap.size 1 a.A a.n (txts a.ts)) 1 (by omega) (fun _ => rfl) Try.underlying61 (by kernel_rfl) (fun n cs y h => open_MTx h) hf
  have hlen : l.length = n := by
    have h5 := h3.1
    rw [flat_length txC 1 l (fun _ => rfl)] at h5
    omega
  exact ⟨A, n, c, l, e, h1, h2, ⟨h3, hlen⟩, h4⟩
end
end Go.Proofs.Ytpamgeemmbbkkaa
