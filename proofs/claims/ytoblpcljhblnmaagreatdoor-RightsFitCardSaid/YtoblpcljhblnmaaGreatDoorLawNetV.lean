/- An argument that is a network, a right, rights: what it is, cell by cell. No condition. -/
import Derived.Test.YtoblpcljhblnmaaGreatDoorLawRow
import Derived.Test.YtoblpcljhblnmaaGreatDoorRights
namespace Go.Proofs.YtoblpcljhblnmaaGreatDoor
open Go.ChangeShapes Go.WideShapes Go.ChangeAt Go.RowKit Go.Deep
set_option maxRecDepth 100000
theorem listn3 {l : List Value} (h : l.length = 3) : ∃ a0 a1 a2, l = [a0, a1, a2] := by
  match l, h with
  | [a0, a1, a2], _ => exact ⟨a0, a1, a2, rfl⟩
theorem listn5 {l : List Value} (h : l.length = 5) : ∃ a0 a1 a2 a3 a4, l = [a0, a1, a2, a3, a4] := by
  match l, h with
  | [a0, a1, a2, a3, a4], _ => exact ⟨a0, a1, a2, a3, a4, rfl⟩
theorem listn6 {l : List Value} (h : l.length = 6) : ∃ a0 a1 a2 a3 a4 a5, l = [a0, a1, a2, a3, a4, a5] := by
  match l, h with
  | [a0, a1, a2, a3, a4, a5], _ => exact ⟨a0, a1, a2, a3, a4, a5, rfl⟩
theorem listn9 {l : List Value} (h : l.length = 9) : ∃ a0 a1 a2 a3 a4 a5 a6 a7 a8, l = [a0, a1, a2, a3, a4, a5, a6, a7, a8] := by
  match l, h with
  | [a0, a1, a2, a3, a4, a5, a6, a7, a8], _ => exact ⟨a0, a1, a2, a3, a4, a5, a6, a7, a8, rfl⟩
section
variable {H : Type} {enc : TypeId × Value → H} {W : World} {base : Nat} {sp : Nat → Bool} {held : Bool}
theorem cells_Switch : Tryz.prog.cellsOf 189 = 5 := by kernel_rfl
def SwitchIn (s : Pl.Swi) : Prop := s.name.size ≤ 9223372036854775807 ∧ s.a.size ≤ 9223372036854775807 ∧ s.b.size ≤ 9223372036854775807
theorem open_Switch {n : Nat} {cs : List Value} {y : DataW H × List MemPlace} (h : DataW.trod enc Tryz.prog W base sp held n 189 cs = some y) : ∃ a, cs = swiC a ∧ SwitchIn a := by
  obtain ⟨hl, m, hf⟩ := open_struct_cells Tryz.underlying189 (by kernel_rfl) h (by rw [cells_Switch]; rfl)
  obtain ⟨a0, a1, a2, a3, a4, rfl⟩ := listn5 (l := cs) (by simpa using hl)
  obtain ⟨_, y0, e0, t0⟩ := hf 0 _ rfl
  obtain ⟨_, y1, e1, t1⟩ := hf 1 _ rfl
  obtain ⟨_, y2, e2, t2⟩ := hf 2 _ rfl
  obtain ⟨_, y3, e3, t3⟩ := hf 3 _ rfl
  obtain ⟨_, y4, e4, t4⟩ := hf 4 _ rfl
  injection e0 with e0; subst e0
  injection e1 with e1; subst e1
  injection e2 with e2; subst e2
  injection e3 with e3; subst e3
  injection e4 with e4; subst e4
  obtain ⟨x0, rfl, z0⟩ := string_cell Tryz.underlying9 t0
  obtain ⟨x1, rfl, z1⟩ := string_cell Tryz.underlying9 t1
  obtain ⟨x2, rfl, z2⟩ := string_cell Tryz.underlying9 t2
  obtain ⟨x3, rfl⟩ := bool_cell Tryz.underlying4 t3
  obtain ⟨x4, rfl⟩ := bool_cell Tryz.underlying4 t4
  exact ⟨⟨x0, x1, x2, x3, x4⟩, rfl, z0, z1, z2⟩
theorem cells_Branch : Tryz.prog.cellsOf 53 = 9 := by kernel_rfl
def BranchIn (s : Pl.Bra) : Prop := s.name.size ≤ 9223372036854775807 ∧ s.from_.size ≤ 9223372036854775807 ∧ s.to_.size ≤ 9223372036854775807
theorem open_Branch {n : Nat} {cs : List Value} {y : DataW H × List MemPlace} (h : DataW.trod enc Tryz.prog W base sp held n 53 cs = some y) : ∃ a, cs = braC a ∧ BranchIn a := by
  obtain ⟨hl, m, hf⟩ := open_struct_cells Tryz.underlying53 (by kernel_rfl) h (by rw [cells_Branch]; rfl)
  obtain ⟨a0, a1, a2, a3, a4, a5, a6, a7, a8, rfl⟩ := listn9 (l := cs) (by simpa using hl)
  obtain ⟨_, y0, e0, t0⟩ := hf 0 _ rfl
  obtain ⟨_, y1, e1, t1⟩ := hf 1 _ rfl
  obtain ⟨_, y2, e2, t2⟩ := hf 2 _ rfl
  obtain ⟨_, y3, e3, t3⟩ := hf 3 _ rfl
  obtain ⟨_, y4, e4, t4⟩ := hf 4 _ rfl
  obtain ⟨_, y5, e5, t5⟩ := hf 5 _ rfl
  obtain ⟨_, y6, e6, t6⟩ := hf 6 _ rfl
  obtain ⟨_, y7, e7, t7⟩ := hf 7 _ rfl
  obtain ⟨_, y8, e8, t8⟩ := hf 8 _ rfl
  injection e0 with e0; subst e0
  injection e1 with e1; subst e1
  injection e2 with e2; subst e2
  injection e3 with e3; subst e3
  injection e4 with e4; subst e4
  injection e5 with e5; subst e5
  injection e6 with e6; subst e6
  injection e7 with e7; subst e7
  injection e8 with e8; subst e8
  obtain ⟨x0, rfl, z0⟩ := string_cell Tryz.underlying9 t0
  obtain ⟨x1, rfl, z1⟩ := string_cell Tryz.underlying9 t1
  obtain ⟨x2, rfl, z2⟩ := string_cell Tryz.underlying9 t2
  obtain ⟨x3, rfl, _⟩ := int_cell Tryz.underlying3 t3
  obtain ⟨x4, rfl, _⟩ := int_cell Tryz.underlying3 t4
  obtain ⟨x5, rfl, _⟩ := int_cell Tryz.underlying3 t5
  obtain ⟨x6, rfl, _⟩ := int_cell Tryz.underlying3 t6
  obtain ⟨x7, rfl, _⟩ := int_cell Tryz.underlying3 t7
  obtain ⟨x8, rfl, _⟩ := int_cell Tryz.underlying3 t8
  exact ⟨⟨x0, x1, x2, x3, x4, x5, x6, x7, x8⟩, rfl, z0, z1, z2⟩
theorem cells_Gen : Tryz.prog.cellsOf 64 = 5 := by kernel_rfl
def GenIn (s : Pl.Gen) : Prop := s.name.size ≤ 9223372036854775807 ∧ s.node.size ≤ 9223372036854775807
theorem open_Gen {n : Nat} {cs : List Value} {y : DataW H × List MemPlace} (h : DataW.trod enc Tryz.prog W base sp held n 64 cs = some y) : ∃ a, cs = genC a ∧ GenIn a := by
  obtain ⟨hl, m, hf⟩ := open_struct_cells Tryz.underlying64 (by kernel_rfl) h (by rw [cells_Gen]; rfl)
  obtain ⟨a0, a1, a2, a3, a4, rfl⟩ := listn5 (l := cs) (by simpa using hl)
  obtain ⟨_, y0, e0, t0⟩ := hf 0 _ rfl
  obtain ⟨_, y1, e1, t1⟩ := hf 1 _ rfl
  obtain ⟨_, y2, e2, t2⟩ := hf 2 _ rfl
  obtain ⟨_, y3, e3, t3⟩ := hf 3 _ rfl
  obtain ⟨_, y4, e4, t4⟩ := hf 4 _ rfl
  injection e0 with e0; subst e0
  injection e1 with e1; subst e1
  injection e2 with e2; subst e2
  injection e3 with e3; subst e3
  injection e4 with e4; subst e4
  obtain ⟨x0, rfl, z0⟩ := string_cell Tryz.underlying9 t0
  obtain ⟨x1, rfl, z1⟩ := string_cell Tryz.underlying9 t1
  obtain ⟨x2, rfl, _⟩ := int_cell Tryz.underlying3 t2
  obtain ⟨x3, rfl, _⟩ := int_cell Tryz.underlying3 t3
  obtain ⟨x4, rfl, _⟩ := int_cell Tryz.underlying3 t4
  exact ⟨⟨x0, x1, x2, x3, x4⟩, rfl, z0, z1⟩
theorem cells_Load : Tryz.prog.cellsOf 67 = 3 := by kernel_rfl
def LoadIn (s : Pl.Loa) : Prop := s.name.size ≤ 9223372036854775807 ∧ s.node.size ≤ 9223372036854775807
theorem open_Load {n : Nat} {cs : List Value} {y : DataW H × List MemPlace} (h : DataW.trod enc Tryz.prog W base sp held n 67 cs = some y) : ∃ a, cs = loaC a ∧ LoadIn a := by
  obtain ⟨hl, m, hf⟩ := open_struct_cells Tryz.underlying67 (by kernel_rfl) h (by rw [cells_Load]; rfl)
  obtain ⟨a0, a1, a2, rfl⟩ := listn3 (l := cs) (by simpa using hl)
  obtain ⟨_, y0, e0, t0⟩ := hf 0 _ rfl
  obtain ⟨_, y1, e1, t1⟩ := hf 1 _ rfl
  obtain ⟨_, y2, e2, t2⟩ := hf 2 _ rfl
  injection e0 with e0; subst e0
  injection e1 with e1; subst e1
  injection e2 with e2; subst e2
  obtain ⟨x0, rfl, z0⟩ := string_cell Tryz.underlying9 t0
  obtain ⟨x1, rfl, z1⟩ := string_cell Tryz.underlying9 t1
  obtain ⟨x2, rfl, _⟩ := int_cell Tryz.underlying3 t2
  exact ⟨⟨x0, x1, x2⟩, rfl, z0, z1⟩
theorem cells_Store : Tryz.prog.cellsOf 245 = 5 := by kernel_rfl
def StoreIn (s : Pl.Sto) : Prop := s.name.size ≤ 9223372036854775807 ∧ s.node.size ≤ 9223372036854775807
theorem open_Store {n : Nat} {cs : List Value} {y : DataW H × List MemPlace} (h : DataW.trod enc Tryz.prog W base sp held n 245 cs = some y) : ∃ a, cs = stoC a ∧ StoreIn a := by
  obtain ⟨hl, m, hf⟩ := open_struct_cells Tryz.underlying245 (by kernel_rfl) h (by rw [cells_Store]; rfl)
  obtain ⟨a0, a1, a2, a3, a4, rfl⟩ := listn5 (l := cs) (by simpa using hl)
  obtain ⟨_, y0, e0, t0⟩ := hf 0 _ rfl
  obtain ⟨_, y1, e1, t1⟩ := hf 1 _ rfl
  obtain ⟨_, y2, e2, t2⟩ := hf 2 _ rfl
  obtain ⟨_, y3, e3, t3⟩ := hf 3 _ rfl
  obtain ⟨_, y4, e4, t4⟩ := hf 4 _ rfl
  injection e0 with e0; subst e0
  injection e1 with e1; subst e1
  injection e2 with e2; subst e2
  injection e3 with e3; subst e3
  injection e4 with e4; subst e4
  obtain ⟨x0, rfl, z0⟩ := string_cell Tryz.underlying9 t0
  obtain ⟨x1, rfl, z1⟩ := string_cell Tryz.underlying9 t1
  obtain ⟨x2, rfl, _⟩ := int_cell Tryz.underlying3 t2
  obtain ⟨x3, rfl, _⟩ := int_cell Tryz.underlying3 t3
  obtain ⟨x4, rfl, _⟩ := int_cell Tryz.underlying3 t4
  exact ⟨⟨x0, x1, x2, x3, x4⟩, rfl, z0, z1⟩
theorem flat_txt : ∀ l : List ByteArray, l.flatMap (fun s : ByteArray => [Value.string s]) = txts l
  | [] => rfl
  | a :: l => by rw [List.flatMap_cons, flat_txt l]; rfl
theorem open_txt1 {n : Nat} {cs : List Value} {y : DataW H × List MemPlace} (h : DataW.trod enc Tryz.prog W base sp held n 9 cs = some y) : ∃ a : ByteArray, cs = [.string a] ∧ a.size ≤ 9223372036854775807 := by
  obtain ⟨z, hc, _, hw⟩ := DataW.trod_string Tryz.underlying9 h
  exact ⟨z, hc, hw⟩
theorem open_txts_cells {fuel : Nat} {v : Value} {x : DataW H × List MemPlace} (h : DataW.trod enc Tryz.prog W base sp held fuel 22 [v] = some x) :
    ∃ (A : Option Addr) (n c : Nat) (l : List ByteArray), v = .slice A n c ∧ n ≤ c ∧ c ≤ maxLen ∧ Reads W W.heap.size 1 A n (txts l) ∧ ∀ a ∈ l, a.size ≤ 9223372036854775807 := by
  obtain ⟨A, n, c, l, h1, h2, h3, h4, h5⟩ := open_slice_of (fun s : ByteArray => [Value.string s]) (fun a => a.size ≤ 9223372036854775807) 1 (by omega) (fun _ => rfl) Tryz.underlying22 (by kernel_rfl) (fun n cs y h => open_txt1 h) h
  refine ⟨A, n, c, l, h1, h2, h3, ?_, h5⟩
  rw [← flat_txt]; exact h4
theorem cells_Network : Tryz.prog.cellsOf 29 = 6 := by kernel_rfl
theorem open_net {r : Reach} {b0 : Nat} {v : Value} {d : DataW H} {p : List MemPlace} (hv : Value.okWide Tryz.prog W r b0 29 v) (h : DataW.Trod enc Tryz.prog W base sp held 29 v d p) :
    ∃ M : MNet, v = vNet M ∧ NetIn W W.heap.size M := by
  obtain ⟨cs, rfl, hl, n, hf⟩ := open_struct_arg Tryz.underlying29 (by kernel_rfl) cells_Network hv h
  obtain ⟨c0, c1, c2, c3, c4, c5, rfl⟩ := listn6 hl
  obtain ⟨_, _, e0, h0⟩ := hf 0 _ rfl
  obtain ⟨_, _, e1, h1⟩ := hf 1 _ rfl
  obtain ⟨_, _, e2, h2⟩ := hf 2 _ rfl
  obtain ⟨_, _, e3, h3⟩ := hf 3 _ rfl
  obtain ⟨_, _, e4, h4⟩ := hf 4 _ rfl
  obtain ⟨_, _, e5, h5⟩ := hf 5 _ rfl
  injection e0 with e0; injection e1 with e1; injection e2 with e2; injection e3 with e3; injection e4 with e4; injection e5 with e5
  subst e0 e1 e2 e3 e4 e5
  obtain ⟨A0, n0, c0, l0, rfl, q0, m0, r0, z0⟩ := open_txts_cells h0
  obtain ⟨A1, n1, c1, l1, rfl, q1, m1, r1, z1⟩ := open_slice_of swiC SwitchIn 5 (by omega) (fun _ => rfl) Tryz.underlying23 cells_Switch (fun n cs y h => open_Switch h) h1
  obtain ⟨A2, n2, c2, l2, rfl, q2, m2, r2, z2⟩ := open_slice_of braC BranchIn 9 (by omega) (fun _ => rfl) Tryz.underlying24 cells_Branch (fun n cs y h => open_Branch h) h2
  obtain ⟨A3, n3, c3, l3, rfl, q3, m3, r3, z3⟩ := open_slice_of genC GenIn 5 (by omega) (fun _ => rfl) Tryz.underlying25 cells_Gen (fun n cs y h => open_Gen h) h3
  obtain ⟨A4, n4, c4, l4, rfl, q4, m4, r4, z4⟩ := open_slice_of loaC LoadIn 3 (by omega) (fun _ => rfl) Tryz.underlying26 cells_Load (fun n cs y h => open_Load h) h4
  obtain ⟨A5, n5, c5, l5, rfl, q5, m5, r5, z5⟩ := open_slice_of stoC StoreIn 5 (by omega) (fun _ => rfl) Tryz.underlying27 cells_Store (fun n cs y h => open_Store h) h5
  have len : ∀ {α : Type} (dec : α → List Value) (size : Nat) (hs : 0 < size) (hd : ∀ a, (dec a).length = size) {B : Nat} {A : Option Addr} {n : Nat} {l : List α}, Reads W B size A n (l.flatMap dec) → l.length = n := by
    intro α dec size hs hd B A n l hr
    have h1 := hr.1
    have h2 : (l.flatMap dec).length = l.length * size := by
      clear hr h1
      induction l with
      | nil => simp
      | cons a l ih => rw [List.flatMap_cons, List.length_append, hd, ih, List.length_cons, Nat.add_mul]; omega
    rw [h2] at h1
    exact Nat.eq_of_mul_eq_mul_right hs h1
  unfold maxLen at m0 m1 m2 m3 m4 m5
  refine ⟨⟨⟨l0, l1, l2, l3, l4, l5⟩, A0, n0, c0, A1, n1, c1, A2, n2, c2, A3, n3, c3, A4, n4, c4, A5, n5, c5⟩, rfl, ⟨r0, ⟨r1, len swiC 5 (by omega) (fun _ => rfl) r1⟩, ⟨r2, len braC 9 (by omega) (fun _ => rfl) r2⟩, ⟨r3, len genC 5 (by omega) (fun _ => rfl) r3⟩, ⟨r4, len loaC 3 (by omega) (fun _ => rfl) r4⟩, ⟨r5, len stoC 5 (by omega) (fun _ => rfl) r5⟩, Nat.le_trans q0 m0, Nat.le_trans q1 m1, Nat.le_trans q2 m2, Nat.le_trans q3 m3, Nat.le_trans q4 m4, Nat.le_trans q5 m5, ⟨fun d hd => ?_⟩⟩⟩
  unfold Pl.allDevs Pl.ends at hd
  simp only [List.mem_append, List.mem_map] at hd
  unfold maxLen
  rcases hd with ⟨s, hs, rfl⟩ | ⟨s, hs, rfl⟩ | ⟨s, hs, rfl⟩ | ⟨s, hs, rfl⟩ | ⟨s, hs, rfl⟩ | ⟨s, hs, rfl⟩
  · exact ⟨z0 s hs, fun x hx => by simp [Pl.dNode] at hx⟩
  · exact ⟨(z1 s hs).1, fun x hx => by simp [Pl.dSwi] at hx; rcases hx with rfl | rfl; exact (z1 s hs).2.1; exact (z1 s hs).2.2⟩
  · exact ⟨(z2 s hs).1, fun x hx => by simp [Pl.dBra] at hx; rcases hx with rfl | rfl; exact (z2 s hs).2.1; exact (z2 s hs).2.2⟩
  · exact ⟨(z3 s hs).1, fun x hx => by simp [Pl.dGen] at hx; subst hx; exact (z3 s hs).2⟩
  · exact ⟨(z4 s hs).1, fun x hx => by simp [Pl.dLoa] at hx; subst hx; exact (z4 s hs).2⟩
  · exact ⟨(z5 s hs).1, fun x hx => by simp [Pl.dSto] at hx; subst hx; exact (z5 s hs).2⟩
theorem cells_Item : Tryz.prog.cellsOf 31 = 3 := by kernel_rfl
def ItemIn (s : Pl.RI) : Prop := s.from_.size ≤ 9223372036854775807 ∧ s.to_.size ≤ 9223372036854775807
theorem open_Item {n : Nat} {cs : List Value} {y : DataW H × List MemPlace} (h : DataW.trod enc Tryz.prog W base sp held n 31 cs = some y) : ∃ a, cs = riC a ∧ ItemIn a := by
  obtain ⟨hl, m, hf⟩ := open_struct_cells Tryz.underlying31 (by kernel_rfl) h (by rw [cells_Item]; rfl)
  obtain ⟨a0, a1, a2, rfl⟩ := listn3 (l := cs) (by simpa using hl)
  obtain ⟨_, y0, e0, t0⟩ := hf 0 _ rfl
  obtain ⟨_, y1, e1, t1⟩ := hf 1 _ rfl
  obtain ⟨_, y2, e2, t2⟩ := hf 2 _ rfl
  injection e0 with e0; subst e0
  injection e1 with e1; subst e1
  injection e2 with e2; subst e2
  obtain ⟨x0, rfl, z0⟩ := string_cell Tryz.underlying9 t0
  obtain ⟨x1, rfl, z1⟩ := string_cell Tryz.underlying9 t1
  obtain ⟨x2, rfl, q2⟩ := int_cell Tryz.underlying3 t2
  exact ⟨⟨x0, x1, x2⟩, rfl, z0, z1⟩
theorem open_rights {r : Reach} {b0 : Nat} {v : Value} {d : DataW H} {p : List MemPlace} (hv : Value.okWide Tryz.prog W r b0 40 v) (h : DataW.Trod enc Tryz.prog W base sp held 40 v d p) :
    ∃ (A : Option Addr) (n c : Nat) (l : List Pl.RI), v = .slice A n c ∧ n ≤ c ∧ c ≤ maxLen ∧ Elems riC 3 W W.heap.size A n l := by
  obtain ⟨A, n, c, rfl⟩ := okWide_slice Tryz.underlying40 hv
  obtain ⟨fuel, hf⟩ := h
  obtain ⟨A', n', c', l, h1, h2, h3, h4, h5⟩ := open_slice_of riC ItemIn 3 (by omega) (fun _ => rfl) Tryz.underlying40 cells_Item (fun n cs y h => open_Item h) hf
  refine ⟨A', n', c', l, h1, h2, h3, h4, ?_⟩
  have e1 := h4.1
  have e2 : (l.flatMap riC).length = l.length * 3 := by
    clear h1 h4 e1 h5
    induction l with
    | nil => simp
    | cons a l ih => rw [List.flatMap_cons, List.length_append, ih, List.length_cons, Nat.add_mul]; show 3 + _ = _; omega
  rw [e2] at e1
  omega
end
end Go.Proofs.YtoblpcljhblnmaaGreatDoor
