/- Networks in memory: what an argument of type api.Network is, cell by cell. No condition. -/
import Derived.Test.YtoblpcljhblnmaaGreatDoorShTxt
namespace Go.Proofs.YtoblpcljhblnmaaGreatDoor
open Go.RowKit
def swiC (s : Pl.Swi) : List Value := [.string s.name, .string s.a, .string s.b, .bool s.breaker, .bool s.opened]
def braC (b : Pl.Bra) : List Value := [.string b.name, .string b.from_, .string b.to_, .int .i64 b.x, .int .i64 b.tap, .int .i64 b.shift, .int .i64 b.limit, .int .i64 b.short, .int .i64 b.hold]
def genC (g : Pl.Gen) : List Value := [.string g.name, .string g.node, .int .i64 g.least, .int .i64 g.most, .int .i64 g.ramp]
def loaC (l : Pl.Loa) : List Value := [.string l.name, .string l.node, .int .i64 l.demand]
def stoC (s : Pl.Sto) : List Value := [.string s.name, .string s.node, .int .i64 s.charge, .int .i64 s.discharge, .int .i64 s.capacity]
/-- a row of structs in memory: elements of 'size' cells -/
def Elems {α : Type} (dec : α → List Value) (size : Nat) (w : World) (B : Nat) (A : Option Addr) (n : Nat) (l : List α) : Prop := Reads w B size A n (l.flatMap dec) ∧ l.length = n
section
variable {α : Type} {dec : α → List Value} {size : Nat} {w w' : World} {B : Nat} {A : Option Addr} {n : Nat} {l : List α}
theorem flat_at (dec : α → List Value) (size : Nat) (hd : ∀ a, (dec a).length = size) (l : List α) (k : Nat) (hk : k < l.length) (j : Nat) (hj : j < size) : (l.flatMap dec)[k * size + j]? = (dec l[k])[j]? := by
  induction l generalizing k with
  | nil => simp at hk
  | cons p l ih =>
    rw [List.flatMap_cons]
    cases k with
    | zero =>
      rw [List.getElem?_append_left (by rw [hd]; omega)]
      simp
    | succ k =>
      rw [List.getElem?_append_right (by rw [hd, Nat.add_mul]; omega)]
      rw [show (k + 1) * size + j - (dec p).length = k * size + j by rw [hd, Nat.add_mul]; omega]
      exact ih k (by simpa using hk)
theorem Elems.below (h : Elems dec size w B A n l) (hb : Below B w w') : Elems dec size w' B A n l := ⟨h.1.below hb, h.2⟩
theorem Elems.more {B' : Nat} (h : Elems dec size w B A n l) (hb : B ≤ B') : Elems dec size w B' A n l := ⟨h.1.more hb, h.2⟩
theorem Elems.at_ (hd : ∀ a, (dec a).length = size) (hs : 0 < size) (h : Elems dec size w B A n l) {k : Nat} (hk : k < n) :
    ∃ b o, A = some ⟨b, o, none⟩ ∧ b < B ∧ ∃ hl : k < l.length, ∀ j, j < size → w.cell? ⟨b, o + k * size + j, none⟩ = (dec (l[k]'hl))[j]? := by
  obtain ⟨b, o, rfl, hb, hc⟩ := h.1.where_ (by omega) hs
  have hl : k < l.length := by have := h.2; omega
  refine ⟨b, o, rfl, hb, hl, fun j hj => ?_⟩
  have e := flat_at dec size hd l k hl j hj
  have hv : (dec l[k])[j]? = some ((dec l[k])[j]'(by rw [hd]; exact hj)) := List.getElem?_eq_getElem (by rw [hd]; exact hj)
  rw [hv] at e ⊢
  have := hc _ _ e
  rwa [← Nat.add_assoc] at this
end
/-- a network as a value: six slices -/
structure MNet where
  N : Pl.Net
  A0 : Option Addr
  n0 : Nat
  c0 : Nat
  A1 : Option Addr
  n1 : Nat
  c1 : Nat
  A2 : Option Addr
  n2 : Nat
  c2 : Nat
  A3 : Option Addr
  n3 : Nat
  c3 : Nat
  A4 : Option Addr
  n4 : Nat
  c4 : Nat
  A5 : Option Addr
  n5 : Nat
  c5 : Nat
def netC (M : MNet) : Array Value := #[.slice M.A0 M.n0 M.c0, .slice M.A1 M.n1 M.c1, .slice M.A2 M.n2 M.c2, .slice M.A3 M.n3 M.c3, .slice M.A4 M.n4 M.c4, .slice M.A5 M.n5 M.c5]
def vNet (M : MNet) : Value := .agg (netC M)
/-- all names in it are of a size that a string can have, the numbers are ints -/
structure NetSz (N : Pl.Net) : Prop where
  names : ∀ d ∈ Pl.allDevs N, d.name.size ≤ maxLen ∧ ∀ s ∈ d.at_, s.size ≤ maxLen
structure NetIn (w : World) (B : Nat) (M : MNet) : Prop where
  r0 : Reads w B 1 M.A0 M.n0 (txts M.N.nodes)
  r1 : Elems swiC 5 w B M.A1 M.n1 M.N.switches
  r2 : Elems braC 9 w B M.A2 M.n2 M.N.branches
  r3 : Elems genC 5 w B M.A3 M.n3 M.N.gens
  r4 : Elems loaC 3 w B M.A4 M.n4 M.N.loads
  r5 : Elems stoC 5 w B M.A5 M.n5 M.N.stores
  z0 : M.n0 ≤ 9223372036854775807
  z1 : M.n1 ≤ 9223372036854775807
  z2 : M.n2 ≤ 9223372036854775807
  z3 : M.n3 ≤ 9223372036854775807
  z4 : M.n4 ≤ 9223372036854775807
  z5 : M.n5 ≤ 9223372036854775807
  sz : NetSz M.N
theorem NetIn.below {w w' : World} {B : Nat} {M : MNet} (h : NetIn w B M) (hb : Below B w w') : NetIn w' B M :=
  ⟨h.r0.below hb, h.r1.below hb, h.r2.below hb, h.r3.below hb, h.r4.below hb, h.r5.below hb, h.z0, h.z1, h.z2, h.z3, h.z4, h.z5, h.sz⟩
theorem NetIn.more {w : World} {B B' : Nat} {M : MNet} (h : NetIn w B M) (hb : B ≤ B') : NetIn w B' M :=
  ⟨h.r0.more hb, h.r1.more hb, h.r2.more hb, h.r3.more hb, h.r4.more hb, h.r5.more hb, h.z0, h.z1, h.z2, h.z3, h.z4, h.z5, h.sz⟩
/-- the form of all contracts: below the heap's end -/
theorem NetIn.go {w w' : World} {M : MNet} (h : NetIn w w.heap.size M) (hb : Below w.heap.size w w') : NetIn w' w'.heap.size M := (h.below hb).more hb.size
end Go.Proofs.YtoblpcljhblnmaaGreatDoor
