/- A region of reads and of calls that make memory, walked once in the order of the text: the class of worlds that leave the blocks of W alone. No condition. A block of integers that the call owns, told whole. No condition. -/
import Derived.Test.YtoblpcljhblnmaaGreatDoorBase
import Derived.Test.YtoblpcljhblnmaaGreatDoorSrt
namespace Go.Proofs.YtoblpcljhblnmaaGreatDoor
open Go.RowKit
/-- a world that leaves the blocks of W alone -/
structure Wd (W : World) where
  val : World
  ok : Below W.heap.size W val
instance (W : World) : Nonempty (Wd W) := ⟨⟨W, Below.refl _ _⟩⟩
theorem cell_lt {W : World} {p : Addr} {v : Value} (h : W.cell? p = some v) : p.block < W.heap.size := by
  rcases Nat.lt_or_ge p.block W.heap.size with hlt | hge
  · exact hlt
  · unfold World.cell? at h
    rw [Array.getElem?_eq_none hge] at h
    cases h
theorem Wd.cell {W : World} {p : Addr} {v : Value} (h : W.cell? p = some v) : ∀ x : Wd W, x.val.cell? p = some v := fun x => by rw [x.ok.cell (cell_lt h)]; exact h
theorem wp_region_wd {P : Program} {id : Nat} {Q : Exit → Act → World → Prop} {a : Act} {w : World} {l : List Oper} (hm : P.follows .mixedOrders = true) (hB : Region.lexB .any l.toArray = true)
    (h : wpQuiet P l.toArray (fun w' => ∃ x : Wd w, w' = x.val) (fun a' => ∀ w', (∃ x : Wd w, w' = x.val) → Q .normal a' w') l a) : (Code.region id l.toArray true).wp P Q a w :=
  wp_region_quiet (C := fun w' => ∃ x : Wd w, w' = x.val) hm hB ⟨⟨w.drew, (Below.refl _ _).drew⟩, rfl⟩ (by simpa using h)
/-- a contract of a call that makes memory, met in a world of the class -/
theorem Calls.wd {P : Program} {f : FuncId} {args : Array Value} {W : World} {x : Wd W} {v : Value}
    (h : Calls P f args x.val fun e w' => e = .returned v ∧ Below x.val.heap.size x.val w') : Calls P f args x.val fun e w'' => e = .returned v ∧ ∃ y : Wd W, w'' = y.val :=
  h.mono fun _ w' ⟨he, hb⟩ => ⟨he, ⟨w', x.ok.trans (hb.mono x.ok.size)⟩, rfl⟩
end Go.Proofs.YtoblpcljhblnmaaGreatDoor
namespace Go.Proofs.YtoblpcljhblnmaaGreatDoor
open Go.RowKit
theorem Calls.wd_same {P : Program} {f : FuncId} {args : Array Value} {W : World} {x : Wd W} {v : Value}
    (h : Calls P f args x.val fun e w' => e = .returned v ∧ x.val = w') : Calls P f args x.val fun e w'' => e = .returned v ∧ ∃ y : Wd W, w'' = y.val :=
  h.mono fun _ _ ⟨he, hb⟩ => ⟨he, x, hb.symm⟩
/-- block g is just the integers os -/
def IBlk (w : World) (g : Nat) (t : TypeId) (os : List Int) : Prop := Blk w g t (ints os).toArray
section
variable {w w' : World} {g : Nat} {t : TypeId} {os : List Int}
theorem IBlk.cell (h : IBlk w g t os) (k : Nat) (hk : k < os.length) : w.cell? ⟨g, k, none⟩ = some (.int .i64 (os.getD k 0)) := by
  rw [Blk.cell h k]
  unfold ints
  simp [hk]
theorem IBlk.set_ (h : IBlk w g t os) (k : Nat) (x : Int) : IBlk (w.setCell ⟨g, k, none⟩ (.int .i64 x)) g t (os.set k x) := by
  have := Blk.set_ h k (.int .i64 x)
  unfold IBlk
  rw [show (ints (os.set k x)).toArray = (ints os).toArray.setIfInBounds k (.int .i64 x) from by unfold ints; simp [List.map_set]]
  exact this
theorem IBlk.frozen (h : IBlk w g t os) (k : Nat) : w.frozen? ⟨g, k, none⟩ = false := Blk.frozen h k
theorem IBlk.lt (h : IBlk w g t os) : g < w.heap.size := Blk.lt h
theorem IBlk.go (h : IBlk w g t os) (hb : Below w.heap.size w w') : IBlk w' g t os := Blk.go h hb
theorem IBlk.below {B : Nat} (h : IBlk w g t os) (hb : Below B w w') (hg : g < B) : IBlk w' g t os := Blk.below h hb hg
theorem IBlk.alloc (h : IBlk w g t os) (o : Obj) : IBlk (w.alloc o) g t os := Blk.alloc h o
theorem IBlk.drew (h : IBlk w g t os) : IBlk w.drew g t os := h
theorem IBlk.far (h : IBlk w g t os) {p : Addr} (hp : g ≠ p.block) (u : Value) : IBlk (w.setCell p u) g t os := Blk.far h hp u
theorem IBlk.grown {row : Option Nat} (h : IBlk w g t os) (hb : w.grownBy w' row) (hg : some g ≠ row) : IBlk w' g t os := Blk.grown h hb hg
theorem IBlk.new_ (w : World) (g : Nat) (t : TypeId) (cs : Array Value) (hg : g = w.heap.size) (h : cs.toList = ints os) : IBlk (w.alloc (.cells cs t)) g t os := by
  have := Blk.new_ w g t cs hg
  unfold IBlk
  rw [← h]
  simpa using this
theorem IBlk.reads (h : IBlk w g t os) {n : Nat} (hn : os.length = n) : Reads w w.heap.size 1 (some ⟨g, 0, none⟩) n (ints os) := by
  refine ⟨by unfold ints; simp [hn], fun _ => ⟨_, rfl, IBlk.lt h, fun j u hu => ?_⟩⟩
  rw [Srt.addr_add, Blk.cell h j]
  simpa using hu
end
end Go.Proofs.YtoblpcljhblnmaaGreatDoor
