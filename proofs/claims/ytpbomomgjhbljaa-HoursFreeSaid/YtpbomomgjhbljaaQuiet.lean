/- A region of reads and of calls that make memory, walked once in the order of the text: the class of worlds that leave the blocks of W alone. No condition. -/
import Derived.Test.YtpbomomgjhbljaaBase
namespace Go.Proofs.Ytpbomomgjhbljaa
open Go.RowKit
/-- a world that leaves the blocks of W alone -/
structure Wd (W : World) where
  val : World
  ok : Below W.heap.size W val
instance (W : World) : Nonempty (Wd W) := ⟨⟨W, Below.refl _ _⟩⟩
theorem cell_lt {W : World} {p : Addr} {v : Value} (h : W.cell? p = some v) : p.block < W.heap.size := by
  rcases Nat.lt_or_ge p.block W.heap.size with hlt | hge
  · exact hlt
  · unfold World.cell? at h
    rw [Array.getElem?_eq_none hge] at h
    cases h
theorem Wd.cell {W : World} {p : Addr} {v : Value} (h : W.cell? p = some v) : ∀ x : Wd W, x.val.cell? p = some v := fun x => by rw [x.ok.cell (cell_lt h)]; exact h
theorem wp_region_wd {P : Program} {id : Nat} {Q : Exit → Act → World → Prop} {a : Act} {w : World} {l : List Oper} (hm : P.follows .mixedOrders = true) (hB : Region.lexB .any l.toArray = true)
    (h : wpQuiet P l.toArray (fun w' => ∃ x : Wd w, w' = x.val) (fun a' => ∀ w', (∃ x : Wd w, w' = x.val) → Q .normal a' w') l a) : (Code.region id l.toArray true).wp P Q a w :=
  wp_region_quiet (C := fun w' => ∃ x : Wd w, w' = x.val) hm hB ⟨⟨w.drew, (Below.refl _ _).drew⟩, rfl⟩ (by simpa using h)
/-- a contract of a call that makes memory, met in a world of the class -/
theorem Calls.wd {P : Program} {f : FuncId} {args : Array Value} {W : World} {x : Wd W} {v : Value}
    (h : Calls P f args x.val fun e w' => e = .returned v ∧ Below x.val.heap.size x.val w') : Calls P f args x.val fun e w'' => e = .returned v ∧ ∃ y : Wd W, w'' = y.val :=
  h.mono fun _ w' ⟨he, hb⟩ => ⟨he, ⟨w', x.ok.trans (hb.mono x.ok.size)⟩, rfl⟩
end Go.Proofs.Ytpbomomgjhbljaa
