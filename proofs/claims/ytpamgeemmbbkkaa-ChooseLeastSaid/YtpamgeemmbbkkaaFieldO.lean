/- A field of package choose that a call owns: its edges in a row of its own, its sources in a block of their own. No condition. -/
import Derived.Test.YtpamgeemmbbkkaaField
import Derived.Test.YtpamgeemmbbkkaaPAug
import Derived.Test.YtpamgeemmbbkkaaSrt
namespace Go.Proofs.Ytpamgeemmbbkkaa
open Go.RowKit
set_option maxRecDepth 100000
theorem info_bool2 : (Try.prog.info? 4).map (fun i => (i.zero, i.size, i.bytes)) = some (some (.bool false), 1, 1) := by kernel_rfl
/-- a field of the call's own: from block B on -/
def FieldOwn (w : World) (B g : Nat) (E : List Pl.Edg) (src : List Bool) (place : Int) (n : Nat) : Prop :=
  ∃ (Ae : Option Addr) (gs ne ce : Nat), Blk w g 130 #[.slice Ae ne ce, .int .i64 place, .slice (some ⟨gs, 0, none⟩) n n, .int .i64 n] ∧ w.ownsRow (g + 1) 132 5 (.slice Ae ne ce) ne (E.flatMap edgC) ∧ E.length = ne ∧ Blk w gs 4 (bools src).toArray ∧ some gs ≠ (Value.slice Ae ne ce).ownBlock ∧ g < gs ∧ src.length = n ∧ B ≤ g
theorem bblk_reads {w : World} {g : Nat} {t : TypeId} {src : List Bool} (h : Blk w g t (bools src).toArray) {n : Nat} (hn : src.length = n) : Reads w w.heap.size 1 (some ⟨g, 0, none⟩) n (bools src) := by
  refine ⟨by unfold bools; simp [hn], fun _ => ⟨_, rfl, Blk.lt h, fun j u hu => ?_⟩⟩
  rw [Srt.addr_add, Blk.cell h j]
  simpa using hu
theorem FieldOwn.in_ {w : World} {B g n : Nat} {E : List Pl.Edg} {src : List Bool} {place : Int} (h : FieldOwn w B g E src place n) (hn : n ≤ 1000) (hE : E.length ≤ 1000) (hf : ∀ e ∈ E, -1000000 ≤ e.flow ∧ e.flow ≤ 1000000) : FieldIn w w.heap.size g E src place n := by
  obtain ⟨Ae, gs, ne, ce, h1, h2, h3, h4, h5, h6, h7, h8⟩ := h
  exact ⟨⟨Ae, _, ne, ce, n, h1, ⟨Reads.of_own h2, h3⟩, bblk_reads h4 h7⟩, h1.lt, hE, hn, hf⟩
theorem FieldOwn.go {w w' : World} {B g n : Nat} {E : List Pl.Edg} {src : List Bool} {place : Int} (h : FieldOwn w B g E src place n) (hb : Below w.heap.size w w') : FieldOwn w' B g E src place n := by
  obtain ⟨Ae, gs, ne, ce, h1, h2, h3, h4, h5, h6, h7, h8⟩ := h
  exact ⟨Ae, gs, ne, ce, h1.go hb, own_go h2 hb, h3, h4.go hb, h5, h6, h7, h8⟩
end Go.Proofs.Ytpamgeemmbbkkaa
