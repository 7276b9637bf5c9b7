/- Slices of convex functions that a call owns, their pieces in blocks of their own. No condition. -/
import Derived.Test.YtchafkocobbndaaBaseC
import Derived.Test.YtchafkocobbndaaPStor
namespace Go.Proofs.Ytchafkocobbndaa
open Go.RowKit
/-- a convex function as memory holds it -/
structure MCx where
  lo : Int
  va : Int
  A : Option Addr
  c : Nat
  st : List (Int × Int)
def MCx.cx (o : MCx) : Pl.Cx := (o.lo, o.va, o.st)
def mcxs (l : List MCx) : List Value := l.flatMap fun o => [.int .i64 o.lo, .int .i64 o.va, .slice o.A o.st.length o.c]
theorem mcxs_length (l : List MCx) : (mcxs l).length = l.length * 3 := by
  induction l with
  | nil => rfl
  | cons p l ih => simp [mcxs] at ih ⊢; omega
theorem mcxs_snoc (l : List MCx) (o : MCx) : mcxs (l ++ [o]) = mcxs l ++ [.int .i64 o.lo, .int .i64 o.va, .slice o.A o.st.length o.c] := by simp [mcxs]
theorem mcxs_at (l : List MCx) (k : Nat) (hk : k < l.length) : (mcxs l)[k * 3]? = some (.int .i64 l[k].lo) ∧ (mcxs l)[k * 3 + 1]? = some (.int .i64 l[k].va) ∧ (mcxs l)[k * 3 + 2]? = some (.slice l[k].A l[k].st.length l[k].c) := by
  induction l generalizing k with
  | nil => simp at hk
  | cons p l ih =>
    cases k with
    | zero => exact ⟨rfl, rfl, rfl⟩
    | succ k =>
      have := ih k (by simpa using hk)
      rw [show (k + 1) * 3 = k * 3 + 3 from by omega]
      simpa [mcxs] using this
theorem mcxs_one (l : List MCx) : ∀ u ∈ mcxs l, u.oneCell' = true := by
  intro u hu
  unfold mcxs at hu
  obtain ⟨o, _, h⟩ := List.mem_flatMap.1 hu
  simp at h
  rcases h with rfl | rfl | rfl <;> rfl
/-- the pieces of o, in a block from 'base' on other than 'row' -/
def CxIn (w : World) (base : Nat) (row : Option Nat) (o : MCx) : Prop :=
  0 < o.st.length → ∃ ad, o.A = some ad ∧ base ≤ ad.block ∧ ad.block < w.heap.size ∧ some ad.block ≠ row ∧ ∀ j u, (pairs o.st)[j]? = some u → w.cell? (ad.add j) = some u
section
variable {w w' : World} {base : Nat} {row row' : Option Nat} {o : MCx}
theorem CxIn.reads (h : CxIn w base row o) : Reads w w.heap.size 2 o.A o.st.length (pairs o.st) := ⟨pairs_length _, fun hn => by
  obtain ⟨ad, e, _, hb, _, hc⟩ := h hn
  exact ⟨ad, e, hb, hc⟩⟩
theorem CxIn.go (h : CxIn w base row o) (hb : Below w.heap.size w w') : CxIn w' base row o := fun hn => by
  obtain ⟨ad, e, h0, h1, h2, hc⟩ := h hn
  exact ⟨ad, e, h0, Nat.lt_of_lt_of_le h1 hb.size, h2, fun j u hu => (hb.cell (by rw [block_of_add]; exact h1)).trans (hc j u hu)⟩
theorem CxIn.base_le {base' : Nat} (h : CxIn w base row o) (hb : base' ≤ base) : CxIn w base' row o := fun hn => by
  obtain ⟨ad, e, h0, r⟩ := h hn
  exact ⟨ad, e, Nat.le_trans hb h0, r⟩
/-- a store below the pieces -/
theorem CxIn.far (h : CxIn w base row o) {p : Addr} (hp : p.block < base) (u : Value) : CxIn (w.setCell p u) base row o := fun hn => by
  obtain ⟨ad, e, h0, h1, h2, hc⟩ := h hn
  exact ⟨ad, e, h0, by simpa using h1, h2, fun j v hv => by rw [World.cell?_setCell_other w p (ad.add j) u (fun e => by rw [e, block_of_add] at hp; omega)]; exact hc j v hv⟩
theorem CxIn.grown (h : CxIn w base row o) (hg : w.grownBy w' row) (hr : row' = row ∨ row' = some w.heap.size) : CxIn w' base row' o := fun hn => by
  obtain ⟨ad, e, h0, h1, h2, hc⟩ := h hn
  refine ⟨ad, e, h0, Nat.lt_of_lt_of_le h1 hg.size, ?_, fun j u hu => (World.cell?_of_block (hg.block (ad.add j).block (by rw [block_of_add]; exact h1) (by rw [block_of_add]; exact h2))).trans (hc j u hu)⟩
  rcases hr with rfl | rfl
  · exact h2
  · intro e; injection e with e; omega
theorem CxIn.of_own {b0 c : Nat} {A : Option Addr} {st : List (Int × Int)} {lo va : Int} (h : w.ownsRow b0 94 2 (.slice A st.length c) st.length (pairs st)) (hb : base ≤ b0) (hr : ∀ k, row = some k → k < b0) : CxIn w base row ⟨lo, va, A, c, st⟩ := fun hn => by
  obtain ⟨g, cap, hv, hg, hlt⟩ := h.form hn
  injection hv with hA _ _
  refine ⟨⟨g, 0, none⟩, hA, by show base ≤ g; omega, hlt, fun e => ?_, ?_⟩
  · have := hr g e.symm; omega
  · subst hA
    exact h.cells (g := g) rfl
end
/-- the slice v of n convex functions, owned from block base on -/
structure Cxs (w : World) (base g cap : Nat) (l : List MCx) : Prop where
  own : w.ownsRow base 92 3 (.slice (some ⟨g, 0, none⟩) l.length cap) l.length (mcxs l)
  ins : ∀ o ∈ l, CxIn w base (some g) o
section
variable {w w' : World} {base g cap : Nat} {l : List MCx}
theorem Cxs.go (h : Cxs w base g cap l) (hb : Below w.heap.size w w') : Cxs w' base g cap l := ⟨own_go h.own hb, fun o ho => (h.ins o ho).go hb⟩
theorem Cxs.at_ (h : Cxs w base g cap l) {k : Nat} (hk : k < l.length) : w.cell? ⟨g, k * 3, none⟩ = some (.int .i64 l[k].lo) ∧ w.cell? ⟨g, k * 3 + 1, none⟩ = some (.int .i64 l[k].va) ∧ w.cell? ⟨g, k * 3 + 2, none⟩ = some (.slice l[k].A l[k].st.length l[k].c) ∧ Reads w w.heap.size 2 l[k].A l[k].st.length (pairs l[k].st) := by
  have hc := h.own.cells (g := g) rfl
  obtain ⟨h1, h2, h3⟩ := mcxs_at l k hk
  have ad : ∀ j, (⟨g, 0, none⟩ : Addr).add j = ⟨g, j, none⟩ := fun j => by unfold Addr.add; split <;> simp_all
  refine ⟨?_, ?_, ?_, (h.ins _ (List.getElem_mem hk)).reads⟩
  · rw [← ad]; exact hc _ _ h1
  · rw [← ad]; exact hc _ _ h2
  · rw [← ad]; exact hc _ _ h3
theorem Cxs.base_le {base' : Nat} (h : Cxs w base g cap l) (hb : base' ≤ base) : Cxs w base' g cap l := ⟨own_base h.own hb, fun o ho => (h.ins o ho).base_le hb⟩
theorem Cxs.lt (h : Cxs w base g cap l) : base ≤ g ∧ g < w.heap.size := h.own.lt g rfl
end
end Go.Proofs.Ytchafkocobbndaa
