/- Rows of integers that the call owns: reading, storing, and stores elsewhere. No condition. -/
import Derived.Test.YtflfbbdapbjaaaaDoorSrt
namespace Go.Proofs.YtflfbbdapbjaaaaDoor
open Go.RowKit
section
variable {w w' : World} {base g n c : Nat} {e : TypeId} {l : List Int}
theorem own_int_len (h : w.ownsRow base e 1 (.slice (some ⟨g, 0, none⟩) n c) n (ints l)) : l.length = n := by
  have := h.1; simpa [ints] using this
theorem own_int_cell (h : w.ownsRow base e 1 (.slice (some ⟨g, 0, none⟩) n c) n (ints l)) (k : Nat) (hk : k < n) : w.cell? ⟨g, k, none⟩ = some (.int .i64 (l.getD k 0)) := by
  have hl := own_int_len h
  have := h.cells (g := g) rfl k (.int .i64 (l.getD k 0)) (by
    unfold ints
    rw [List.getElem?_map, List.getElem?_eq_getElem (by omega), List.getD_eq_getElem?_getD, List.getElem?_eq_getElem (by omega)]
    rfl)
  rwa [Srt.addr_add] at this
theorem own_int_set (h : w.ownsRow base e 1 (.slice (some ⟨g, 0, none⟩) n c) n (ints l)) (k : Nat) (x : Int) : (w.setCell ⟨g, k, none⟩ (.int .i64 x)).ownsRow base e 1 (.slice (some ⟨g, 0, none⟩) n c) n (ints (l.set k x)) := by
  have := (h.stored k (.int .i64 x)).1
  unfold ints at this ⊢
  rwa [List.map_set]
theorem own_other {size : Nat} {xs : List Value} (h : w.ownsRow base e size (.slice (some ⟨g, 0, none⟩) n c) n xs) {g' : Nat} (hg : g ≠ g') (j : Nat) (u : Value) : (w.setCell ⟨g', j, none⟩ u).ownsRow base e size (.slice (some ⟨g, 0, none⟩) n c) n xs :=
  h.kept (row := some g') ⟨rfl, rfl, rfl, by simp, fun k _ hk => heap_setCell_other w ⟨g', j, none⟩ k u (fun e => hk (by simp [e]))⟩ (.inr (by simp [Value.ownBlock]; exact hg))
theorem own_kp {size : Nat} {xs : List Value} (h : w.ownsRow base e size (.slice (some ⟨g, 0, none⟩) n c) n xs) {g' : Nat} (hg : g ≠ g') (hk : Srt.Kp g' w w') : w'.ownsRow base e size (.slice (some ⟨g, 0, none⟩) n c) n xs :=
  h.kept hk (.inr (by simp [Value.ownBlock]; exact hg))
theorem Blk.kp {g' : Nat} {t : TypeId} {cs : Array Value} (h : Blk w g t cs) (hk : Srt.Kp g' w w') (hg : g ≠ g') : Blk w' g t cs := (hk.block g h.lt (by simpa using hg)).trans h
theorem below_kp {B : Nat} {a : World} (h : Below B a w) (hk : Srt.Kp g w w') (hB : B ≤ w.heap.size) (hg : B ≤ g) : Below B a w' := h.grown hk hB fun j hj => by injection hj with hj; omega
theorem own_new (w : World) (cs : Array Value) (e : TypeId) (n base : Nat) (hb : base ≤ w.heap.size) (hn : n ≤ maxLen) (h : cs.size = n) (l : List Int) (hl : cs.toList = ints l) (g : Nat) (hg : g = w.heap.size) : (w.alloc (.cells cs e)).ownsRow base e 1 (.slice (some ⟨g, 0, none⟩) n n) n (ints l) := by
  subst hg
  rw [← hl]
  exact World.ownsRow_lit w cs n hb hn (by simpa using h)
end
theorem info_int : (Tryd.prog.info? 3).map (fun i => (i.zero, i.size, i.bytes)) = some (some (.int .i64 0), 1, 8) := by kernel_rfl
theorem below_drewN_s {B : Nat} {a w : World} (h : Below B a w) (n : Nat) : Below B a (w.drewN n) := ⟨h.os, h.tape, h.output, h.size, h.block⟩
theorem set_fill (l : List Int) (m : Nat) (x : Int) : (l ++ List.replicate (m + 1) 0).set l.length x = (l ++ [x]) ++ List.replicate m 0 := by
  rw [List.set_append_right _ _ (Nat.le_refl _), Nat.sub_self, List.replicate_succ, List.set_cons_zero, List.append_assoc]
  rfl
theorem lt_of_cello {w : World} {b o : Nat} {v : Value} (h : w.cell? ⟨b, o, none⟩ = some v) : b < w.heap.size := by
  rcases Nat.lt_or_ge b w.heap.size with hlt | hge
  · exact hlt
  · unfold World.cell? at h
    rw [Array.getElem?_eq_none hge] at h
    cases h
end Go.Proofs.YtflfbbdapbjaaaaDoor
