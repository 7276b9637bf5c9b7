/- Words for sorting in memory: a row of elements that the call owns, and what a sort leaves alone. No condition. Rows of integers that the call owns: reading, storing, and stores elsewhere. No condition. -/
import Derived.Test.YtoblpcljhblnmaaGreatDoorBase
import Derived.Test.YtoblpcljhblnmaaGreatDoorPSort
import Derived.RegionTactic
import Derived.ChangeAlike
import Derived.Deep.RegionHeld3
import Derived.BigRegion
namespace Go.Proofs.YtoblpcljhblnmaaGreatDoor.Srt
open Go.RowKit Go.Sort
theorem own_setc {w : World} {base : Nat} {e : TypeId} {size n cap g : Nat} {xs : List Value} (h : w.ownsRow base e size (.slice (some ⟨g, 0, none⟩) n cap) n xs) (i : Nat) (u : Value) :
    (w.setCell ⟨g, i, none⟩ u).ownsRow base e size (.slice (some ⟨g, 0, none⟩) n cap) n (xs.set i u) := by
  obtain ⟨h1, h2⟩ := h
  refine ⟨by simpa using h1, ?_⟩
  rcases h2 with ⟨h2, _⟩ | ⟨g', cap', cur, hv, hg, hh, hn, hc, hs, ht⟩
  · cases h2
  · injection hv with e1 e2 e3
    injection e1 with e1
    injection e1 with e1
    subst e1 e3
    refine Or.inr ⟨g, cap, cur.setIfInBounds i u, rfl, hg, heap_setCell_same w g i cur e u hh, hn, hc, by simpa using hs, ?_⟩
    rw [Array.toList_setIfInBounds, List.take_set, ht]
theorem own_blkc {w : World} {base : Nat} {e : TypeId} {size n cap g : Nat} {xs : List Value} (h : w.ownsRow base e size (.slice (some ⟨g, 0, none⟩) n cap) n xs) : ∃ cur, Blk w g e cur := by
  rcases h.2 with ⟨h2, _⟩ | ⟨g', cap', cur, hv, hg, hh, _⟩
  · cases h2
  · injection hv with e1 e2 e3
    injection e1 with e1
    injection e1 with e1
    subst e1
    exact ⟨cur, hh⟩
variable {α : Type}
theorem addr_add (g j : Nat) : (⟨g, 0, none⟩ : Addr).add j = ⟨g, j, none⟩ := by
  unfold Addr.add
  split
  · rename_i h; rw [h]
  · simp
/-- block g from its head on holds the elements d, k cells each -/
def Row (enc : α → List Value) (k base : Nat) (T : TypeId) (g n cap : Nat) (w : World) (d : Array α) : Prop :=
  d.size = n ∧ (∀ x, (enc x).length = k) ∧ (∀ x, ∀ v ∈ enc x, v.oneCell' = true) ∧ base ≤ g ∧ w.ownsRow base T k (.slice (some ⟨g, 0, none⟩) n cap) n (d.toList.flatMap enc)
/-- only block g is written, and blocks are added -/
def Kp (g : Nat) (w w' : World) : Prop := w.grownBy w' (some g)
theorem Kp.refl (g : Nat) (w : World) : Kp g w w := World.grownBy.refl w _
theorem Kp.trans {g : Nat} {a b c : World} (h1 : Kp g a b) (h2 : Kp g b c) : Kp g a c :=
  ⟨h2.os.trans h1.os, h2.tape.trans h1.tape, h2.output.trans h1.output, Nat.le_trans h1.size h2.size, fun i hi hne => (h2.block i (Nat.lt_of_lt_of_le hi h1.size) hne).trans (h1.block i hi hne)⟩
theorem Kp.drew {g : Nat} {a b : World} (h : Kp g a b) : Kp g a b.drew := ⟨h.os, h.tape, h.output, h.size, h.block⟩
theorem Kp.drewN {g : Nat} {a b : World} (h : Kp g a b) (n : Nat) : Kp g a (b.drewN n) := ⟨h.os, h.tape, h.output, h.size, h.block⟩
theorem Kp.below {g : Nat} {a b c : World} (h : Kp g a b) (hb : Below b.heap.size b c) : Kp g a c := h.trans (only_of_below hb _)
theorem Kp.set_ {g : Nat} {a b : World} (h : Kp g a b) (i : Nat) (u : Value) : Kp g a (b.setCell ⟨g, i, none⟩ u) :=
  h.trans ⟨rfl, rfl, rfl, by simp, fun j _ hne => Below.heap_setCell b ⟨g, i, none⟩ u j (fun e => hne (by rw [e]))⟩
/-- a run of stores -/
def wset (w : World) (g : Nat) : Nat → List Value → World
  | _, [] => w
  | i, u :: us => wset (w.setCell ⟨g, i, none⟩ u) g (i + 1) us
def lset (xs : List Value) : Nat → List Value → List Value
  | _, [] => xs
  | i, u :: us => lset (xs.set i u) (i + 1) us
theorem Kp.wset {g : Nat} {a b : World} (h : Kp g a b) (i : Nat) (us : List Value) : Kp g a (wset b g i us) := by
  induction us generalizing b i with
  | nil => exact h
  | cons u us ih => exact ih (h.set_ i u) (i + 1)
theorem own_wset {w : World} {base : Nat} {e : TypeId} {size n cap g : Nat} {xs : List Value} (h : w.ownsRow base e size (.slice (some ⟨g, 0, none⟩) n cap) n xs) (i : Nat) (us : List Value) :
    (wset w g i us).ownsRow base e size (.slice (some ⟨g, 0, none⟩) n cap) n (lset xs i us) := by
  induction us generalizing w i xs with
  | nil => exact h
  | cons u us ih => exact ih (own_setc h i u) (i + 1)
theorem lset_app (pre xs : List Value) (i : Nat) (us : List Value) : lset (pre ++ xs) (pre.length + i) us = pre ++ lset xs i us := by
  induction us generalizing xs i with
  | nil => rfl
  | cons u us ih =>
    rw [lset, lset, List.set_append_right _ _ (by omega), show pre.length + i - pre.length = i by omega, Nat.add_assoc, ih]
theorem lset_head (ys xs us : List Value) (h : us.length = ys.length) : lset (ys ++ xs) 0 us = us ++ xs := by
  induction us generalizing ys with
  | nil => cases ys with
    | nil => rfl
    | cons y ys => simp at h
  | cons u us ih => cases ys with
    | nil => simp at h
    | cons y ys =>
      have := lset_app [u] (ys ++ xs) 0 us
      rw [lset, List.cons_append, List.set_cons_zero]
      rw [show u :: (ys ++ xs) = [u] ++ (ys ++ xs) from rfl, show 0 + 1 = [u].length + 0 from rfl, this, ih ys (by simpa using h)]
      rfl
theorem lset_flat (enc : α → List Value) (k : Nat) (hk : ∀ x, (enc x).length = k) (l : List α) (i : Nat) (hi : i < l.length) (x : α) : lset (l.flatMap enc) (i * k) (enc x) = (l.set i x).flatMap enc := by
  induction l generalizing i with
  | nil => simp at hi
  | cons a l ih =>
    cases i with
    | zero => rw [List.set_cons_zero, List.flatMap_cons, List.flatMap_cons, Nat.zero_mul, lset_head _ _ _ (by rw [hk, hk])]
    | succ i =>
      rw [List.set_cons_succ, List.flatMap_cons, List.flatMap_cons, show (i + 1) * k = (enc a).length + i * k by rw [hk, Nat.add_mul]; omega, lset_app, ih i (by simpa using hi)]
theorem flat_at (enc : α → List Value) (k : Nat) (hk : ∀ x, (enc x).length = k) (l : List α) (i r : Nat) (hi : i < l.length) (hr : r < k) : (l.flatMap enc)[i * k + r]? = (enc l[i])[r]? := by
  induction l generalizing i with
  | nil => simp at hi
  | cons a l ih =>
    cases i with
    | zero => rw [List.flatMap_cons, Nat.zero_mul, Nat.zero_add, List.getElem?_append_left (by rw [hk]; exact hr)]; rfl
    | succ i =>
      rw [List.flatMap_cons, List.getElem?_append_right (by rw [hk, Nat.add_mul]; omega), hk, show (i + 1) * k + r - k = i * k + r by rw [Nat.add_mul]; omega, ih i (by simpa using hi)]
      rfl
section
variable {enc : α → List Value} {k base : Nat} {T : TypeId} {g n cap : Nat} {w w' : World} {d : Array α}
theorem Row.size (h : Row enc k base T g n cap w d) : d.size = n := h.1
theorem Row.own (h : Row enc k base T g n cap w d) : w.ownsRow base T k (.slice (some ⟨g, 0, none⟩) n cap) n (d.toList.flatMap enc) := h.2.2.2.2
theorem Row.cell [Inhabited α] (h : Row enc k base T g n cap w d) (i r : Nat) (hi : i < n) (u : Value) (hu : (enc d[i]!)[r]? = some u) : w.cell? ⟨g, i * k + r, none⟩ = some u := by
  obtain ⟨h1, h2, _, _, h5⟩ := h
  have hr : r < k := by
    rcases Nat.lt_or_ge r k with hr | hr
    · exact hr
    · rw [List.getElem?_eq_none (by rw [h2]; exact hr)] at hu; cases hu
  have hl : i < d.toList.length := by simpa [h1] using hi
  have hc := h5.cells (g := g) rfl (i * k + r) u (by
    rw [flat_at enc k h2 d.toList i r hl hr, ← hu]
    congr 2
    rw [getElem!_pos d i (by omega)]
    simp)
  rwa [addr_add] at hc
theorem Row.blk (h : Row enc k base T g n cap w d) : ∃ cur, Blk w g T cur := own_blkc h.own
theorem Row.frozen (h : Row enc k base T g n cap w d) (i : Nat) : w.frozen? ⟨g, i, none⟩ = false := by
  obtain ⟨cur, hb⟩ := h.blk
  exact hb.frozen i
theorem Row.lt (h : Row enc k base T g n cap w d) : g < w.heap.size := by
  obtain ⟨cur, hb⟩ := h.blk
  exact hb.lt
theorem Row.go (h : Row enc k base T g n cap w d) (hb : Below w.heap.size w w') : Row enc k base T g n cap w' d := ⟨h.1, h.2.1, h.2.2.1, h.2.2.2.1, own_go h.own hb⟩
theorem Row.drew (h : Row enc k base T g n cap w d) : Row enc k base T g n cap w.drew d := h
theorem Row.drewN (h : Row enc k base T g n cap w d) (m : Nat) : Row enc k base T g n cap (w.drewN m) d := h
theorem Row.set_ (h : Row enc k base T g n cap w d) (i : Nat) (hi : i < n) (x : α) : Row enc k base T g n cap (wset w g (i * k) (enc x)) (d.setIfInBounds i x) := by
  obtain ⟨h1, h2, h3, h4, h5⟩ := h
  refine ⟨by simpa using h1, h2, h3, h4, ?_⟩
  have := own_wset h5 (i * k) (enc x)
  rw [lset_flat enc k h2 d.toList i (by simpa [h1] using hi) x] at this
  rw [Array.toList_setIfInBounds]
  exact this
theorem Row.swp_ [Inhabited α] (h : Row enc k base T g n cap w d) (i j : Nat) (hi : i < n) (hj : j < n) {x y : α} (hx : d[i]! = x) (hy : d[j]! = y) : Row enc k base T g n cap (wset (wset w g (i * k) (enc y)) g (j * k) (enc x)) (swp d i j) := by
  subst hx hy
  exact (h.set_ i hi _).set_ j hj _
end
/-- what is asked of a comparison -/
def CmpOk (F : FuncId) (cb : Array Value) (val : α → Value) (cf : α → α → Int) (Q : α → Prop) (g : Nat) (w0 : World) : Prop :=
  ∀ wt x y, Kp g w0 wt → Q x → Q y → Calls Tryz.prog F (#[val x, val y] ++ cb) wt fun e w' => e = .returned (.int .i64 (cf x y)) ∧ Below wt.heap.size wt w'
def ltOf (cf : α → α → Int) (x y : α) : Bool := decide (cf x y < 0)
end Go.Proofs.YtoblpcljhblnmaaGreatDoor.Srt
namespace Go.Proofs.YtoblpcljhblnmaaGreatDoor
open Go.RowKit
section
variable {w w' : World} {base g n c : Nat} {e : TypeId} {l : List Int}
theorem own_int_len (h : w.ownsRow base e 1 (.slice (some ⟨g, 0, none⟩) n c) n (ints l)) : l.length = n := by
  have := h.1; simpa [ints] using this
theorem own_int_cell (h : w.ownsRow base e 1 (.slice (some ⟨g, 0, none⟩) n c) n (ints l)) (k : Nat) (hk : k < n) : w.cell? ⟨g, k, none⟩ = some (.int .i64 (l.getD k 0)) := by
  have hl := own_int_len h
  have := h.cells (g := g) rfl k (.int .i64 (l.getD k 0)) (by
    unfold ints
    rw [List.getElem?_map, List.getElem?_eq_getElem (by omega), List.getD_eq_getElem?_getD, List.getElem?_eq_getElem (by omega)]
    rfl)
  rwa [Srt.addr_add] at this
theorem own_int_set (h : w.ownsRow base e 1 (.slice (some ⟨g, 0, none⟩) n c) n (ints l)) (k : Nat) (x : Int) : (w.setCell ⟨g, k, none⟩ (.int .i64 x)).ownsRow base e 1 (.slice (some ⟨g, 0, none⟩) n c) n (ints (l.set k x)) := by
  have := (h.stored k (.int .i64 x)).1
  unfold ints at this ⊢
  rwa [List.map_set]
theorem own_other {size : Nat} {xs : List Value} (h : w.ownsRow base e size (.slice (some ⟨g, 0, none⟩) n c) n xs) {g' : Nat} (hg : g ≠ g') (j : Nat) (u : Value) : (w.setCell ⟨g', j, none⟩ u).ownsRow base e size (.slice (some ⟨g, 0, none⟩) n c) n xs :=
  h.kept (row := some g') ⟨rfl, rfl, rfl, by simp, fun k _ hk => heap_setCell_other w ⟨g', j, none⟩ k u (fun e => hk (by simp [e]))⟩ (.inr (by simp [Value.ownBlock]; exact hg))
theorem own_kp {size : Nat} {xs : List Value} (h : w.ownsRow base e size (.slice (some ⟨g, 0, none⟩) n c) n xs) {g' : Nat} (hg : g ≠ g') (hk : Srt.Kp g' w w') : w'.ownsRow base e size (.slice (some ⟨g, 0, none⟩) n c) n xs :=
  h.kept hk (.inr (by simp [Value.ownBlock]; exact hg))
theorem Blk.kp {g' : Nat} {t : TypeId} {cs : Array Value} (h : Blk w g t cs) (hk : Srt.Kp g' w w') (hg : g ≠ g') : Blk w' g t cs := (hk.block g h.lt (by simpa using hg)).trans h
theorem below_kp {B : Nat} {a : World} (h : Below B a w) (hk : Srt.Kp g w w') (hB : B ≤ w.heap.size) (hg : B ≤ g) : Below B a w' := h.grown hk hB fun j hj => by injection hj with hj; omega
theorem own_new (w : World) (cs : Array Value) (e : TypeId) (n base : Nat) (hb : base ≤ w.heap.size) (hn : n ≤ maxLen) (h : cs.size = n) (l : List Int) (hl : cs.toList = ints l) (g : Nat) (hg : g = w.heap.size) : (w.alloc (.cells cs e)).ownsRow base e 1 (.slice (some ⟨g, 0, none⟩) n n) n (ints l) := by
  subst hg
  rw [← hl]
  exact World.ownsRow_lit w cs n hb hn (by simpa using h)
end
theorem info_int : (Tryz.prog.info? 3).map (fun i => (i.zero, i.size, i.bytes)) = some (some (.int .i64 0), 1, 8) := by kernel_rfl
theorem below_drewN_s {B : Nat} {a w : World} (h : Below B a w) (n : Nat) : Below B a (w.drewN n) := ⟨h.os, h.tape, h.output, h.size, h.block⟩
theorem set_fill (l : List Int) (m : Nat) (x : Int) : (l ++ List.replicate (m + 1) 0).set l.length x = (l ++ [x]) ++ List.replicate m 0 := by
  rw [List.set_append_right _ _ (Nat.le_refl _), Nat.sub_self, List.replicate_succ, List.set_cons_zero, List.append_assoc]
  rfl
theorem lt_of_cello {w : World} {b o : Nat} {v : Value} (h : w.cell? ⟨b, o, none⟩ = some v) : b < w.heap.size := by
  rcases Nat.lt_or_ge b w.heap.size with hlt | hge
  · exact hlt
  · unfold World.cell? at h
    rw [Array.getElem?_eq_none hge] at h
    cases h
end Go.Proofs.YtoblpcljhblnmaaGreatDoor
