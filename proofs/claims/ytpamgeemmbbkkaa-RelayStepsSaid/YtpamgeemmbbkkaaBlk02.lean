/- Words for sorting in memory: a row of elements that the call owns, and what a sort leaves alone. No condition. A region of reads and of calls that make memory, walked once in the order of the text: the class of worlds that leave the blocks of W alone. No condition. A block of integers that the call owns, told whole. No condition. Programs of relays in memory; relaylang's Operands, End, Name, node and rule answer as their plain functions say. Condition: the program reads. -/
import Derived.Test.YtpamgeemmbbkkaaBase
import Derived.Test.YtpamgeemmbbkkaaBlk01
import Derived.RegionTactic
import Derived.ChangeAlike
import Derived.Deep.RegionHeld3
import Derived.BigRegion
import Derived.Test.YtpamgeemmbbkkaaNet
import Derived.Test.YtpamgeemmbbkkaaName
namespace Go.Proofs.Ytpamgeemmbbkkaa.Srt
open Go.RowKit Go.Sort
theorem own_setc {w : World} {base : Nat} {e : TypeId} {size n cap g : Nat} {xs : List Value} (h : w.ownsRow base e size (.slice (some ⟨g, 0, none⟩) n cap) n xs) (i : Nat) (u : Value) :
    (w.setCell ⟨g, i, none⟩ u).ownsRow base e size (.slice (some ⟨g, 0, none⟩) n cap) n (xs.set i u) := by
  obtain ⟨h1, h2⟩ := h
  refine ⟨by simpa using h1, ?_⟩
  rcases h2 with ⟨h2, _⟩ | ⟨g', cap', cur, hv, hg, hh, hn, hc, hs, ht⟩
  · cases h2
  · injection hv with e1 e2 e3
    injection e1 with e1
    injection e1 with e1
    subst e1 e3
    refine Or.inr ⟨g, cap, cur.setIfInBounds i u, rfl, hg, heap_setCell_same w g i cur e u hh, hn, hc, by simpa using hs, ?_⟩
    rw [Array.toList_setIfInBounds, List.take_set, ht]
theorem own_blkc {w : World} {base : Nat} {e : TypeId} {size n cap g : Nat} {xs : List Value} (h : w.ownsRow base e size (.slice (some ⟨g, 0, none⟩) n cap) n xs) : ∃ cur, Blk w g e cur := by
  rcases h.2 with ⟨h2, _⟩ | ⟨g', cap', cur, hv, hg, hh, _⟩
  · cases h2
  · injection hv with e1 e2 e3
    injection e1 with e1
    injection e1 with e1
    subst e1
    exact ⟨cur, hh⟩
variable {α : Type}
theorem addr_add (g j : Nat) : (⟨g, 0, none⟩ : Addr).add j = ⟨g, j, none⟩ := by
  unfold Addr.add
  split
  · rename_i h; rw [h]
  · simp
/-- block g from its head on holds the elements d, k cells each -/
def Row (enc : α → List Value) (k base : Nat) (T : TypeId) (g n cap : Nat) (w : World) (d : Array α) : Prop :=
  d.size = n ∧ (∀ x, (enc x).length = k) ∧ (∀ x, ∀ v ∈ enc x, v.oneCell' = true) ∧ base ≤ g ∧ w.ownsRow base T k (.slice (some ⟨g, 0, none⟩) n cap) n (d.toList.flatMap enc)
/-- only block g is written, and blocks are added -/
def Kp (g : Nat) (w w' : World) : Prop := w.grownBy w' (some g)
theorem Kp.refl (g : Nat) (w : World) : Kp g w w := World.grownBy.refl w _
theorem Kp.trans {g : Nat} {a b c : World} (h1 : Kp g a b) (h2 : Kp g b c) : Kp g a c :=
  ⟨h2.os.trans h1.os, h2.tape.trans h1.tape, h2.output.trans h1.output, Nat.le_trans h1.size h2.size, fun i hi hne => (h2.block i (Nat.lt_of_lt_of_le hi h1.size) hne).trans (h1.block i hi hne)⟩
theorem Kp.drew {g : Nat} {a b : World} (h : Kp g a b) : Kp g a b.drew := ⟨h.os, h.tape, h.output, h.size, h.block⟩
theorem Kp.drewN {g : Nat} {a b : World} (h : Kp g a b) (n : Nat) : Kp g a (b.drewN n) := ⟨h.os, h.tape, h.output, h.size, h.block⟩
theorem Kp.below {g : Nat} {a b c : World} (h : Kp g a b) (hb : Below b.heap.size b c) : Kp g a c := h.trans (only_of_below hb _)
theorem Kp.set_ {g : Nat} {a b : World} (h : Kp g a b) (i : Nat) (u : Value) : Kp g a (b.setCell ⟨g, i, none⟩ u) :=
  h.trans ⟨rfl, rfl, rfl, by simp, fun j _ hne => Below.heap_setCell b ⟨g, i, none⟩ u j (fun e => hne (by rw [e]))⟩
/-- a run of stores -/
def wset (w : World) (g : Nat) : Nat → List Value → World
  | _, [] => w
  | i, u :: us => wset (w.setCell ⟨g, i, none⟩ u) g (i + 1) us
def lset (xs : List Value) : Nat → List Value → List Value
  | _, [] => xs
  | i, u :: us => lset (xs.set i u) (i + 1) us
theorem Kp.wset {g : Nat} {a b : World} (h : Kp g a b) (i : Nat) (us : List Value) : Kp g a (wset b g i us) := by
  induction us generalizing b i with
  | nil => exact h
  | cons u us ih => exact ih (h.set_ i u) (i + 1)
theorem own_wset {w : World} {base : Nat} {e : TypeId} {size n cap g : Nat} {xs : List Value} (h : w.ownsRow base e size (.slice (some ⟨g, 0, none⟩) n cap) n xs) (i : Nat) (us : List Value) :
    (wset w g i us).ownsRow base e size (.slice (some ⟨g, 0, none⟩) n cap) n (lset xs i us) := by
  induction us generalizing w i xs with
  | nil => exact h
  | cons u us ih => exact ih (own_setc h i u) (i + 1)
theorem lset_app (pre xs : List Value) (i : Nat) (us : List Value) : lset (pre ++ xs) (pre.length + i) us = pre ++ lset xs i us := by
  induction us generalizing xs i with
  | nil => rfl
  | cons u us ih =>
    rw [lset, lset, List.set_append_right _ _ (by omega), show pre.length + i - pre.length = i by omega, Nat.add_assoc, ih]
theorem lset_head (ys xs us : List Value) (h : us.length = ys.length) : lset (ys ++ xs) 0 us = us ++ xs := by
  induction us generalizing ys with
  | nil => cases ys with
    | nil => rfl
    | cons y ys => simp at h
  | cons u us ih => cases ys with
    | nil => simp at h
    | cons y ys =>
      have := lset_app [u] (ys ++ xs) 0 us
      rw [lset, List.cons_append, List.set_cons_zero]
      rw [show u :: (ys ++ xs) = [u] ++ (ys ++ xs) from rfl, show 0 + 1 = [u].length + 0 from rfl, this, ih ys (by simpa using h)]
      rfl
theorem lset_flat (enc : α → List Value) (k : Nat) (hk : ∀ x, (enc x).length = k) (l : List α) (i : Nat) (hi : i < l.length) (x : α) : lset (l.flatMap enc) (i * k) (enc x) = (l.set i x).flatMap enc := by
  induction l generalizing i with
  | nil => simp at hi
  | cons a l ih =>
    cases i with
    | zero => rw [List.set_cons_zero, List.flatMap_cons, List.flatMap_cons, Nat.zero_mul, lset_head _ _ _ (by rw [hk, hk])]
    | succ i =>
      rw [List.set_cons_succ, List.flatMap_cons, List.flatMap_cons, show (i + 1) * k = (enc a).length + i * k by rw [hk, Nat.add_mul]; omega, lset_app, ih i (by simpa using hi)]
theorem flat_at (enc : α → List Value) (k : Nat) (hk : ∀ x, (enc x).length = k) (l : List α) (i r : Nat) (hi : i < l.length) (hr : r < k) : (l.flatMap enc)[i * k + r]? = (enc l[i])[r]? := by
  induction l generalizing i with
  | nil => simp at hi
  | cons a l ih =>
    cases i with
    | zero => rw [List.flatMap_cons, Nat.zero_mul, Nat.zero_add, List.getElem?_append_left (by rw [hk]; exact hr)]; rfl
    | succ i =>
      rw [List.flatMap_cons, List.getElem?_append_right (by rw [hk, Nat.add_mul]; omega), hk, show (i + 1) * k + r - k = i * k + r by rw [Nat.add_mul]; omega, ih i (by simpa using hi)]
      rfl
section
variable {enc : α → List Value} {k base : Nat} {T : TypeId} {g n cap : Nat} {w w' : World} {d : Array α}
theorem Row.size (h : Row enc k base T g n cap w d) : d.size = n := h.1
theorem Row.own (h : Row enc k base T g n cap w d) : w.ownsRow base T k (.slice (some ⟨g, 0, none⟩) n cap) n (d.toList.flatMap enc) := h.2.2.2.2
theorem Row.cell [Inhabited α] (h : Row enc k base T g n cap w d) (i r : Nat) (hi : i < n) (u : Value) (hu : (enc d[i]!)[r]? = some u) : w.cell? ⟨g, i * k + r, none⟩ = some u := by
  obtain ⟨h1, h2, _, _, h5⟩ := h
  have hr : r < k := by
    rcases Nat.lt_or_ge r k with hr | hr
    · exact hr
    · rw [List.getElem?_eq_none (by rw [h2]; exact hr)] at hu; cases hu
  have hl : i < d.toList.length := by simpa [h1] using hi
  have hc := h5.cells (g := g) rfl (i * k + r) u (by
    rw [flat_at enc k h2 d.toList i r hl hr, ← hu]
    congr 2
    rw [getElem!_pos d i (by omega)]
    simp)
  rwa [addr_add] at hc
theorem Row.blk (h : Row enc k base T g n cap w d) : ∃ cur, Blk w g T cur := own_blkc h.own
theorem Row.frozen (h : Row enc k base T g n cap w d) (i : Nat) : w.frozen? ⟨g, i, none⟩ = false := by
  obtain ⟨cur, hb⟩ := h.blk
  exact hb.frozen i
theorem Row.lt (h : Row enc k base T g n cap w d) : g < w.heap.size := by
  obtain ⟨cur, hb⟩ := h.blk
  exact hb.lt
theorem Row.go (h : Row enc k base T g n cap w d) (hb : Below w.heap.size w w') : Row enc k base T g n cap w' d := ⟨h.1, h.2.1, h.2.2.1, h.2.2.2.1, own_go h.own hb⟩
theorem Row.drew (h : Row enc k base T g n cap w d) : Row enc k base T g n cap w.drew d := h
theorem Row.drewN (h : Row enc k base T g n cap w d) (m : Nat) : Row enc k base T g n cap (w.drewN m) d := h
theorem Row.set_ (h : Row enc k base T g n cap w d) (i : Nat) (hi : i < n) (x : α) : Row enc k base T g n cap (wset w g (i * k) (enc x)) (d.setIfInBounds i x) := by
  obtain ⟨h1, h2, h3, h4, h5⟩ := h
  refine ⟨by simpa using h1, h2, h3, h4, ?_⟩
  have := own_wset h5 (i * k) (enc x)
  rw [lset_flat enc k h2 d.toList i (by simpa [h1] using hi) x] at this
  rw [Array.toList_setIfInBounds]
  exact this
theorem Row.swp_ [Inhabited α] (h : Row enc k base T g n cap w d) (i j : Nat) (hi : i < n) (hj : j < n) {x y : α} (hx : d[i]! = x) (hy : d[j]! = y) : Row enc k base T g n cap (wset (wset w g (i * k) (enc y)) g (j * k) (enc x)) (swp d i j) := by
  subst hx hy
  exact (h.set_ i hi _).set_ j hj _
end
/-- what is asked of a comparison -/
def CmpOk (F : FuncId) (cb : Array Value) (val : α → Value) (cf : α → α → Int) (Q : α → Prop) (g : Nat) (w0 : World) : Prop :=
  ∀ wt x y, Kp g w0 wt → Q x → Q y → Calls Try.prog F (#[val x, val y] ++ cb) wt fun e w' => e = .returned (.int .i64 (cf x y)) ∧ Below wt.heap.size wt w'
def ltOf (cf : α → α → Int) (x y : α) : Bool := decide (cf x y < 0)
end Go.Proofs.Ytpamgeemmbbkkaa.Srt
namespace Go.Proofs.Ytpamgeemmbbkkaa
open Go.RowKit
/-- a world that leaves the blocks of W alone -/
structure Wd (W : World) where
  val : World
  ok : Below W.heap.size W val
instance (W : World) : Nonempty (Wd W) := ⟨⟨W, Below.refl _ _⟩⟩
theorem cell_lt {W : World} {p : Addr} {v : Value} (h : W.cell? p = some v) : p.block < W.heap.size := by
  rcases Nat.lt_or_ge p.block W.heap.size with hlt | hge
  · exact hlt
  · unfold World.cell? at h
    rw [Array.getElem?_eq_none hge] at h
    cases h
theorem Wd.cell {W : World} {p : Addr} {v : Value} (h : W.cell? p = some v) : ∀ x : Wd W, x.val.cell? p = some v := fun x => by rw [x.ok.cell (cell_lt h)]; exact h
theorem wp_region_wd {P : Program} {id : Nat} {Q : Exit → Act → World → Prop} {a : Act} {w : World} {l : List Oper} (hm : P.follows .mixedOrders = true) (hB : Region.lexB .any l.toArray = true)
    (h : wpQuiet P l.toArray (fun w' => ∃ x : Wd w, w' = x.val) (fun a' => ∀ w', (∃ x : Wd w, w' = x.val) → Q .normal a' w') l a) : (Code.region id l.toArray true).wp P Q a w :=
  wp_region_quiet (C := fun w' => ∃ x : Wd w, w' = x.val) hm hB ⟨⟨w.drew, (Below.refl _ _).drew⟩, rfl⟩ (by simpa using h)
/-- a contract of a call that makes memory, met in a world of the class -/
theorem Calls.wd {P : Program} {f : FuncId} {args : Array Value} {W : World} {x : Wd W} {v : Value}
    (h : Calls P f args x.val fun e w' => e = .returned v ∧ Below x.val.heap.size x.val w') : Calls P f args x.val fun e w'' => e = .returned v ∧ ∃ y : Wd W, w'' = y.val :=
  h.mono fun _ w' ⟨he, hb⟩ => ⟨he, ⟨w', x.ok.trans (hb.mono x.ok.size)⟩, rfl⟩
end Go.Proofs.Ytpamgeemmbbkkaa
namespace Go.Proofs.Ytpamgeemmbbkkaa
open Go.RowKit
theorem Calls.wd_same {P : Program} {f : FuncId} {args : Array Value} {W : World} {x : Wd W} {v : Value}
    (h : Calls P f args x.val fun e w' => e = .returned v ∧ x.val = w') : Calls P f args x.val fun e w'' => e = .returned v ∧ ∃ y : Wd W, w'' = y.val :=
  h.mono fun _ _ ⟨he, hb⟩ => ⟨he, x, hb.symm⟩
/-- block g is just the integers os -/
def IBlk (w : World) (g : Nat) (t : TypeId) (os : List Int) : Prop := Blk w g t (ints os).toArray
section
variable {w w' : World} {g : Nat} {t : TypeId} {os : List Int}
theorem IBlk.cell (h : IBlk w g t os) (k : Nat) (hk : k < os.length) : w.cell? ⟨g, k, none⟩ = some (.int .i64 (os.getD k 0)) := by
  rw [Blk.cell h k]
  unfold ints
  simp [hk]
theorem IBlk.set_ (h : IBlk w g t os) (k : Nat) (x : Int) : IBlk (w.setCell ⟨g, k, none⟩ (.int .i64 x)) g t (os.set k x) := by
  have := Blk.set_ h k (.int .i64 x)
  unfold IBlk
  rw [show (ints (os.set k x)).toArray = (ints os).toArray.setIfInBounds k (.int .i64 x) from by unfold ints; simp [List.map_set]]
  exact this
theorem IBlk.frozen (h : IBlk w g t os) (k : Nat) : w.frozen? ⟨g, k, none⟩ = false := Blk.frozen h k
theorem IBlk.lt (h : IBlk w g t os) : g < w.heap.size := Blk.lt h
theorem IBlk.go (h : IBlk w g t os) (hb : Below w.heap.size w w') : IBlk w' g t os := Blk.go h hb
theorem IBlk.below {B : Nat} (h : IBlk w g t os) (hb : Below B w w') (hg : g < B) : IBlk w' g t os := Blk.below h hb hg
theorem IBlk.alloc (h : IBlk w g t os) (o : Obj) : IBlk (w.alloc o) g t os := Blk.alloc h o
theorem IBlk.drew (h : IBlk w g t os) : IBlk w.drew g t os := h
theorem IBlk.far (h : IBlk w g t os) {p : Addr} (hp : g ≠ p.block) (u : Value) : IBlk (w.setCell p u) g t os := Blk.far h hp u
theorem IBlk.grown {row : Option Nat} (h : IBlk w g t os) (hb : w.grownBy w' row) (hg : some g ≠ row) : IBlk w' g t os := Blk.grown h hb hg
theorem IBlk.new_ (w : World) (g : Nat) (t : TypeId) (cs : Array Value) (hg : g = w.heap.size) (h : cs.toList = ints os) : IBlk (w.alloc (.cells cs t)) g t os := by
  have := Blk.new_ w g t cs hg
  unfold IBlk
  rw [← h]
  simpa using this
theorem IBlk.reads (h : IBlk w g t os) {n : Nat} (hn : os.length = n) : Reads w w.heap.size 1 (some ⟨g, 0, none⟩) n (ints os) := by
  refine ⟨by unfold ints; simp [hn], fun _ => ⟨_, rfl, IBlk.lt h, fun j u hu => ?_⟩⟩
  rw [Srt.addr_add, Blk.cell h j]
  simpa using hu
end
end Go.Proofs.Ytpamgeemmbbkkaa
namespace Go.Proofs.Ytpamgeemmbbkkaa
open Go.RowKit
set_option maxRecDepth 100000
def rnC (x : Pl.RN) : List Value := [.int .i64 x.op, .string x.name, .int .i64 x.value]
/-- a rule as memory holds it -/
structure MRul where
  nm : ByteArray
  A : Option Addr
  n : Nat
  c : Nat
  ex : List Pl.RN
def rulC (o : MRul) : List Value := [.string o.nm, .slice o.A o.n o.c]
def prl (l : List MRul) : List Pl.RRule := l.map fun o => ⟨o.nm, o.ex⟩
def RulIn (w : World) (B : Nat) (o : MRul) : Prop := o.n ≤ 9223372036854775807 ∧ o.n ≤ o.c ∧ Elems rnC 3 w B o.A o.n o.ex ∧ o.nm.size ≤ 9223372036854775807 ∧ ∀ x ∈ o.ex, x.name.size ≤ 9223372036854775807
/-- a slice of rules, their expressions with them -/
def Ruls (w : World) (B : Nat) (A : Option Addr) (n : Nat) (l : List MRul) : Prop := Elems rulC 2 w B A n l ∧ ∀ o ∈ l, RulIn w B o
section
variable {w w' : World} {B : Nat} {A : Option Addr} {n : Nat} {l : List MRul}
theorem Ruls.below (h : Ruls w B A n l) (hb : Below B w w') : Ruls w' B A n l := ⟨h.1.below hb, fun o ho => ⟨(h.2 o ho).1, (h.2 o ho).2.1, (h.2 o ho).2.2.1.below hb, (h.2 o ho).2.2.2⟩⟩
theorem Ruls.more {B' : Nat} (h : Ruls w B A n l) (hb : B ≤ B') : Ruls w B' A n l := ⟨h.1.more hb, fun o ho => ⟨(h.2 o ho).1, (h.2 o ho).2.1, (h.2 o ho).2.2.1.more hb, (h.2 o ho).2.2.2⟩⟩
theorem Ruls.go (h : Ruls w w.heap.size A n l) (hb : Below w.heap.size w w') : Ruls w' w'.heap.size A n l := (h.below hb).more hb.size
theorem Ruls.len (h : Ruls w B A n l) : l.length = n := h.1.2
theorem rul_at (h : Ruls w B A n l) {k : Nat} (hk : k < n) : ∃ b o, A = some ⟨b, o, none⟩ ∧ b < B ∧ ∃ hl : k < l.length, w.cell? ⟨b, o + k * 2, none⟩ = some (.string (l[k]'hl).nm) ∧ w.cell? ⟨b, o + k * 2 + 1, none⟩ = some (.slice (l[k]'hl).A (l[k]'hl).n (l[k]'hl).c) ∧ RulIn w B (l[k]'hl) := by
  obtain ⟨b, o, rfl, hb, hl, hc⟩ := Elems.at_ (dec := rulC) (size := 2) (fun _ => rfl) (by decide) h.1 hk
  exact ⟨b, o, rfl, hb, hl, hc 0 (by omega), hc 1 (by omega), h.2 _ (List.getElem_mem hl)⟩
theorem rn_at {ex : List Pl.RN} (h : Elems rnC 3 w B A n ex) {k : Nat} (hk : k < n) : ∃ b o, A = some ⟨b, o, none⟩ ∧ b < B ∧ ∃ hl : k < ex.length, w.cell? ⟨b, o + k * 3, none⟩ = some (.int .i64 (ex[k]'hl).op) ∧ w.cell? ⟨b, o + k * 3 + 1, none⟩ = some (.string (ex[k]'hl).name) ∧ w.cell? ⟨b, o + k * 3 + 2, none⟩ = some (.int .i64 (ex[k]'hl).value) := by
  obtain ⟨b, o, rfl, hb, hl, hc⟩ := Elems.at_ (dec := rnC) (size := 3) (fun _ => rfl) (by decide) h hk
  exact ⟨b, o, rfl, hb, hl, hc 0 (by omega), hc 1 (by omega), hc 2 (by omega)⟩
theorem elems_go {α : Type} {dec : α → List Value} {size : Nat} {xs : List α} (h : Elems dec size w w.heap.size A n xs) (hb : Below w.heap.size w w') : Elems dec size w' w'.heap.size A n xs := (h.below hb).more hb.size
end
theorem opn_cases (op : Int) : (op = 3 ∧ Pl.opn op = 1) ∨ (op = 6 ∧ Pl.opn op = 1) ∨ (op = 4 ∧ Pl.opn op = 2) ∨ (op = 5 ∧ Pl.opn op = 2) ∨ (op = 7 ∧ Pl.opn op = 2) ∨ (op ≠ 3 ∧ op ≠ 6 ∧ op ≠ 4 ∧ op ≠ 5 ∧ op ≠ 7 ∧ Pl.opn op = 0) := by
  unfold Pl.opn
  split <;> (try split) <;> omega
theorem opr_any (op : Int) (w : World) : Calls Try.prog 80 #[.int .i64 op] w fun e w' => e = .returned (.int .i64 (Pl.opn op : Nat)) ∧ w' = w := by
  rcases opn_cases op with ⟨rfl, h⟩ | ⟨rfl, h⟩ | ⟨rfl, h⟩ | ⟨rfl, h⟩ | ⟨rfl, h⟩ | ⟨h3, h6, h4, h5, h7, h⟩
  · rw [h]
    clear h
    go_enter Try.func80, Try.ntmps80
    go_wp2_with fail
    go_ret
    exact ⟨rfl, rfl⟩
  · rw [h]
    clear h
    go_enter Try.func80, Try.ntmps80
    go_wp2_with fail
    go_ret
    exact ⟨rfl, rfl⟩
  · rw [h]
    clear h
    go_enter Try.func80, Try.ntmps80
    go_wp2_with fail
    go_ret
    exact ⟨rfl, rfl⟩
  · rw [h]
    clear h
    go_enter Try.func80, Try.ntmps80
    go_wp2_with fail
    go_ret
    exact ⟨rfl, rfl⟩
  · rw [h]
    clear h
    go_enter Try.func80, Try.ntmps80
    go_wp2_with fail
    go_ret
    exact ⟨rfl, rfl⟩
  · rw [h]
    clear h
    have e3 : (op == 3) = false := by simp [h3]
    have e6 : (op == 6) = false := by simp [h6]
    have e4 : (op == 4) = false := by simp [h4]
    have e5 : (op == 5) = false := by simp [h5]
    have e7 : (op == 7) = false := by simp [h7]
    go_enter Try.func80, Try.ntmps80
    go_wp2_with fail
    go_ret
    exact ⟨rfl, rfl⟩
theorem opq_any (op : Int) (w : World) : Calls Try.prog 102 #[.int .i64 op] w fun e w' => e = .returned (.int .i64 (Pl.opn op : Nat)) ∧ w' = w := by
  rcases opn_cases op with ⟨rfl, h⟩ | ⟨rfl, h⟩ | ⟨rfl, h⟩ | ⟨rfl, h⟩ | ⟨rfl, h⟩ | ⟨h3, h6, h4, h5, h7, h⟩
  · rw [h]
    clear h
    go_enter Try.func102, Try.ntmps102
    go_wp2_with fail
    go_ret
    exact ⟨rfl, rfl⟩
  · rw [h]
    clear h
    go_enter Try.func102, Try.ntmps102
    go_wp2_with fail
    go_ret
    exact ⟨rfl, rfl⟩
  · rw [h]
    clear h
    go_enter Try.func102, Try.ntmps102
    go_wp2_with fail
    go_ret
    exact ⟨rfl, rfl⟩
  · rw [h]
    clear h
    go_enter Try.func102, Try.ntmps102
    go_wp2_with fail
    go_ret
    exact ⟨rfl, rfl⟩
  · rw [h]
    clear h
    go_enter Try.func102, Try.ntmps102
    go_wp2_with fail
    go_ret
    exact ⟨rfl, rfl⟩
  · rw [h]
    clear h
    have e3 : (op == 3) = false := by simp [h3]
    have e6 : (op == 6) = false := by simp [h6]
    have e4 : (op == 4) = false := by simp [h4]
    have e5 : (op == 5) = false := by simp [h5]
    have e7 : (op == 7) = false := by simp [h7]
    go_enter Try.func102, Try.ntmps102
    go_wp2_with fail
    go_ret
    exact ⟨rfl, rfl⟩
set_option maxHeartbeats 800000 in
theorem end_any (A : Option Addr) (n c : Nat) (ex : List Pl.RN) (at_ : Nat) (w : World) (B : Nat) (hn : n ≤ 1000000) (hat : at_ ≤ n) (h : Elems rnC 3 w B A n ex) :
    Calls Try.prog 44 #[.slice A n c, .int .i64 at_] w fun e w' => e = .returned (.int .i64 (Pl.endI ex at_)) ∧ w' = w := by
  have hl := h.2
  have HE := Lib.hid h
  have HLN := Lib.hid hl
  have HR : Hid (∃ R, R = Pl.endI ex at_) := ⟨_, rfl⟩
  obtain ⟨R, hR⟩ := HR.out
  rw [← hR]
  have H0 : Hid (R = match Pl.endG 1 (ex.drop at_) with | none => -1 | some c => ((at_ + c : Nat) : Int)) := hR
  clear hR HR h hl
  go_enter Try.func44, Try.ntmps44
  go_wp2_with fail
  go_loopw [1, 5] (fun va vn wr => ∃ k m : Nat, k ≤ n ∧ m + 1 ≤ 2 * k + 2 ∧ va = .int .i64 k ∧ vn = .int .i64 m ∧ Hid (R = match Pl.endG m (ex.drop k) with | none => -1 | some c => ((k + c : Nat) : Int)) ∧ wr = w) (fun va vn _ => n - (intOf va).toNat)
  case atStart => exact ⟨at_, 1, hat, by omega, rfl, rfl, H0.out, rfl⟩
  case round =>
    obtain ⟨k, m, hk, hmk, rfl, rfl, HK, rfl⟩ := hrel
    rcases Nat.eq_zero_or_pos m with hm0 | hm0
    · have HRE : Hid (R = (k : Int)) := by show _ = _; rw [HK.out, hm0]; simp [Pl.endG]
      have d0 : decide ((0 : Int) < (m : Int)) = false := by simp; omega
      have d1 : ¬ 0 < m := by omega
      clear hm0
      go_wp2_with fail
      go_ret
      exact ⟨by rw [HRE.out]; rfl, rfl⟩
    · obtain ⟨m1, hm1⟩ : ∃ m1, m = m1 + 1 := ⟨m - 1, by omega⟩
      subst hm1
      have d0 : (0 : Int) < (m1 : Int) + 1 := by omega
      by_cases hkn : k < n
      · obtain ⟨b, o, rfl, _, hlk, q0, q1, q2⟩ := rn_at HE.out hkn
        have HX : Hid (ex.drop k = ex[k] :: ex.drop (k + 1)) := List.drop_eq_getElem_cons hlk
        rw [HX.out] at HK
        have HOP := Lib.hid (fun W => opr_any ex[k].op W)
        have hle := Pl.opn_le ex[k].op
        have HKN : Hid (R = match Pl.endG (m1 + Pl.opn ex[k].op) (ex.drop (k + 1)) with | none => -1 | some c => ((k + 1 + c : Nat) : Int)) := by
          have h := HK.out
          show _ = _
          rw [h]
          show (match (Pl.endG (m1 + Pl.opn ex[k].op) (ex.drop (k + 1))).map (· + 1) with | none => -1 | some c => ((k + c : Nat) : Int)) = _
          cases Pl.endG (m1 + Pl.opn ex[k].op) (ex.drop (k + 1)) with
          | none => rfl
          | some c => show ((k + (c + 1) : Nat) : Int) = ((k + 1 + c : Nat) : Int); omega
        clear HK HX
        generalize Pl.opn ex[k].op = q at *
        generalize ex[k].op = op at *
        generalize ex[k].name = nm at *
        generalize ex[k].value = vl at *
        have k0 : (0 : Int) ≤ (k : Int) := by omega
        have k1 : (k : Int) < (n : Int) := by omega
        have k2 : ¬ (n : Int) ≤ (k : Int) := by omega
        have k3 : ¬ n ≤ k := by omega
        have w1' : IntKind.i64.wrap ((m1 : Int) + 1 + (q : Int)) = (m1 : Int) + 1 + (q : Int) := IntWalk.i64_in _ (by omega)
        have w2' : IntKind.i64.wrap ((m1 : Int) + 1 + (q : Int) - 1) = ((m1 + q : Nat) : Int) := (IntWalk.i64_in _ (by omega)).trans (by omega)
        go_wp2_with fail
        refine (HOP.out _).mono ?_
        rintro e w1 ⟨rfl, rfl⟩
        go_wp2_with fail
        go_roundw
        case rel => exact ⟨k + 1, m1 + q, by omega, by omega, by go_num, by first | rfl | go_num, HKN.out, by first | exact rfl | trivial⟩
        case measure => simp [intOf]; omega
      · have HRE : Hid (R = -1) := by
          show _ = _
          rw [HK.out, List.drop_of_length_le (by have := HLN.out; omega)]; rfl
        have k2 : (n : Int) ≤ (k : Int) := by omega
        have k3 : n ≤ k := by omega
        go_wp2_with fail
        go_ret
        exact ⟨by rw [HRE.out]; rfl, rfl⟩
end Go.Proofs.Ytpamgeemmbbkkaa
