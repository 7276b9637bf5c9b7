/- Rows of pieces that a call owns and cuts from the front. No condition. -/
import Derived.Test.YtchafkocobbndaaBaseC
namespace Go.Proofs.Ytchafkocobbndaa
open Go.RowKit
/-- the pieces l at A, in the block g of the call's own -/
def RowIn (lo hi : Nat) (w : World) (g : Nat) (A : Option Addr) (l : List (Int × Int)) : Prop :=
  l ≠ [] → lo ≤ g ∧ g < hi ∧ ∃ o cur, A = some ⟨g, o, none⟩ ∧ Blk w g 94 cur ∧ ∀ j u, (pairs l)[j]? = some u → cur[o + j]? = some u
section
variable {lo hi : Nat} {w w' : World} {g : Nat} {A : Option Addr} {l : List (Int × Int)}
theorem RowIn.of_own {base c : Nat} (h : w.ownsRow base 94 2 (.slice A l.length c) l.length (pairs l)) (hlo : lo ≤ base) (hhi : w.heap.size ≤ hi) : ∃ g, RowIn lo hi w g A l := by
  cases hl : l with
  | nil => exact ⟨0, fun h => absurd rfl h⟩
  | cons p l' =>
    rw [← hl]
    rcases h.2 with ⟨h2, _⟩ | ⟨g, cap, cur, hv, hb, hh, h4, _, h6, h7⟩
    · injection h2 with _ h2
      rw [hl] at h2
      simp at h2
    · injection hv with e1 e2 e3
      subst e1
      have hg := Blk.lt (t := 94) (cs := cur) hh
      exact ⟨g, fun _ => ⟨by omega, by omega, 0, cur, rfl, hh, fun j u hu => by rw [Nat.zero_add, ← Blk.cell hh j]; exact h.cells (g := g) rfl j u hu ▸ (by simp [Addr.add]; split <;> simp_all)⟩⟩
theorem RowIn.keep (h : RowIn lo hi w g A l) (hk : ∀ cur, lo ≤ g → g < hi → Blk w g 94 cur → Blk w' g 94 cur) : RowIn lo hi w' g A l := fun hl => by
  obtain ⟨h1, h2, o, cur, e, hb, hc⟩ := h hl
  exact ⟨h1, h2, o, cur, e, hk cur h1 h2 hb, hc⟩
theorem RowIn.go (h : RowIn lo hi w g A l) (hb : Below w.heap.size w w') : RowIn lo hi w' g A l := h.keep fun _ _ _ h => h.go hb
theorem RowIn.more {hi' : Nat} (h : RowIn lo hi w g A l) (hh : hi ≤ hi') : RowIn lo hi' w g A l := fun hl => by
  obtain ⟨h1, h2, r⟩ := h hl
  exact ⟨h1, by omega, r⟩
end
theorem pairs_drop (p : Int × Int) (l : List (Int × Int)) (j : Nat) : (pairs (p :: l))[2 + j]? = (pairs l)[j]? := by
  rw [show 2 + j = j + 2 by omega]
  simp [pairs]
theorem elem_pieces : Try.prog.underlying 90 = some (.slice (Try.prog.elem 90)) := by kernel_rfl
theorem size_pieces : ∀ w : World, (sizeOf (Try.prog.elem 90)).run Try.prog w = .ok 2 w := fun _ => by kernel_rfl
/-- 's[1:]' of a row that is not empty -/
theorem row_tail {lo hi : Nat} {w : World} {g o n c : Nat} {p : Int × Int} {l : List (Int × Int)} (h : RowIn lo hi w g (some ⟨g, o, none⟩) (p :: l)) (hn : (p :: l).length = n) (hc : n ≤ c) :
    ∃ A' c', (∀ w, (Instr.slice 90 (.slice (some ⟨g, o, none⟩) n c) (some (.int .i64 1)) none none).run Try.prog w = .ok (.slice A' (n - 1) c') w) ∧ n - 1 ≤ c' ∧ RowIn lo hi w g A' l := by
  refine ⟨if c = 1 then some ⟨g, o, none⟩ else (some (⟨g, o, none⟩ : Addr)).map (·.add (1 * 2)), c - 1, fun w => ?_, by omega, fun hl => ?_⟩
  · have hn1 : 1 ≤ n := by rw [← hn]; simp
    have := run_slice_l w 90 (some ⟨g, o, none⟩) n c elem_pieces .i64 1 (by omega) (by omega)
    rw [this, size_pieces]
    simp [sliced, Result.andThen]
  · obtain ⟨h1, h2, o', cur, e, hb, hcell⟩ := h (by simp)
    injection e with e
    injection e with _ e _
    subst e
    have hl2 : 2 ≤ n := by
      rw [← hn]
      cases l with
      | nil => exact absurd rfl hl
      | cons q l => simp
    rw [if_neg (by omega)]
    refine ⟨h1, h2, o + 2, cur, by simp [Addr.add], hb, fun j u hu => ?_⟩
    rw [Nat.add_assoc]
    exact hcell _ _ (by rw [pairs_drop]; exact hu)
theorem row_head {lo hi : Nat} {w : World} {g : Nat} {A : Option Addr} {p : Int × Int} {l : List (Int × Int)} (h : RowIn lo hi w g A (p :: l)) :
    ∃ o cur, A = some ⟨g, o, none⟩ ∧ lo ≤ g ∧ g < hi ∧ Blk w g 94 cur ∧ w.cell? ⟨g, o, none⟩ = some (.int .i64 p.1) ∧ w.cell? ⟨g, o + 1, none⟩ = some (.int .i64 p.2) ∧ ∀ j, w.frozen? ⟨g, j, none⟩ = false := by
  obtain ⟨h1, h2, o, cur, e, hb, hc⟩ := h (by simp)
  refine ⟨o, cur, e, h1, h2, hb, ?_, ?_, hb.frozen⟩
  · rw [hb.cell]; exact hc 0 _ rfl
  · rw [hb.cell]; exact hc 1 _ rfl
/-- a store to the first length -/
theorem row_set {lo hi : Nat} {w : World} {g o : Nat} {p : Int × Int} {l : List (Int × Int)} (h : RowIn lo hi w g (some ⟨g, o, none⟩) (p :: l)) (x : Int) : RowIn lo hi (w.setCell ⟨g, o, none⟩ (.int .i64 x)) g (some ⟨g, o, none⟩) ((x, p.2) :: l) := fun _ => by
  obtain ⟨h1, h2, o', cur, e, hb, hc⟩ := h (by simp)
  injection e with e
  injection e with _ e _
  subst e
  refine ⟨h1, h2, o, _, rfl, hb.set_ o (.int .i64 x), fun j u hu => ?_⟩
  rw [Array.getElem?_setIfInBounds]
  cases j with
  | zero =>
    have h0 := hc 0 _ (show (pairs (p :: l))[0]? = some (.int .i64 p.1) from rfl)
    have hlt : o < cur.size := by
      rcases Nat.lt_or_ge o cur.size with k | k
      · exact k
      · rw [Nat.add_zero, Array.getElem?_eq_none k] at h0; cases h0
    have hu' : u = .int .i64 x := by
      have : (pairs ((x, p.2) :: l))[0]? = some (.int .i64 x) := rfl
      rw [this] at hu
      injection hu with hu
      exact hu.symm
    subst hu'
    rw [if_pos (by omega), if_pos hlt]
  | succ j =>
    rw [if_neg (by omega)]
    refine hc (j + 1) u ?_
    rw [← hu]
    cases j with
    | zero => rfl
    | succ j => rw [show j + 1 + 1 = 2 + j by omega, pairs_drop, pairs_drop]
/-- .. and to another row -/
theorem RowIn.far {lo hi : Nat} {w : World} {g : Nat} {A : Option Addr} {l : List (Int × Int)} (h : RowIn lo hi w g A l) {p : Addr} (hp : g ≠ p.block) (u : Value) : RowIn lo hi (w.setCell p u) g A l := h.keep fun _ _ _ h => h.far hp u
theorem RowIn.grown {lo hi : Nat} {w w' : World} {g : Nat} {A : Option Addr} {l : List (Int × Int)} (h : RowIn lo hi w g A l) {row : Option Nat} (hg : w.grownBy w' row) (hr : ∀ k, row = some k → hi ≤ k) : RowIn lo hi w' g A l := h.keep fun _ _ h2 h => h.grown hg fun e => by have := hr g e.symm; omega
theorem RowIn.alloc {lo hi : Nat} {w : World} {g : Nat} {A : Option Addr} {l : List (Int × Int)} (h : RowIn lo hi w g A l) (o : Obj) : RowIn lo hi (w.alloc o) g A l := h.keep fun _ _ _ h => h.alloc o
theorem RowIn.drew {lo hi : Nat} {w : World} {g : Nat} {A : Option Addr} {l : List (Int × Int)} (h : RowIn lo hi w g A l) : RowIn lo hi w.drew g A l := h
/-- two rows in blocks of their own -/
def TwoRows (lo hi : Nat) (w : World) (A : Option Addr) (l : List (Int × Int)) (B : Option Addr) (m : List (Int × Int)) : Prop :=
  ∃ g k, RowIn lo hi w g A l ∧ RowIn lo hi w k B m ∧ (l ≠ [] → m ≠ [] → g ≠ k)
def OneRow (lo : Nat) (w : World) (A : Option Addr) (l : List (Int × Int)) : Prop := ∃ g, RowIn lo w.heap.size w g A l
theorem OneRow.of {lo : Nat} {w w' : World} {A : Option Addr} {c : Nat} {l : List (Int × Int)} (h : w'.ownsRow w.heap.size 94 2 (.slice A l.length c) l.length (pairs l)) (hlo : lo ≤ w.heap.size) : OneRow lo w' A l :=
  RowIn.of_own h hlo (Nat.le_refl _)
theorem TwoRows.of {lo : Nat} {w w' : World} {A B : Option Addr} {c : Nat} {l m : List (Int × Int)} (h1 : OneRow lo w A l) (h : w'.ownsRow w.heap.size 94 2 (.slice B m.length c) m.length (pairs m)) (hb : Below w.heap.size w w') (hlo : lo ≤ w.heap.size) : TwoRows lo w'.heap.size w' A l B m := by
  obtain ⟨g, hg⟩ := h1
  obtain ⟨k, hk⟩ := RowIn.of_own h (Nat.le_refl _) (Nat.le_refl _)
  refine ⟨g, k, (hg.go hb).more hb.size, fun hm => ?_, fun hl hm => ?_⟩
  · obtain ⟨k1, k2, r⟩ := hk hm
    exact ⟨by omega, k2, r⟩
  · have := (hg hl).2.1
    have := (hk hm).1
    omega
theorem TwoRows.symm {lo hi : Nat} {w : World} {A B : Option Addr} {l m : List (Int × Int)} (h : TwoRows lo hi w A l B m) : TwoRows lo hi w B m A l := by
  obtain ⟨g, k, h1, h2, h3⟩ := h
  exact ⟨k, g, h2, h1, fun a b e => h3 b a e.symm⟩
theorem own_cap {w : World} {base : Nat} {e : TypeId} {size n c : Nat} {A : Option Addr} {xs : List Value} (h : w.ownsRow base e size (.slice A n c) n xs) : n ≤ c := by
  rcases h.2 with ⟨h2, _⟩ | ⟨g, cap, cur, hv, hb, hh, h4, _, h6, h7⟩
  · injection h2 with _ h2; omega
  · injection hv with _ _ e3; omega
end Go.Proofs.Ytchafkocobbndaa
