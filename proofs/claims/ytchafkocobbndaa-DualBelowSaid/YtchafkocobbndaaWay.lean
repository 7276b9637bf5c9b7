/- Ways of commit.Best in memory: a place, a cost, and the powers of each period; slices.Clone at slices of integers. No condition. -/
import Derived.Test.YtchafkocobbndaaPCommitB
import Derived.Test.YtchafkocobbndaaQuiet
import Derived.Test.YtchafkocobbndaaCloI
namespace Go.Proofs.Ytchafkocobbndaa
open Go.RowKit
theorem info_way : (Try.prog.info? 77).map (fun i => (i.zero, i.size, i.bytes)) = some (some (.agg #[.bool false, .int .i64 0, .bool false, .int .i64 0, .bool false, .int .i64 0, .int .i64 0, .slice none 0 0]), 8, 80) := by kernel_rfl
theorem info_place : (Try.prog.info? 75).map (fun i => (i.zero, i.size, i.bytes)) = some (some (.agg #[.bool false, .int .i64 0, .bool false, .int .i64 0, .bool false, .int .i64 0]), 6, 48) := by kernel_rfl
theorem info_sint : (Try.prog.info? 23).map (fun i => (i.zero, i.size, i.bytes)) = some (some (.slice none 0 0), 1, 24) := by kernel_rfl
theorem info_bool : (Try.prog.info? 4).map (fun i => (i.zero, i.size, i.bytes)) = some (some (.bool false), 1, 1) := by kernel_rfl
/-- a slice of integers and its numbers -/
abbrev MRow := Option Addr × Nat × List Int
def rowv (r : MRow) : Value := .slice r.1 r.2.2.length r.2.1
/-- a way as memory holds it -/
structure MW where
  s0 : Bool × Int
  s1 : Bool × Int
  s2 : Bool × Int
  cost : Int
  A : Option Addr
  c : Nat
  rows : List MRow
def MW.way (u : MW) : Pl.Way := ⟨[u.s0, u.s1, u.s2], u.cost, u.rows.map (·.2.2)⟩
def wcells (u : MW) : List Value := [.bool u.s0.1, .int .i64 u.s0.2, .bool u.s1.1, .int .i64 u.s1.2, .bool u.s2.1, .int .i64 u.s2.2, .int .i64 u.cost, .slice u.A u.rows.length u.c]
def vWay (u : MW) : Value := .agg #[.bool u.s0.1, .int .i64 u.s0.2, .bool u.s1.1, .int .i64 u.s1.2, .bool u.s2.1, .int .i64 u.s2.2, .int .i64 u.cost, .slice u.A u.rows.length u.c]
def ways (l : List MW) : List Value := l.flatMap wcells
/-- the powers of a way are memory of the call's own -/
def WyIn (base : Nat) (w : World) (u : MW) : Prop :=
  w.ownsRow base 23 1 (.slice u.A u.rows.length u.c) u.rows.length (u.rows.map rowv) ∧ ∀ r ∈ u.rows, w.ownsRow base 3 1 (rowv r) r.2.2.length (ints r.2.2)
theorem WyIn.go {base : Nat} {w w' : World} {u : MW} (h : WyIn base w u) (hb : Below w.heap.size w w') : WyIn base w' u := ⟨own_go h.1 hb, fun r hr => own_go (h.2 r hr) hb⟩
theorem WyIn.base_le {base b : Nat} {w : World} {u : MW} (h : WyIn b w u) (hb : base ≤ b) : WyIn base w u := ⟨own_base h.1 hb, fun r hr => own_base (h.2 r hr) hb⟩
/-- an owned row's block holds its type -/
theorem own_type {w : World} {base : Nat} {e : TypeId} {size n : Nat} {v : Value} {xs : List Value} (h : w.ownsRow base e size v n xs) (g : Nat) (hg : v.ownBlock = some g) : ∃ cs, Blk w g e cs := by
  rcases h.2 with ⟨rfl, _⟩ | ⟨g', cap, cur, rfl, _, hb, _⟩
  · cases hg
  · injection hg with hg
    subst hg
    exact ⟨cur, hb⟩
/-- a way is kept while memory of other types is written -/
theorem WyIn.kept {base : Nat} {w w' : World} {u : MW} (h : WyIn base w u) {row : Option Nat} (hg : w.grownBy w' row) (hne : ∀ g, row = some g → ∀ t cs, Blk w g t cs → t ≠ 23 ∧ t ≠ 3) : WyIn base w' u := by
  have key : ∀ {e : TypeId} {size n : Nat} {v : Value} {xs : List Value}, (e = 23 ∨ e = 3) → w.ownsRow base e size v n xs → w'.ownsRow base e size v n xs := fun he ho => by
    refine ho.kept hg ?_
    rcases hv : Value.ownBlock _ with _ | g
    · exact .inl rfl
    · refine .inr fun e2 => ?_
      obtain ⟨cs, hb⟩ := own_type ho g hv
      obtain ⟨n1, n2⟩ := hne g e2.symm _ cs hb
      rcases he with he | he
      · exact n1 he
      · exact n2 he
  exact ⟨key (.inl rfl) h.1, fun r hr => key (.inr rfl) (h.2 r hr)⟩
theorem grown_set (w : World) (g j : Nat) (u : Value) : w.grownBy (w.setCell ⟨g, j, none⟩ u) (some g) := ⟨rfl, rfl, rfl, by simp, fun k _ hk => heap_setCell_other w ⟨g, j, none⟩ k u (fun e => hk (by simp [e]))⟩
theorem blk_type {w : World} {g : Nat} {t t' : TypeId} {cs cs' : Array Value} (h : Blk w g t cs) (h' : Blk w g t' cs') : t' = t := by
  have := h.symm.trans h'
  injection this with this
  injection this with _ h2
  first
    | exact h2.symm
    | cases this; rfl
theorem ways_snoc (l : List MW) (u : MW) : ways (l ++ [u]) = ways l ++ wcells u := by unfold ways; rw [List.flatMap_append]; simp
theorem ways_length (l : List MW) : (ways l).length = l.length * 8 := by
  induction l with
  | nil => rfl
  | cons p l ih => simp [ways, wcells] at ih ⊢; omega
theorem ways_at (l : List MW) (k : Nat) (hk : k < l.length) (j : Nat) (hj : j < 8) : (ways l)[k * 8 + j]? = (wcells l[k])[j]? := by
  induction l generalizing k with
  | nil => simp at hk
  | cons p l ih =>
    have e : ways (p :: l) = wcells p ++ ways l := rfl
    rw [e]
    cases k with
    | zero =>
      rw [List.getElem?_append_left (by simp [wcells]; omega)]
      simp
    | succ k =>
      rw [List.getElem?_append_right (by simp [wcells]; omega)]
      rw [show (k + 1) * 8 + j - (wcells p).length = k * 8 + j by simp [wcells]; omega]
      exact ih k (by simpa using hk)
theorem ways_one (l : List MW) : ∀ u ∈ ways l, u.oneCell' = true := by
  intro u hu
  unfold ways at hu
  obtain ⟨o, _, h⟩ := List.mem_flatMap.1 hu
  simp [wcells] at h
  rcases h with rfl | rfl | rfl | rfl | rfl | rfl | rfl | rfl <;> rfl
theorem Reads.way_at {w : World} {B n : Nat} {A : Option Addr} {l : List MW} (h : Reads w B 8 A n (ways l)) {k : Nat} (hk : k < n) :
    ∃ b o, A = some ⟨b, o, none⟩ ∧ b < B ∧ ∃ hl : k < l.length, ∀ j v, (wcells (l[k]'hl))[j]? = some v → w.cell? ⟨b, o + k * 8 + j, none⟩ = some v := by
  obtain ⟨b, o, rfl, hb, hc⟩ := h.where_ (by omega) (by omega)
  have hl : k < l.length := by have := h.1; rw [ways_length] at this; omega
  refine ⟨b, o, rfl, hb, hl, fun j v hv => ?_⟩
  have hj : j < 8 := by
    rcases Nat.lt_or_ge j 8 with h | h
    · exact h
    · rw [List.getElem?_eq_none (by simp [wcells]; omega)] at hv; cases hv
  have := hc (k * 8 + j) v (by rw [ways_at l k hl j hj]; exact hv)
  rwa [← Nat.add_assoc] at this
theorem rows_one (l : List MRow) : ∀ u ∈ l.map rowv, u.oneCell' = true := by
  intro u hu
  obtain ⟨o, _, rfl⟩ := List.mem_map.1 hu
  rfl
set_option maxRecDepth 100000 in
theorem clone_rows (A : Option Addr) (n c : Nat) (l : List MRow) (w : World) (hn : n ≤ 1000000) (hr : Reads w w.heap.size 1 A n (l.map rowv)) :
    Calls Try.prog 52 #[.slice A n c] w (CloneSaid 23 1 n (l.map rowv) w) := by
  obtain ⟨i0, hi0, hz0, hz1, hz2⟩ := info_parts info_sint
  rcases A with _ | ⟨b, o, s⟩
  · have h0 : n = 0 := by
      rcases Nat.eq_zero_or_pos n with h | h
      · exact h
      · obtain ⟨_, h, _⟩ := hr.2 h; cases h
    subst h0
    have hl : l.map rowv = [] := List.eq_nil_of_length_eq_zero (by simpa using hr.1)
    rw [hl]
    clear hl hr hi0 hz0 hz1 hz2
    have hnil : ∀ W, (binOp .eql 41 (.slice none 0 c) (.slice none 0 0)).run Try.prog W = .ok (.bool true) W := fun W => Lib.run_eql_slice_nil W _ _ none 0 c 0 0 Try.underlying41
    go_enter Try.func52, Try.ntmps52
    go_wp2_with fail
    go_ret
    exact ⟨none, 0, rfl, World.ownsRow_nil _ _ _ _, Below.refl _ _⟩
  · have hnil : ∀ W, (binOp .eql 41 (.slice (some ⟨b, o, s⟩) n c) (.slice none 0 0)).run Try.prog W = .ok (.bool false) W := fun W => Lib.run_eql_slice_nil W _ _ (some ⟨b, o, s⟩) n c 0 0 Try.underlying41
    have HR : Hid (Reads (w.alloc (.cells #[] 23)) w.heap.size 1 (some ⟨b, o, s⟩) n (l.map rowv)) := hr.alloc (Nat.le_refl _) _
    have HO := Lib.hid (own_empty w 23 1 w.heap.size w.heap.size rfl (Nat.le_refl _))
    have HB := Lib.hid ((Below.refl w.heap.size w).alloc (Nat.le_refl _) (.cells #[] 23))
    have HONE := Lib.hid (rows_one l)
    generalize l.map rowv = xs at *
    go_enter Try.func52, Try.ntmps52
    go_wp2_with (at_builtin; go_must (refine wpList_append_any _ rfl (.tmp 5) (.tmp 6) 41 rfl w.heap.size 23 i0 _ 1 24 Try.underlying41 hi0 hz0 hz1 hz2 rfl (by decide) (.slice (some ⟨w.heap.size, 0, none⟩) 0 0) 0 [] rfl HO.out w.heap.size (some ⟨b, o, s⟩) n c xs rfl HR.out HONE.out (by unfold maxLen; omega) (by omega) (by simp) ?_); intro v' w3 hown3 hg3 _; have HO3 := Lib.hid hown3; have HG3 := Lib.hid hg3; clear hown3 hg3)
    have HO4 := HO3.out
    rw [Nat.zero_add, List.nil_append] at HO4
    obtain ⟨A', c', rfl, _⟩ := own_slice HO4
    go_ret
    exact ⟨A', c', rfl, HO4, below_grown HB.out HG3.out HO.out (Nat.le_refl _) (by simp)⟩
end Go.Proofs.Ytchafkocobbndaa
