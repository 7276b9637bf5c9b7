/- The library's contracts for slices.Index and slices.Contains at texts lie in this program, and as the walks use them: at texts that merely read. No condition. -/
import Derived.Shelf.Slices.Turned
import Derived.Test.YtoblpcljhblnmaaGreatDoorBase
import Derived.Test.YtoblpcljhblnmaaGreatDoorPNet
namespace Go.Proofs.YtoblpcljhblnmaaGreatDoor
open Go.RowKit
def idxS_ren : Go.Shelf.Ren := ⟨fun | 109 => 23 | n => n, fun | 31 => 22 | 9 => 9 | 4 => 4 | 3 => 3 | 0 => 0 | n => n, fun | n => n⟩
set_option maxRecDepth 100000 in
theorem idxS : Go.Proofs.Lays.n109 Tryz.prog idxS_ren := {
  mixed := by kernel_rfl,
  f109 := Tryz.func23.trans (congrArg some (by kernel_rfl)),
  t0 := Tryz.underlying0,
  a0 := Tryz.isAgg0,
  z0 := Tryz.sizeOf0,
  v0 := Tryz.zeroValue0,
  t3 := Tryz.underlying3,
  a3 := Tryz.isAgg3,
  z3 := Tryz.sizeOf3,
  v3 := Tryz.zeroValue3,
  t4 := Tryz.underlying4,
  a4 := Tryz.isAgg4,
  z4 := Tryz.sizeOf4,
  v4 := Tryz.zeroValue4,
  t9 := Tryz.underlying9,
  a9 := Tryz.isAgg9,
  z9 := Tryz.sizeOf9,
  v9 := Tryz.zeroValue9,
  t31 := Tryz.underlying22,
  a31 := Tryz.isAgg22,
  z31 := Tryz.sizeOf22,
  v31 := Tryz.zeroValue22 }
def conS_ren : Go.Shelf.Ren := ⟨fun | 110 => 128 | 109 => 23 | n => n, fun | 31 => 22 | 9 => 9 | 4 => 4 | 3 => 3 | 0 => 0 | n => n, fun | n => n⟩
set_option maxRecDepth 100000 in
theorem conS : Go.Proofs.Lays.n110 Tryz.prog conS_ren := {
  mixed := by kernel_rfl,
  f109 := Tryz.func23.trans (congrArg some (by kernel_rfl)),
  f110 := Tryz.func128.trans (congrArg some (by kernel_rfl)),
  t0 := Tryz.underlying0,
  a0 := Tryz.isAgg0,
  z0 := Tryz.sizeOf0,
  v0 := Tryz.zeroValue0,
  t3 := Tryz.underlying3,
  a3 := Tryz.isAgg3,
  z3 := Tryz.sizeOf3,
  v3 := Tryz.zeroValue3,
  t4 := Tryz.underlying4,
  a4 := Tryz.isAgg4,
  z4 := Tryz.sizeOf4,
  v4 := Tryz.zeroValue4,
  t9 := Tryz.underlying9,
  a9 := Tryz.isAgg9,
  z9 := Tryz.sizeOf9,
  v9 := Tryz.zeroValue9,
  t31 := Tryz.underlying22,
  a31 := Tryz.isAgg22,
  z31 := Tryz.sizeOf22,
  v31 := Tryz.zeroValue22 }
/-- texts as values -/
def txts (zs : List ByteArray) : List Value := zs.map Value.string
theorem txts_len {w : World} {B n : Nat} {A : Option Addr} {zs : List ByteArray} (h : Reads w B 1 A n (txts zs)) : zs.length = n := by
  have := h.1; simpa [txts] using this
theorem txts_at {w : World} {B n : Nat} {A : Option Addr} {zs : List ByteArray} (h : Reads w B 1 A n (txts zs)) {k : Nat} (hk : k < n) :
    ∃ b o, A = some ⟨b, o, none⟩ ∧ b < B ∧ ∃ hl : k < zs.length, w.cell? ⟨b, o + k, none⟩ = some (.string (zs[k]'hl)) := by
  obtain ⟨b, o, rfl, hb, hc⟩ := h.where_ (by omega) (by omega)
  have hl : k < zs.length := by have := txts_len h; omega
  exact ⟨b, o, rfl, hb, hl, hc k _ (by simp [txts, hl])⟩
theorem txts_cells {w : World} {B n : Nat} {zs : List ByteArray} {b o : Nat} (h : Reads w B 1 (some ⟨b, o, none⟩) n (txts zs)) : ∀ j, j < zs.length → w.cell? ⟨b, o + j, none⟩ = some (.string (zs.getD j ByteArray.empty)) := by
  intro j hj
  obtain ⟨b', o', e, _, hl, hc⟩ := txts_at h (k := j) (by rw [← txts_len h]; exact hj)
  injection e with e
  injection e with e1 e2
  subst e1 e2
  rw [hc]
  simp [List.getD_eq_getElem?_getD, hj]
theorem inB_lib (zs : List ByteArray) (x : ByteArray) : Go.Lib.containsS zs x = Pl.inB zs x := by
  rw [Bool.eq_iff_iff, Go.Lib.containsS_iff, Pl.inB_iff]
def Pl.idxS (zs : List ByteArray) (x : ByteArray) : Int := Pl.idxOf (fun z => decide (Pl.lst z = Pl.lst x)) zs
theorem lstEq_iff {a b : ByteArray} : Pl.lst a = Pl.lst b ↔ a = b := ⟨Pl.lst_inj, congrArg _⟩
theorem idxS_lib (zs : List ByteArray) (x : ByteArray) : Go.Lib.idxOfS zs x = Pl.idxS zs x := by
  unfold Pl.idxS Pl.idxOf
  cases h : zs.findIdx? (fun z => decide (Pl.lst z = Pl.lst x)) with
  | none =>
    rw [List.findIdx?_eq_none_iff] at h
    rw [show zs = zs.take zs.length by simp]
    exact Go.Lib.idxOfS_miss zs zs.length x fun j hj e => by
      have := h (zs.getD j ByteArray.empty) (by simp [List.getD_eq_getElem?_getD, hj])
      simp [lstEq_iff] at this
      exact this e
  | some i =>
    rw [List.findIdx?_eq_some_iff_getElem] at h
    obtain ⟨hi, h1, h2⟩ := h
    have e := Go.Lib.idxOfS_hit zs zs.length i x hi (Nat.le_refl _) (by simpa [List.getD_eq_getElem?_getD, hi, lstEq_iff] using h1) fun j hj e => by
      have := h2 j hj
      simp [lstEq_iff] at this
      exact this (by simpa [List.getD_eq_getElem?_getD, show j < zs.length by omega] using e)
    rw [List.take_length] at e
    exact e
theorem index_txt (A : Option Addr) (n c : Nat) (zs : List ByteArray) (nm : ByteArray) (w : World) (B : Nat) (hn : n ≤ 9223372036854775807) (h : Reads w B 1 A n (txts zs)) :
    Calls Tryz.prog 23 #[.slice A n c, .string nm] w fun e w' => e = .returned (.int .i64 (Pl.idxS zs nm)) ∧ w' = w := by
  have hl := txts_len h
  rcases Nat.eq_zero_or_pos n with h0 | h0
  · subst h0
    have : zs = [] := List.eq_nil_of_length_eq_zero hl
    subst this
    have h := Any.slices_Index_string_empty idxS A c nm w
    change Calls Tryz.prog 23 _ _ _ at h
    refine h.mono ?_
    rintro e w1 ⟨rfl, rfl⟩
    exact ⟨by rw [idxS_lib], rfl⟩
  · obtain ⟨b, o, rfl, _, _, _⟩ := txts_at h h0
    have h := Any.slices_Index_string idxS b o n c zs nm w (by omega) hn (txts_cells h)
    change Calls Tryz.prog 23 _ _ _ at h
    refine h.mono ?_
    rintro e w1 ⟨rfl, rfl⟩
    exact ⟨by rw [idxS_lib, ← hl, List.take_length], rfl⟩
theorem contains_txt (A : Option Addr) (n c : Nat) (zs : List ByteArray) (nm : ByteArray) (w : World) (B : Nat) (hn : n ≤ 9223372036854775807) (h : Reads w B 1 A n (txts zs)) :
    Calls Tryz.prog 128 #[.slice A n c, .string nm] w fun e w' => e = .returned (.bool (Pl.inB zs nm)) ∧ w' = w := by
  have hl := txts_len h
  rcases Nat.eq_zero_or_pos n with h0 | h0
  · subst h0
    have : zs = [] := List.eq_nil_of_length_eq_zero hl
    subst this
    have h := Any.slices_Contains_string_empty conS A c nm w
    change Calls Tryz.prog 128 _ _ _ at h
    refine h.mono ?_
    rintro e w1 ⟨rfl, rfl⟩
    exact ⟨rfl, rfl⟩
  · obtain ⟨b, o, rfl, _, _, _⟩ := txts_at h h0
    have h := Any.slices_Contains_string conS b o n c zs nm w (by omega) hn (txts_cells h)
    change Calls Tryz.prog 128 _ _ _ at h
    refine h.mono ?_
    rintro e w1 ⟨rfl, rfl⟩
    exact ⟨by rw [← hl, List.take_length, inB_lib], rfl⟩
end Go.Proofs.YtoblpcljhblnmaaGreatDoor
