/- slices.Sort and slices.Compact at texts of the call's own. No condition. -/
import Derived.Shelf.Sort.Plain
import Derived.Shelf.Slices.CompactS
import Derived.Shelf.Slices.In.SortNone
import Derived.Test.YtpamgeemmbbkkaaBase
import Derived.Test.YtpamgeemmbbkkaaBlk05
import Derived.Test.YtpamgeemmbbkkaaPNet
namespace Go.Proofs.Ytpamgeemmbbkkaa
def sortS_ren : Go.Shelf.Ren := ⟨fun | 190 => 81 | 125 => 98 | 258 => 97 | 128 => 115 | 129 => 116 | 302 => 106 | 303 => 107 | 304 => 108 | 305 => 109 | 306 => 110 | 307 => 111 | 308 => 112 | 309 => 113 | 310 => 114 | 333 => 117 | 329 => 118 | 330 => 119 | 334 => 120 | 335 => 121 | 336 => 122 | 344 => 123 | n => n, fun | 31 => 22 | 9 => 9 | 3 => 3 | 46 => 182 | 0 => 0 | 51 => 191 | 53 => 194 | 4 => 4 | 183 => 199 | 182 => 198 | 131 => 73 | 5 => 5 | 218 => 207 | 222 => 211 | 228 => 213 | 229 => 214 | n => n, fun | n => n⟩
set_option maxRecDepth 100000 in
theorem sortS : Go.Proofs.Lays.n190 Try.prog sortS_ren := {
  mixed := by kernel_rfl,
  f125 := Try.func98.trans (congrArg some (by kernel_rfl)),
  f128 := Try.func115.trans (congrArg some (by kernel_rfl)),
  f129 := Try.func116.trans (congrArg some (by kernel_rfl)),
  f190 := Try.func81.trans (congrArg some (by kernel_rfl)),
  f258 := Try.func97.trans (congrArg some (by kernel_rfl)),
  f302 := Try.func106.trans (congrArg some (by kernel_rfl)),
  f303 := Try.func107.trans (congrArg some (by kernel_rfl)),
  f304 := Try.func108.trans (congrArg some (by kernel_rfl)),
  f305 := Try.func109.trans (congrArg some (by kernel_rfl)),
  f306 := Try.func110.trans (congrArg some (by kernel_rfl)),
  f307 := Try.func111.trans (congrArg some (by kernel_rfl)),
  f308 := Try.func112.trans (congrArg some (by kernel_rfl)),
  f309 := Try.func113.trans (congrArg some (by kernel_rfl)),
  f310 := Try.func114.trans (congrArg some (by kernel_rfl)),
  f329 := Try.func118.trans (congrArg some (by kernel_rfl)),
  f330 := Try.func119.trans (congrArg some (by kernel_rfl)),
  f333 := Try.func117.trans (congrArg some (by kernel_rfl)),
  f334 := Try.func120.trans (congrArg some (by kernel_rfl)),
  f335 := Try.func121.trans (congrArg some (by kernel_rfl)),
  f336 := Try.func122.trans (congrArg some (by kernel_rfl)),
  f344 := Try.func123.trans (congrArg some (by kernel_rfl)),
  t0 := Try.underlying0,
  a0 := Try.isAgg0,
  z0 := Try.sizeOf0,
  v0 := Try.zeroValue0,
  t3 := Try.underlying3,
  a3 := Try.isAgg3,
  z3 := Try.sizeOf3,
  v3 := Try.zeroValue3,
  t4 := Try.underlying4,
  a4 := Try.isAgg4,
  z4 := Try.sizeOf4,
  v4 := Try.zeroValue4,
  t5 := Try.underlying5,
  a5 := Try.isAgg5,
  z5 := Try.sizeOf5,
  v5 := Try.zeroValue5,
  t9 := Try.underlying9,
  a9 := Try.isAgg9,
  z9 := Try.sizeOf9,
  v9 := Try.zeroValue9,
  t31 := Try.underlying22,
  a31 := Try.isAgg22,
  z31 := Try.sizeOf22,
  v31 := Try.zeroValue22,
  t46 := Try.underlying182,
  a46 := Try.isAgg182,
  z46 := Try.sizeOf182,
  v46 := Try.zeroValue182,
  t51 := Try.underlying191,
  a51 := Try.isAgg191,
  z51 := Try.sizeOf191,
  v51 := Try.zeroValue191,
  t53 := Try.underlying194,
  a53 := Try.isAgg194,
  z53 := Try.sizeOf194,
  v53 := Try.zeroValue194,
  t131 := Try.underlying73,
  a131 := Try.isAgg73,
  z131 := Try.sizeOf73,
  v131 := Try.zeroValue73,
  t182 := Try.underlying198,
  a182 := Try.isAgg198,
  z182 := Try.sizeOf198,
  v182 := Try.zeroValue198,
  t183 := Try.underlying199,
  a183 := Try.isAgg199,
  z183 := Try.sizeOf199,
  v183 := Try.zeroValue199,
  t218 := Try.underlying207,
  a218 := Try.isAgg207,
  z218 := Try.sizeOf207,
  v218 := Try.zeroValue207,
  t222 := Try.underlying211,
  a222 := Try.isAgg211,
  z222 := Try.sizeOf211,
  v222 := Try.zeroValue211,
  t228 := Try.underlying213,
  a228 := Try.isAgg213,
  z228 := Try.sizeOf213,
  v228 := Try.zeroValue213,
  t229 := Try.underlying214,
  a229 := Try.isAgg214,
  z229 := Try.sizeOf214,
  v229 := Try.zeroValue214 }
def compS_ren : Go.Shelf.Ren := ⟨fun | 194 => 82 | n => n, fun | 31 => 22 | 9 => 9 | 3 => 3 | 4 => 4 | 0 => 0 | n => n, fun | n => n⟩
set_option maxRecDepth 100000 in
theorem compS : Go.Proofs.Lays.n194 Try.prog compS_ren := {
  mixed := by kernel_rfl,
  f194 := Try.func82.trans (congrArg some (by kernel_rfl)),
  t0 := Try.underlying0,
  a0 := Try.isAgg0,
  z0 := Try.sizeOf0,
  v0 := Try.zeroValue0,
  t3 := Try.underlying3,
  a3 := Try.isAgg3,
  z3 := Try.sizeOf3,
  v3 := Try.zeroValue3,
  t4 := Try.underlying4,
  a4 := Try.isAgg4,
  z4 := Try.sizeOf4,
  v4 := Try.zeroValue4,
  t9 := Try.underlying9,
  a9 := Try.isAgg9,
  z9 := Try.sizeOf9,
  v9 := Try.zeroValue9,
  t31 := Try.underlying22,
  a31 := Try.isAgg22,
  z31 := Try.sizeOf22,
  v31 := Try.zeroValue22 }
end Go.Proofs.Ytpamgeemmbbkkaa
namespace Go.Proofs.Ytpamgeemmbbkkaa
open Go.RowKit Go.Sort
theorem info_str : (Try.prog.info? 9).map (fun i => (i.zero, i.size, i.bytes)) = some (some (.string ⟨#[]⟩), 1, 16) := by kernel_rfl
/-- texts as values -/
def strs (zs : List (List UInt8)) : List Value := zs.map encStr
theorem strs_length (zs : List (List UInt8)) : (strs zs).length = zs.length := by simp [strs]
theorem strs_append (a b : List (List UInt8)) : strs (a ++ b) = strs a ++ strs b := by simp [strs]
theorem enc_lst (s : ByteArray) : encStr (Pl.lst s) = .string s := rfl
section
variable {w : World} {base g cap m : Nat} {e : TypeId}
theorem holds_strs {zs : List (List UInt8)} (h : w.ownsRow base e 1 (.slice (some ⟨g, 0, none⟩) m cap) m (strs zs)) : Holds encStr w g 0 zs.toArray := by
  intro j hj
  refine ⟨?_, World.ownsRow.frozenAt h (0 + j)⟩
  have hj2 : j < zs.length := by simpa using hj
  have := h.cells (g := g) rfl j (encStr (zs[j])) (by simp [strs, hj2])
  rw [Srt.addr_add] at this
  rw [Nat.zero_add, getElem!_pos zs.toArray j hj]
  simpa using this
theorem own_put1 {n : Nat} {os : Array Obj} {zs : List (List UInt8)} {ys : List (List UInt8)} (h : w.ownsRow base e 1 (.slice (some ⟨g, 0, none⟩) m cap) m (strs zs)) (hF : ys.length = zs.length) :
    (grow (putRow encStr (Sort.ahead w n) g 0 ys.toArray) os).ownsRow base e 1 (.slice (some ⟨g, 0, none⟩) m cap) m (strs ys) := by
  have hl : zs.length = m := by have := h.1; simpa [strs] using this
  rcases h.2 with ⟨h0, _⟩ | ⟨g', cap', cur, hv, hb, hh, h1, h2, h3, h4⟩
  · cases h0
  · injection hv with e1 e2 e3
    injection e1 with e1
    injection e1 with e1
    subst e1 e3
    have hg : g < w.heap.size := (Array.getElem?_eq_some_iff.1 hh).1
    refine ⟨by simp [strs]; omega, Or.inr ⟨g, cap, putCells encStr 0 ys.toArray cur, rfl, hb, ?_, h1, h2, by simp [putCells, h3], ?_⟩⟩
    · rw [heap_grow_old _ _ (by simpa using hg)]
      simp [putRow, mapBlock, Sort.ahead, Array.getElem?_modify, hh, onCells]
    · apply List.ext_getElem?
      intro j
      by_cases hj : j < m
      · have hjF : j < ys.length := by omega
        have hjc : j < cur.size := by omega
        rw [List.getElem?_take_of_lt (by omega), Array.getElem?_toList]
        simp [putCells, strs, hjF, hjc]
      · rw [List.getElem?_take_eq_none (by omega), List.getElem?_eq_none (by simp [strs]; omega)]
theorem grown_put1 {n : Nat} {os : Array Obj} (F' : Array (List UInt8)) : w.grownBy (grow (putRow encStr (Sort.ahead w n) g 0 F') os) (some g) := by
  refine ⟨rfl, rfl, rfl, by simp, fun k hk hne => ?_⟩
  rw [heap_grow_old _ _ (by simpa using hk)]
  have : g ≠ k := fun e => hne (by rw [e])
  simp [putRow, mapBlock, Sort.ahead, Array.getElem?_modify, this]
/-- a row cut to its first elements -/
theorem own_cut {xs ys : List Value} {k : Nat} (h : w.ownsRow base e 1 (.slice (some ⟨g, 0, none⟩) m cap) m (xs ++ ys)) (hk : xs.length = k) : w.ownsRow base e 1 (.slice (some ⟨g, 0, none⟩) k cap) k xs := by
  have hm : xs.length + ys.length = m := by have := h.1; simpa using this
  rcases h.2 with ⟨h0, _⟩ | ⟨g', cap', cur, hv, hb, hh, h1, h2, h3, h4⟩
  · cases h0
  · injection hv with e1 e2 e3
    subst e3
    refine ⟨by omega, Or.inr ⟨g', cap, cur, ?_, hb, hh, by omega, h2, h3, ?_⟩⟩
    · injection e1 with e1; injection e1 with e1; subst e1; rfl
    · have : cur.toList.take (k * 1) = (cur.toList.take (m * 1)).take (k * 1) := by rw [List.take_take, Nat.min_eq_left (by omega)]
      rw [this, h4]
      simp [← hk]
end
/-- slices.Sort on texts of the call's own -/
theorem sort_own (base : Nat) (A : Option Addr) (c : Nat) (zs : List (List UInt8)) (w : World) (hl : zs.length ≤ 1000000000) (hown : w.ownsRow base 9 1 (.slice A zs.length c) zs.length (strs zs)) :
    Calls Try.prog 81 #[.slice A zs.length c] w fun e w' => e = .returned (.tuple #[]) ∧ w'.ownsRow base 9 1 (.slice A zs.length c) zs.length (strs (zs.mergeSort fun x y => decide (x ≤ y))) ∧ w.grownBy w' (Value.slice A zs.length c).ownBlock := by
  rcases hown.2 with ⟨hv, _⟩ | ⟨g, cap, cur, hv, hg1, hh, hcap, _⟩
  · injection hv with hv1 hv2 hv3
    have hS0 : zs = [] := List.eq_nil_of_length_eq_zero hv2
    subst hS0 hv1 hv3
    have h := Any.slices_Sort_string_none sortS none 0 w
    change Calls Try.prog 81 _ _ _ at h
    refine h.mono ?_
    rintro e w1 ⟨rfl, rfl⟩
    exact ⟨rfl, by simpa using hown, World.grownBy.refl _ _⟩
  · injection hv with hv1 hv2 hv3
    subst hv1 hv3
    have hgl : g < w.heap.size := (Array.getElem?_eq_some_iff.1 hh).1
    have h := Any.slices_Sort_string sortS g 0 c zs w (holds_strs hown) hgl (by omega)
    change Calls Try.prog 81 _ _ _ at h
    refine h.mono ?_
    rintro e w1 ⟨rfl, n, os, rfl⟩
    exact ⟨rfl, own_put1 hown (List.length_mergeSort _), grown_put1 _⟩
/-- slices.Compact on texts of the call's own -/
theorem compact_own (base : Nat) (A : Option Addr) (c : Nat) (zs : List (List UInt8)) (w : World) (hl : zs.length ≤ 1000000000) (hown : w.ownsRow base 9 1 (.slice A zs.length c) zs.length (strs zs)) :
    Calls Try.prog 82 #[.slice A zs.length c] w fun e w' => e = .returned (.slice A (Go.Lib.compact zs).length c) ∧ w'.ownsRow base 9 1 (.slice A (Go.Lib.compact zs).length c) (Go.Lib.compact zs).length (strs (Go.Lib.compact zs)) ∧ w.grownBy w' (Value.slice A zs.length c).ownBlock := by
  rcases hown.2 with ⟨hv, _⟩ | ⟨g, cap, cur, hv, hg1, hh, hcap, _⟩
  · injection hv with hv1 hv2 hv3
    have hS0 : zs = [] := List.eq_nil_of_length_eq_zero hv2
    subst hS0 hv1 hv3
    have h := Any.slices_Compact_string_empty compS none 0 w
    change Calls Try.prog 82 _ _ _ at h
    refine h.mono ?_
    rintro e w1 ⟨rfl, rfl⟩
    exact ⟨rfl, hown, World.grownBy.refl _ _⟩
  · injection hv with hv1 hv2 hv3
    subst hv1 hv3
    have h := Any.slices_Compact_string compS g 0 c zs w (holds_strs hown) (by omega) hcap
    change Calls Try.prog 82 _ _ _ at h
    refine h.mono ?_
    rintro e w1 ⟨rfl, n, rfl⟩
    have hle : (Go.Lib.compact zs).length ≤ zs.length := by
      unfold Go.Lib.compact Go.Lib.compactUpTo
      rw [List.length_map]
      exact Nat.le_trans (List.length_filter_le _ _) (by simp)
    have h1 := own_put1 (n := n) (os := #[]) (ys := Go.Lib.compact zs ++ List.replicate (zs.length - (Go.Lib.compact zs).length) []) hown (by simp; omega)
    have h2 := grown_put1 (w := w) (g := g) (n := n) (os := #[]) (Go.Lib.compact zs ++ List.replicate (zs.length - (Go.Lib.compact zs).length) []).toArray
    rw [grow_empty] at h1 h2
    rw [strs_append] at h1
    exact ⟨rfl, own_cut h1 (strs_length _), h2⟩
end Go.Proofs.Ytpamgeemmbbkkaa
namespace Go.Proofs.Ytpamgeemmbbkkaa.Pl
section
variable {α : Type} [Inhabited α] [DecidableEq α]
omit [DecidableEq α] in
theorem getBang (zs : List α) (i : Nat) (h : i < zs.length) : (zs.toArray)[i]! = zs[i] := by
  rw [getElem!_pos zs.toArray i (by simpa using h)]
  simp
theorem compact_mem (zs : List α) (s : α) : s ∈ Go.Lib.compact zs ↔ s ∈ zs := by
  unfold Go.Lib.compact Go.Lib.compactUpTo
  simp only [List.mem_map, List.mem_filter, List.mem_range]
  constructor
  · rintro ⟨i, ⟨hi, _⟩, rfl⟩
    rw [getBang zs i hi]
    exact List.getElem_mem hi
  · intro h
    obtain ⟨j, hj, rfl⟩ := List.getElem_of_mem h
    -- the first of its run
    have key : ∀ k, k ≤ j → (∀ i (hi : i < zs.length), k ≤ i → i ≤ j → zs[i] = zs[j]) → ∃ a, (a < zs.length ∧ Go.Lib.keeps zs.toArray a = true) ∧ zs.toArray[a]! = zs[j] := by
      intro k
      induction k with
      | zero =>
        intro hk h
        refine ⟨0, ⟨by omega, by simp [Go.Lib.keeps]⟩, ?_⟩
        rw [getBang zs 0 (by omega)]
        exact h 0 (by omega) (Nat.le_refl _) (by omega)
      | succ k ih =>
        intro hk h
        by_cases e : zs[k] = zs[j]
        · exact ih (by omega) fun i hi h1 h2 => by
            by_cases e2 : i = k
            · subst e2; exact e
            · exact h i hi (by omega) h2
        · refine ⟨k + 1, ⟨by omega, ?_⟩, ?_⟩
          · apply Go.Lib.keeps_pos
            rw [getBang zs (k + 1) (by omega), show k + 1 - 1 = k from rfl, getBang zs k (by omega), h (k + 1) (by omega) (Nat.le_refl _) (by omega)]
            exact fun e2 => e e2.symm
          · rw [getBang zs (k + 1) (by omega)]
            exact h (k + 1) (by omega) (Nat.le_refl _) (by omega)
    exact key j (Nat.le_refl _) fun i hi h1 h2 => by
      have : i = j := by omega
      subst this; rfl
end
end Go.Proofs.Ytpamgeemmbbkkaa.Pl
