/- Slices of texts and of entries of a ledger in memory; ledger.accounts gives the names of all accounts, sorted, each once. Condition: the entries lie in memory as the words say. ledger.Check gives what its plain function gives. Condition: the entries lie in memory as the words say. slices.Contains at texts that a call owns. No condition but that. -/
import Derived.Test.YtibhgcldogfonaaGreatDoorShelf
import Derived.Test.YtibhgcldogfonaaGreatDoorPLed
import Derived.Test.YtibhgcldogfonaaGreatDoorQuiet
import Derived.Test.YtibhgcldogfonaaGreatDoorName
import Derived.Test.YtibhgcldogfonaaGreatDoorBaseC
namespace Go.Proofs.YtibhgcldogfonaaGreatDoor
open Go.RowKit Go.Sort
theorem info_str : (Tryz.prog.info? 9).map (fun i => (i.zero, i.size, i.bytes)) = some (some (.string ⟨#[]⟩), 1, 16) := by kernel_rfl
theorem info_ent : (Tryz.prog.info? 38).map (fun i => (i.zero, i.size, i.bytes)) = some (some (.agg #[.string ⟨#[]⟩, .string ⟨#[]⟩, .int .i64 0]), 3, 40) := by kernel_rfl
/-- texts as values -/
def strs (zs : List (List UInt8)) : List Value := zs.map encStr
theorem strs_length (zs : List (List UInt8)) : (strs zs).length = zs.length := by simp [strs]
theorem strs_append (a b : List (List UInt8)) : strs (a ++ b) = strs a ++ strs b := by simp [strs]
theorem enc_bl (s : ByteArray) : encStr (Pl.bl s) = .string s := rfl
section
variable {w : World} {base g cap m : Nat} {e : TypeId}
theorem holds_strs {zs : List (List UInt8)} (h : w.ownsRow base e 1 (.slice (some ⟨g, 0, none⟩) m cap) m (strs zs)) : Holds encStr w g 0 zs.toArray := by
  intro j hj
  refine ⟨?_, World.ownsRow.frozenAt h (0 + j)⟩
  have hj2 : j < zs.length := by simpa using hj
  have := h.cells (g := g) rfl j (encStr (zs[j])) (by simp [strs, hj2])
  rw [Srt.addr_add] at this
  rw [Nat.zero_add, getElem!_pos zs.toArray j hj]
  simpa using this
theorem own_put1 {n : Nat} {os : Array Obj} {zs : List (List UInt8)} {ys : List (List UInt8)} (h : w.ownsRow base e 1 (.slice (some ⟨g, 0, none⟩) m cap) m (strs zs)) (hF : ys.length = zs.length) :
    (grow (putRow encStr (Sort.ahead w n) g 0 ys.toArray) os).ownsRow base e 1 (.slice (some ⟨g, 0, none⟩) m cap) m (strs ys) := by
  have hl : zs.length = m := by have := h.1; simpa [strs] using this
  rcases h.2 with ⟨h0, _⟩ | ⟨g', cap', cur, hv, hb, hh, h1, h2, h3, h4⟩
  · cases h0
  · injection hv with e1 e2 e3
    injection e1 with e1
    injection e1 with e1
    subst e1 e3
    have hg : g < w.heap.size := (Array.getElem?_eq_some_iff.1 hh).1
    refine ⟨by simp [strs]; omega, Or.inr ⟨g, cap, putCells encStr 0 ys.toArray cur, rfl, hb, ?_, h1, h2, by simp [putCells, h3], ?_⟩⟩
    · rw [heap_grow_old _ _ (by simpa using hg)]
      simp [putRow, mapBlock, Sort.ahead, Array.getElem?_modify, hh, onCells]
    · apply List.ext_getElem?
      intro j
      by_cases hj : j < m
      · have hjF : j < ys.length := by omega
        have hjc : j < cur.size := by omega
        rw [List.getElem?_take_of_lt (by omega), Array.getElem?_toList]
        simp [putCells, strs, hjF, hjc]
      · rw [List.getElem?_take_eq_none (by omega), List.getElem?_eq_none (by simp [strs]; omega)]
theorem grown_put1 {n : Nat} {os : Array Obj} (F' : Array (List UInt8)) : w.grownBy (grow (putRow encStr (Sort.ahead w n) g 0 F') os) (some g) := by
  refine ⟨rfl, rfl, rfl, by simp, fun k hk hne => ?_⟩
  rw [heap_grow_old _ _ (by simpa using hk)]
  have : g ≠ k := fun e => hne (by rw [e])
  simp [putRow, mapBlock, Sort.ahead, Array.getElem?_modify, this]
/-- a row cut to its first elements -/
theorem own_cut {xs ys : List Value} {k : Nat} (h : w.ownsRow base e 1 (.slice (some ⟨g, 0, none⟩) m cap) m (xs ++ ys)) (hk : xs.length = k) : w.ownsRow base e 1 (.slice (some ⟨g, 0, none⟩) k cap) k xs := by
  have hm : xs.length + ys.length = m := by have := h.1; simpa using this
  rcases h.2 with ⟨h0, _⟩ | ⟨g', cap', cur, hv, hb, hh, h1, h2, h3, h4⟩
  · cases h0
  · injection hv with e1 e2 e3
    subst e3
    refine ⟨by omega, Or.inr ⟨g', cap, cur, ?_, hb, hh, by omega, h2, h3, ?_⟩⟩
    · injection e1 with e1; injection e1 with e1; subst e1; rfl
    · have : cur.toList.take (k * 1) = (cur.toList.take (m * 1)).take (k * 1) := by rw [List.take_take, Nat.min_eq_left (by omega)]
      rw [this, h4]
      simp [← hk]
end
/-- slices.Sort on texts of the call's own -/
theorem sort_own (base : Nat) (A : Option Addr) (c : Nat) (zs : List (List UInt8)) (w : World) (hl : zs.length ≤ 1000000000) (hown : w.ownsRow base 9 1 (.slice A zs.length c) zs.length (strs zs)) :
    Calls Tryz.prog 45 #[.slice A zs.length c] w fun e w' => e = .returned (.tuple #[]) ∧ w'.ownsRow base 9 1 (.slice A zs.length c) zs.length (strs (zs.mergeSort fun x y => decide (x ≤ y))) ∧ w.grownBy w' (Value.slice A zs.length c).ownBlock := by
  rcases hown.2 with ⟨hv, _⟩ | ⟨g, cap, cur, hv, hg1, hh, hcap, _⟩
  · injection hv with hv1 hv2 hv3
    have hS0 : zs = [] := List.eq_nil_of_length_eq_zero hv2
    subst hS0 hv1 hv3
    have h := Any.slices_Sort_string_none sortS none 0 w
    change Calls Tryz.prog 45 _ _ _ at h
    refine h.mono ?_
    rintro e w1 ⟨rfl, rfl⟩
    exact ⟨rfl, by simpa using hown, World.grownBy.refl _ _⟩
  · injection hv with hv1 hv2 hv3
    subst hv1 hv3
    have hgl : g < w.heap.size := (Array.getElem?_eq_some_iff.1 hh).1
    have h := Any.slices_Sort_string sortS g 0 c zs w (holds_strs hown) hgl (by omega)
    change Calls Tryz.prog 45 _ _ _ at h
    refine h.mono ?_
    rintro e w1 ⟨rfl, n, os, rfl⟩
    exact ⟨rfl, own_put1 hown (List.length_mergeSort _), grown_put1 _⟩
/-- slices.Compact on texts of the call's own -/
theorem compact_own (base : Nat) (A : Option Addr) (c : Nat) (zs : List (List UInt8)) (w : World) (hl : zs.length ≤ 1000000000) (hown : w.ownsRow base 9 1 (.slice A zs.length c) zs.length (strs zs)) :
    Calls Tryz.prog 46 #[.slice A zs.length c] w fun e w' => e = .returned (.slice A (Go.Lib.compact zs).length c) ∧ w'.ownsRow base 9 1 (.slice A (Go.Lib.compact zs).length c) (Go.Lib.compact zs).length (strs (Go.Lib.compact zs)) ∧ w.grownBy w' (Value.slice A zs.length c).ownBlock := by
  rcases hown.2 with ⟨hv, _⟩ | ⟨g, cap, cur, hv, hg1, hh, hcap, _⟩
  · injection hv with hv1 hv2 hv3
    have hS0 : zs = [] := List.eq_nil_of_length_eq_zero hv2
    subst hS0 hv1 hv3
    have h := Any.slices_Compact_string_empty compS none 0 w
    change Calls Tryz.prog 46 _ _ _ at h
    refine h.mono ?_
    rintro e w1 ⟨rfl, rfl⟩
    exact ⟨rfl, hown, World.grownBy.refl _ _⟩
  · injection hv with hv1 hv2 hv3
    subst hv1 hv3
    have h := Any.slices_Compact_string compS g 0 c zs w (holds_strs hown) (by omega) hcap
    change Calls Tryz.prog 46 _ _ _ at h
    refine h.mono ?_
    rintro e w1 ⟨rfl, n, rfl⟩
    have hle : (Go.Lib.compact zs).length ≤ zs.length := by
      unfold Go.Lib.compact Go.Lib.compactUpTo
      rw [List.length_map]
      exact Nat.le_trans (List.length_filter_le _ _) (by simp)
    have h1 := own_put1 (n := n) (os := #[]) (ys := Go.Lib.compact zs ++ List.replicate (zs.length - (Go.Lib.compact zs).length) []) hown (by simp; omega)
    have h2 := grown_put1 (w := w) (g := g) (n := n) (os := #[]) (Go.Lib.compact zs ++ List.replicate (zs.length - (Go.Lib.compact zs).length) []).toArray
    rw [grow_empty] at h1 h2
    rw [strs_append] at h1
    exact ⟨rfl, own_cut h1 (strs_length _), h2⟩
/-- entries as values -/
def ecells (x : Pl.LE) : List Value := [.string x.1, .string x.2.1, .int .i64 x.2.2]
def ents (l : List Pl.LE) : List Value := l.flatMap ecells
def EntIn (x : Pl.LE) : Prop := x.1.size ≤ 9223372036854775807 ∧ x.2.1.size ≤ 9223372036854775807 ∧ -9223372036854775808 ≤ x.2.2 ∧ x.2.2 ≤ 9223372036854775807
def Ents (w : World) (A : Option Addr) (n : Nat) (l : List Pl.LE) : Prop := Reads w w.heap.size 3 A n (ents l) ∧ ∀ x ∈ l, EntIn x
theorem ents_length (l : List Pl.LE) : (ents l).length = l.length * 3 := by
  induction l with
  | nil => rfl
  | cons p l ih => simp [ents, ecells] at ih ⊢; omega
theorem ents_append (a b : List Pl.LE) : ents (a ++ b) = ents a ++ ents b := by unfold ents; rw [List.flatMap_append]
theorem ents_at (l : List Pl.LE) (k : Nat) (hk : k < l.length) (j : Nat) (hj : j < 3) : (ents l)[k * 3 + j]? = (ecells l[k])[j]? := by
  induction l generalizing k with
  | nil => simp at hk
  | cons p l ih =>
    have e : ents (p :: l) = ecells p ++ ents l := rfl
    rw [e]
    cases k with
    | zero =>
      rw [List.getElem?_append_left (by simp [ecells]; omega)]
      simp
    | succ k =>
      rw [List.getElem?_append_right (by simp [ecells]; omega)]
      rw [show (k + 1) * 3 + j - (ecells p).length = k * 3 + j by simp [ecells]; omega]
      exact ih k (by simpa using hk)
theorem ents_one (l : List Pl.LE) : ∀ u ∈ ents l, u.oneCell' = true := by
  intro u hu
  unfold ents at hu
  obtain ⟨o, _, h⟩ := List.mem_flatMap.1 hu
  simp [ecells] at h
  rcases h with rfl | rfl | rfl <;> rfl
theorem Ents.go {w w' : World} {A : Option Addr} {n : Nat} {l : List Pl.LE} (h : Ents w A n l) (hb : Below w.heap.size w w') : Ents w' A n l := ⟨h.1.go hb, h.2⟩
theorem Ents.len {w : World} {A : Option Addr} {n : Nat} {l : List Pl.LE} (h : Ents w A n l) : l.length = n := by have := h.1.1; rw [ents_length] at this; omega
theorem Ents.at_ {w : World} {A : Option Addr} {n : Nat} {l : List Pl.LE} (h : Ents w A n l) {k : Nat} (hk : k < n) :
    ∃ b o, A = some ⟨b, o, none⟩ ∧ ∃ hl : k < l.length, w.cell? ⟨b, o + k * 3, none⟩ = some (.string (l[k]'hl).1) ∧ w.cell? ⟨b, o + k * 3 + 1, none⟩ = some (.string (l[k]'hl).2.1) ∧ w.cell? ⟨b, o + k * 3 + 2, none⟩ = some (.int .i64 (l[k]'hl).2.2) ∧ EntIn (l[k]'hl) := by
  obtain ⟨b, o, rfl, hb, hc⟩ := h.1.where_ (by omega) (by omega)
  have hl : k < l.length := by have := h.len; omega
  have c : ∀ j v, j < 3 → (ecells l[k])[j]? = some v → w.cell? ⟨b, o + k * 3 + j, none⟩ = some v := fun j v hj hv => by
    have := hc (k * 3 + j) v (by rw [ents_at l k hl j hj]; exact hv)
    rwa [← Nat.add_assoc] at this
  exact ⟨b, o, rfl, hl, c 0 _ (by omega) rfl, c 1 _ (by omega) rfl, c 2 _ (by omega) rfl, h.2 _ (List.getElem_mem hl)⟩
theorem str_ne {s t : ByteArray} (h : s ≠ t) : (s.toList == t.toList) = false := by
  rw [beq_eq_false_iff_ne, ByteArray.toList_eq, ByteArray.toList_eq]
  exact fun e => h (Pl.bl_inj e)
theorem str_ne2 {s t : ByteArray} (h : s ≠ t) : ¬ s.toList = t.toList := by
  rw [ByteArray.toList_eq, ByteArray.toList_eq]
  exact fun e => h (Pl.bl_inj e)
/-- what accounts returns -/
def AccSaid (zs : List (List UInt8)) (w : World) (e : Ending) (w' : World) : Prop :=
  ∃ A c, e = .returned (.slice A zs.length c) ∧ w'.ownsRow w.heap.size 9 1 (.slice A zs.length c) zs.length (strs zs) ∧ Below w.heap.size w w'
theorem nms_take (l : List Pl.LE) {k : Nat} (hk : k < l.length) : Pl.nmsL (l.take (k + 1)) = Pl.nmsL (l.take k) ++ [Pl.bl l[k].1, Pl.bl l[k].2.1] := by
  rw [List.take_succ_eq_append_getElem hk, Pl.nmsL_append]; rfl
theorem nms_len (l : List Pl.LE) : (Pl.nmsL l).length = 2 * l.length := by
  induction l with
  | nil => rfl
  | cons x l ih => simp [Pl.nmsL] at ih ⊢; omega
set_option maxHeartbeats 1600000 in
set_option maxRecDepth 100000 in
theorem accounts_any (A : Option Addr) (n c : Nat) (l : List Pl.LE) (w : World) (hn : n ≤ 1000000) (h : Ents w A n l) :
    Calls Tryz.prog 33 #[.slice A n c] w (AccSaid (Pl.accL l) w) := by
  have L := Lib.hid h.len
  have H := Lib.hid h
  clear h
  obtain ⟨i0, hi0, hz0, hz1, hz2⟩ := info_parts info_str
  go_enter Tryz.func33, Tryz.ntmps33
  go_wp2_with fail
  go_loopw [3, 8] (fun v i wr => ∃ (k : Nat) (Ao : Option Addr) (co : Nat), k ≤ n ∧ i = .int .i64 k ∧ v = .slice Ao (2 * k) co ∧ Hid (wr.ownsRow w.heap.size 9 1 (.slice Ao (2 * k) co) (2 * k) (strs (Pl.nmsL (l.take k)))) ∧ Hid (Below w.heap.size w wr)) (fun _ i _ => n - (intOf i).toNat)
  case atStart => exact ⟨0, none, 0, Nat.zero_le _, rfl, rfl, World.ownsRow_nil _ _ _ _, Below.refl _ _⟩
  case round =>
    obtain ⟨k, Ao, co, hk, rfl, rfl, OW, HB⟩ := hrel
    by_cases hlt : k < n
    · obtain ⟨b, o, rfl, hl, c0, c1, c2, hin⟩ := (H.out.go HB.out).at_ hlt
      have HNT : Hid (strs (Pl.nmsL (l.take (k + 1))) = strs (Pl.nmsL (l.take k)) ++ [.string l[k].1, .string l[k].2.1]) := by show _ = _; rw [nms_take l hl, strs_append]; rfl
      generalize l[k] = x at *
      obtain ⟨xf, xt, xc⟩ := x
      simp only at c0 c1 c2 HNT
      clear hin hl
      have k0 : (0 : Int) ≤ (k : Int) := by omega
      have k1 : (k : Int) < (n : Int) := by omega
      have AL : Hid (Below wr.heap.size wr (wr.alloc (.cells #[.string xf, .string xt, .int .i64 xc] 38))) := (Below.refl _ _).alloc (Nat.le_refl _) _
      have OW1 := Lib.hid (own_go OW.out AL.out)
      have HB1 := Lib.hid (HB.out.trans (AL.out.mono HB.out.size))
      clear OW HB AL
      go_wp2_with (at_builtin; go_must (refine wpList_append_any _ rfl (.tmp 12) (.tmp 17) 34 rfl w.heap.size 9 i0 _ 1 16 Tryz.underlying34 hi0 hz0 hz1 hz2 rfl (by decide) (.slice Ao (2 * k) co) (2 * k) (strs (Pl.nmsL (l.take k))) rfl (own_go OW1.out ((Below.refl _ _).alloc (Nat.le_refl _) (.cells #[.string xf, .string xt] 9))) (wr.heap.size + 1 + 1) (some ⟨wr.heap.size + 1, 0, none⟩) 2 2 [.string xf, .string xt] rfl (by have := Reads.lit (wr.alloc (.cells #[.string xf, .string xt, .int .i64 xc] 38)) #[.string xf, .string xt] 9 2 1 (wr.heap.size + 1) (by simp) rfl; simpa using this) (by intro u hu; simp at hu; rcases hu with rfl | rfl <;> rfl) (by unfold maxLen; omega) (by omega) (by have := HB1.out.size; simp at this ⊢; omega) ?_); intro v' w6 hown6 hg6 _; obtain ⟨A6, c6, rfl, _⟩ := own_slice hown6; have HO6 := Lib.hid hown6; have HG6 := Lib.hid hg6; clear hown6 hg6)
      have HB6 : Hid (Below w.heap.size w w6) := below_grown (HB1.out.alloc HB1.out.size _) HG6.out (own_go OW1.out ((Below.refl _ _).alloc (Nat.le_refl _) (.cells #[.string xf, .string xt] 9))) (Nat.le_refl _) (by have := HB1.out.size; simp at this ⊢; omega)
      have h2k : 2 * k + 2 = 2 * (k + 1) := by omega
      rw [h2k]
      have HO7 := HO6.out
      rw [h2k, ← HNT.out] at HO7
      go_roundw
      case rel => exact ⟨k + 1, A6, c6, by omega, by go_num, rfl, HO7, HB6⟩
      case measure => simp [intOf]; omega
    · have : n = k := by omega
      subst this
      rw [List.take_of_length_le (by rw [L.out]; exact Nat.le_refl _)] at OW
      have hz : (Pl.nmsL l).length = 2 * n := by rw [nms_len, L.out]
      have HS := Lib.hid (sort_own w.heap.size Ao co (Pl.nmsL l) wr (by omega) (by rw [hz]; exact OW.out))
      have HC := Lib.hid (fun (w2 : World) h => compact_own w.heap.size Ao co ((Pl.nmsL l).mergeSort fun x y => decide (x ≤ y)) w2 (by rw [List.length_mergeSort]; omega) h)
      have hz2 : ((Pl.nmsL l).mergeSort fun x y => decide (x ≤ y)).length = 2 * n := by rw [List.length_mergeSort, hz]
      rw [hz2] at HC
      rw [hz] at HS
      have HACC : Hid (Pl.accL l = Go.Lib.compact ((Pl.nmsL l).mergeSort fun x y => decide (x ≤ y))) := rfl
      generalize ((Pl.nmsL l).mergeSort fun x y => decide (x ≤ y)) = M at *
      clear hz hz2
      go_wp2_with fail
      refine HS.out.mono ?_
      rintro e w2 ⟨rfl, hown2, hg2⟩
      have HB2 := Lib.hid (below_grown HB.out hg2 OW.out (Nat.le_refl _) HB.out.size)
      have OW2 := Lib.hid hown2
      clear hown2 hg2 HS
      go_wp2_with fail
      refine (HC.out w2 OW2.out).mono ?_
      rintro e w3 ⟨rfl, hown3, hg3⟩
      have HB3 := Lib.hid (below_grown HB2.out hg3 OW2.out (Nat.le_refl _) HB2.out.size)
      have OW3 := Lib.hid hown3
      clear hown3 hg3 HC
      rw [← HACC.out] at OW3 ⊢
      go_wp2_with fail
      go_ret
      exact ⟨Ao, co, rfl, OW3.out, HB3.out⟩
end Go.Proofs.YtibhgcldogfonaaGreatDoor
namespace Go.Proofs.YtibhgcldogfonaaGreatDoor
open Go.RowKit
set_option maxHeartbeats 3200000 in
set_option maxRecDepth 100000 in
theorem lcheck_any (A : Option Addr) (n c : Nat) (l : List Pl.LE) (w : World) (h : Ents w A n l) :
    Calls Tryz.prog 21 #[.slice A n c] w fun e w' => e = .returned (.int .i64 (Pl.lcheck l)) ∧ Below w.heap.size w w' := by
  have L := Lib.hid h.len
  have H := Lib.hid h
  clear h
  have HX : Hid (Pl.lcheck l = if 256 < l.length then 2 else if Pl.lbads l ≠ 0 then Pl.lbads l else if 64 < (Pl.accL l).length then 9 else 0) := rfl
  generalize Pl.lcheck l = R at *
  by_cases hbig : 256 < n
  · rw [if_pos (by rw [L.out]; exact hbig)] at HX
    have hb2 : (256 : Int) < (n : Int) := by omega
    go_enter Tryz.func21, Tryz.ntmps21
    go_wp2_with fail
    go_ret
    rw [HX.out]
    exact ⟨rfl, Below.refl _ _⟩
  · rw [if_neg (by rw [L.out]; exact hbig)] at HX
    have HACC := Lib.hid (fun (w2 : World) h => accounts_any A n c l w2 (by omega) h)
    unfold AccSaid at HACC
    go_enter Tryz.func21, Tryz.ntmps21
    go_wp2_with fail
    go_loopw [10] (fun i wr => ∃ k : Nat, k ≤ n ∧ i = .int .i64 k ∧ Hid (Pl.lbads (l.take k) = 0) ∧ Hid (Below w.heap.size w wr)) (fun i _ => n - (intOf i).toNat)
    case atStart => exact ⟨0, Nat.zero_le _, rfl, rfl, Below.refl _ _⟩
    case round =>
      obtain ⟨k, hk, rfl, HN, HB⟩ := hrel
      by_cases hlt : k < n
      · obtain ⟨b, o, rfl, hl, c0, c1, c2, hin⟩ := (H.out.go HB.out).at_ hlt
        have HFS : Hid (Pl.lbad l[k] ≠ 0 → R = Pl.lbad l[k]) := fun h => by
          rw [HX.out, if_pos (by rw [Pl.lbads_first hl HN.out h]; exact h), Pl.lbads_first hl HN.out h]
        have HNX : Hid (Pl.lbad l[k] = 0 → Pl.lbads (l.take (k + 1)) = 0) := fun h => by
          rw [List.take_succ_eq_append_getElem hl, Pl.lbads_snoc, if_neg (by rw [HN.out]; simp), h]
        generalize l[k] = x at *
        obtain ⟨xf, xt, xc⟩ := x
        obtain ⟨z1, z2, _, _⟩ := hin
        have HM1 := Lib.hid (fun w => name_any xf w z1)
        have HM2 := Lib.hid (fun w => name_any xt w z2)
        have HBD : Hid (Pl.lbad (xf, xt, xc) = if Pl.nameB xf = false ∨ Pl.nameB xt = false then 6 else if xf = xt then 1 else if xc < 1 ∨ 1000000000000 < xc then 4 else 0) := rfl
        simp only at c0 c1 c2
        generalize Pl.lbad (xf, xt, xc) = bad at *
        clear hl z1 z2
        have k0 : (0 : Int) ≤ (k : Int) := by omega
        have k1 : (k : Int) < (n : Int) := by omega
        have AL : Hid (Below wr.heap.size wr (wr.alloc (.cells #[.string xf, .string xt, .int .i64 xc] 38))) := (Below.refl _ _).alloc (Nat.le_refl _) _
        have BU : Hid (Blk (wr.alloc (.cells #[.string xf, .string xt, .int .i64 xc] 38)) wr.heap.size 38 #[.string xf, .string xt, .int .i64 xc]) := Blk.new_ _ _ _ _ rfl
        have HB1 := Lib.hid (HB.out.trans (AL.out.mono HB.out.size))
        go_wp2_with fail
        clear c0 c1 c2
        generalize wr.alloc (.cells #[.string xf, .string xt, .int .i64 xc] 38) = wa at *
        generalize wr.heap.size = bu at *
        refine (HM1.out wa).mono ?_
        rintro e w2 ⟨rfl, hb⟩
        have HB2 := Lib.hid (HB1.out.trans (hb.mono HB1.out.size))
        have BU2 := Lib.hid (BU.out.go hb)
        clear hb HB1 BU HM1 AL HB
        cases hn1 : Pl.nameB xf
        · rw [hn1, if_pos (Or.inl rfl)] at HBD
          have hr := HFS.out (by rw [HBD.out]; decide)
          rw [HBD.out] at hr
          have HR := Lib.hid hr
          clear hr hn1
          go_wp2_with fail
          go_ret
          rw [HR.out]
          exact ⟨rfl, HB2.out⟩
        · have b1 := BU2.out.cell 1
          go_wp2_with fail
          refine (HM2.out w2).mono ?_
          rintro e w3 ⟨rfl, hb⟩
          have HB3 := Lib.hid (HB2.out.trans (hb.mono HB2.out.size))
          have BU3 := Lib.hid (BU2.out.go hb)
          clear hb HB2 BU2 HM2 b1
          cases hn2 : Pl.nameB xt
          · rw [hn2, if_pos (Or.inr rfl)] at HBD
            have hr := HFS.out (by rw [HBD.out]; decide)
            rw [HBD.out] at hr
            have HR := Lib.hid hr
            clear hr hn1 hn2
            go_wp2_with fail
            go_ret
            rw [HR.out]
            exact ⟨rfl, HB3.out⟩
          · rw [hn1, hn2, if_neg (by simp)] at HBD
            clear hn1 hn2
            have b0 := BU3.out.cell 0
            have b1 := BU3.out.cell 1
            have b2 := BU3.out.cell 2
            by_cases hxx : xf = xt
            · subst hxx
              rw [if_pos rfl] at HBD
              have hr := HFS.out (by rw [HBD.out]; decide)
              rw [HBD.out] at hr
              have HR := Lib.hid hr
              clear hr
              go_wp2_with fail
              go_ret
              rw [HR.out]
              exact ⟨rfl, HB3.out⟩
            · rw [if_neg hxx] at HBD
              have hne := str_ne hxx
              have hne2 := str_ne2 hxx
              by_cases hx1 : xc < 1
              · rw [if_pos (Or.inl hx1)] at HBD
                have hr := HFS.out (by rw [HBD.out]; decide)
                rw [HBD.out] at hr
                have HR := Lib.hid hr
                clear hr
                go_wp2_with fail
                go_ret
                rw [HR.out]
                exact ⟨rfl, HB3.out⟩
              · by_cases hx2 : 1000000000000 < xc
                · rw [if_pos (Or.inr hx2)] at HBD
                  have hr := HFS.out (by rw [HBD.out]; decide)
                  rw [HBD.out] at hr
                  have HR := Lib.hid hr
                  clear hr
                  go_wp2_with fail
                  go_ret
                  rw [HR.out]
                  exact ⟨rfl, HB3.out⟩
                · rw [if_neg (by omega)] at HBD
                  have HN2 := Lib.hid (HNX.out HBD.out)
                  go_wp2_with fail
                  go_roundw
                  case rel => exact ⟨k + 1, by omega, by go_num, HN2, HB3⟩
                  case measure => simp [intOf]; omega
      · have : n = k := by omega
        subst this
        rw [List.take_of_length_le (by rw [L.out]; exact Nat.le_refl _)] at HN
        rw [HN.out, if_neg (by simp)] at HX
        go_wp2_with fail
        refine (HACC.out wr (H.out.go HB.out)).mono ?_
        rintro e w2 ⟨A2, c2, rfl, _, hb⟩
        have HB2 := Lib.hid (HB.out.trans (hb.mono HB.out.size))
        clear hb
        by_cases h64 : 64 < (Pl.accL l).length
        · rw [if_pos h64] at HX
          have h64b : (64 : Int) < ((Pl.accL l).length : Int) := by omega
          go_wp2_with fail
          go_ret
          rw [HX.out]
          exact ⟨rfl, HB2.out⟩
        · rw [if_neg h64] at HX
          have h64b : ¬ (64 : Int) < ((Pl.accL l).length : Int) := by omega
          go_wp2_with fail
          go_ret
          rw [HX.out]
          exact ⟨rfl, HB2.out⟩
end Go.Proofs.YtibhgcldogfonaaGreatDoor
namespace Go.Proofs.YtibhgcldogfonaaGreatDoor
open Go.RowKit
/-- slices.Contains on texts of the call's own -/
theorem contains_own (base : Nat) (A : Option Addr) (c : Nat) (zs : List (List UInt8)) (nm : ByteArray) (w : World) (hl : zs.length ≤ 1000000000) (hown : w.ownsRow base 9 1 (.slice A zs.length c) zs.length (strs zs)) :
    Calls Tryz.prog 16 #[.slice A zs.length c, .string nm] w fun e w' => e = .returned (.bool (decide (Pl.bl nm ∈ zs))) ∧ w' = w := by
  rcases hown.2 with ⟨hv, _⟩ | ⟨g, cap, cur, hv, hg1, hh, hcap, _⟩
  · injection hv with hv1 hv2 hv3
    have hS0 : zs = [] := List.eq_nil_of_length_eq_zero hv2
    subst hS0 hv1 hv3
    have h := Any.slices_Contains_string_empty contS none 0 nm w
    change Calls Tryz.prog 16 _ _ _ at h
    refine h.mono ?_
    rintro e w1 ⟨rfl, rfl⟩
    exact ⟨rfl, rfl⟩
  · injection hv with hv1 hv2 hv3
    subst hv1 hv3
    have hH := holds_strs hown
    have h := Any.slices_Contains_string contS g 0 zs.length c (zs.map fun l => ⟨l.toArray⟩) nm w (by simp) (by omega) (fun j hj => by
      have hj2 : j < zs.length := by simpa using hj
      have := (hH j (by simpa using hj2)).1
      rw [this, getElem!_pos zs.toArray j (by simpa using hj2)]
      simp [List.getD_eq_getElem?_getD, hj2])
    change Calls Tryz.prog 16 _ _ _ at h
    refine h.mono ?_
    rintro e w1 ⟨rfl, rfl⟩
    refine ⟨?_, rfl⟩
    congr 2
    rw [List.take_of_length_le (by simp)]
    have hiff := Go.Lib.containsS_iff (zs.map fun l => (⟨l.toArray⟩ : ByteArray)) nm
    rw [Bool.eq_iff_iff, hiff, decide_eq_true_iff, List.mem_map]
    constructor
    · rintro ⟨l, hl, rfl⟩; exact hl
    · intro hm; exact ⟨_, hm, rfl⟩
end Go.Proofs.YtibhgcldogfonaaGreatDoor
