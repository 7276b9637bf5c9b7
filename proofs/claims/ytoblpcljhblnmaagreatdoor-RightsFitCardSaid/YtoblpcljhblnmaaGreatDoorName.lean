/- The library's contracts for slices.Index and slices.Contains at texts lie in this program, and as the walks use them: at texts that merely read. No condition. Networks in memory: what an argument of type api.Network is, cell by cell. No condition. The contract of netmodel.Name: it returns what the plain function nameB gives, and leaves old memory as it is. -/
import Derived.Shelf.Slices.Turned
import Derived.Test.YtoblpcljhblnmaaGreatDoorBase
import Derived.Test.YtoblpcljhblnmaaGreatDoorQuiet
import Derived.Test.YtoblpcljhblnmaaGreatDoorPName
namespace Go.Proofs.YtoblpcljhblnmaaGreatDoor
open Go.RowKit
def idxS_ren : Go.Shelf.Ren := ⟨fun | 109 => 23 | n => n, fun | 31 => 22 | 9 => 9 | 4 => 4 | 3 => 3 | 0 => 0 | n => n, fun | n => n⟩
set_option maxRecDepth 100000 in
theorem idxS : Go.Proofs.Lays.n109 Tryz.prog idxS_ren := {
  mixed := by kernel_rfl,
  f109 := Tryz.func23.trans (congrArg some (by kernel_rfl)),
  t0 := Tryz.underlying0,
  a0 := Tryz.isAgg0,
  z0 := Tryz.sizeOf0,
  v0 := Tryz.zeroValue0,
  t3 := Tryz.underlying3,
  a3 := Tryz.isAgg3,
  z3 := Tryz.sizeOf3,
  v3 := Tryz.zeroValue3,
  t4 := Tryz.underlying4,
  a4 := Tryz.isAgg4,
  z4 := Tryz.sizeOf4,
  v4 := Tryz.zeroValue4,
  t9 := Tryz.underlying9,
  a9 := Tryz.isAgg9,
  z9 := Tryz.sizeOf9,
  v9 := Tryz.zeroValue9,
  t31 := Tryz.underlying22,
  a31 := Tryz.isAgg22,
  z31 := Tryz.sizeOf22,
  v31 := Tryz.zeroValue22 }
def conS_ren : Go.Shelf.Ren := ⟨fun | 110 => 128 | 109 => 23 | n => n, fun | 31 => 22 | 9 => 9 | 4 => 4 | 3 => 3 | 0 => 0 | n => n, fun | n => n⟩
set_option maxRecDepth 100000 in
theorem conS : Go.Proofs.Lays.n110 Tryz.prog conS_ren := {
  mixed := by kernel_rfl,
  f109 := Tryz.func23.trans (congrArg some (by kernel_rfl)),
  f110 := Tryz.func128.trans (congrArg some (by kernel_rfl)),
  t0 := Tryz.underlying0,
  a0 := Tryz.isAgg0,
  z0 := Tryz.sizeOf0,
  v0 := Tryz.zeroValue0,
  t3 := Tryz.underlying3,
  a3 := Tryz.isAgg3,
  z3 := Tryz.sizeOf3,
  v3 := Tryz.zeroValue3,
  t4 := Tryz.underlying4,
  a4 := Tryz.isAgg4,
  z4 := Tryz.sizeOf4,
  v4 := Tryz.zeroValue4,
  t9 := Tryz.underlying9,
  a9 := Tryz.isAgg9,
  z9 := Tryz.sizeOf9,
  v9 := Tryz.zeroValue9,
  t31 := Tryz.underlying22,
  a31 := Tryz.isAgg22,
  z31 := Tryz.sizeOf22,
  v31 := Tryz.zeroValue22 }
def txts (zs : List ByteArray) : List Value := zs.map Value.string
theorem txts_len {w : World} {B n : Nat} {A : Option Addr} {zs : List ByteArray} (h : Reads w B 1 A n (txts zs)) : zs.length = n := by
  have := h.1; simpa [txts] using this
theorem txts_at {w : World} {B n : Nat} {A : Option Addr} {zs : List ByteArray} (h : Reads w B 1 A n (txts zs)) {k : Nat} (hk : k < n) :
    ∃ b o, A = some ⟨b, o, none⟩ ∧ b < B ∧ ∃ hl : k < zs.length, w.cell? ⟨b, o + k, none⟩ = some (.string (zs[k]'hl)) := by
  obtain ⟨b, o, rfl, hb, hc⟩ := h.where_ (by omega) (by omega)
  have hl : k < zs.length := by have := txts_len h; omega
  exact ⟨b, o, rfl, hb, hl, hc k _ (by simp [txts, hl])⟩
theorem txts_cells {w : World} {B n : Nat} {zs : List ByteArray} {b o : Nat} (h : Reads w B 1 (some ⟨b, o, none⟩) n (txts zs)) : ∀ j, j < zs.length → w.cell? ⟨b, o + j, none⟩ = some (.string (zs.getD j ByteArray.empty)) := by
  intro j hj
  obtain ⟨b', o', e, _, hl, hc⟩ := txts_at h (k := j) (by rw [← txts_len h]; exact hj)
  injection e with e
  injection e with e1 e2
  subst e1 e2
  rw [hc]
  simp [List.getD_eq_getElem?_getD, hj]
theorem inB_lib (zs : List ByteArray) (x : ByteArray) : Go.Lib.containsS zs x = Pl.inB zs x := by
  rw [Bool.eq_iff_iff, Go.Lib.containsS_iff, Pl.inB_iff]
def Pl.idxS (zs : List ByteArray) (x : ByteArray) : Int := Pl.idxOf (fun z => decide (Pl.lst z = Pl.lst x)) zs
theorem lstEq_iff {a b : ByteArray} : Pl.lst a = Pl.lst b ↔ a = b := ⟨Pl.lst_inj, congrArg _⟩
theorem idxS_lib (zs : List ByteArray) (x : ByteArray) : Go.Lib.idxOfS zs x = Pl.idxS zs x := by
  unfold Pl.idxS Pl.idxOf
  cases h : zs.findIdx? (fun z => decide (Pl.lst z = Pl.lst x)) with
  | none =>
    rw [List.findIdx?_eq_none_iff] at h
    rw [show zs = zs.take zs.length by simp]
    exact Go.Lib.idxOfS_miss zs zs.length x fun j hj e => by
      have := h (zs.getD j ByteArray.empty) (by simp [List.getD_eq_getElem?_getD, hj])
      simp [lstEq_iff] at this
      exact this e
  | some i =>
    rw [List.findIdx?_eq_some_iff_getElem] at h
    obtain ⟨hi, h1, h2⟩ := h
    have e := Go.Lib.idxOfS_hit zs zs.length i x hi (Nat.le_refl _) (by simpa [List.getD_eq_getElem?_getD, hi, lstEq_iff] using h1) fun j hj e => by
      have := h2 j hj
      simp [lstEq_iff] at this
      exact this (by simpa [List.getD_eq_getElem?_getD, show j < zs.length by omega] using e)
    rw [List.take_length] at e
    exact e
theorem index_txt (A : Option Addr) (n c : Nat) (zs : List ByteArray) (nm : ByteArray) (w : World) (B : Nat) (hn : n ≤ 9223372036854775807) (h : Reads w B 1 A n (txts zs)) :
    Calls Tryz.prog 23 #[.slice A n c, .string nm] w fun e w' => e = .returned (.int .i64 (Pl.idxS zs nm)) ∧ w' = w := by
  have hl := txts_len h
  rcases Nat.eq_zero_or_pos n with h0 | h0
  · subst h0
    have : zs = [] := List.eq_nil_of_length_eq_zero hl
    subst this
    have h := Any.slices_Index_string_empty idxS A c nm w
    change Calls Tryz.prog 23 _ _ _ at h
    refine h.mono ?_
    rintro e w1 ⟨rfl, rfl⟩
    exact ⟨by rw [idxS_lib], rfl⟩
  · obtain ⟨b, o, rfl, _, _, _⟩ := txts_at h h0
    have h := Any.slices_Index_string idxS b o n c zs nm w (by omega) hn (txts_cells h)
    change Calls Tryz.prog 23 _ _ _ at h
    refine h.mono ?_
    rintro e w1 ⟨rfl, rfl⟩
    exact ⟨by rw [idxS_lib, ← hl, List.take_length], rfl⟩
theorem contains_txt (A : Option Addr) (n c : Nat) (zs : List ByteArray) (nm : ByteArray) (w : World) (B : Nat) (hn : n ≤ 9223372036854775807) (h : Reads w B 1 A n (txts zs)) :
    Calls Tryz.prog 128 #[.slice A n c, .string nm] w fun e w' => e = .returned (.bool (Pl.inB zs nm)) ∧ w' = w := by
  have hl := txts_len h
  rcases Nat.eq_zero_or_pos n with h0 | h0
  · subst h0
    have : zs = [] := List.eq_nil_of_length_eq_zero hl
    subst this
    have h := Any.slices_Contains_string_empty conS A c nm w
    change Calls Tryz.prog 128 _ _ _ at h
    refine h.mono ?_
    rintro e w1 ⟨rfl, rfl⟩
    exact ⟨rfl, rfl⟩
  · obtain ⟨b, o, rfl, _, _, _⟩ := txts_at h h0
    have h := Any.slices_Contains_string conS b o n c zs nm w (by omega) hn (txts_cells h)
    change Calls Tryz.prog 128 _ _ _ at h
    refine h.mono ?_
    rintro e w1 ⟨rfl, rfl⟩
    exact ⟨by rw [← hl, List.take_length, inB_lib], rfl⟩
end Go.Proofs.YtoblpcljhblnmaaGreatDoor
namespace Go.Proofs.YtoblpcljhblnmaaGreatDoor
open Go.RowKit
def swiC (s : Pl.Swi) : List Value := [.string s.name, .string s.a, .string s.b, .bool s.breaker, .bool s.opened]
def braC (b : Pl.Bra) : List Value := [.string b.name, .string b.from_, .string b.to_, .int .i64 b.x, .int .i64 b.tap, .int .i64 b.shift, .int .i64 b.limit, .int .i64 b.short, .int .i64 b.hold]
def genC (g : Pl.Gen) : List Value := [.string g.name, .string g.node, .int .i64 g.least, .int .i64 g.most, .int .i64 g.ramp]
def loaC (l : Pl.Loa) : List Value := [.string l.name, .string l.node, .int .i64 l.demand]
def stoC (s : Pl.Sto) : List Value := [.string s.name, .string s.node, .int .i64 s.charge, .int .i64 s.discharge, .int .i64 s.capacity]
def Elems {α : Type} (dec : α → List Value) (size : Nat) (w : World) (B : Nat) (A : Option Addr) (n : Nat) (l : List α) : Prop := Reads w B size A n (l.flatMap dec) ∧ l.length = n
section
variable {α : Type} {dec : α → List Value} {size : Nat} {w w' : World} {B : Nat} {A : Option Addr} {n : Nat} {l : List α}
theorem flat_at (dec : α → List Value) (size : Nat) (hd : ∀ a, (dec a).length = size) (l : List α) (k : Nat) (hk : k < l.length) (j : Nat) (hj : j < size) : (l.flatMap dec)[k * size + j]? = (dec l[k])[j]? := by
  induction l generalizing k with
  | nil => simp at hk
  | cons p l ih =>
    rw [List.flatMap_cons]
    cases k with
    | zero =>
      rw [List.getElem?_append_left (by rw [hd]; omega)]
      simp
    | succ k =>
      rw [List.getElem?_append_right (by rw [hd, Nat.add_mul]; omega)]
      rw [show (k + 1) * size + j - (dec p).length = k * size + j by rw [hd, Nat.add_mul]; omega]
      exact ih k (by simpa using hk)
theorem Elems.below (h : Elems dec size w B A n l) (hb : Below B w w') : Elems dec size w' B A n l := ⟨h.1.below hb, h.2⟩
theorem Elems.more {B' : Nat} (h : Elems dec size w B A n l) (hb : B ≤ B') : Elems dec size w B' A n l := ⟨h.1.more hb, h.2⟩
theorem Elems.at_ (hd : ∀ a, (dec a).length = size) (hs : 0 < size) (h : Elems dec size w B A n l) {k : Nat} (hk : k < n) :
    ∃ b o, A = some ⟨b, o, none⟩ ∧ b < B ∧ ∃ hl : k < l.length, ∀ j, j < size → w.cell? ⟨b, o + k * size + j, none⟩ = (dec (l[k]'hl))[j]? := by
  obtain ⟨b, o, rfl, hb, hc⟩ := h.1.where_ (by omega) hs
  have hl : k < l.length := by have := h.2; omega
  refine ⟨b, o, rfl, hb, hl, fun j hj => ?_⟩
  have e := flat_at dec size hd l k hl j hj
  have hv : (dec l[k])[j]? = some ((dec l[k])[j]'(by rw [hd]; exact hj)) := List.getElem?_eq_getElem (by rw [hd]; exact hj)
  rw [hv] at e ⊢
  have := hc _ _ e
  rwa [← Nat.add_assoc] at this
end
structure MNet where
  N : Pl.Net
  A0 : Option Addr
  n0 : Nat
  c0 : Nat
  A1 : Option Addr
  n1 : Nat
  c1 : Nat
  A2 : Option Addr
  n2 : Nat
  c2 : Nat
  A3 : Option Addr
  n3 : Nat
  c3 : Nat
  A4 : Option Addr
  n4 : Nat
  c4 : Nat
  A5 : Option Addr
  n5 : Nat
  c5 : Nat
def netC (M : MNet) : Array Value := #[.slice M.A0 M.n0 M.c0, .slice M.A1 M.n1 M.c1, .slice M.A2 M.n2 M.c2, .slice M.A3 M.n3 M.c3, .slice M.A4 M.n4 M.c4, .slice M.A5 M.n5 M.c5]
def vNet (M : MNet) : Value := .agg (netC M)
structure NetSz (N : Pl.Net) : Prop where
  names : ∀ d ∈ Pl.allDevs N, d.name.size ≤ maxLen ∧ ∀ s ∈ d.at_, s.size ≤ maxLen
structure NetIn (w : World) (B : Nat) (M : MNet) : Prop where
  r0 : Reads w B 1 M.A0 M.n0 (txts M.N.nodes)
  r1 : Elems swiC 5 w B M.A1 M.n1 M.N.switches
  r2 : Elems braC 9 w B M.A2 M.n2 M.N.branches
  r3 : Elems genC 5 w B M.A3 M.n3 M.N.gens
  r4 : Elems loaC 3 w B M.A4 M.n4 M.N.loads
  r5 : Elems stoC 5 w B M.A5 M.n5 M.N.stores
  z0 : M.n0 ≤ 9223372036854775807
  z1 : M.n1 ≤ 9223372036854775807
  z2 : M.n2 ≤ 9223372036854775807
  z3 : M.n3 ≤ 9223372036854775807
  z4 : M.n4 ≤ 9223372036854775807
  z5 : M.n5 ≤ 9223372036854775807
  sz : NetSz M.N
theorem NetIn.below {w w' : World} {B : Nat} {M : MNet} (h : NetIn w B M) (hb : Below B w w') : NetIn w' B M :=
  ⟨h.r0.below hb, h.r1.below hb, h.r2.below hb, h.r3.below hb, h.r4.below hb, h.r5.below hb, h.z0, h.z1, h.z2, h.z3, h.z4, h.z5, h.sz⟩
theorem NetIn.more {w : World} {B B' : Nat} {M : MNet} (h : NetIn w B M) (hb : B ≤ B') : NetIn w B' M :=
  ⟨h.r0.more hb, h.r1.more hb, h.r2.more hb, h.r3.more hb, h.r4.more hb, h.r5.more hb, h.z0, h.z1, h.z2, h.z3, h.z4, h.z5, h.sz⟩
theorem NetIn.go {w w' : World} {M : MNet} (h : NetIn w w.heap.size M) (hb : Below w.heap.size w w') : NetIn w' w'.heap.size M := (h.below hb).more hb.size
end Go.Proofs.YtoblpcljhblnmaaGreatDoor
namespace Go.Proofs.YtoblpcljhblnmaaGreatDoor
open Go.RowKit
theorem bytes_of (s : ByteArray) (w : World) : ∃ cap w1, (convert 9 268 (.string s)).run Tryz.prog w = .ok (.slice (some ⟨w.heap.size, 0, none⟩) s.size cap) w1 ∧
    (∀ k (hk : k < s.size), w1.cell? ⟨w.heap.size, k, none⟩ = some (.int .u8 (s[k].toNat : Int))) ∧ Below w.heap.size w w1 := by
  refine ⟨_, _, run_bytes_of_string w _ _ _ s Tryz.underlying9 Tryz.underlying268 Tryz.underlying5, fun k hk => ?_, ((Below.refl _ _).drew).alloc (Nat.le_refl _) _⟩
  have h := World.cell?_alloc_mark w.drew (bytesRow s (grownCap w s.size 0 5)) 5 ((bytesRow s (grownCap w s.size 0 5)).size, (bytesRow s (grownCap w s.size 0 5)).size + 1) k
  exact h.trans (bytesRow_at s _ k hk)
set_option maxHeartbeats 800000 in
set_option maxRecDepth 100000 in
theorem name_any (s : ByteArray) (w : World) (hs : s.size ≤ 9223372036854775807) :
    Calls Tryz.prog 144 #[.string s] w fun e w' => e = .returned (.bool (Pl.nameB s)) ∧ Below w.heap.size w w' := by
  obtain ⟨cap, w1, hrun, hc, hb⟩ := bytes_of s w
  have HC := Lib.hid hc
  clear hc
  go_enter Tryz.func144, Tryz.ntmps144
  go_wp2_with fail
  go_loop [2, 3, 4, 8] (fun _ _ _ i => ∃ k : Nat, k ≤ s.size ∧ i = .int .i64 k ∧ ∀ j (hj : j < s.size), j < k → Pl.okByte j s[j] = true) (fun _ _ _ i => s.size - (intOf i).toNat)
  case atStart => exact ⟨0, Nat.zero_le _, rfl, fun j _ h => absurd h (by omega)⟩
  case round =>
    obtain ⟨k, hk, rfl, hno⟩ := hrel
    have HN := Lib.hid hno
    clear hno
    by_cases hlt : k < s.size
    · have hc := HC.out k hlt
      have HK : Hid (Pl.okByte k s[k] = decide ((65 ≤ s[k].toNat ∧ s[k].toNat ≤ 90) ∨ (0 < k ∧ 48 ≤ s[k].toNat ∧ s[k].toNat ≤ 57))) := rfl
      have HT : Hid (∀ h : Pl.okByte k s[k] = true, ∀ j (hj : j < s.size), j < k + 1 → Pl.okByte j s[j] = true) := by
        intro h j hj hjk
        by_cases e : j = k
        · subst e; exact h
        · exact HN.out j hj (by omega)
      have HF : Hid (Pl.okByte k s[k] = false → Pl.nameB s = false) := Pl.nameB_no k hlt
      generalize s[k] = cc at *
      have hcc : cc.toNat < 256 := cc.toNat_lt
      generalize cc.toNat = c at *
      go_wp2_with fail
      all_goals try simp only [Bool.not_eq_true', Bool.not_eq_false', decide_eq_false_iff_not, decide_eq_true_eq] at *
      all_goals first
        | (go_ret
           exact ⟨ret_bool (HF.out (by rw [HK.out]; apply decide_eq_false; omega)).symm, hb⟩)
        | (go_round
           case rel => exact ⟨k + 1, by omega, by go_num, HT.out (by rw [HK.out]; apply decide_eq_true; omega)⟩
           case measure => simp [intOf]; omega)
    · have HA : Hid (Pl.nameB s = decide (1 ≤ s.size ∧ s.size ≤ 8)) := Pl.nameB_all fun j hj => HN.out j hj (by omega)
      by_cases h1 : 1 ≤ s.size
      · go_wp2_with fail
        go_ret
        exact ⟨ret_bool (by rw [HA.out, Bool.eq_iff_iff]; simp; omega), hb⟩
      · go_wp2_with fail
        go_ret
        exact ⟨ret_bool (by rw [HA.out]; symm; apply decide_eq_false; omega), hb⟩
end Go.Proofs.YtoblpcljhblnmaaGreatDoor
