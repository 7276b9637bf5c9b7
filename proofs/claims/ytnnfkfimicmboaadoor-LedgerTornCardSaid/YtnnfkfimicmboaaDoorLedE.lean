/- strconv.Itoa and Atoi, strings.Cut and Split in the words of the ledger; slices.Clone at entries; the line of an entry with its sum. Condition: the library's tables lie as they are laid (LW); the entries lie in memory as the words say. -/
import Derived.Test.YtnnfkfimicmboaaDoorLedD
import Derived.Test.YtnnfkfimicmboaaDoorCloE
import Derived.Lib.AppendIntMem
import Derived.Lib.AtoiErrMem
namespace Go.Proofs.YtnnfkfimicmboaaDoor
open Go.RowKit
/-- the library's variables that the ledger's road reads -/
structure LW (w : World) : Prop where
  tab : Lib.TabIs Tryd.prog w "internal/strconv.uint64pow10" .u64 Lib.pow10Tab
  max : ∃ m, w.cell? ⟨0, 0, none⟩ = some (.int .i64 m)
  syn : ∃ ev, w.cell? ⟨1, 0, none⟩ = some ev ∧ (ev = .nilIface ∨ ∃ te pe, ev = .iface te pe)
  rng : ∃ ev, w.cell? ⟨2, 0, none⟩ = some ev ∧ (ev = .nilIface ∨ ∃ te pe, ev = .iface te pe)
theorem LW.go {w w' : World} (h : LW w) (hb : Below w.heap.size w w') : LW w' := by
  obtain ⟨m, hm⟩ := h.max
  obtain ⟨s, hs, hs2⟩ := h.syn
  obtain ⟨r, hr, hr2⟩ := h.rng
  exact ⟨Lib.tabBelow_of_tabIs h.tab _ hb, ⟨m, (hb.cell (cell_lt hm)).trans hm⟩, ⟨s, (hb.cell (cell_lt hs)).trans hs, hs2⟩, ⟨r, (hb.cell (cell_lt hr)).trans hr, hr2⟩⟩
theorem below_grow (B : Nat) (w : World) (k : Nat) (os : Array Obj) (hB : B ≤ w.heap.size) : Below B w (Go.Sort.grow (w.drewN k) os) :=
  ⟨rfl, rfl, rfl, by simp [Go.Sort.grow], fun i hi => by
    have : i < (w.drewN k).heap.size := by show i < w.heap.size; omega
    exact Go.Sort.heap_grow_old _ _ this⟩
/-- a text as a value -/
def txt (l : List UInt8) : Value := .string ⟨l.toArray⟩
theorem txt_bl (s : ByteArray) : txt (Pl.bl s) = .string s := rfl
theorem itoa_any (n : Int) (h0 : -9223372036854775808 ≤ n) (h1 : n ≤ 9223372036854775807) (w : World) (h : LW w) :
    Calls Tryd.prog 37 #[.int .i64 n] w fun e w' => e = .returned (txt (Lib.itoa n)) ∧ Below w.heap.size w w' := by
  have hh := Any.strconv_Itoa itoaS n h0 h1 w h.tab
  change Calls Tryd.prog 37 _ _ _ at hh
  refine hh.mono ?_
  rintro e w' ⟨rfl, k, os, rfl⟩
  exact ⟨rfl, below_grow _ _ _ _ (Nat.le_refl _)⟩
/-- what Atoi returns -/
def AtoiSaid (s : ByteArray) (w : World) (e : Ending) (w' : World) : Prop :=
  ∃ n : Int, ∃ ev, e = .returned (.tuple #[.int .i64 n, ev]) ∧ -9223372036854775808 ≤ n ∧ n ≤ 9223372036854775807 ∧ ((Lib.atoiAll (Pl.bl s) = .ok n ∧ ev = .nilIface) ∨ ((∀ v, Lib.atoiAll (Pl.bl s) ≠ .ok v) ∧ ∃ te pe, ev = .iface te pe)) ∧ Below w.heap.size w w'
theorem atoi_range {l : List UInt8} {v : Int} (h : Lib.atoiAll l = .ok v) : -9223372036854775808 ≤ v ∧ v ≤ 9223372036854775807 := by
  unfold Lib.atoiAll at h
  split at h
  · cases h
  · simp only at h
    split at h
    · cases h
    · cases h
    · split at h
      · cases h
      · split at h
        · cases h
        · rename_i h1 h2
          injection h with h
          subst h
          split <;> omega
theorem atoi_any (s : ByteArray) (hs : s.size ≤ 281474976710656) (w : World) (h : LW w) : Calls Tryd.prog 25 #[.string s] w (AtoiSaid s w) := by
  cases ha : Lib.atoiAll s.data.toList with
  | ok v =>
    have hh := Any.strconv_Atoi_ok atoiS s (by omega) v ha w
    change Calls Tryd.prog 25 _ _ _ at hh
    refine hh.mono ?_
    rintro e w' ⟨rfl, hw⟩
    obtain ⟨r1, r2⟩ := atoi_range ha
    refine ⟨v, .nilIface, rfl, r1, r2, .inl ⟨ha, rfl⟩, ?_⟩
    rcases hw with rfl | ⟨t, rfl⟩
    · exact Below.refl _ _
    · exact Lib.bytesWorld_below _ _ _
  | «syntax» =>
    obtain ⟨ev, hv, hev⟩ := h.syn
    have hh := Any.strconv_Atoi_syntax atoiS s hs ha ev w hv hev
    change Calls Tryd.prog 25 _ _ _ at hh
    refine hh.mono ?_
    rintro e w' ⟨N, rfl, _, _, hb⟩
    exact ⟨0, _, rfl, by omega, by omega, .inr ⟨fun v => by unfold Pl.bl; rw [ha]; simp, _, _, rfl⟩, hb⟩
  | range =>
    obtain ⟨ev, hv, hev⟩ := h.rng
    have hh := Any.strconv_Atoi_range atoiS s hs ha ev w hv hev
    change Calls Tryd.prog 25 _ _ _ at hh
    refine hh.mono ?_
    rintro e w' ⟨N, rfl, _, _, hb⟩
    have hr : -9223372036854775808 ≤ Lib.atoiSat s.data.toList ∧ Lib.atoiSat s.data.toList ≤ 9223372036854775807 := by unfold Lib.atoiSat; split <;> omega
    exact ⟨_, _, rfl, hr.1, hr.2, .inr ⟨fun v => by unfold Pl.bl; rw [ha]; simp, _, _, rfl⟩, hb⟩
theorem cut_any (s : List UInt8) (c : UInt8) (hs : s.length < 4294967281) (w : World) (h : LW w) :
    Calls Tryd.prog 23 #[txt s, .string ⟨#[c]⟩] w fun e w' => e = .returned (.tuple #[txt (Lib.cut s [c]).1, txt (Lib.cut s [c]).2.1, .bool (Lib.cut s [c]).2.2]) ∧ Below w.heap.size w w' := by
  obtain ⟨m, hm⟩ := h.max
  have hh := Any.strings_Cut { cutS with } ⟨s.toArray⟩ ⟨#[c]⟩ m w (by simpa [ByteArray.size] using hs) hm
  change Calls Tryd.prog 23 _ _ _ at hh
  refine hh.mono ?_
  rintro e w' ⟨rfl, n, rfl⟩
  exact ⟨rfl, below_drewN_e (Below.refl _ _) n⟩
theorem split_any (s : List UInt8) (c : UInt8) (hs : s.length < 4294967281) (w : World) (h : LW w) :
    Calls Tryd.prog 24 #[txt s, .string ⟨#[c]⟩] w fun e w' => e = .returned (.slice (some ⟨w.heap.size, 0, none⟩) (Lib.countB ⟨s.toArray⟩ ⟨#[c]⟩ + 1) (Lib.countB ⟨s.toArray⟩ ⟨#[c]⟩ + 1)) ∧ w' = w.alloc (.cells ((Lib.splitB ⟨#[c]⟩ 0 (Lib.countB ⟨s.toArray⟩ ⟨#[c]⟩) ⟨s.toArray⟩).map Value.string).toArray 9) := by
  obtain ⟨m, hm⟩ := h.max
  have hh := Any.strings_Split { splitS with } splitS.i9 ⟨s.toArray⟩ ⟨#[c]⟩ m w (by simpa [ByteArray.size] using hs) hm (by simp [ByteArray.size])
  change Calls Tryd.prog 24 _ _ _ at hh
  exact hh
end Go.Proofs.YtnnfkfimicmboaaDoor
