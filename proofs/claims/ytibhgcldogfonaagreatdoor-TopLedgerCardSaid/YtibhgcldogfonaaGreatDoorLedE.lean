/- strconv.Itoa and Atoi, strings.Cut and Split in the words of the ledger; slices.Clone at entries; the line of an entry with its sum. Condition: the library's tables lie as they are laid (LW); the entries lie in memory as the words say. The line of an entry of a ledger with its sum, and the sum behind it. Condition: the library's tables lie as they are laid; the names are not longer than 200,000 bytes. ledger.Text gives the text of entries that its plain function gives. Condition: the library's tables lie as they are laid; the entries lie in memory as the words say. -/
import Derived.Test.YtibhgcldogfonaaGreatDoorLedA
import Derived.Test.YtibhgcldogfonaaGreatDoorCloE
import Derived.Lib.AppendIntMem
import Derived.Lib.AtoiErrMem
import Derived.Deep.RegionHeld3
namespace Go.Proofs.YtibhgcldogfonaaGreatDoor
open Go.RowKit
/-- the library's variables that the ledger's road reads -/
structure LW (w : World) : Prop where
  tab : Lib.TabIs Tryz.prog w "internal/strconv.uint64pow10" .u64 Lib.pow10Tab
  max : ∃ m, w.cell? ⟨0, 0, none⟩ = some (.int .i64 m)
  syn : ∃ ev, w.cell? ⟨1, 0, none⟩ = some ev ∧ (ev = .nilIface ∨ ∃ te pe, ev = .iface te pe)
  rng : ∃ ev, w.cell? ⟨2, 0, none⟩ = some ev ∧ (ev = .nilIface ∨ ∃ te pe, ev = .iface te pe)
theorem LW.go {w w' : World} (h : LW w) (hb : Below w.heap.size w w') : LW w' := by
  obtain ⟨m, hm⟩ := h.max
  obtain ⟨s, hs, hs2⟩ := h.syn
  obtain ⟨r, hr, hr2⟩ := h.rng
  exact ⟨Lib.tabBelow_of_tabIs h.tab _ hb, ⟨m, (hb.cell (cell_lt hm)).trans hm⟩, ⟨s, (hb.cell (cell_lt hs)).trans hs, hs2⟩, ⟨r, (hb.cell (cell_lt hr)).trans hr, hr2⟩⟩
theorem below_grow (B : Nat) (w : World) (k : Nat) (os : Array Obj) (hB : B ≤ w.heap.size) : Below B w (Go.Sort.grow (w.drewN k) os) :=
  ⟨rfl, rfl, rfl, by simp [Go.Sort.grow], fun i hi => by
    have : i < (w.drewN k).heap.size := by show i < w.heap.size; omega
    exact Go.Sort.heap_grow_old _ _ this⟩
/-- a text as a value -/
def txt (l : List UInt8) : Value := .string ⟨l.toArray⟩
theorem txt_bl (s : ByteArray) : txt (Pl.bl s) = .string s := rfl
theorem itoa_any (n : Int) (h0 : -9223372036854775808 ≤ n) (h1 : n ≤ 9223372036854775807) (w : World) (h : LW w) :
    Calls Tryz.prog 34 #[.int .i64 n] w fun e w' => e = .returned (txt (Lib.itoa n)) ∧ Below w.heap.size w w' := by
  have hh := Any.strconv_Itoa itoaS n h0 h1 w h.tab
  change Calls Tryz.prog 34 _ _ _ at hh
  refine hh.mono ?_
  rintro e w' ⟨rfl, k, os, rfl⟩
  exact ⟨rfl, below_grow _ _ _ _ (Nat.le_refl _)⟩
/-- what Atoi returns -/
def AtoiSaid (s : ByteArray) (w : World) (e : Ending) (w' : World) : Prop :=
  ∃ n : Int, ∃ ev, e = .returned (.tuple #[.int .i64 n, ev]) ∧ -9223372036854775808 ≤ n ∧ n ≤ 9223372036854775807 ∧ ((Lib.atoiAll (Pl.bl s) = .ok n ∧ ev = .nilIface) ∨ ((∀ v, Lib.atoiAll (Pl.bl s) ≠ .ok v) ∧ ∃ te pe, ev = .iface te pe)) ∧ Below w.heap.size w w'
theorem atoi_range {l : List UInt8} {v : Int} (h : Lib.atoiAll l = .ok v) : -9223372036854775808 ≤ v ∧ v ≤ 9223372036854775807 := by
  unfold Lib.atoiAll at h
  split at h
  · cases h
  · simp only at h
    split at h
    · cases h
    · cases h
    · split at h
      · cases h
      · split at h
        · cases h
        · rename_i h1 h2
          injection h with h
          subst h
          split <;> omega
theorem atoi_any (s : ByteArray) (hs : s.size ≤ 281474976710656) (w : World) (h : LW w) : Calls Tryz.prog 40 #[.string s] w (AtoiSaid s w) := by
  cases ha : Lib.atoiAll s.data.toList with
  | ok v =>
    have hh := Any.strconv_Atoi_ok atoiS s (by omega) v ha w
    change Calls Tryz.prog 40 _ _ _ at hh
    refine hh.mono ?_
    rintro e w' ⟨rfl, hw⟩
    obtain ⟨r1, r2⟩ := atoi_range ha
    refine ⟨v, .nilIface, rfl, r1, r2, .inl ⟨ha, rfl⟩, ?_⟩
    rcases hw with rfl | ⟨t, rfl⟩
    · exact Below.refl _ _
    · exact Lib.bytesWorld_below _ _ _
  | «syntax» =>
    obtain ⟨ev, hv, hev⟩ := h.syn
    have hh := Any.strconv_Atoi_syntax atoiS s hs ha ev w hv hev
    change Calls Tryz.prog 40 _ _ _ at hh
    refine hh.mono ?_
    rintro e w' ⟨N, rfl, _, _, hb⟩
    exact ⟨0, _, rfl, by omega, by omega, .inr ⟨fun v => by unfold Pl.bl; rw [ha]; simp, _, _, rfl⟩, hb⟩
  | range =>
    obtain ⟨ev, hv, hev⟩ := h.rng
    have hh := Any.strconv_Atoi_range atoiS s hs ha ev w hv hev
    change Calls Tryz.prog 40 _ _ _ at hh
    refine hh.mono ?_
    rintro e w' ⟨N, rfl, _, _, hb⟩
    have hr : -9223372036854775808 ≤ Lib.atoiSat s.data.toList ∧ Lib.atoiSat s.data.toList ≤ 9223372036854775807 := by unfold Lib.atoiSat; split <;> omega
    exact ⟨_, _, rfl, hr.1, hr.2, .inr ⟨fun v => by unfold Pl.bl; rw [ha]; simp, _, _, rfl⟩, hb⟩
theorem cut_any (s : List UInt8) (c : UInt8) (hs : s.length < 4294967281) (w : World) (h : LW w) :
    Calls Tryz.prog 38 #[txt s, .string ⟨#[c]⟩] w fun e w' => e = .returned (.tuple #[txt (Lib.cut s [c]).1, txt (Lib.cut s [c]).2.1, .bool (Lib.cut s [c]).2.2]) ∧ Below w.heap.size w w' := by
  obtain ⟨m, hm⟩ := h.max
  have hh := Any.strings_Cut { cutS with } ⟨s.toArray⟩ ⟨#[c]⟩ m w (by simpa [ByteArray.size] using hs) hm
  change Calls Tryz.prog 38 _ _ _ at hh
  refine hh.mono ?_
  rintro e w' ⟨rfl, n, rfl⟩
  exact ⟨rfl, below_drewN_e (Below.refl _ _) n⟩
theorem split_any (s : List UInt8) (c : UInt8) (hs : s.length < 4294967281) (w : World) (h : LW w) :
    Calls Tryz.prog 39 #[txt s, .string ⟨#[c]⟩] w fun e w' => e = .returned (.slice (some ⟨w.heap.size, 0, none⟩) (Lib.countB ⟨s.toArray⟩ ⟨#[c]⟩ + 1) (Lib.countB ⟨s.toArray⟩ ⟨#[c]⟩ + 1)) ∧ w' = w.alloc (.cells ((Lib.splitB ⟨#[c]⟩ 0 (Lib.countB ⟨s.toArray⟩ ⟨#[c]⟩) ⟨s.toArray⟩).map Value.string).toArray 9) := by
  obtain ⟨m, hm⟩ := h.max
  have hh := Any.strings_Split { splitS with } splitS.i9 ⟨s.toArray⟩ ⟨#[c]⟩ m w (by simpa [ByteArray.size] using hs) hm (by simp [ByteArray.size])
  change Calls Tryz.prog 39 _ _ _ at hh
  exact hh
end Go.Proofs.YtibhgcldogfonaaGreatDoor
namespace Go.Proofs.YtibhgcldogfonaaGreatDoor
open Go.RowKit
theorem txt_app (a b : List UInt8) : (⟨a.toArray⟩ : ByteArray) ++ ⟨b.toArray⟩ = ⟨(a ++ b).toArray⟩ := by
  apply Pl.bl_inj
  unfold Pl.bl
  simp [ByteArray.data_append]
theorem digits_len (k u : Nat) (h : u < 10 ^ (k + 1)) : (Lib.decDigits u).length ≤ k + 1 := by
  induction k generalizing u with
  | zero => rw [Lib.decDigits, dif_pos (by simpa using h)]; simp
  | succ k ih =>
    rw [Lib.decDigits]
    split
    · simp
    · rw [List.length_append]
      have := ih (u / 10) (by rw [Nat.pow_succ] at h; omega)
      simp
      omega
theorem itoa_len {n : Int} (h0 : -9223372036854775808 ≤ n) (h1 : n ≤ 9223372036854775807) : (Lib.itoa n).length ≤ 20 := by
  unfold Lib.itoa
  split
  · have := digits_len 18 n.natAbs (by omega)
    simp only [List.length_cons]; omega
  · have := digits_len 18 n.toNat (by omega)
    omega
theorem size_bl (s : ByteArray) : s.size = (Pl.bl s).length := by unfold Pl.bl; rw [Array.length_toList]; rfl
/-- a text that is some bytes -/
theorem txt_of {s : ByteArray} {l : List UInt8} (h : Pl.bl s = l) : (.string s : Value) = txt l := by subst h; rfl
theorem bl_app (a b : ByteArray) : Pl.bl (a ++ b) = Pl.bl a ++ Pl.bl b := by unfold Pl.bl; simp [ByteArray.data_append]
set_option maxHeartbeats 3200000 in
set_option maxRecDepth 100000 in
theorem line_any (s : Int × Int) (x : Pl.LE) (w : World) (hs : Pl.SumOk s) (hx : EntIn x) (h1 : x.1.size ≤ 200000) (h2 : x.2.1.size ≤ 200000) (hl : LW w) :
    Calls Tryz.prog 22 #[.agg #[.int .i64 s.1, .int .i64 s.2], .agg #[.string x.1, .string x.2.1, .int .i64 x.2.2]] w fun e w' => e = .returned (.tuple #[txt (Pl.lineS s x), .agg #[.int .i64 (Pl.chkN s x).1, .int .i64 (Pl.chkN s x).2]]) ∧ Below w.heap.size w w' := by
  obtain ⟨a, b⟩ := s
  obtain ⟨xf, xt, xc⟩ := x
  obtain ⟨_, _, x0, x1⟩ := hx
  simp only at h1 h2 x0 x1
  have HLW := Lib.hid hl
  have HI := Lib.hid (fun (w : World) h => itoa_any xc x0 x1 w h)
  unfold txt at HI
  obtain ⟨cs, hcs⟩ : ∃ cs : ByteArray, cs = ⟨(Lib.itoa xc).toArray⟩ := ⟨_, rfl⟩
  have HCS := Lib.hid hcs
  have hcl : cs.size ≤ 20 := by rw [hcs, size_bl]; exact itoa_len x0 x1
  rw [← hcs] at HI
  clear hl hcs
  go_enter Tryz.func22, Tryz.ntmps22
  go_wp2_with fail
  have B2 : Hid (Blk (((w.alloc (.cells #[.int .i64 a, .int .i64 b] 63)).alloc (.cells #[.string xf, .string xt, .int .i64 xc] 38)).alloc (.cells #[.int .i64 0, .int .i64 0] 63)) w.heap.size 63 #[.int .i64 a, .int .i64 b]) := ((Blk.new_ _ _ _ _ rfl).alloc _).alloc _
  have B3 : Hid (Blk (((w.alloc (.cells #[.int .i64 a, .int .i64 b] 63)).alloc (.cells #[.string xf, .string xt, .int .i64 xc] 38)).alloc (.cells #[.int .i64 0, .int .i64 0] 63)) (w.heap.size + 1) 38 #[.string xf, .string xt, .int .i64 xc]) := (Blk.new_ _ _ _ _ (by simp)).alloc _
  have B5 : Hid (Blk (((w.alloc (.cells #[.int .i64 a, .int .i64 b] 63)).alloc (.cells #[.string xf, .string xt, .int .i64 xc] 38)).alloc (.cells #[.int .i64 0, .int .i64 0] 63)) (w.heap.size + 1 + 1) 63 #[.int .i64 0, .int .i64 0]) := Blk.new_ _ _ _ _ (by simp)
  have HB := Lib.hid ((((Below.refl w.heap.size w).alloc (Nat.le_refl _) (.cells #[.int .i64 a, .int .i64 b] 63)).alloc (by simp) (.cells #[.string xf, .string xt, .int .i64 xc] 38)).alloc (by simp; omega) (.cells #[.int .i64 0, .int .i64 0] 63))
  generalize ((w.alloc (.cells #[.int .i64 a, .int .i64 b] 63)).alloc (.cells #[.string xf, .string xt, .int .i64 xc] 38)).alloc (.cells #[.int .i64 0, .int .i64 0] 63) = w3 at *
  have r0 := Wd.cell (B3.out.cell 0)
  have r1 := Wd.cell (B3.out.cell 1)
  have r2 := Wd.cell (B3.out.cell 2)
  refine wp_region_wd (by kernel_rfl) (by kernel_rfl) ?_
  repeat (go_big_quiet_step ((go_at_call 34; exact Calls.wd (HI.out _ ((HLW.out.go HB.out).go (Wd.ok _))))))
  refine wpQuiet_nil ?_
  rintro _ ⟨w6, rfl⟩
  have B26 := Lib.hid (B2.out.go w6.ok)
  have B36 := Lib.hid (B3.out.go w6.ok)
  have B56 := Lib.hid (B5.out.go w6.ok)
  have HB6 := Lib.hid (HB.out.trans (w6.ok.mono HB.out.size))
  clear r0 r1 r2 B2 B3 B5 HB HI
  generalize w6.val = w7 at *
  have HTX : Hid (Pl.bl (xf ++ ⟨#[32]⟩ ++ xt ++ ⟨#[32]⟩ ++ cs) = Pl.lineT (xf, xt, xc)) := by
    show _ = _
    rw [bl_app, bl_app, bl_app, bl_app, HCS.out]
    rfl
  have hts : (xf ++ ⟨#[32]⟩ ++ xt ++ ⟨#[32]⟩ ++ cs).size ≤ 500000 := by
    simp only [ByteArray.size_append]
    have : (⟨#[32]⟩ : ByteArray).size = 1 := rfl
    omega
  generalize xf ++ ⟨#[32]⟩ ++ xt ++ ⟨#[32]⟩ ++ cs = tx at *
  obtain ⟨cap, w8, hrun, hc, hb⟩ := bytes_of tx w7
  have HC := Lib.hid hc
  have B28 := Lib.hid (B26.out.go hb)
  have B58 := Lib.hid (B56.out.go hb)
  have HB8 := Lib.hid (HB6.out.trans (hb.mono HB6.out.size))
  clear hc
  go_wp2_with fail
  have hgb : w.heap.size ≠ w7.heap.size := by have := B26.out.lt; omega
  have hg2 : w.heap.size + 1 + 1 ≠ w.heap.size := by omega
  clear B26 B36 B56 HB6 hrun hb
  generalize w7.heap.size = gb at *
  generalize w8 = wq at *
  go_loopw [23] (fun i wr => ∃ k : Nat, k ≤ tx.size ∧ i = .int .i64 k ∧ Hid (Blk wr w.heap.size 63 #[.int .i64 (Pl.chk (a, b) ((Pl.bl tx).take k)).1, .int .i64 (Pl.chk (a, b) ((Pl.bl tx).take k)).2]) ∧ Hid (Blk wr (w.heap.size + 1 + 1) 63 #[.int .i64 0, .int .i64 0]) ∧ Hid (∀ j (hj : j < tx.size), wr.cell? ⟨gb, j, none⟩ = some (.int .u8 (tx[j].toNat : Int))) ∧ Hid (Below w.heap.size w wr)) (fun i _ => tx.size - (intOf i).toNat)
  case atStart => exact ⟨0, Nat.zero_le _, rfl, B28, B58, HC, HB8⟩
  case round =>
    clear B28 B58 HC HB8
    obtain ⟨k, hk, rfl, B2, B5, HC, HB⟩ := hrel
    by_cases hlt : k < tx.size
    · have ck := HC.out k hlt
      have hl2 : k < (Pl.bl tx).length := by rw [← size_bl]; exact hlt
      have HCK : Hid (Pl.chk (a, b) ((Pl.bl tx).take (k + 1)) = Pl.chkB (Pl.chk (a, b) ((Pl.bl tx).take k)) tx[k]) := by
        show _ = _
        rw [List.take_succ_eq_append_getElem hl2, Pl.chk_snoc]
        rfl
      obtain ⟨p0, p1, q0, q1⟩ := Pl.chk_ok hs ((Pl.bl tx).take k)
      unfold Pl.chkB at HCK
      have hcc : tx[k].toNat < 256 := tx[k].toNat_lt
      generalize Pl.chk (a, b) ((Pl.bl tx).take k) = pq at *
      obtain ⟨pp, qq⟩ := pq
      simp only at p0 p1 q0 q1 HCK B2
      generalize tx[k].toNat = cc at *
      have k0 : (0 : Int) ≤ (k : Int) := by omega
      have k1 : (k : Int) < (tx.size : Int) := by omega
      have b0 := B2.out.cell 0
      have b1 := B2.out.cell 1
      have f0 := B2.out.frozen 0
      have f1 := B2.out.frozen 1
      have lb := B2.out.lt
      have BS := Lib.hid ((B2.out.set_ 0 (.int .i64 ((pp + (cc : Int)) % 65521))).set_ 1 (.int .i64 ((qq + (pp + (cc : Int))) % 65521)))
      have hgg : gb ≠ w.heap.size := hgb.symm
      go_wp2_with fail
      go_roundw
      case rel =>
        refine ⟨k + 1, by omega, by go_num, ?_, (B5.out.far hg2 _).far hg2 _, fun j hj => ?_, (HB.out.setCell (p := ⟨w.heap.size, 0, none⟩) (Nat.le_refl _) _).setCell (p := ⟨w.heap.size, 1, none⟩) (Nat.le_refl _) _⟩
        · rw [HCK.out]
          have e : (qq + (pp + (cc : Int)) % 65521) % 65521 = (qq + (pp + (cc : Int))) % 65521 := by omega
          rw [e]
          exact BS.out
        · rw [World.cell?_setCell_other _ _ _ _ (fun e => by injection e with e; exact hgb e), World.cell?_setCell_other _ _ _ _ (fun e => by injection e with e; exact hgb e)]
          exact HC.out j hj
      case measure => simp [intOf]; omega
    · have : k = tx.size := by omega
      subst this
      have HKS : Hid (Pl.chk (a, b) ((Pl.bl tx).take tx.size) = Pl.chkN (a, b) (xf, xt, xc)) := by
        show _ = _
        rw [List.take_of_length_le (by rw [← size_bl]; exact Nat.le_refl _), HTX.out]
        rfl
      rw [HKS.out] at B2
      obtain ⟨p0, p1, q0, q1⟩ := Pl.chk_ok hs (Pl.lineT (xf, xt, xc))
      have HLS : Hid (Pl.lineS (a, b) (xf, xt, xc) = Pl.lineT (xf, xt, xc) ++ [32] ++ Lib.itoa (65521 * (Pl.chkN (a, b) (xf, xt, xc)).2 + (Pl.chkN (a, b) (xf, xt, xc)).1) ++ [10]) := rfl
      rw [← HTX.out] at HLS
      change 0 ≤ (Pl.chkN (a, b) (xf, xt, xc)).1 at p0
      change (Pl.chkN (a, b) (xf, xt, xc)).1 < 65521 at p1
      change 0 ≤ (Pl.chkN (a, b) (xf, xt, xc)).2 at q0
      change (Pl.chkN (a, b) (xf, xt, xc)).2 < 65521 at q1
      generalize hpq : Pl.chkN (a, b) (xf, xt, xc) = pq at *
      obtain ⟨pp, qq⟩ := pq
      have HPQ := Lib.hid hpq
      clear hpq
      simp only at p0 p1 q0 q1 HLS B2
      have HI2 := Lib.hid (fun (w : World) h => itoa_any (65521 * qq + pp) (by omega) (by omega) w h)
      unfold txt at HI2
      obtain ⟨c2, hc2⟩ : ∃ cs : ByteArray, cs = ⟨(Lib.itoa (65521 * qq + pp)).toArray⟩ := ⟨_, rfl⟩
      have HC2 := Lib.hid hc2
      have hcl2 : c2.size ≤ 20 := by rw [hc2, size_bl]; exact itoa_len (by omega) (by omega)
      rw [← hc2] at HI2
      have HRS : Hid (.string (tx ++ ⟨#[32]⟩ ++ c2 ++ ⟨#[10]⟩) = txt (Pl.lineS (a, b) (xf, xt, xc))) := by
        refine txt_of ?_
        rw [bl_app, bl_app, bl_app, HC2.out, HLS.out]
        rfl
      clear hc2 HLS HC
      have b0 := B2.out.cell 0
      have b1 := B2.out.cell 1
      have d0 := B5.out.cell 0
      have d1 := B5.out.cell 1
      have e0 := B5.out.frozen 0
      have e1 := B5.out.frozen 1
      have lb := B2.out.lt
      have ld := B5.out.lt
      have hw1 : IntKind.i64.wrap (65521 * qq) = 65521 * qq := IntWalk.i64_in _ (by omega)
      have hw2 : IntKind.i64.wrap (65521 * qq + pp) = 65521 * qq + pp := IntWalk.i64_in _ (by omega)
      go_wp2_with fail
      have hsa : (tx ++ ⟨#[32]⟩).size ≤ 600000 := by
        simp only [ByteArray.size_append]
        have : (⟨#[32]⟩ : ByteArray).size = 1 := rfl
        omega
      have hsb : (tx ++ ⟨#[32]⟩ ++ c2).size ≤ 700000 := by
        simp only [ByteArray.size_append] at hsa ⊢
        omega
      have z32 : (⟨#[32]⟩ : ByteArray).size = 1 := rfl
      have z10 : (⟨#[10]⟩ : ByteArray).size = 1 := rfl
      have hs3 : (tx ++ ⟨#[32]⟩).size ≤ 600000 := by rw [ByteArray.size_append]; omega
      have hs4 : (tx ++ ⟨#[32]⟩ ++ c2).size ≤ 700000 := by rw [ByteArray.size_append]; omega
      have ha1 : ∀ W, (Op.stringOp .add tx ⟨#[32]⟩).run Tryz.prog W = .ok (.string (tx ++ ⟨#[32]⟩)) W := fun W => run_string_add_sum _ _ _ (by omega)
      have ha2 : ∀ W, (Op.stringOp .add (tx ++ ⟨#[32]⟩) c2).run Tryz.prog W = .ok (.string (tx ++ ⟨#[32]⟩ ++ c2)) W := fun W => run_string_add_sum _ _ _ (by omega)
      have ha3 : ∀ W, (Op.stringOp .add (tx ++ ⟨#[32]⟩ ++ c2) ⟨#[10]⟩).run Tryz.prog W = .ok (.string (tx ++ ⟨#[32]⟩ ++ c2 ++ ⟨#[10]⟩)) W := fun W => run_string_add_sum _ _ _ (by omega)
      clear hs3 hs4 hts hcl hcl2 h1 h2 z32 z10
      have hcur : Hid (Below wr.heap.size wr wr.drew) := (Below.refl _ _).drew
      have HSF : Hid (∀ w', Below wr.heap.size wr w' → w'.cell? ⟨w.heap.size, 0, none⟩ = some (.int .i64 pp) ∧ w'.cell? ⟨w.heap.size, 1, none⟩ = some (.int .i64 qq)) := fun w' hb => ⟨(B2.out.go hb).cell 0, (B2.out.go hb).cell 1⟩
      go_region_held3 (fun w' => w'.cell? ⟨w.heap.size, 0, none⟩ = some (.int .i64 pp) ∧ w'.cell? ⟨w.heap.size, 1, none⟩ = some (.int .i64 qq))
        (first
          | exact HSF.out _ hcur.out
          | (have hk := HSF.out _ hcur.out; exact ⟨by rw [World.cell?_setCell_other _ _ _ _ (by simp), World.cell?_setCell_other _ _ _ _ (by simp)]; exact hk.1, by rw [World.cell?_setCell_other _ _ _ _ (by simp), World.cell?_setCell_other _ _ _ _ (by simp)]; exact hk.2⟩))
        (first | (go_at_call 34; refine (HI2.out _ (HLW.out.go (HB.out.trans (hcur.out.mono HB.out.size)))).mono ?_; rintro e w9 ⟨rfl, hb9⟩; have hcur := Lib.hid (hcur.out.trans (hb9.mono hcur.out.size)); have B59 := Lib.hid (B5.out.go hcur.out); have e0' := B59.out.frozen 0; have e1' := B59.out.frozen 1; have d0' := B59.out.cell 0; have d1' := B59.out.cell 1; have ld' := B59.out.lt; clear hb9))
      have HB9 := Lib.hid (((HB.out.trans (hcur.out.mono HB.out.size)).setCell (p := ⟨w.heap.size + 1 + 1, 0, none⟩) (by simp; omega) (.int .i64 pp)).setCell (p := ⟨w.heap.size + 1 + 1, 1, none⟩) (by simp; omega) (.int .i64 qq))
      have BR := Lib.hid ((B59.out.set_ 0 (.int .i64 pp)).set_ 1 (.int .i64 qq))
      clear HSF hcur B59 e0' e1' d0' d1' ld' b0 b1 d0 d1 e0 e1 lb ld hw1 hw2 ha1 ha2 ha3 B2 B5 HB HI2
      have rc := BR.out.cell
      go_wp2_with fail
      refine bodyPost_ret (v := .tuple #[.string (tx ++ ⟨#[32]⟩ ++ c2 ++ ⟨#[10]⟩), .agg #[.int .i64 pp, .int .i64 qq]]) (by simp [results, Tryz.results22, go_sem, rc]) rfl ⟨?_, HB9.out⟩
      rw [HRS.out, HPQ.out]
end Go.Proofs.YtibhgcldogfonaaGreatDoor
namespace Go.Proofs.YtibhgcldogfonaaGreatDoor
open Go.RowKit
namespace Pl
theorem lineS_len {s : Int × Int} {x : LE} (hs : SumOk s) (hx : lbad x = 0) : (lineS s x).length ≤ 60 := by
  obtain ⟨n1, n2, _, c0, c1⟩ := lbad_ok.1 hx
  obtain ⟨k1, k2, k3, k4⟩ := chk_ok hs (lineT x)
  have l1 := name_len n1
  have l2 := name_len n2
  have l3 := itoa_len (n := x.2.2) (by omega) (by omega)
  have l4 := itoa_len (n := sumK s x) (by unfold sumK chkN; omega) (by unfold sumK chkN; omega)
  unfold lineS line0 lineT
  simp only [List.length_append, List.length_cons, List.length_nil]
  omega
theorem textS_len {s : Int × Int} {l : List LE} (hs : SumOk s) (hl : ∀ x ∈ l, lbad x = 0) : (textS s l).length ≤ 60 * l.length := by
  induction l generalizing s with
  | nil => simp [textS]
  | cons x l ih =>
    have h1 := lineS_len hs (hl x (by simp))
    have h2 := ih (s := chkN s x) (chk_ok hs _) fun y hy => hl y (by simp [hy])
    rw [textS, List.length_append, List.length_cons]
    omega
def lText (l : List LE) : List UInt8 × Int := if lcheck l ≠ 0 then ([], lcheck l) else (textS s0 l, 0)
end Pl
set_option maxHeartbeats 3200000 in
set_option maxRecDepth 100000 in
theorem text_any (A : Option Addr) (n c : Nat) (l : List Pl.LE) (w : World) (h : Ents w A n l) (hl : LW w) :
    Calls Tryz.prog 6 #[.slice A n c] w fun e w' => e = .returned (.tuple #[txt (Pl.lText l).1, .int .i64 (Pl.lText l).2]) ∧ Below w.heap.size w w' := by
  have L := Lib.hid h.len
  have H := Lib.hid h
  have HLW := Lib.hid hl
  have HC := Lib.hid (fun w h => lcheck_any A n c l w h)
  have HX : Hid (Pl.lText l = if Pl.lcheck l ≠ 0 then ([], Pl.lcheck l) else (Pl.textS Pl.s0 l, 0)) := rfl
  generalize Pl.lText l = R at *
  clear h hl
  by_cases h0 : Pl.lcheck l = 0
  · rw [if_neg (by simpa using h0)] at HX
    obtain ⟨k1, k2, k3⟩ := Pl.lcheck_ok.1 h0
    rw [h0] at HC
    have hn : n ≤ 256 := by rw [← L.out]; exact k1
    have HOK := Lib.hid k2
    clear h0 k1 k2 k3
    go_enter Tryz.func6, Tryz.ntmps6
    go_wp2_with fail
    refine (HC.out _ H.out).mono ?_
    rintro e w1 ⟨rfl, hb⟩
    have HB1 := Lib.hid hb
    clear hb HC
    go_wp2_with fail
    have BS : Hid (Blk (w1.alloc (.cells #[.int .i64 1, .int .i64 0] 63)) w1.heap.size 63 #[.int .i64 (Pl.chkL Pl.s0 (l.take 0)).1, .int .i64 (Pl.chkL Pl.s0 (l.take 0)).2]) := Blk.new_ _ _ _ _ rfl
    have HB2 := Lib.hid (HB1.out.alloc HB1.out.size (.cells #[.int .i64 1, .int .i64 0] 63))
    have HGL : Hid (w.heap.size ≤ w1.heap.size) := HB1.out.size
    have hnil : (.string ⟨#[]⟩ : Value) = txt (Pl.textS Pl.s0 (l.take 0)) := rfl
    generalize w1.alloc (.cells #[.int .i64 1, .int .i64 0] 63) = w2 at *
    generalize w1.heap.size = g6 at *
    go_loopw [5, 19] (fun v i wr => ∃ k : Nat, k ≤ n ∧ i = .int .i64 k ∧ v = txt (Pl.textS Pl.s0 (l.take k)) ∧ Hid (Blk wr g6 63 #[.int .i64 (Pl.chkL Pl.s0 (l.take k)).1, .int .i64 (Pl.chkL Pl.s0 (l.take k)).2]) ∧ Hid (Below w.heap.size w wr)) (fun _ i _ => n - (intOf i).toNat)
    case atStart => exact ⟨0, Nat.zero_le _, rfl, hnil, BS, HB2⟩
    case round =>
      clear BS HB2 HB1 hnil
      obtain ⟨k, hk, rfl, rfl, BS, HB⟩ := hrel
      by_cases hlt : k < n
      · obtain ⟨b, o, rfl, hl, c0, c1, c2, hin⟩ := (H.out.go HB.out).at_ hlt
        have hbad := HOK.out _ (List.getElem_mem hl)
        have hso := Pl.chkL_ok Pl.s0_ok (l.take k)
        have hzs := Pl.textS_len Pl.s0_ok (l := l.take k) fun x hx => HOK.out x (List.mem_of_mem_take hx)
        have hzl := Pl.lineS_len hso hbad
        have HTX : Hid (Pl.textS Pl.s0 (l.take (k + 1)) = Pl.textS Pl.s0 (l.take k) ++ Pl.lineS (Pl.chkL Pl.s0 (l.take k)) l[k]) := by show _ = _; rw [List.take_succ_eq_append_getElem hl, Pl.textS_snoc]
        have HCX : Hid (Pl.chkL Pl.s0 (l.take (k + 1)) = Pl.chkN (Pl.chkL Pl.s0 (l.take k)) l[k]) := by show _ = _; rw [List.take_succ_eq_append_getElem hl, Pl.chkL_snoc]
        have hnm := Pl.lbad_ok.1 hbad
        have hn1 := Pl.name_len hnm.1
        have hn2 := Pl.name_len hnm.2.1
        rw [← size_bl] at hn1 hn2
        have HLN := Lib.hid (fun (w : World) h => line_any (Pl.chkL Pl.s0 (l.take k)) l[k] w hso hin (by omega) (by omega) h)
        have hlk : (l.take k).length ≤ 256 := by rw [List.length_take]; omega
        generalize Pl.chkN (Pl.chkL Pl.s0 (l.take k)) l[k] = nx at *
        generalize Pl.lineS (Pl.chkL Pl.s0 (l.take k)) l[k] = ln at *
        generalize Pl.chkL Pl.s0 (l.take k) = sm at *
        generalize Pl.textS Pl.s0 (l.take k) = tx at *
        generalize l[k] = x at *
        obtain ⟨xf, xt, xc⟩ := x
        obtain ⟨pa, pb⟩ := sm
        obtain ⟨na, nb⟩ := nx
        simp only at c0 c1 c2 HLN BS
        have htl : (⟨tx.toArray⟩ : ByteArray).size ≤ 60000 := by rw [size_bl, Pl.bl_mk]; omega
        have hll : (⟨ln.toArray⟩ : ByteArray).size ≤ 60 := by rw [size_bl, Pl.bl_mk]; omega
        have hadd : ∀ W, (Op.stringOp .add ⟨tx.toArray⟩ ⟨ln.toArray⟩).run Tryz.prog W = .ok (txt (tx ++ ln)) W := fun W => by rw [run_string_add_sum _ _ _ (by omega), txt_app]; rfl
        clear hl hbad hso hzs hzl hnm hn1 hn2 hin hlk htl hll
        have k0 : (0 : Int) ≤ (k : Int) := by omega
        have k1 : (k : Int) < (n : Int) := by omega
        have AL : Hid (Below wr.heap.size wr (wr.alloc (.cells #[.string xf, .string xt, .int .i64 xc] 38))) := (Below.refl _ _).alloc (Nat.le_refl _) _
        have HB1 := Lib.hid (HB.out.trans (AL.out.mono HB.out.size))
        have BS1 := Lib.hid (BS.out.go AL.out)
        have s0 := BS1.out.cell 0
        have s1 := BS1.out.cell 1
        unfold txt at *
        go_wp2_with fail
        refine (HLN.out _ (HLW.out.go HB1.out)).mono ?_
        rintro e w4 ⟨rfl, hb⟩
        have HB4 := Lib.hid (HB1.out.trans (hb.mono HB1.out.size))
        have BS4 := Lib.hid (BS1.out.go hb)
        have hg4 : g6 ≠ w4.heap.size := by have := BS4.out.lt; omega
        have BN := Lib.hid (Blk.new_ w4 w4.heap.size 63 #[.int .i64 na, .int .i64 nb] rfl)
        have BS5 := Lib.hid (BS4.out.alloc (.cells #[.int .i64 na, .int .i64 nb] 63))
        have HB5 := Lib.hid (HB4.out.alloc HB4.out.size (.cells #[.int .i64 na, .int .i64 nb] 63))
        clear hb HB HB1 BS BS1 AL s0 s1 c0 c1 c2 HLN HB5 BS5
        have s0 := BS4.out.cell 0
        have s1 := BS4.out.cell 1
        have f0 := BS4.out.frozen 0
        have f1 := BS4.out.frozen 1
        have ls := BS4.out.lt
        go_wp2_with fail
        have BS6 := Lib.hid (((BS4.out.set_ 0 (.int .i64 na)).set_ 1 (.int .i64 nb)).alloc (.cells #[.int .i64 na, .int .i64 nb] 63))
        have HB6 := Lib.hid (((HB4.out.setCell (p := ⟨g6, 0, none⟩) HGL.out (.int .i64 na)).setCell (p := ⟨g6, 1, none⟩) HGL.out (.int .i64 nb)).alloc (by have := HB4.out.size; simp; omega) (.cells #[.int .i64 na, .int .i64 nb] 63))
        go_roundw
        case rel =>
          refine ⟨k + 1, by omega, by go_num, by rw [HTX.out], ?_, HB6⟩
          rw [HCX.out]
          exact BS6.out
        case measure => simp [intOf]; omega
      · have : n = k := by omega
        subst this
        have HT : Hid (l.take n = l) := List.take_of_length_le (by rw [L.out]; exact Nat.le_refl _)
        rw [HT.out]
        unfold txt
        go_wp2_with fail
        go_ret2
        rw [HX.out]
        exact ⟨rfl, HB.out⟩
  · rw [if_pos h0] at HX
    generalize Pl.lcheck l = E at *
    have he : (E != 0) = true := by simpa using h0
    clear h0
    go_enter Tryz.func6, Tryz.ntmps6
    go_wp2_with fail
    refine (HC.out _ H.out).mono ?_
    rintro e w1 ⟨rfl, hb⟩
    have HB1 := Lib.hid hb
    clear hb HC
    go_wp2_with fail
    go_ret2
    rw [HX.out]
    exact ⟨rfl, HB1.out⟩
end Go.Proofs.YtibhgcldogfonaaGreatDoor
