/- strconv.FormatUint at base 10: the decimal numeral. Condition: the library's tables lie as they are laid (LV). Package large: Text gives the decimal numeral. Condition: the words read; the library's tables lie as they are laid. -/
import Derived.Test.YtoblpcljhblnmaaGreatDoorShLg
import Derived.Shelf.Strconv.Itoa1
import Derived.Lib.Walk
import Derived.WalkKit
import Derived.BigCall
import Derived.BigGuard
import Derived.Test.YtoblpcljhblnmaaGreatDoorLgP
import Derived.Test.YtoblpcljhblnmaaGreatDoorPDec
import Derived.Deep.LoopGhost
namespace Go.Proofs.YtoblpcljhblnmaaGreatDoor
open Go.RowKit Go.Sort
set_option maxRecDepth 100000
theorem small_any (i : Nat) (h : i < 100) (w : World) : Calls Tryz.prog 209 #[.int .i64 (i : Int)] w fun e w' => e = .returned (.string ⟨(Lib.decDigits i).toArray⟩) ∧ w' = w := Any.internal_strconv_small smallL i h w
theorem ndig_any (u : Nat) (h1 : 1 ≤ u) (h2 : u < 18446744073709551616) (w : World) (htab : Lib.TabIs Tryz.prog w "internal/strconv.uint64pow10" .u64 Lib.pow10Tab) :
    Calls Tryz.prog 210 #[.int .u64 (u : Int)] w fun e w' => e = .returned (.int .i64 (Lib.nDigits u)) ∧ w' = w := Any.internal_strconv_numDigits ndigL u h1 h2 w htab
theorem fb10_any (blk off cap : Nat) (u : Nat) (d : Array UInt8) (w : World) (hH : Holds (fun (b : UInt8) => Value.int .u8 (b.toNat : Int)) w blk off d) (hu : u < 10 ^ d.size) (hu64 : u < 18446744073709551616) (hsz : d.size < 4611686018427387904) :
    Calls Tryz.prog 211 #[.slice (some ⟨blk, off, none⟩) d.size cap, .int .u64 (u : Int)] w fun e w' =>
      e = .returned (.tuple #[]) ∧ ∃ (n v' : Nat) (dk : Array UInt8), w' = (putRow (fun (b : UInt8) => Value.int .u8 (b.toNat : Int)) w blk off dk).drewN n ∧ Lib.FmtInv d.size u 0 v' dk := Any.internal_strconv_formatBase10 fb10L blk off cap u d w hH hu hu64 hsz
theorem fin_zero (w : World) (o : Obj) (dk : Array UInt8) (k : Nat) : ∃ os, (putRow (fun (b : UInt8) => Value.int .u8 (b.toNat : Int)) (w.alloc o) w.heap.size 0 dk).drewN k = grow (w.drewN k) os := by
  rw [alloc_eq_grow]
  obtain ⟨os', _, e⟩ := putRow_grow_new (fun (b : UInt8) => Value.int .u8 (b.toNat : Int)) w #[o] w.heap.size 0 dk (Nat.le_refl _)
  exact ⟨os', by rw [e]; rfl⟩
set_option maxHeartbeats 6400000 in
theorem fmtu0_any (u : Nat) (hu64 : u < 18446744073709551616) (w : World) (h : LV w) :
    Calls Tryz.prog 188 #[.int .u64 (u : Int), .int .i64 10] w fun e w' => e = .returned (tx (Lib.decDigits u)) ∧ Below w.heap.size w w' := by
  by_cases hs : u < 100
  · have wu : IntKind.i64.wrap (u : Int) = (u : Int) := IntWalk.i64_in _ (by omega)
    have hlt : (u : Int) < 100 := by omega
    have HS := Lib.hid (small_any u hs)
    go_enter Tryz.func188, Tryz.ntmps188
    go_wp2_with fail
    refine (HS.out _).mono ?_
    rintro e w' ⟨rfl, rfl⟩
    go_wp2_with fail
    go_ret
    exact ⟨rfl, Below.refl _ _⟩
  · have hu1 : 1 ≤ u := by omega
    have hge : ¬ (u : Int) < 100 := by omega
    have hnd20 : Lib.nDigits u ≤ 20 := by have := Lib.numDigits_eq u hu1 hu64; split at this <;> omega
    have hal : Tryz.prog.arrayLen 310 = 24 := by kernel_rfl
    have hel : Tryz.prog.underlying 310 = some (.array 24 (Tryz.prog.elem 310)) := by kernel_rfl
    have hso : ∀ W, (sizeOf (Tryz.prog.elem 310)).run Tryz.prog W = .ok 1 W := fun _ => by kernel_rfl
    have hsl1 : ∀ W, (Instr.sliceAt 310 (.pointer (some ⟨w.heap.size, 0, none⟩)) none (some (.int .i64 (Lib.nDigits u : Int))) none).run Tryz.prog W = .ok (.slice (some ⟨w.heap.size, 0, none⟩) (Lib.nDigits u) 24) W := fun W => by
      rw [run_sliceAt_array_h W 310 ⟨w.heap.size, 0, none⟩ (by kernel_rfl) .i64 (Lib.nDigits u : Int) (by omega) (by rw [hal]; omega)]
      rw [hso, hal]
      simp [slicedAt, Result.andThen]
      rfl
    have hH0 := Lib.holds_zero0 w 310 (Lib.nDigits u) (by omega)
    have hfmt := fb10_any w.heap.size 0 24 u (Array.replicate (Lib.nDigits u) 0) (w.alloc (.cells Lib.zeros24 310)) hH0 (by rw [Array.size_replicate]; exact Lib.lt_pow_nDigits u) hu64 (by rw [Array.size_replicate]; omega)
    rw [Array.size_replicate] at hfmt
    have HH0 := Lib.hid hH0
    have HF := Lib.hid hfmt
    have HND := Lib.hid (ndig_any u hu1 hu64 _ (Lib.tabIs_alloc h.tab (.cells Lib.zeros24 310)))
    clear hH0 hal hso hel hfmt h
    go_enter Tryz.func188, Tryz.ntmps188
    go_wp2_with fail
    refine HND.out.mono ?_
    rintro e w' ⟨rfl, rfl⟩
    go_wp2_with fail
    refine HF.out.mono ?_
    rintro e w' ⟨rfl, k, v', dk, rfl, hF⟩
    have hcv : (convert 268 9 (.slice (some ⟨w.heap.size, 0, none⟩) (Lib.nDigits u) 24)).run Tryz.prog ((putRow (fun (b : UInt8) => Value.int .u8 (b.toNat : Int)) (w.alloc (.cells Lib.zeros24 310)) w.heap.size 0 dk).drewN k) = .ok (.string ⟨(Lib.decDigits u).toArray⟩) ((putRow (fun (b : UInt8) => Value.int .u8 (b.toNat : Int)) (w.alloc (.cells Lib.zeros24 310)) w.heap.size 0 dk).drewN k) := by
      have h := run_convert_bytes_back (P := Tryz.prog) ((putRow (fun (b : UInt8) => Value.int .u8 (b.toNat : Int)) (w.alloc (.cells Lib.zeros24 310)) w.heap.size 0 dk).drewN k) 268 9 5 ⟨w.heap.size, 0, none⟩ 24 (Lib.decDigits u) Tryz.underlying268 Tryz.underlying5 Tryz.underlying9 (fun j hj => by
        rw [Lib.row_is_numeral hF j hj, Lib.add_plain, World.cell?_drewN]
        exact cell?_putRow (fun (b : UInt8) => Value.int .u8 (b.toNat : Int)) _ w.heap.size 0 _ dk HH0.out (by rw [hF.size, Array.size_replicate]) j (by rw [hF.size]; rw [Lib.decDigits_length] at hj; exact hj))
      rw [Lib.decDigits_length] at h
      exact h
    have HFI := Lib.hid hF
    clear hF HF HND
    go_wp2_with fail
    go_ret
    obtain ⟨os, eo⟩ := fin_zero w (.cells Lib.zeros24 310) dk k
    refine ⟨rfl, ?_⟩
    rw [eo]
    exact below_growL _ _ _ _ (Nat.le_refl _)
theorem fmtu_any (u : Nat) (hu64 : u < 18446744073709551616) (w : World) (h : LV w) :
    Calls Tryz.prog 164 #[.int .u64 (u : Int), .int .i64 10] w fun e w' => e = .returned (tx (Lib.decDigits u)) ∧ Below w.heap.size w w' := by
  go_enter Tryz.func164, Tryz.ntmps164
  go_wp2_with fail
  refine (fmtu0_any u hu64 w h).mono ?_
  rintro e w' ⟨rfl, hb⟩
  go_wp2_with fail
  go_ret
  exact ⟨rfl, hb⟩
end Go.Proofs.YtoblpcljhblnmaaGreatDoor
namespace Go.Proofs.YtoblpcljhblnmaaGreatDoor
open Go.RowKit
set_option maxRecDepth 100000
def TextSaid (z : Int) (w : World) (e : Ending) (w' : World) : Prop :=
  ∃ (s : List UInt8) (b : Bool), e = .returned (.tuple #[tx s, .bool b]) ∧ (b = true ↔ z.natAbs < Pl.lim) ∧ (b = true → s = Lib.itoa z) ∧ s.length ≤ 2102 ∧ Below w.heap.size w w'
def TxtA (w wr : World) (m : Nat) (x : Nm) (v : Nat) (ps : List Nat) (Ap : Option Addr) (cp : Nat) (A : Option Addr) (n c : Nat) : Prop :=
  m = Pl.cv ps + 1000000000 ^ ps.length * v ∧ (∀ y ∈ ps, y < 1000000000) ∧ (v = 0 → ∀ h : ps ≠ [], ps.getLast h ≠ 0) ∧ (v = 0 → ps ≠ []) ∧ NumIs wr wr.heap.size (v : Int) ⟨false, A, n, c⟩ ∧ wr.ownsRow (w.heap.size + 1) 225 1 (.slice Ap ps.length cp) ps.length (u32s ps) ∧
  Blk wr w.heap.size 103 #[.bool x.b, .slice x.A x.n x.c] ∧ Below w.heap.size w wr
theorem cut_piece {m v : Nat} {ps : List Nat} (h : m = Pl.cv ps + 1000000000 ^ ps.length * v) : m = Pl.cv (ps ++ [v % 1000000000]) + 1000000000 ^ (ps ++ [v % 1000000000]).length * (v / 1000000000) := by
  rw [Pl.cv_snoc, List.length_append, List.length_singleton, Nat.pow_succ, h]
  have e := Nat.div_add_mod v 1000000000
  generalize 1000000000 ^ ps.length = p at *
  generalize v / 1000000000 = a at *
  generalize v % 1000000000 = b at *
  rw [← e, Nat.mul_add, Nat.mul_assoc]
  omega
theorem u32s_app (a : List Nat) (r : Nat) : u32s a ++ [Value.int .u32 (r : Int)] = u32s (a ++ [r]) := by unfold u32s; simp
theorem field_words (b : Bool) (A : Option Addr) (n c : Nat) (W : World) : (Instr.field 103 (.agg #[.bool b, .slice A n c]) 1).run Tryz.prog W = .ok (.slice A n c) W := by kernel_rfl
theorem text_zero {x : Nm} {w : World} (hx : NumIs w w.heap.size 0 x) : Calls Tryz.prog 120 #[x.v] w (TextSaid 0 w) := by
  have h0 := hx.len0.2 rfl
  obtain ⟨xb, xA, xn, xc⟩ := x
  simp only at h0
  subst h0
  clear hx
  unfold Nm.v
  go_enter Tryz.func120, Tryz.ntmps120
  go_wp2_with fail
  go_ret2
  refine ⟨[48], true, rfl, ?_, ?_, by simp, (Below.refl _ _).alloc (Nat.le_refl _) _⟩
  · simp only [true_iff]; exact Nat.lt_trans (by decide) Pl.one_lt_lim
  · intro _; exact (Pl.dec_zero).symm
theorem text_big {z : Int} {x : Nm} {w : World} (hx : NumIs w w.heap.size z x) (h : 210 < x.n) : Calls Tryz.prog 120 #[x.v] w (TextSaid z w) := by
  have HB : Hid (Pl.lim ≤ z.natAbs) := by
    refine Nat.le_trans Pl.lim_words ?_
    rcases Nat.lt_or_ge z.natAbs (4294967296 ^ 210) with h1 | h1
    · have := Pl.nw_le h1
      rw [← hx.ln] at this
      omega
    · exact h1
  have h1 : ((x.n : Int) == 0) = false := by simp; omega
  have h2 : (210 : Int) < (x.n : Int) := by omega
  clear hx h
  go_enter Tryz.func120, Tryz.ntmps120
  go_wp2_with fail
  go_ret2
  refine ⟨[], false, rfl, ?_, (fun h => by cases h), by simp, (Below.refl _ _).alloc (Nat.le_refl _) _⟩
  have := HB.out
  simp; omega
theorem pow_bd {a b k : Nat} (h : 2 ^ k < (2 ^ a) ^ b) : k < a * b := by
  rw [← Nat.pow_mul] at h
  exact (Nat.pow_lt_pow_iff_right (by decide)).1 h
theorem piece_bound {k m : Nat} (h : 1000000000 ^ k ≤ m) (hm : m < 4294967296 ^ 210) : k < 32 * 210 := by
  have h1 : 2 ^ k ≤ 1000000000 ^ k := Nat.pow_le_pow_left (by decide) k
  refine pow_bd (Nat.lt_of_le_of_lt (Nat.le_trans h1 h) ?_)
  exact hm
theorem boxA (w : World) (x : Array Value) (t : TypeId) : let w1 := w.alloc (.cells x t)
    Blk w1 w.heap.size t x ∧ Below w.heap.size w w1 ∧ w1.heap.size = w.heap.size + 1 :=
  ⟨Blk.new_ w _ t x rfl, (Below.refl _ w).alloc (Nat.le_refl _) _, by simp⟩
def TxtB (w wx : World) (B : Nat) (x : Nm) (ps : List Nat) (j : Nat) (Ap : Option Addr) : Prop :=
  BldIs wx B B (Pl.ptxt ps j) ∧ Reads wx B 1 Ap ps.length (u32s ps) ∧ Blk wx w.heap.size 103 #[.bool x.b, .slice x.A x.n x.c] ∧ Below w.heap.size w wx ∧ B ≤ wx.heap.size ∧ w.heap.size < B
theorem TxtB.keep {w wx wy : World} {B : Nat} {x : Nm} {ps : List Nat} {j : Nat} {Ap : Option Addr} (h : TxtB w wx B x ps j Ap) (hb : Below wx.heap.size wx wy) : TxtB w wy B x ps j Ap :=
  ⟨h.1.go hb, h.2.1.below (hb.mono h.2.2.2.2.1), h.2.2.1.go hb, h.2.2.2.1.trans (hb.mono h.2.2.2.1.size), Nat.le_trans h.2.2.2.2.1 hb.size, h.2.2.2.2.2⟩
theorem TxtB.write {w wx wy : World} {B : Nat} {x : Nm} {ps : List Nat} {j i : Nat} {Ap : Option Addr} (h : TxtB w wx B x ps j Ap) (hb : Below B wx wy) (hl : BldIs wy B B (Pl.ptxt ps i)) : TxtB w wy B x ps i Ap :=
  ⟨hl, h.2.1.below hb, h.2.2.1.below hb h.2.2.2.2.2, h.2.2.2.1.trans (hb.mono (Nat.le_of_lt h.2.2.2.2.2)), Nat.le_trans h.2.2.2.2.1 hb.size, h.2.2.2.2.2⟩
set_option maxHeartbeats 12800000 in
theorem text_main {z : Int} {x : Nm} {w : World} (hx : NumIs w w.heap.size z x) (h0 : z ≠ 0) (hn : x.n ≤ 210) (hl : LV w) : Calls Tryz.prog 120 #[x.v] w (TextSaid z w) := by
  obtain ⟨hA, hD, hsz⟩ := boxA w #[.bool x.b, .slice x.A x.n x.c] 103
  obtain ⟨i0, hi0, hz0, hz1, hz2⟩ := info_parts info_u32
  have HX := hx.go hD
  have hx0 : x.n ≠ 0 := fun e => h0 (hx.len0.1 e)
  have h1 : ((x.n : Int) == 0) = false := by simp; omega
  have h2 : ¬ (210 : Int) < (x.n : Int) := by omega
  obtain ⟨m, hm⟩ : ∃ m : Nat, m = z.natAbs := ⟨_, rfl⟩
  have hmb : m < 4294967296 ^ 210 := by
    rw [hm]
    have h3 := Pl.lt_nw z.natAbs
    rw [← hx.ln] at h3
    exact Nat.lt_of_lt_of_le h3 (Nat.pow_le_pow_right (by omega) hn)
  have HM := Lib.hid (And.intro hm (And.intro hmb hx.sg))
  have hxa := hx.abs
  have hA0 : Hid (TxtA w (w.alloc (.cells #[.bool x.b, .slice x.A x.n x.c] 103)) m x m [] none 0 x.A x.n x.c) :=
    by
    refine ⟨by simp [Pl.cv], by simp, fun _ h => absurd rfl h, fun h => absurd h (by omega), ?_, World.ownsRow_nil _ _ _ _, hA, hD⟩
    rw [hm]
    exact hxa.go hD
  have HL := Lib.hid hl
  clear hx hA hD hsz hl hm hmb h0 HX hxa
  go_enter Tryz.func120, Tryz.ntmps120
  go_wp2_with fail
  generalize w.alloc (.cells #[.bool x.b, .slice x.A x.n x.c] 103) = w1 at *
  clear h1 h2
  go_loopg [4, 5, 6, 7] (m + 1) (fun gh s4 s5 s6 s7 wr => ∃ (v : Nat) (ps : List Nat) (Ap : Option Addr) (cp : Nat) (A : Option Addr) (n c : Nat), gh = v + 1 ∧ s4 = .slice Ap ps.length cp ∧ s5 = .slice A n c ∧ n ≤ 210 ∧ Hid (TxtA w wr m x v ps Ap cp A n c))
  case atStart => exact ⟨m, [], none, 0, x.A, x.n, x.c, rfl, rfl, rfl, hn, hA0.out⟩
  case round =>
    clear hA0
    obtain ⟨v, ps, Ap, cp, A, n, c, rfl, rfl, rfl, hn2, HT⟩ := hrel
    by_cases hv : v = 0
    · subst hv
      have hn0 : n = 0 := HT.out.2.2.2.2.1.len0.2 rfl
      subst hn0
      have hpn := HT.out.2.2.2.1 rfl
      obtain ⟨L, hL⟩ : ∃ L : Nat, L = ps.length := ⟨_, rfl⟩
      have hL0 : 0 < L := by rw [hL]; exact List.length_pos_iff.2 hpn
      have HPC : Hid (Pl.Pcs ps ∧ Pl.cv ps = m) := ⟨⟨HT.out.2.1, HT.out.2.2.1 rfl⟩, by have := HT.out.1; rw [Nat.mul_zero, Nat.add_zero] at this; exact this.symm⟩
      have hLb : L < 1000000 := by
        rcases Nat.lt_or_ge L 1000000 with h | h
        · exact h
        · exfalso
          obtain ⟨k, hk⟩ : ∃ k, L = k + 1 := ⟨L - 1, by omega⟩
          have h5 : 1000000000 ^ k ≤ m := by
            have h6 := HPC.out.1.2 hpn
            have h7 : ps = ps.dropLast ++ [ps.getLast hpn] := (List.dropLast_concat_getLast hpn).symm
            have h8 := Pl.cv_snoc ps.dropLast (ps.getLast hpn)
            rw [← h7, HPC.out.2, List.length_dropLast, ← hL, hk, Nat.add_sub_cancel] at h8
            have h9 := Nat.mul_le_mul_left (1000000000 ^ k) (Nat.pos_of_ne_zero h6)
            rw [h8]; omega
          have := piece_bound h5 HM.out.2.1
          omega
      rw [← hL]
      have HLE := Lib.hid hL
      have wL : IntKind.i64.wrap ((L : Int) - 1) = (L : Int) - 1 := IntWalk.i64_in _ (by omega)
      clear hL
      go_wp2_with fail
      obtain ⟨B, hB⟩ : ∃ B : Nat, B = wr.heap.size := ⟨_, rfl⟩
      obtain ⟨A8, c8, e8, hrd⟩ := own_slice HT.out.2.2.2.2.2.1
      injection e8 with e8a e8b e8c
      have hd8 := below_one wr (.cells #[.pointer none, .slice none 0 0] 270)
      have HB0 : Hid (TxtB w (wr.alloc (.cells #[.pointer none, .slice none 0 0] 270)) B x ps L Ap) := by
        refine ⟨?_, ?_, HT.out.2.2.2.2.2.2.1.go hd8, HT.out.2.2.2.2.2.2.2.trans (hd8.mono HT.out.2.2.2.2.2.2.2.size), by rw [hB]; exact hd8.size, by rw [hB]; exact HT.out.2.2.2.2.2.2.1.lt⟩
        · rw [HLE.out, Pl.ptxt_end]; exact BldIs.new_ wr B hB
        · rw [hB, e8a]; exact hrd.below hd8
      rw [← hB]
      generalize wr.alloc (.cells #[.pointer none, .slice none 0 0] 270) = w5 at *
      clear hB hrd hd8 e8a e8b e8c HT wL hpn
      go_loopg [9, 10] (L + 1) (fun gh s9 s10 wx => ∃ (j : Nat), j ≤ L ∧ gh = j + 1 ∧ s9 = .int .i64 ((j : Int) - 1) ∧ Hid (TxtB w wx B x ps j Ap))
      case atStart => exact ⟨L, Nat.le_refl _, rfl, rfl, HB0.out⟩
      case round =>
        clear HB0
        obtain ⟨j, hj, rfl, rfl, HT⟩ := hrel
        by_cases hj0 : j = 0
        · subst hj0
          have hpt : Pl.ptxt ps 0 = Lib.decDigits m := by
            unfold Pl.ptxt
            rw [if_pos (by rw [← HLE.out]; exact hL0), List.drop_zero, HPC.out.2]
          have HTX := Lib.hid (bld_text HT.out.1 HT.out.2.2.2.2.1)
          rw [hpt] at HTX
          obtain ⟨l, hle⟩ : ∃ l : List UInt8, l = Lib.decDigits m := ⟨_, rfl⟩
          rw [← hle] at HTX
          have HLD := Lib.hid hle
          clear hpt hle
          go_wp2_with fail
          refine HTX.out.mono ?_
          rintro e w6 ⟨rfl, hb6⟩
          have X1 := Lib.hid (HT.out.2.2.1.below hb6 HT.out.2.2.2.2.2)
          have D := Lib.hid (HT.out.2.2.2.1.trans (hb6.mono (Nat.le_of_lt HT.out.2.2.2.2.2)))
          have hfit : l.length ≤ 2000 ↔ z.natAbs < Pl.lim := by rw [HLD.out, ← HM.out.1]; exact Pl.dec_lim
          have hlen : l.length ≤ 2101 := by rw [HLD.out]; exact Pl.dec_lenlim HM.out.2.1
          have HF := Lib.hid (And.intro hfit hlen)
          have c1 := X1.out.cell
          have l1 := X1.out.lt
          have hsz : ((⟨l.toArray⟩ : ByteArray).size : Int) = (l.length : Int) := by rw [tx_size]
          clear hb6 HT HTX hfit hlen
          by_cases hxb : x.b = true
          · rw [hxb] at c1
            have had : ∀ W, (Op.stringOp .add ⟨#[45]⟩ ⟨l.toArray⟩).run Tryz.prog W = .ok (.string ⟨(45 :: l).toArray⟩) W := fun W => tx_add [45] l (by have := HF.out.2; simp; omega) W
            have HXB := Lib.hid hxb
            clear hxb
            go_wp2_with fail
            go_ret2
            refine ⟨45 :: l, decide ((l.length : Int) ≤ 2000), rfl, ?_, ?_, by have := HF.out.2; rw [List.length_cons]; omega, D.out⟩
            · rw [decide_eq_true_iff, ← HF.out.1]; omega
            · intro _
              have hz : z < 0 := by have := HM.out.2.2; rw [HXB.out] at this; exact of_decide_eq_true this.symm
              rcases Pl.itoa_cases z with ⟨_, e⟩ | ⟨h, _⟩
              · rw [e, HLD.out, HM.out.1]
              · omega
          · have hxf : x.b = false := by simpa using hxb
            rw [hxf] at c1
            have HXB := Lib.hid hxf
            clear hxb hxf
            go_wp2_with fail
            go_ret2
            refine ⟨l, decide ((l.length : Int) ≤ 2000), rfl, ?_, ?_, by have := HF.out.2; omega, D.out⟩
            · rw [decide_eq_true_iff, ← HF.out.1]; omega
            · intro _
              have hz : ¬ z < 0 := by have := HM.out.2.2; rw [HXB.out] at this; exact of_decide_eq_false this.symm
              rcases Pl.itoa_cases z with ⟨h, _⟩ | ⟨_, e⟩
              · omega
              · rw [e, HLD.out, HM.out.1]
        · obtain ⟨i, rfl⟩ : ∃ i, j = i + 1 := ⟨j - 1, by omega⟩
          have e1 : (((i + 1 : Nat) : Int) - 1) = (i : Int) := by omega
          rw [e1]
          clear e1 hj0
          obtain ⟨b, o, rfl, hbB, hil, y1⟩ := u32_at HT.out.2.1 (k := i) (by rw [← HLE.out]; omega)
          have HBB := Lib.hid hbB
          obtain ⟨u, hu⟩ : ∃ u : Nat, u = ps[i] := ⟨_, rfl⟩
          rw [← hu] at y1
          have hu9 : u < 1000000000 := by rw [hu]; exact HPC.out.1.1 _ (List.getElem_mem hil)
          have HFU := Lib.hid (fmtu_any u (by omega) wr (HL.out.go HT.out.2.2.2.1))
          obtain ⟨d, hd⟩ : ∃ d : List UInt8, d = Lib.decDigits u := ⟨_, rfl⟩
          rw [← hd] at HFU
          have hd9 : d.length ≤ 9 := by rw [hd]; exact Pl.dec9 hu9
          have HUD := Lib.hid (And.intro hu hd)
          have wu : IntKind.u64.wrap (u : Int) = (u : Int) := IntWalk.u64_in _ (by omega)
          have hi0 : (0 : Int) ≤ (i : Int) := by omega
          have hiL : (i : Int) < (L : Int) := by omega
          have wL : IntKind.i64.wrap ((L : Int) - 1) = (L : Int) - 1 := IntWalk.i64_in _ (by omega)
          have wi : IntKind.i64.wrap ((i : Int) - 1) = (i : Int) - 1 := IntWalk.i64_in _ (by omega)
          have hrb : b < wr.heap.size := by have := HBB.out; have := HT.out.2.2.2.2.1; omega
          have hsz : ((⟨d.toArray⟩ : ByteArray).size : Int) = (d.length : Int) := by rw [tx_size]
          have hpl : (Pl.ptxt ps (i + 1)).length ≤ 2101 := by
            unfold Pl.ptxt
            split
            · refine Pl.dec_lenlim (Nat.lt_of_le_of_lt ?_ HM.out.2.1)
              rw [← HPC.out.2]
              exact Pl.cv_drop_le ps (i + 1)
            · simp
          have HPLL := Lib.hid hpl
          clear hu hd hbB hpl
          by_cases hlast : (i : Int) < (L : Int) - 1
          · have hpd : ∀ W, (Instr.slice 9 (.string ⟨#[48, 48, 48, 48, 48, 48, 48, 48, 48]⟩) (some (.int .i64 (d.length : Int))) none none).run Tryz.prog W = .ok (.string ⟨(List.replicate (9 - d.length) 48).toArray⟩) W := fun W => by
              have h := tx_from (List.replicate 9 48) (d.length : Int) d.length rfl (by simpa using hd9) W
              rw [List.drop_replicate] at h
              exact h
            have HST : Hid (Pl.ptxt ps i = Pl.ptxt ps (i + 1) ++ (List.replicate (9 - d.length) 48 ++ d)) := by
              have := Pl.ptxt_step HPC.out.1 (k := i) (by rw [← HLE.out]; omega)
              rw [← HUD.out.1, ← HUD.out.2] at this
              exact this
            go_wp2_with fail
            refine HFU.out.mono ?_
            rintro e w6 ⟨rfl, hb6⟩
            have HT2 := Lib.hid (HT.out.keep hb6)
            clear HT HFU hb6 y1
            go_wp2_with fail
            refine (bld_write (List.replicate (9 - d.length) 48) HT2.out.1 (by have := HPLL.out; simp; omega) HT2.out.2.2.2.2.1).mono ?_
            rintro e w7 ⟨rfl, hbl, hb7⟩
            have HW := Lib.hid hbl
            go_wp2_with fail
            refine (bld_write d HW.out (by have := HPLL.out; simp; omega) (Nat.le_trans HT2.out.2.2.2.2.1 hb7.size)).mono ?_
            rintro e w8 ⟨rfl, hbl2, hb8⟩
            have HT3 : Hid (TxtB w w8 B x ps i (some ⟨b, o, none⟩)) := HT2.out.write (hb7.trans hb8) (by rw [HST.out, ← List.append_assoc]; exact hbl2)
            clear HT2 HW hbl hbl2 hb7 hb8
            go_wp2_with fail
            go_roundg (i + 1)
            case measure => exact Nat.lt_succ_self _
            case rel => exact ⟨i, by omega, rfl, rfl, HT3.out⟩
          · have HST : Hid (Pl.ptxt ps i = Pl.ptxt ps (i + 1) ++ d) := by
              have := Pl.ptxt_last (l := ps) (k := i) (by rw [← HLE.out]; omega)
              rw [← HUD.out.1, ← HUD.out.2] at this
              exact this
            go_wp2_with fail
            refine HFU.out.mono ?_
            rintro e w6 ⟨rfl, hb6⟩
            have HT2 := Lib.hid (HT.out.keep hb6)
            clear HT HFU hb6 y1
            go_wp2_with fail
            refine (bld_write d HT2.out.1 (by have := HPLL.out; omega) HT2.out.2.2.2.2.1).mono ?_
            rintro e w8 ⟨rfl, hbl2, hb8⟩
            have HT3 : Hid (TxtB w w8 B x ps i (some ⟨b, o, none⟩)) := HT2.out.write hb8 (by rw [HST.out]; exact hbl2)
            clear HT2 hbl2 hb8
            go_wp2_with fail
            go_roundg (i + 1)
            case measure => exact Nat.lt_succ_self _
            case rel => exact ⟨i, by omega, rfl, rfl, HT3.out⟩
    · have hv0 : 0 < v := by omega
      have hnv := HT.out.2.2.2.2.1.ln
      simp only [Int.natAbs_natCast] at hnv
      have hn0 : n ≠ 0 := fun e => by have := HT.out.2.2.2.2.1.len0.1 e; omega
      have hn1 : (0 : Int) < (n : Int) := by omega
      have hrd := HT.out.2.2.2.2.1.reads
      simp only [Int.natAbs_natCast] at hrd
      have HSD := Lib.hid (sdiv_any A n c (Pl.digs v) 1000000000 wr (by omega) hrd (Pl.digs_can v).1 (by omega) (by omega))
      rw [Pl.lv_digs] at HSD
      unfold SDivSaid at HSD
      have e9 : ((1000000000 : Nat) : Int) = 1000000000 := rfl
      rw [e9] at HSD
      clear e9
      have hpl : ps.length < 1000000 := by
        have h5 : 1000000000 ^ ps.length ≤ m := by
          have h6 := Nat.mul_le_mul_left (1000000000 ^ ps.length) hv0
          have h7 := HT.out.1
          omega
        have := piece_bound h5 HM.out.2.1
        omega
      have HV0 := Lib.hid (And.intro hv0 hnv)
      have hcp := cut_piece HT.out.1
      have HCP := Lib.hid hcp
      obtain ⟨r, hr⟩ : ∃ r : Nat, r = v % 1000000000 := ⟨_, rfl⟩
      obtain ⟨v2, hv2⟩ : ∃ v2 : Nat, v2 = v / 1000000000 := ⟨_, rfl⟩
      rw [← hr] at HSD HCP
      rw [← hv2] at HCP
      have HRV : Hid (r < 1000000000 ∧ v2 < v ∧ (v2 = 0 → r ≠ 0)) := ⟨by omega, by omega, by omega⟩
      have HV2 := Lib.hid hv2
      clear hrd hnv hv0 hn0 hcp hr hv2 hv
      go_wp2_with fail
      refine HSD.out.mono ?_
      rintro e w6 ⟨g, l, rfl, hll, hlW, hlv, hwb, hg, hb6⟩
      have OW := Lib.hid (own_go HT.out.2.2.2.2.2.1 hb6)
      have X1 := Lib.hid (HT.out.2.2.2.2.2.2.1.go hb6)
      have D := Lib.hid (HT.out.2.2.2.2.2.2.2.trans (hb6.mono HT.out.2.2.2.2.2.2.2.size))
      have HNE : Hid (some g ≠ (Value.slice Ap ps.length cp).ownBlock) := own_ne HT.out.2.2.2.2.2.1 (.inr hg)
      have HWB := Lib.hid hwb
      have HQ := Lib.hid (And.intro hll (And.intro hlW hlv))
      have hps := HT.out.2.1
      have HPS := Lib.hid hps
      have hbs : w.heap.size + 1 ≤ w6.heap.size := by have := X1.out.lt; omega
      clear hll hlW hlv hwb hg hb6 HSD HT hps
      go_wp2_with (at_builtin; go_must (refine wpList_append_grow _ rfl (.tmp 31) (.tmp 33) 101 rfl (w.heap.size + 1) 225 i0 _ 1 4 Tryz.underlying101 hi0 hz0 hz1 hz2 rfl (by decide) (.slice Ap ps.length cp) ps.length (u32s ps) rfl OW.out hbs #[.int .u32 (r : Int)] rfl rfl (by simp) (by simp [Value.oneCell']) (by unfold maxLen; omega) (by omega) ?_); intro v' w7 hown7 hg7 hsz7; obtain ⟨A7, c7, rfl, _⟩ := own_slice hown7; have HO7 := Lib.hid hown7; have HG7 := Lib.hid hg7; clear hown7 hg7)
      have hb7 := below_grown (Below.refl (w.heap.size + 1) w6) HG7.out OW.out (Nat.le_refl _) hbs
      replace X1 := Lib.hid (X1.out.below hb7 (Nat.lt_succ_self _))
      replace D := Lib.hid (D.out.trans (hb7.mono (Nat.le_succ _)))
      have HWB7 : Hid (WB w7 g l) := Blk.grown HWB.out HG7.out HNE.out
      have hrd7 := HWB7.out.reads
      rw [HQ.out.1] at hrd7
      have HNO := Lib.hid (nnorm_any false (some ⟨g, 0, none⟩) n n l w7 (by omega) (Nat.le_refl _) hrd7 HQ.out.2.1 (z := (v2 : Int)) (by rw [sgn_false, HQ.out.2.2, ← HV2.out]))
      clear hb7 hrd7 HWB HNE HG7 OW
      refine HNO.out.mono ?_
      rintro e w8 ⟨r1, rfl, hn1, hb8⟩
      have hnn := hn1.abs
      rw [Int.natAbs_natCast] at hnn
      have hr1n : r1.n ≤ 210 := by
        rw [hn1.ln, Int.natAbs_natCast]
        refine Nat.le_trans (Pl.nw_mono (Nat.le_of_lt HRV.out.2.1)) ?_
        rw [← HV0.out.2]; exact hn2
      have HN1 := Lib.hid hnn
      have HO8 := Lib.hid (own_go HO7.out hb8)
      replace X1 := Lib.hid (X1.out.go hb8)
      replace D := Lib.hid (D.out.trans (hb8.mono D.out.size))
      have hfw := fun W => field_words r1.b r1.A r1.n r1.c W
      clear hb8 HNO HO7 hn1 hnn
      go_wp2_with fail
      go_roundg (v2 + 1)
      case measure => have := HRV.out.2.1; omega
      case rel =>
        have hlen : (ps ++ [r]).length = ps.length + 1 := by simp
        refine ⟨v2, ps ++ [r], A7, c7, r1.A, r1.n, r1.c, rfl, by rw [hlen], rfl, hr1n, ?_⟩
        refine ⟨HCP.out, Pl.Pcs.snoc HPS.out HRV.out.1, fun h0 h1 => ?_, fun _ => by simp, HN1.out, ?_, X1.out, D.out⟩
        · rw [List.getLast_concat]; exact HRV.out.2.2 h0
        · rw [hlen, ← u32s_app]; exact HO8.out
theorem text_any {z : Int} {x : Nm} {w : World} (hx : NumIs w w.heap.size z x) (hl : LV w) : Calls Tryz.prog 120 #[x.v] w (TextSaid z w) := by
  by_cases h0 : z = 0
  · subst h0; exact text_zero hx
  · by_cases h : 210 < x.n
    · exact text_big hx h
    · exact text_main hx h0 (by omega) hl
end Go.Proofs.YtoblpcljhblnmaaGreatDoor
