/- Package large: Read gives the number of decimal digits. Condition: digits, with a minus sign or not; at most 10000 of them; the library's tables lie as they are laid. Package large: Text of a rational number, Parse of a valid text. Condition: the words read; the library's tables lie as they are laid. -/
import Derived.Test.YtoblpcljhblnmaaGreatDoorLgU
import Derived.Test.YtoblpcljhblnmaaGreatDoorShLg
import Derived.Deep.LoopGhost
import Derived.Test.YtoblpcljhblnmaaGreatDoorLgW
namespace Go.Proofs.YtoblpcljhblnmaaGreatDoor
open Go.RowKit
set_option maxRecDepth 100000
def ReadA (w wr : World) (body c r : List UInt8) (y : Nm) : Prop :=
  c ++ r = body ∧ (c = [] ∨ r.length % 9 = 0) ∧ Blk wr w.heap.size 103 #[.bool false, .slice none 0 0] ∧ Blk wr (w.heap.size + 1) 103 #[.bool y.b, .slice y.A y.n y.c] ∧ NumIs wr wr.heap.size (Pl.natOf c : Int) y ∧ Below w.heap.size w wr
theorem read_int (l : List UInt8) : Pl.intOf l = sgn (decide (l.head? = some 45)) (Pl.natOf (Pl.trimM l)) := by
  unfold Pl.intOf Pl.trimM sgn
  by_cases h : l.head? = some 45
  · simp [h]
  · simp [h]
theorem nw_digits {c : List UInt8} (h : ∀ x ∈ c, Pl.Dg x) : Pl.nw (Pl.natOf c) ≤ c.length := by
  refine Pl.nw_le (Nat.lt_of_lt_of_le (Pl.natOf_lt h) (Nat.pow_le_pow_left (by omega) _))
theorem chunk_val (c r : List UInt8) (n : Nat) (hn : n = (r.length - 1) % 9 + 1) (hr : r ≠ []) (hc : c = [] ∨ r.length % 9 = 0) : (Pl.natOf c : Int) * 1000000000 + (Pl.natOf (r.take n) : Int) = (Pl.natOf (c ++ r.take n) : Int) := by
  have hlr := List.length_pos_iff.2 hr
  have hle : n ≤ r.length := by omega
  rw [Pl.natOf_append, List.length_take, Nat.min_eq_left hle]
  rcases hc with rfl | hc
  · simp [Pl.natOf]
  · have h9 : n = 9 := by omega
    subst h9
    rw [Int.natCast_add, Int.natCast_mul]
    rfl
theorem NumIs.zero {w : World} {B : Nat} : NumIs w B 0 ⟨false, none, 0, 0⟩ := by
  refine ⟨rfl, Pl.nw_zero.symm, ?_, ?_⟩
  · show Pl.nw 0 ≤ 0
    rw [Pl.nw_zero]; exact Nat.le_refl _
  · show Reads w B 1 none (Pl.nw 0) (u32s (Pl.digs 0))
    rw [Pl.nw_zero, Pl.digs_zero]; exact Reads.none_
set_option maxHeartbeats 12800000 in
theorem read_any (l : List UInt8) (w : World) (hd : ∀ c ∈ Pl.trimM l, Pl.Dg c) (hlen : l.length ≤ 10000) : Calls Tryz.prog 96 #[tx l] w (NmSaid (Pl.intOf l) w) := by
  obtain ⟨hA, hB, hD, hsz⟩ := boxes2t w #[.bool false, .slice none 0 0] #[.bool false, .slice none 0 0] 103 103
  obtain ⟨m, hm⟩ : ∃ m : Bool, m = decide (l.head? = some 45) := ⟨_, rfl⟩
  have HPR := Lib.hid (fun W => pref_any l W)
  rw [← hm] at HPR
  obtain ⟨body, hbd⟩ : ∃ b : List UInt8, b = Pl.trimM l := ⟨_, rfl⟩
  have HTR := Lib.hid (fun W => trim_any l W)
  rw [← hbd] at HTR hd
  have hbl : body.length ≤ 10000 := by
    rw [hbd]; unfold Pl.trimM; split
    · rw [List.length_tail]; omega
    · exact hlen
  have HIO : Hid (Pl.intOf l = sgn m (Pl.natOf body)) := by rw [hm, hbd]; exact read_int l
  have HDG := Lib.hid hd
  have H0 : Hid (ReadA w _ body [] body ⟨false, none, 0, 0⟩) := ⟨rfl, .inl rfl, hA, hB, NumIs.zero, hD⟩
  clear hA hB hD hsz hm hbd hd hlen
  go_enter Tryz.func96, Tryz.ntmps96
  go_wp2_with fail
  refine (HPR.out _).mono ?_
  rintro e w9 ⟨rfl, rfl⟩
  go_wp2_with fail
  refine (HTR.out _).mono ?_
  rintro e w9 ⟨rfl, rfl⟩
  clear HPR HTR
  go_wp2_with fail
  generalize (w.alloc (.cells #[.bool false, .slice none 0 0] 103)).alloc (.cells #[.bool false, .slice none 0 0] 103) = w1 at *
  go_loopg [0, 5, 6, 7] (body.length + 1) (fun gh s0 s5 s6 s7 wr => ∃ (c r : List UInt8) (y : Nm), gh = r.length + 1 ∧ s0 = tx r ∧ Hid (ReadA w wr body c r y))
  case atStart => exact ⟨[], body, ⟨false, none, 0, 0⟩, rfl, rfl, H0.out⟩
  case round =>
    clear H0
    obtain ⟨c, r, y, rfl, rfl, HR⟩ := hrel
    have hsz : ((⟨r.toArray⟩ : ByteArray).size : Int) = (r.length : Int) := by rw [tx_size]
    by_cases hr0 : r = []
    · subst hr0
      have HE : Hid (c = body) := by have := HR.out.1; rw [List.append_nil] at this; exact this
      have X2 := Lib.hid HR.out.2.2.1
      have X4 := Lib.hid HR.out.2.2.2.1
      have HY := Lib.hid HR.out.2.2.2.2.1
      have D := Lib.hid HR.out.2.2.2.2.2
      rw [HE.out] at HY
      clear HR
      by_cases hy0 : y.n = 0
      · have hz := (HY.out.len0.1 hy0)
        have hq : ¬ 0 < y.n := by omega
        have HZ := Lib.hid hz
        clear hz hy0
        cases m with
        | true =>
          have c4 := X4.out.cell
          have l4 := X4.out.lt
          have f4 := X4.out.frozen
          go_upto_region 10 with fail
          clear c4 l4 f4
          replace X2 := Lib.hid (X2.out.far1 (r := w.heap.size + 1) (by omega) 0 (u0 := .bool false))
          replace HY := Lib.hid (HY.out.put1 X4.out (noU32_num y) 0 (u0 := .bool false))
          replace D := Lib.hid (below_put1 D.out (r := w.heap.size + 1) (by omega) 0 (u0 := .bool false))
          replace X4 : Hid (Blk _ _ _ #[.bool false, .slice y.A y.n y.c]) := X4.out.put1 (u0 := .bool false)
          generalize wr.setCell ⟨w.heap.size + 1, 0, none⟩ (.bool false) = w5 at *
          have c4 := X4.out.cell
          have l4 := X4.out.lt
          have c2 := X2.out.cell
          have l2 := X2.out.lt
          have f2 := X2.out.frozen
          go_wp2_with fail
          clear c4 l4 c2 l2 f2
          replace HY := Lib.hid (HY.out.put2 X2.out noU32_new (u0 := .bool false) (u1 := .slice y.A y.n y.c))
          replace D := Lib.hid (below_put2 D.out (r := w.heap.size) (Nat.le_refl _) (u0 := .bool false) (u1 := .slice y.A y.n y.c))
          replace X2 := Lib.hid (X2.out.put2 (u0 := .bool false) (u1 := .slice y.A y.n y.c))
          have k4 := X2.out.cell
          refine bodyPost_ret (v := (Nm.mk false y.A y.n y.c).v) (by simp [results, Tryz.results96, go_sem, k4]) rfl ⟨⟨false, y.A, y.n, y.c⟩, rfl, ?_, D.out⟩
          rw [HIO.out]
          have h9 := HY.out.abs
          rw [HZ.out] at h9
          have e : sgn true (Pl.natOf body) = ((0 : Int).natAbs : Int) := by unfold sgn; have := HZ.out; rw [if_pos rfl]; simp; omega
          rw [e]
          exact h9
        | false =>
          have c4 := X4.out.cell
          have l4 := X4.out.lt
          have f4 := X4.out.frozen
          go_upto_region 10 with fail
          clear c4 l4 f4
          replace X2 := Lib.hid (X2.out.far1 (r := w.heap.size + 1) (by omega) 0 (u0 := .bool false))
          replace HY := Lib.hid (HY.out.put1 X4.out (noU32_num y) 0 (u0 := .bool false))
          replace D := Lib.hid (below_put1 D.out (r := w.heap.size + 1) (by omega) 0 (u0 := .bool false))
          replace X4 : Hid (Blk _ _ _ #[.bool false, .slice y.A y.n y.c]) := X4.out.put1 (u0 := .bool false)
          generalize wr.setCell ⟨w.heap.size + 1, 0, none⟩ (.bool false) = w5 at *
          have c4 := X4.out.cell
          have l4 := X4.out.lt
          have c2 := X2.out.cell
          have l2 := X2.out.lt
          have f2 := X2.out.frozen
          go_wp2_with fail
          clear c4 l4 c2 l2 f2
          replace HY := Lib.hid (HY.out.put2 X2.out noU32_new (u0 := .bool false) (u1 := .slice y.A y.n y.c))
          replace D := Lib.hid (below_put2 D.out (r := w.heap.size) (Nat.le_refl _) (u0 := .bool false) (u1 := .slice y.A y.n y.c))
          replace X2 := Lib.hid (X2.out.put2 (u0 := .bool false) (u1 := .slice y.A y.n y.c))
          have k4 := X2.out.cell
          refine bodyPost_ret (v := (Nm.mk false y.A y.n y.c).v) (by simp [results, Tryz.results96, go_sem, k4]) rfl ⟨⟨false, y.A, y.n, y.c⟩, rfl, ?_, D.out⟩
          rw [HIO.out]
          have h9 := HY.out.abs
          rw [Int.natAbs_natCast] at h9
          rw [sgn_false]
          exact h9
      · have hq8 : 0 < y.n := by omega
        cases m with
        | true =>
          have c4 := X4.out.cell
          have l4 := X4.out.lt
          have f4 := X4.out.frozen
          go_upto_region 10 with fail
          clear c4 l4 f4
          replace X2 := Lib.hid (X2.out.far1 (r := w.heap.size + 1) (by omega) 0 (u0 := .bool true))
          replace HY := Lib.hid (HY.out.put1 X4.out (noU32_num y) 0 (u0 := .bool true))
          replace D := Lib.hid (below_put1 D.out (r := w.heap.size + 1) (by omega) 0 (u0 := .bool true))
          replace X4 : Hid (Blk _ _ _ #[.bool true, .slice y.A y.n y.c]) := X4.out.put1 (u0 := .bool true)
          generalize wr.setCell ⟨w.heap.size + 1, 0, none⟩ (.bool true) = w5 at *
          have c4 := X4.out.cell
          have l4 := X4.out.lt
          have c2 := X2.out.cell
          have l2 := X2.out.lt
          have f2 := X2.out.frozen
          go_wp2_with fail
          clear c4 l4 c2 l2 f2
          replace HY := Lib.hid (HY.out.put2 X2.out noU32_new (u0 := .bool true) (u1 := .slice y.A y.n y.c))
          replace D := Lib.hid (below_put2 D.out (r := w.heap.size) (Nat.le_refl _) (u0 := .bool true) (u1 := .slice y.A y.n y.c))
          replace X2 := Lib.hid (X2.out.put2 (u0 := .bool true) (u1 := .slice y.A y.n y.c))
          have k4 := X2.out.cell
          refine bodyPost_ret (v := (Nm.mk true y.A y.n y.c).v) (by simp [results, Tryz.results96, go_sem, k4]) rfl ⟨⟨true, y.A, y.n, y.c⟩, rfl, ?_, D.out⟩
          rw [HIO.out]
          have h9 := HY.out
          have hp : Pl.natOf body ≠ 0 := fun e => hy0 (h9.len0.2 (by rw [e]; rfl))
          refine ⟨?_, ?_, ?_⟩
          · unfold sgn; rw [if_pos rfl]; exact (decide_eq_true (by omega)).symm
          · rw [sgn_abs]; have := h9.ln; rw [Int.natAbs_natCast] at this; exact this
          · have := h9.at_
            unfold NumAt at this ⊢
            rw [sgn_abs]; rw [Int.natAbs_natCast] at this; exact this
        | false =>
          have c4 := X4.out.cell
          have l4 := X4.out.lt
          have f4 := X4.out.frozen
          go_upto_region 10 with fail
          clear c4 l4 f4
          replace X2 := Lib.hid (X2.out.far1 (r := w.heap.size + 1) (by omega) 0 (u0 := .bool false))
          replace HY := Lib.hid (HY.out.put1 X4.out (noU32_num y) 0 (u0 := .bool false))
          replace D := Lib.hid (below_put1 D.out (r := w.heap.size + 1) (by omega) 0 (u0 := .bool false))
          replace X4 : Hid (Blk _ _ _ #[.bool false, .slice y.A y.n y.c]) := X4.out.put1 (u0 := .bool false)
          generalize wr.setCell ⟨w.heap.size + 1, 0, none⟩ (.bool false) = w5 at *
          have c4 := X4.out.cell
          have l4 := X4.out.lt
          have c2 := X2.out.cell
          have l2 := X2.out.lt
          have f2 := X2.out.frozen
          go_wp2_with fail
          clear c4 l4 c2 l2 f2
          replace HY := Lib.hid (HY.out.put2 X2.out noU32_new (u0 := .bool false) (u1 := .slice y.A y.n y.c))
          replace D := Lib.hid (below_put2 D.out (r := w.heap.size) (Nat.le_refl _) (u0 := .bool false) (u1 := .slice y.A y.n y.c))
          replace X2 := Lib.hid (X2.out.put2 (u0 := .bool false) (u1 := .slice y.A y.n y.c))
          have k4 := X2.out.cell
          refine bodyPost_ret (v := (Nm.mk false y.A y.n y.c).v) (by simp [results, Tryz.results96, go_sem, k4]) rfl ⟨⟨false, y.A, y.n, y.c⟩, rfl, ?_, D.out⟩
          rw [HIO.out]
          have h9 := HY.out.abs
          rw [Int.natAbs_natCast] at h9
          rw [sgn_false]
          exact h9
    · have hlr := List.length_pos_iff.2 hr0
      obtain ⟨n, hn⟩ : ∃ n : Nat, n = (r.length - 1) % 9 + 1 := ⟨_, rfl⟩
      have hbr : c.length + r.length ≤ 10000 := by rw [← List.length_append, HR.out.1]; exact hbl
      have hnr : n ≤ r.length := by omega
      have hn9 : n ≤ 9 := by omega
      have hcv := chunk_val c r n hn hr0 HR.out.2.1
      have hmod : c ++ r.take n = [] ∨ (r.length - n) % 9 = 0 := .inr (by omega)
      have HMOD := Lib.hid hmod
      have HE := Lib.hid HR.out.1
      have hdr : ∀ x ∈ r.take n, Pl.Dg x := fun x hx => HDG.out x (by rw [← HR.out.1]; exact List.mem_append_right _ (List.mem_of_mem_take hx))
      have hne : r.take n ≠ [] := fun e => by have := congrArg List.length e; rw [List.length_take] at this; simp only [List.length_nil] at this; omega
      have hyn : y.n ≤ 10000 := by
        rw [HR.out.2.2.2.2.1.ln, Int.natAbs_natCast]
        exact Nat.le_trans (nw_digits fun x hx => HDG.out x (by rw [← HR.out.1]; exact List.mem_append_left _ hx)) (by omega)
      obtain ⟨d, hdd⟩ : ∃ d : Nat, d = Pl.natOf (r.take n) := ⟨_, rfl⟩
      have hd32 : d < 4294967296 := by
        rw [hdd]
        refine Nat.lt_of_lt_of_le (Pl.natOf_lt hdr) ?_
        refine Nat.le_trans (Nat.pow_le_pow_right (by omega) (show (r.take n).length ≤ 9 by rw [List.length_take]; omega)) (by decide)
      have HPU := Lib.hid (fun W => puint_any (r.take n) hne hdr (by rw [List.length_take]; omega) W)
      rw [← hdd] at HPU hcv
      have HZ := Lib.hid hcv
      have X2 := Lib.hid HR.out.2.2.1
      have X4 := Lib.hid HR.out.2.2.2.1
      have HY := Lib.hid HR.out.2.2.2.2.1
      have D := Lib.hid HR.out.2.2.2.2.2
      have w1 : IntKind.i64.wrap ((r.length : Int) - 1) = (r.length : Int) - 1 := IntWalk.i64_in _ (by omega)
      have w2 : ((r.length : Int) - 1).tmod 9 = ((n : Int) - 1) := by
        rw [Int.tmod_eq_emod_of_nonneg (by omega)]; omega
      have w3 : IntKind.i64.wrap ((n : Int) - 1) = (n : Int) - 1 := IntWalk.i64_in _ (by omega)
      have w4 : IntKind.i64.wrap (d : Int) = (d : Int) := IntWalk.i64_in _ (by omega)
      have hlr2 : (0 : Int) < (r.length : Int) := by omega
      have hto : ∀ W, (Instr.slice 9 (.string ⟨r.toArray⟩) none (some (.int .i64 (n : Int))) none).run Tryz.prog W = .ok (.string ⟨(r.take n).toArray⟩) W := fun W => tx_upto r (n : Int) n rfl hnr W
      have HNP : Hid (0 < n ∧ n ≤ r.length) := ⟨by omega, hnr⟩
      clear hn hcv hmod hdr hne hdd HR hr0
      go_wp2_with fail
      refine (HPU.out _).mono ?_
      rintro e wx ⟨rfl, hb5⟩
      replace X2 := Lib.hid (X2.out.go hb5)
      replace X4 := Lib.hid (X4.out.go hb5)
      replace HY := Lib.hid (HY.out.go hb5)
      replace D := Lib.hid (D.out.trans (hb5.mono D.out.size))
      clear hb5 HPU hto
      go_upto_region 7 with fail
      have hb5 := (Below.refl wx.heap.size wx).drew
      replace X2 := Lib.hid (X2.out.go hb5)
      replace X4 := Lib.hid (X4.out.go hb5)
      replace HY := Lib.hid (HY.out.go hb5)
      replace D := Lib.hid (D.out.trans (hb5.mono D.out.size))
      clear hb5
      have HB0 := Lib.hid (Below.refl wx.drew.heap.size wx.drew)
      have hlt_X2 := X2.out.lt
      have hlt_X4 := X4.out.lt
      have hlt_D := D.out.size
      generalize hw9 : wx.drew = w7 at *
      have hSw : (fun w' : World => Blk w' (w.heap.size + 1) 103 #[.bool y.b, .slice y.A y.n y.c] ∧ True) w7 := ⟨X4.out.go HB0.out, trivial⟩
      refine wp_region_mid (fun w' : World => Blk w' (w.heap.size + 1) 103 #[.bool y.b, .slice y.A y.n y.c] ∧ True) 7 (by kernel_rfl) ?_
      rw [hw9]
      clear hw9
      refine Tk.go [(0, [2, 5, 6, 7]), (3, [4, 5, 6, 7]), (4, [5, 6, 7])] ?_
      iterate 3 (refine Tk.cons rfl (by kernel_rfl) (fun _ _ _ h => h) hSw (by kernel_rfl) (fun w' hSx => by have c0 := hSx.1.cell; have l0 := hSx.1.lt; go_simp; first | done | with_reducible rfl) ?_; simp only [Act.put, List.setIfInBounds_toArray])
      refine Tk.nil ?_
      refine wpAnyM_ready [1] (by kernel_rfl) (by simp) ?_
      refine AllReadyM.cons (by rfl) (fun K hK => ?_) AllReadyM.nil
      go_simp
      refine (nof_any 1000000000 w7 (by omega) (by omega)).mono ?_
      rintro e wq1 ⟨k1, rfl, hn9, hb5⟩
      replace HB0 := Lib.hid (Below.trans HB0.out (hb5.mono HB0.out.size))
      have HK1 := Lib.hid hn9
      clear hn9
      have t1 : k1.n ≤ 2 := by rw [HK1.out.ln]; exact small_nw (by omega)
      clear hb5
      clear hSw
      have hSw : (fun w' : World => Blk w' (w.heap.size + 1) 103 #[.bool y.b, .slice y.A y.n y.c] ∧ True) wq1 := ⟨X4.out.go HB0.out, trivial⟩
      refine hK.out _ _ hSw ?_
      clear hK K
      refine wpAnyM_ready [2] (by kernel_rfl) (by simp) ?_
      refine AllReadyM.cons (by rfl) (fun K hK => ?_) AllReadyM.nil
      go_simp
      refine (nmul_any (HY.out.go HB0.out) HK1.out (by omega) (by omega)).mono ?_
      rintro e wq2 ⟨m1, rfl, hn9, hb5⟩
      replace HK1 := Lib.hid (HK1.out.go hb5)
      replace HB0 := Lib.hid (Below.trans HB0.out (hb5.mono HB0.out.size))
      have HM1 := Lib.hid hn9
      clear hn9
      have t2 := n_mul HM1.out HY.out HK1.out
      clear hb5
      clear hSw
      have hSw : (fun w' : World => Blk w' (w.heap.size + 1) 103 #[.bool y.b, .slice y.A y.n y.c] ∧ True) wq2 := ⟨X4.out.go HB0.out, trivial⟩
      refine hK.out _ _ hSw ?_
      clear hK K
      refine wpAnyM_ready [5] (by kernel_rfl) (by simp) ?_
      refine AllReadyM.cons (by rfl) (fun K hK => ?_) AllReadyM.nil
      go_simp
      refine (nof_any (d : Int) wq2 (by omega) (by omega)).mono ?_
      rintro e wq3 ⟨k2, rfl, hn9, hb5⟩
      clear HY HK1
      replace HM1 := Lib.hid (HM1.out.go hb5)
      replace HB0 := Lib.hid (Below.trans HB0.out (hb5.mono HB0.out.size))
      have HK2 := Lib.hid hn9
      clear hn9
      have t3 : k2.n ≤ 2 := by rw [HK2.out.ln]; exact small_nw (by omega)
      clear hb5
      clear hSw
      have hSw : (fun w' : World => Blk w' (w.heap.size + 1) 103 #[.bool y.b, .slice y.A y.n y.c] ∧ True) wq3 := ⟨X4.out.go HB0.out, trivial⟩
      refine hK.out _ _ hSw ?_
      clear hK K
      refine wpAnyM_ready [6] (by kernel_rfl) (by simp) ?_
      refine AllReadyM.cons (by rfl) (fun K hK => ?_) AllReadyM.nil
      go_simp
      refine (nadd_any HM1.out HK2.out (by omega) (by omega)).mono ?_
      rintro e wq4 ⟨y2, rfl, hn9, hb5⟩
      clear HM1 HK2
      replace HB0 := Lib.hid (Below.trans HB0.out (hb5.mono HB0.out.size))
      have HY2 := Lib.hid hn9
      clear hn9
      clear hb5
      clear hSw
      have hSw : (fun w' : World => Blk w' (w.heap.size + 1) 103 #[.bool y.b, .slice y.A y.n y.c] ∧ True) wq4 := ⟨X4.out.go HB0.out, trivial⟩
      refine hK.out _ _ hSw ?_
      clear hK K
      refine wpAnyM_ready [7] (by kernel_rfl) (by simp) ?_
      refine AllReadyM.last (by rfl) (by decide) (fun K hK => ?_)
      replace X2 := Lib.hid (X2.out.go HB0.out)
      replace X4 := Lib.hid (X4.out.go HB0.out)
      replace D := Lib.hid (D.out.trans (HB0.out.mono D.out.size))
      have cc9 := X4.out.cell
      have cf9 := X4.out.frozen
      have cl9 := X4.out.lt
      go_simp
      clear cc9 cf9 cl9
      replace X2 := Lib.hid (X2.out.far2 (r := w.heap.size + 1) (by omega) (u0 := .bool y2.b) (u1 := .slice y2.A y2.n y2.c))
      replace D := Lib.hid (below_put2 D.out (r := w.heap.size + 1) (by omega) (u0 := .bool y2.b) (u1 := .slice y2.A y2.n y2.c))
      replace HY2 := Lib.hid (HY2.out.put2 X4.out (noU32_num _) (u0 := .bool y2.b) (u1 := .slice y2.A y2.n y2.c))
      replace X4 := Lib.hid (X4.out.put2 (u0 := .bool y2.b) (u1 := .slice y2.A y2.n y2.c))
      generalize ((wq4.setCell ⟨w.heap.size + 1, 0, none⟩ (.bool y2.b)).setCell ⟨w.heap.size + 1, 1, none⟩ (.slice y2.A y2.n y2.c)) = wq5 at *
      replace HB0 := Lib.hid (Below.refl wq5.heap.size wq5)
      refine hK.out _ _ ?_
      clear hK K
      refine wpAnyM_done (by kernel_rfl) ?_ _
      clear HB0 hSw
      have hdr : ∀ W, (Instr.slice 9 (.string ⟨r.toArray⟩) (some (.int .i64 (n : Int))) none none).run Tryz.prog W = .ok (.string ⟨(r.drop n).toArray⟩) W := fun W => tx_from r (n : Int) n rfl (by omega) W
      go_wp2_with fail
      go_roundg ((r.drop n).length + 1)
      case measure => rw [List.length_drop]; have := HNP.out; omega
      case rel => exact ⟨c ++ r.take n, r.drop n, y2, rfl, rfl, ⟨by rw [List.append_assoc, List.take_append_drop]; exact HE.out, by rw [List.length_drop]; exact HMOD.out, X2.out, X4.out, by rw [← HZ.out]; exact HY2.out, D.out⟩⟩
end Go.Proofs.YtoblpcljhblnmaaGreatDoor
namespace Go.Proofs.YtoblpcljhblnmaaGreatDoor
open Go.RowKit
set_option maxRecDepth 100000
def RTextSaid (q : Rat) (w : World) (e : Ending) (w' : World) : Prop :=
  ∃ (s : List UInt8) (b : Bool), e = .returned (.tuple #[tx s, .bool b]) ∧ (b = true ↔ Pl.Fits q) ∧ (b = true → s = Pl.ratTxt q) ∧ Below w.heap.size w w'
theorem rtext_one (q : Rat) : Lib.itoa ((q.den : Nat) : Int) = Lib.decDigits q.den := Pl.itoa_nat q.den
set_option maxHeartbeats 3200000 in
theorem rtext_any {q : Rat} {x : Rt} {w : World} (hx : RatIs w w.heap.size q x) (hl : LV w) : Calls Tryz.prog 74 #[x.v] w (RTextSaid q w) := by
  obtain ⟨hA, hD, hsz⟩ := boxA w #[.bool x.N.b, .slice x.N.A x.N.n x.N.c, .bool x.D.b, .slice x.D.A x.D.n x.D.c] 105
  have X1 := Lib.hid hA
  have HX := Lib.hid (hx.go hD)
  have HL := Lib.hid (hl.go hD)
  have D := Lib.hid hD
  clear hx hl hA hD hsz
  go_enter Tryz.func74, Tryz.ntmps74
  go_wp2_with fail
  generalize w.alloc (.cells #[.bool x.N.b, .slice x.N.A x.N.n x.N.c, .bool x.D.b, .slice x.D.A x.D.n x.D.c] 105) = w1 at *
  refine (text_any HX.out.n HL.out).mono ?_
  rintro e w2 ⟨s1, b1, rfl, hb1, hs1, hn1, hb5⟩
  have HL2 := Lib.hid (HL.out.go hb5)
  have HX2 := Lib.hid (HX.out.go hb5)
  have X2 := Lib.hid (X1.out.go hb5)
  have D2 := Lib.hid (D.out.trans (hb5.mono D.out.size))
  clear hb5 HL HX X1 D
  have HS1 := Lib.hid (And.intro hb1 hs1)
  clear hb1 hs1
  cases b1 with
  | false =>
    go_wp2_with fail
    go_ret2
    refine ⟨[], false, rfl, ?_, (fun h => by cases h), D2.out⟩
    have h1 := HS1.out.1
    constructor
    · intro h; cases h
    · intro h; exact h1.2 h.1
  | true =>
    have c1 := X2.out.cell
    have l1 := X2.out.lt
    go_wp2_with fail
    refine (text_any HX2.out.d HL2.out).mono ?_
    rintro e w3 ⟨s2, b2, rfl, hb2, hs2, hn2, hb5⟩
    rw [Int.natAbs_natCast] at hb2
    rw [rtext_one] at hs2
    have D3 := Lib.hid (D2.out.trans (hb5.mono D2.out.size))
    have e1 := HS1.out.2 (by simp)
    have f1 := HS1.out.1.1 (by simp)
    have HB : Hid (b2 = true ↔ Pl.Fits q) := ⟨fun h => ⟨f1, hb2.1 h⟩, fun h => hb2.2 h.2⟩
    have HS2 := Lib.hid hs2
    have HE := Lib.hid e1
    clear hb5 hb2 hs2 e1 f1 c1 l1 HX2 HL2
    by_cases h49 : s2 = [49]
    · subst h49
      go_wp2_with fail
      go_ret2
      refine ⟨s1, b2, rfl, HB.out, fun h => ?_, D3.out⟩
      have h1 := HS2.out h
      have h2 : q.den = 1 := Pl.dec_eq1.1 h1.symm
      rw [HE.out]
      unfold Pl.ratTxt
      rw [if_pos h2, List.append_nil]
    · have hne : (s2 == [49]) = false := by simpa using h49
      have ha1 : ∀ W, (Op.stringOp .add ⟨s1.toArray⟩ ⟨#[47]⟩).run Tryz.prog W = .ok (.string ⟨(s1 ++ [47]).toArray⟩) W := fun W => tx_add s1 [47] (by simp; omega) W
      have ha2 : ∀ W, (Op.stringOp .add ⟨(s1 ++ [47]).toArray⟩ ⟨s2.toArray⟩).run Tryz.prog W = .ok (.string ⟨(s1 ++ [47] ++ s2).toArray⟩) W := fun W => tx_add (s1 ++ [47]) s2 (by simp; omega) W
      have HNE := Lib.hid h49
      clear h49
      obtain ⟨s3, hs3⟩ : ∃ s3, s3 = s1 ++ [47] := ⟨_, rfl⟩
      rw [← hs3] at ha1 ha2
      obtain ⟨s4, hs4⟩ : ∃ s4, s4 = s3 ++ s2 := ⟨_, rfl⟩
      rw [← hs4] at ha2
      have H34 := Lib.hid (And.intro hs3 hs4)
      clear hs3 hs4
      go_wp2_with fail
      go_ret2
      refine ⟨s4, b2, rfl, HB.out, fun h => ?_, D3.out⟩
      have h1 := HS2.out h
      have h2 : q.den ≠ 1 := fun e => HNE.out (by rw [h1, e]; exact Pl.dec_1)
      rw [H34.out.2, H34.out.1, HE.out, h1]
      unfold Pl.ratTxt
      rw [if_neg h2]
      simp
theorem trim_itoa0 (z : Int) : Pl.trimM (Lib.itoa z) = Lib.decDigits z.natAbs := by
  have := Pl.trimM_itoa z []
  rw [List.append_nil, List.append_nil] at this
  exact this
theorem itoa_len {z : Int} (h : z.natAbs < Pl.lim) : (Lib.itoa z).length ≤ 2001 := by
  have h1 := Pl.dec_lim.2 h
  rcases Pl.itoa_cases z with ⟨_, e⟩ | ⟨_, e⟩
  · rw [e, List.length_cons]; omega
  · rw [e]; omega
theorem ratTxt_len {q : Rat} (h : Pl.Fits q) : (Pl.ratTxt q).length ≤ 4002 := by
  have h1 := itoa_len h.1
  have h2 := Pl.dec_lim.2 h.2
  unfold Pl.ratTxt
  rw [List.length_append]
  split
  · simp; omega
  · rw [List.length_cons]; omega
theorem read_itoa (z : Int) (h : z.natAbs < Pl.lim) (w : World) : Calls Tryz.prog 96 #[tx (Lib.itoa z)] w (NmSaid z w) := by
  have h1 := read_any (Lib.itoa z) w (by rw [trim_itoa0]; exact Pl.dec_dg _) (by have := itoa_len h; omega)
  rw [Pl.intOf_itoa] at h1
  exact h1
theorem read_dec (n : Nat) (h : n < Pl.lim) (w : World) : Calls Tryz.prog 96 #[tx (Lib.decDigits n)] w (NmSaid (n : Int) w) := by
  have h1 := read_itoa (n : Int) (by rw [Int.natAbs_natCast]; exact h) w
  rw [Pl.itoa_nat] at h1
  exact h1
theorem parse_any {q : Rat} (hq : Pl.Fits q) (w : World) : Calls Tryz.prog 51 #[tx (Pl.ratTxt q)] w (RtSaid q w) := by
  obtain ⟨hA, hD, hsz⟩ := boxA w #[.bool false, .slice none 0 0, .bool false, .slice none 0 0] 105
  have X4 := Lib.hid hA
  have D := Lib.hid hD
  have HC := Lib.hid (fun W => cutl_any (Pl.ratTxt q) 47 (by have := ratTxt_len hq; omega) W)
  rw [Pl.cut_ratTxt] at HC
  have HRN := Lib.hid (fun W => read_itoa q.num hq.1 W)
  have HRD := Lib.hid (fun W => read_dec q.den hq.2 W)
  clear hA hD hsz hq
  generalize Pl.ratTxt q = l at *
  generalize Lib.itoa q.num = s1 at *
  generalize Lib.decDigits q.den = s2 at *
  by_cases hd : q.den = 1
  · rw [if_pos hd] at HC
    have e1 : (!decide (q.den = 1)) = false := by simp [hd]
    rw [e1] at HC
    have HD1 := Lib.hid hd
    clear e1 hd
    go_enter Tryz.func51, Tryz.ntmps51
    go_wp2_with fail
    generalize w.alloc (.cells #[.bool false, .slice none 0 0, .bool false, .slice none 0 0] 105) = w1 at *
    refine (HC.out _).mono ?_
    rintro e w2 ⟨rfl, hb5⟩
    replace X4 := Lib.hid (X4.out.go hb5)
    replace D := Lib.hid (D.out.trans (hb5.mono D.out.size))
    clear hb5 HC
    go_wp2_with fail
    refine (HRN.out _).mono ?_
    rintro e w3 ⟨k1, rfl, hk1, hb5⟩
    have H1 := Lib.hid hk1
    replace X4 := Lib.hid (X4.out.go hb5)
    replace D := Lib.hid (D.out.trans (hb5.mono D.out.size))
    clear hb5 hk1
    go_wp2_with fail
    refine (nof_any 1 _ (by omega) (by omega)).mono ?_
    rintro e w4 ⟨k2, rfl, hk2, hb5⟩
    have H2 := Lib.hid hk2
    replace X4 := Lib.hid (X4.out.go hb5)
    replace D := Lib.hid (D.out.trans (hb5.mono D.out.size))
    replace H1 := Lib.hid (H1.out.go hb5)
    clear hb5 hk2
    have c4 := X4.out.cell
    have l4 := X4.out.lt
    have f4 := X4.out.frozen
    go_wp2_with fail
    clear c4 l4 f4
    replace D := Lib.hid (below_put4 D.out (r := w.heap.size) (Nat.le_refl _) (u0 := .bool k1.b) (u1 := .slice k1.A k1.n k1.c) (u2 := .bool k2.b) (u3 := .slice k2.A k2.n k2.c))
    replace H1 := Lib.hid (H1.out.put4 X4.out noU32_new2 (u0 := .bool k1.b) (u1 := .slice k1.A k1.n k1.c) (u2 := .bool k2.b) (u3 := .slice k2.A k2.n k2.c))
    replace H2 := Lib.hid (H2.out.put4 X4.out noU32_new2 (u0 := .bool k1.b) (u1 := .slice k1.A k1.n k1.c) (u2 := .bool k2.b) (u3 := .slice k2.A k2.n k2.c))
    replace X4 := Lib.hid (X4.out.put4 (u0 := .bool k1.b) (u1 := .slice k1.A k1.n k1.c) (u2 := .bool k2.b) (u3 := .slice k2.A k2.n k2.c))
    have k4 := X4.out.cell
    refine bodyPost_ret (v := (Rt.mk k1 k2).v) (by simp [results, Tryz.results51, go_sem, k4]) rfl ⟨⟨k1, k2⟩, rfl, ⟨H1.out, by rw [HD1.out]; exact H2.out⟩, D.out⟩
  · rw [if_neg hd] at HC
    have e1 : (!decide (q.den = 1)) = true := by simp [hd]
    rw [e1] at HC
    clear e1 hd
    go_enter Tryz.func51, Tryz.ntmps51
    go_wp2_with fail
    generalize w.alloc (.cells #[.bool false, .slice none 0 0, .bool false, .slice none 0 0] 105) = w1 at *
    refine (HC.out _).mono ?_
    rintro e w2 ⟨rfl, hb5⟩
    replace X4 := Lib.hid (X4.out.go hb5)
    replace D := Lib.hid (D.out.trans (hb5.mono D.out.size))
    clear hb5 HC
    go_wp2_with fail
    refine (HRN.out _).mono ?_
    rintro e w3 ⟨k1, rfl, hk1, hb5⟩
    have H1 := Lib.hid hk1
    replace X4 := Lib.hid (X4.out.go hb5)
    replace D := Lib.hid (D.out.trans (hb5.mono D.out.size))
    clear hb5 hk1
    go_wp2_with fail
    refine (HRD.out _).mono ?_
    rintro e w4 ⟨k2, rfl, hk2, hb5⟩
    have H2 := Lib.hid hk2
    replace X4 := Lib.hid (X4.out.go hb5)
    replace D := Lib.hid (D.out.trans (hb5.mono D.out.size))
    replace H1 := Lib.hid (H1.out.go hb5)
    clear hb5 hk2
    have c4 := X4.out.cell
    have l4 := X4.out.lt
    have f4 := X4.out.frozen
    go_wp2_with fail
    clear c4 l4 f4
    replace D := Lib.hid (below_put4 D.out (r := w.heap.size) (Nat.le_refl _) (u0 := .bool k1.b) (u1 := .slice k1.A k1.n k1.c) (u2 := .bool k2.b) (u3 := .slice k2.A k2.n k2.c))
    replace H1 := Lib.hid (H1.out.put4 X4.out noU32_new2 (u0 := .bool k1.b) (u1 := .slice k1.A k1.n k1.c) (u2 := .bool k2.b) (u3 := .slice k2.A k2.n k2.c))
    replace H2 := Lib.hid (H2.out.put4 X4.out noU32_new2 (u0 := .bool k1.b) (u1 := .slice k1.A k1.n k1.c) (u2 := .bool k2.b) (u3 := .slice k2.A k2.n k2.c))
    replace X4 := Lib.hid (X4.out.put4 (u0 := .bool k1.b) (u1 := .slice k1.A k1.n k1.c) (u2 := .bool k2.b) (u3 := .slice k2.A k2.n k2.c))
    have k4 := X4.out.cell
    refine bodyPost_ret (v := (Rt.mk k1 k2).v) (by simp [results, Tryz.results51, go_sem, k4]) rfl ⟨⟨k1, k2⟩, rfl, ⟨H1.out, H2.out⟩, D.out⟩
end Go.Proofs.YtoblpcljhblnmaaGreatDoor
