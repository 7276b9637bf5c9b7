/- Package large: Small answers as integers. Condition: the words read. Package large: Small (a number as a machine integer, if it is one). Condition: the words read. -/
import Derived.Test.YtgdbodnfibiafaaGreatDoorLgP
import Derived.Deep.LoopGhost
import Derived.Handy
namespace Go.Proofs.YtgdbodnfibiafaaGreatDoor
open Go.RowKit
set_option maxRecDepth 100000
def SmallSaid (z : Int) (w : World) (e : Ending) (w' : World) : Prop :=
  ((-9223372036854775808 ≤ z ∧ z ≤ 9223372036854775807 ∧ e = .returned (.tuple #[.int .i64 z, .bool true])) ∨ ((z < -9223372036854775808 ∨ 9223372036854775807 < z) ∧ e = .returned (.tuple #[.int .i64 0, .bool false]))) ∧ Below w.heap.size w w'
theorem lv_two {l : List Nat} (hW : Pl.W32 l) (h : l.length ≤ 2) : Pl.lv l < 18446744073709551616 := by
  have h1 := Pl.lv_lt hW
  have h2 : 4294967296 ^ l.length ≤ 4294967296 ^ 2 := Nat.pow_le_pow_right (by omega) h
  have h3 : (4294967296 : Nat) ^ 2 = 18446744073709551616 := by decide +kernel
  omega
theorem big_three {l : List Nat} (hc : Pl.Can l) (h : 2 < l.length) : 18446744073709551616 ≤ Pl.lv l := by
  have hne : l ≠ [] := by rintro rfl; simp at h
  obtain ⟨k, hk⟩ : ∃ k, l.length = k + 1 := ⟨l.length - 1, by omega⟩
  have h1 := (Pl.lv_lt_top hc.1 hk).2
  have h2 := hc.2 hne
  rw [List.getLast_eq_getElem] at h2
  have e5 : l.length - 1 = k := by omega
  have h4 : 1 ≤ l[k]'(by omega) := Nat.pos_of_ne_zero (by simpa only [e5] using h2)
  have h5 : 4294967296 ^ 2 ≤ 4294967296 ^ k := Nat.pow_le_pow_right (by omega) (by omega)
  have h3 : (4294967296 : Nat) ^ 2 = 18446744073709551616 := by decide +kernel
  have h6 := Nat.mul_le_mul h4 h5
  rw [Nat.one_mul] at h6
  omega
theorem or_zero (x : Nat) (hx : x < 4294967296) : bits .or .u64 0 (x : Int) = (x : Int) := by
  have h := or_hi 0 x (by omega) hx
  simpa using h
theorem or_hi2 (r x : Nat) (hr : r < 4294967296) (hx : x < 4294967296) : bits .or .u64 (x : Int) ((r : Int) * 4294967296) = ((r * 4294967296 + x : Nat) : Int) := by
  have h := or_hi r x hr hx
  have e : bits .or .u64 (x : Int) ((r : Int) * 4294967296) = bits .or .u64 ((r : Int) * 4294967296) (x : Int) := by
    unfold bits
    simp only
    first | (congr 1; exact Nat.or_comm _ _) | (rw [BitVec.or_comm])
  rw [e, h]
end Go.Proofs.YtgdbodnfibiafaaGreatDoor
namespace Go.Proofs.YtgdbodnfibiafaaGreatDoor
open Go.RowKit
set_option maxRecDepth 100000
theorem neg_back (d : Nat) (h : d ≤ 9223372036854775808) : wrap64 (IntKind.u64.wrap (-(d : Int))) = -(d : Int) := by
  rw [IntKind.wrap_u64]
  unfold wrap64
  omega
theorem nsmall_any {z : Int} {x : Nm} {w : World} (hx : NumIs w w.heap.size z x) : Calls Tryz.prog 36 #[x.v] w (SmallSaid z w) := by
  have BX := Lib.hid (Blk.new_ w w.heap.size 45 #[.bool x.b, .slice x.A x.n x.c] rfl)
  have D := Lib.hid (below_one w (.cells #[.bool x.b, .slice x.A x.n x.c] 45))
  have HX := Lib.hid hx
  obtain ⟨sb, A, n, c⟩ := x
  simp only at BX D
  clear hx
  by_cases hn : 2 < n
  · have hn1 : (2 : Int) < (n : Int) := by omega
    have HN := Lib.hid hn
    clear hn
    go_enter Tryz.func36, Tryz.ntmps36
    go_wp2_with fail
    go_ret2
    have hc := HX.out.ln
    refine ⟨.inr ⟨?_, rfl⟩, D.out⟩
    have hb := big_three (l := Pl.digs z.natAbs) (Pl.digs_can _) (by have := HN.out; simp only at hc; rw [hc] at this; exact this)
    rw [Pl.lv_digs] at hb
    omega
  · have hn1 : ¬ (2 : Int) < (n : Int) := by omega
    have h3 : n = 0 ∨ n = 1 ∨ n = 2 := by omega
    clear hn
    rcases h3 with rfl | rfl | rfl
    · have hz : z = 0 := by
        have h1 := HX.out.ln
        simp only at h1
        rcases Nat.eq_zero_or_pos z.natAbs with h | h
        · omega
        · rw [Pl.nw_pos (by omega)] at h1
          omega
      subst hz
      have hs : sb = false := HX.out.sg
      subst hs
      go_enter Tryz.func36, Tryz.ntmps36
      go_wp2_with fail
      go_rounds 1
      go_ret2
      exact ⟨.inl ⟨by decide, by decide, rfl⟩, D.out⟩
    · obtain ⟨d, hd, hd2, hA⟩ : ∃ d : Nat, z.natAbs = d ∧ d < 4294967296 ∧ Reads w w.heap.size 1 A 1 (u32s [d]) := by
        have h1 := HX.out.ln
        have h2 := HX.out.at_.2
        simp only at h1
        rw [← h1] at h2
        have h4 := Pl.lv_digs z.natAbs
        have h5 := (Pl.digs_can z.natAbs).1
        have h6 : (Pl.digs z.natAbs).length = 1 := h1.symm
        obtain ⟨d, hd⟩ := List.length_eq_one_iff.1 h6
        rw [hd] at h2 h4 h5
        refine ⟨d, ?_, h5 d (by simp), h2⟩
        rw [← h4]
        simp [Pl.lv]
      obtain ⟨b, o, rfl, hb, hc⟩ := hA.where_ (by decide) (by decide)
      have c0 := (D.out.cell (p := ⟨b, o + 0, none⟩) hb).trans (hc 0 _ rfl)
      rw [Nat.add_zero] at c0
      have e1 := or_zero d hd2
      have e2 : IntKind.u64.wrap (d : Int) = (d : Int) := IntWalk.u64_in _ (by omega)
      clear hc hA
      have hsg := HX.out.sg
      simp only at hsg
      have e3 : IntKind.i64.wrap (d : Int) = (d : Int) := IntWalk.i64_in _ (by omega)
      cases sb
      · have hz : z = (d : Int) := by
          have h9 := of_decide_eq_false hsg.symm
          omega
        subst hz
        have g1 : (d : Int) < 9223372036854775808 := by omega
        clear hsg hd
        go_enter Tryz.func36, Tryz.ntmps36
        go_wp2_with fail
        refine wp_loop_rounds 2 ?_
        rw [rounds_succ]
        go_wp2_with fail
        rw [rounds_succ]
        go_wp2_with fail
        go_ret2
        exact ⟨.inl ⟨by omega, by omega, rfl⟩, D.out⟩
      · have hz : z = -(d : Int) := by
          have h9 := of_decide_eq_true hsg.symm
          omega
        have g1 : (d : Int) ≤ 9223372036854775808 := by omega
        have hd0 : 0 < d := by
          have h9 := of_decide_eq_true hsg.symm
          omega
        subst hz
        clear hsg hd
        go_enter Tryz.func36, Tryz.ntmps36
        go_wp2_with fail
        refine wp_loop_rounds 2 ?_
        rw [rounds_succ]
        go_wp2_with fail
        rw [rounds_succ]
        go_wp2_with fail
        go_ret2
        refine ⟨.inl ⟨by omega, by omega, ?_⟩, D.out⟩
        exact congrArg (fun t => Ending.returned (.tuple #[.int .i64 t, .bool true])) (neg_back d (by omega))
    · obtain ⟨d, d2, hd, hd0, hd2, hA⟩ : ∃ d d2 : Nat, z.natAbs = d2 * 4294967296 + d ∧ d < 4294967296 ∧ d2 < 4294967296 ∧ Reads w w.heap.size 1 A 2 (u32s [d, d2]) := by
        have h1 := HX.out.ln
        have h2 := HX.out.at_.2
        simp only at h1
        rw [← h1] at h2
        have h4 := Pl.lv_digs z.natAbs
        have h5 := (Pl.digs_can z.natAbs).1
        have h6 : (Pl.digs z.natAbs).length = 2 := h1.symm
        obtain ⟨d, d2, hd⟩ : ∃ d d2, Pl.digs z.natAbs = [d, d2] := by
          generalize Pl.digs z.natAbs = l at h6
          match l, h6 with
          | [d, d2], _ => exact ⟨d, d2, rfl⟩
        rw [hd] at h2 h4 h5
        refine ⟨d, d2, ?_, h5 d (by simp), h5 d2 (by simp), h2⟩
        rw [← h4]
        simp [Pl.lv]
        omega
      obtain ⟨b, o, rfl, hb, hc⟩ := hA.where_ (by decide) (by decide)
      have c0 := (D.out.cell (p := ⟨b, o + 0, none⟩) hb).trans (hc 0 _ rfl)
      have c1 := (D.out.cell (p := ⟨b, o + 1, none⟩) hb).trans (hc 1 _ rfl)
      rw [Nat.add_zero] at c0
      have e1 := or_zero d hd0
      have e2 : IntKind.u64.wrap (d : Int) = (d : Int) := IntWalk.u64_in _ (by omega)
      have e4 : IntKind.u64.wrap (d2 : Int) = (d2 : Int) := IntWalk.u64_in _ (by omega)
      have e5 : IntKind.u64.wrap ((d2 : Int) * 4294967296) = (d2 : Int) * 4294967296 := IntWalk.u64_in _ (by omega)
      have e6 := or_hi2 d2 d hd2 hd0
      obtain ⟨m, hm⟩ : ∃ m : Nat, m = d2 * 4294967296 + d := ⟨_, rfl⟩
      rw [← hm] at hd e6
      have hm2 : m < 18446744073709551616 := by omega
      clear hc hA hm
      have hsg := HX.out.sg
      simp only at hsg
      cases sb
      · have hz : z = (m : Int) := by
          have h9 := of_decide_eq_false hsg.symm
          omega
        subst hz
        clear hsg hd
        by_cases g : m < 9223372036854775808
        · have g1 : (m : Int) < 9223372036854775808 := by omega
          have e3 : IntKind.i64.wrap (m : Int) = (m : Int) := IntWalk.i64_in _ (by omega)
          go_enter Tryz.func36, Tryz.ntmps36
          go_wp2_with fail
          refine wp_loop_rounds 3 ?_
          rw [rounds_succ]
          go_wp2_with fail
          rw [rounds_succ]
          go_wp2_with fail
          rw [rounds_succ]
          go_wp2_with fail
          go_ret2
          exact ⟨.inl ⟨by omega, by omega, rfl⟩, D.out⟩
        · have g1 : ¬ (m : Int) < 9223372036854775808 := by omega
          obtain ⟨M, hM⟩ : ∃ M : Int, M = (m : Int) := ⟨_, rfl⟩
          rw [← hM] at e6 g1 HX ⊢
          have HM := Lib.hid (show (9223372036854775808 : Int) ≤ M by omega)
          have g2 : decide (M < 9223372036854775808) = false := decide_eq_false g1
          clear g hM hm2
          go_enter Tryz.func36, Tryz.ntmps36
          go_wp2_with fail
          refine wp_loop_rounds 3 ?_
          rw [rounds_succ]
          go_wp2_with fail
          rw [rounds_succ]
          go_wp2_with fail
          rw [rounds_succ]
          go_wp2_with fail
          go_ret2
          exact ⟨.inr ⟨.inr (by have := HM.out; omega), rfl⟩, D.out⟩
      · have hz : z = -(m : Int) := by
          have h9 := of_decide_eq_true hsg.symm
          omega
        subst hz
        clear hsg hd
        by_cases g : m ≤ 9223372036854775808
        · have g1 : (m : Int) ≤ 9223372036854775808 := by omega
          go_enter Tryz.func36, Tryz.ntmps36
          go_wp2_with fail
          refine wp_loop_rounds 3 ?_
          rw [rounds_succ]
          go_wp2_with fail
          rw [rounds_succ]
          go_wp2_with fail
          rw [rounds_succ]
          go_wp2_with fail
          go_ret2
          refine ⟨.inl ⟨by omega, by omega, ?_⟩, D.out⟩
          exact congrArg (fun t => Ending.returned (.tuple #[.int .i64 t, .bool true])) (neg_back m g)
        · have g1 : ¬ (m : Int) ≤ 9223372036854775808 := by omega
          go_enter Tryz.func36, Tryz.ntmps36
          go_wp2_with fail
          refine wp_loop_rounds 3 ?_
          rw [rounds_succ]
          go_wp2_with fail
          rw [rounds_succ]
          go_wp2_with fail
          rw [rounds_succ]
          go_wp2_with fail
          go_ret2
          exact ⟨.inr ⟨.inl (by omega), rfl⟩, D.out⟩
end Go.Proofs.YtgdbodnfibiafaaGreatDoor
