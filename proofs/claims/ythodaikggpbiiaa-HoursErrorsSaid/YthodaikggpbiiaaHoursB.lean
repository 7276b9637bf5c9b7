/- The contract of hours.Errors: it returns what the plain function herrors gives, and leaves the world as it is. -/
import Derived.Test.YthodaikggpbiiaaHours
namespace Go.Proofs.Ythodaikggpbiiaa
open Go.RowKit
/-- the contract of hours.Errors -/
def ErrorsSaid (f a : List Int) (w : World) (e : Ending) (w' : World) : Prop := e = .returned (.tuple #[.int .i64 (Pl.herrors f a).1, .int .i64 (Pl.herrors f a).2.1, .int .i64 (Pl.herrors f a).2.2.1, .int .i64 (Pl.herrors f a).2.2.2]) ∧ w = w'
set_option maxHeartbeats 800000 in
theorem errors_any (A B : Option Addr) (n m c d : Nat) (f a : List Int) (w : World) (hf : Reads w w.heap.size 1 A n (ints f)) (ha : Reads w w.heap.size 1 B m (ints a)) :
    Calls Try.prog 15 #[.slice A n c, .slice B m d] w (ErrorsSaid f a w) := by
  have i0 : ∀ w, (Instr.index 74 (.agg #[.slice A n c, .slice B m d]) (.int .i64 0)).run Try.prog w = .ok (.slice A n c) w := fun _ => by kernel_rfl
  have i1 : ∀ w, (Instr.index 74 (.agg #[.slice A n c, .slice B m d]) (.int .i64 1)).run Try.prog w = .ok (.slice B m d) w := fun _ => by kernel_rfl
  have C1 := Lib.hid (check_any A n c f _ w hf)
  have C2 := Lib.hid (check_any B m d a _ w ha)
  have L1 := Lib.hid hf.int_len
  have L2 := Lib.hid ha.int_len
  by_cases h1 : Pl.hcheck f = 0
  · have C1 := C1.out
    rw [h1] at C1
    have C1 := Lib.hid C1
    by_cases h2 : Pl.hcheck a = 0
    · have C2 := C2.out
      rw [h2] at C2
      have C2 := Lib.hid C2
      have H1 := Lib.hid h1
      have H2 := Lib.hid h2
      clear h1 h2
      have K1 := Lib.hid (Pl.hcheck_ok H1.out)
      have K2 := Lib.hid (Pl.hcheck_ok H2.out)
      have b1 : n ≤ 24 := by have := K1.out.1; have := L1.out; omega
      have b2 : m ≤ 24 := by have := K2.out.1; have := L2.out; omega
      by_cases hnm : n = m
      · subst hnm
        have HF : Hid (Pl.herrors f a = ((Pl.errAcc (f.zip a)).1, (Pl.errAcc (f.zip a)).2.1, (Pl.errAcc (f.zip a)).2.2, 0)) := Pl.herrors_ok H1.out H2.out (L1.out.trans L2.out.symm)
        have HB := Lib.hid (Pl.errAcc_take H1.out H2.out)
        go_enter Try.func15, Try.ntmps15
        go_wp2_with fail
        refine wp_loop_rounds 3 ?_
        rw [rounds_succ]
        go_wp2_with fail
        refine C1.out.mono ?_; rintro e w' ⟨rfl, rfl⟩
        go_wp2_with fail
        rw [rounds_succ]
        go_wp2_with fail
        refine C2.out.mono ?_; rintro e w' ⟨rfl, rfl⟩
        go_wp2_with fail
        rw [rounds_succ]
        go_wp2_with fail
        go_loop [11, 12, 13, 36] (fun x y z i => ∃ k : Nat, k ≤ n ∧ i = .int .i64 k ∧ x = .int .i64 (Pl.errAcc ((f.zip a).take k)).1 ∧ y = .int .i64 (Pl.errAcc ((f.zip a).take k)).2.1 ∧ z = .int .i64 (Pl.errAcc ((f.zip a).take k)).2.2) (fun _ _ _ i => n - (intOf i).toNat)
        case atStart => exact ⟨0, Nat.zero_le _, rfl, rfl, rfl, rfl⟩
        case round =>
          obtain ⟨k, hk, rfl, rfl, rfl, rfl⟩ := hrel
          obtain ⟨q1, q2, q3, q4, q5, q6⟩ := HB.out k
          by_cases hlt : k < n
          · obtain ⟨b, o, rfl, hl1, hc1⟩ := hf.int_at hlt
            obtain ⟨b', o', rfl, hl2, hc2⟩ := ha.int_at hlt
            obtain ⟨r1, r2⟩ := K1.out.2 k hl1
            obtain ⟨r3, r4⟩ := K2.out.2 k hl2
            have HS : Hid (Pl.errAcc ((f.zip a).take (k + 1)) = Pl.errStep (Pl.errAcc ((f.zip a).take k)) (f[k], a[k])) := by
              show _ = _
              rw [Pl.take_zip_snoc f a k hl1 hl2, Pl.errAcc_snoc]
            generalize Pl.errAcc ((f.zip a).take k) = acc at *
            obtain ⟨x, y, z⟩ := acc
            simp only at q1 q2 q3 q4 q5 q6
            generalize f[k] = u at *
            generalize a[k] = v at *
            have sq := Pl.sq_bd (v - u) (by omega) (by omega)
            go_wp2_with fail
            go_round
            case rel =>
              refine ⟨k + 1, by omega, by go_num, ?_, ?_, ?_⟩
              all_goals rw [HS.out]; refine vint ?_; simp only [Pl.errStep]; try ((repeat' split) <;> omega)
            case measure => simp [intOf]; omega
          · have : k = n := by omega
            subst this
            have HT : Hid ((f.zip a).take k = f.zip a) := List.take_of_length_le (by have := L1.out; have := L2.out; simp; omega)
            go_wp2_with fail
            refine bodyPost_ret (results_tmp4 rfl _ _ _) rfl ?_
            exact ⟨by rw [HF.out, HT.out]; rfl, rfl⟩
      · have hne : ((n : Int) != (m : Int)) = true := by rw [bne_iff_ne]; omega
        have HF : Hid (Pl.herrors f a = (0, 0, 0, 3)) := Pl.herrors_len H1.out H2.out (by have := L1.out; have := L2.out; omega)
        go_enter Try.func15, Try.ntmps15
        go_wp2_with fail
        refine wp_loop_rounds 3 ?_
        rw [rounds_succ]
        go_wp2_with fail
        refine C1.out.mono ?_; rintro e w' ⟨rfl, rfl⟩
        go_wp2_with fail
        rw [rounds_succ]
        go_wp2_with fail
        refine C2.out.mono ?_; rintro e w' ⟨rfl, rfl⟩
        go_wp2_with fail
        rw [rounds_succ]
        go_wp2_with fail
        refine bodyPost_ret (results_tmp4 rfl _ _ _) rfl ?_
        exact ⟨by rw [HF.out]; rfl, rfl⟩
    · have h3 : (Pl.hcheck a != 0) = true := by simpa using h2
      have HF : Hid (Pl.herrors f a = (0, 0, 0, Pl.hcheck a)) := by show _ = _; unfold Pl.herrors; rw [if_neg (by simpa using h1), if_pos h2]
      have H1 := Lib.hid h1
      clear h1 h2
      go_enter Try.func15, Try.ntmps15
      go_wp2_with fail
      refine wp_loop_rounds 3 ?_
      rw [rounds_succ]
      go_wp2_with fail
      refine C1.out.mono ?_; rintro e w' ⟨rfl, rfl⟩
      go_wp2_with fail
      rw [rounds_succ]
      go_wp2_with fail
      refine C2.out.mono ?_; rintro e w' ⟨rfl, rfl⟩
      go_wp2_with fail
      refine bodyPost_ret (results_tmp4 rfl _ _ _) rfl ?_
      exact ⟨by rw [HF.out]; rfl, rfl⟩
  · have h3 : (Pl.hcheck f != 0) = true := by simpa using h1
    have HF : Hid (Pl.herrors f a = (0, 0, 0, Pl.hcheck f)) := by show _ = _; unfold Pl.herrors; rw [if_pos h1]
    clear h1
    go_enter Try.func15, Try.ntmps15
    go_wp2_with fail
    refine wp_loop_rounds 3 ?_
    rw [rounds_succ]
    go_wp2_with fail
    refine C1.out.mono ?_; rintro e w' ⟨rfl, rfl⟩
    go_wp2_with fail
    refine bodyPost_ret (results_tmp4 rfl _ _ _) rfl ?_
    exact ⟨by rw [HF.out]; rfl, rfl⟩
end Go.Proofs.Ythodaikggpbiiaa
