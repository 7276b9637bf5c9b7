/- netmodel.Branch and the small tests of numbers answer as their plain functions say. No condition. -/
import Derived.Test.YtpamgeemmbbkkaaDevice
namespace Go.Proofs.Ytpamgeemmbbkkaa
open Go.RowKit
set_option maxRecDepth 100000
theorem nout_any (n lo hi : Int) (w : World) : Calls Try.prog 90 #[.int .i64 n, .int .i64 lo, .int .i64 hi] w fun e w' => e = .returned (.bool (Pl.outN n lo hi)) ∧ w' = w := by
  have HE : Hid (Pl.outN n lo hi = (decide (n < lo) || decide (hi < n))) := rfl
  generalize Pl.outN n lo hi = R at *
  by_cases h1 : n < lo
  · rw [decide_eq_true h1] at HE
    go_enter Try.func90, Try.ntmps90
    go_wp2_with fail
    go_ret
    exact ⟨by rw [HE.out]; rfl, rfl⟩
  · rw [decide_eq_false h1] at HE
    by_cases h2 : hi < n
    · rw [decide_eq_true h2] at HE
      go_enter Try.func90, Try.ntmps90
      go_wp2_with fail
      go_ret
      exact ⟨by rw [HE.out]; rfl, rfl⟩
    · rw [decide_eq_false h2] at HE
      go_enter Try.func90, Try.ntmps90
      go_wp2_with fail
      go_ret
      exact ⟨by rw [HE.out]; rfl, rfl⟩
theorem npermitted_any (n : Int) (w : World) : Calls Try.prog 91 #[.int .i64 n] w fun e w' => e = .returned (.bool (!Pl.outN n 0 100000)) ∧ w' = w := by
  have HO := Lib.hid (fun w => nout_any n 0 100000 w)
  generalize Pl.outN n 0 100000 = R at *
  go_enter Try.func91, Try.ntmps91
  go_wp2_with fail
  refine (HO.out _).mono ?_
  rintro e w1 ⟨rfl, rfl⟩
  go_wp2_with fail
  go_ret
  exact ⟨by cases R <;> rfl, rfl⟩
theorem or6 (a b c d e f : Bool) : a = true ∨ (a = false ∧ b = true) ∨ (a = false ∧ b = false ∧ c = true) ∨ (a = false ∧ b = false ∧ c = false ∧ d = true) ∨ (a = false ∧ b = false ∧ c = false ∧ d = false ∧ e = true) ∨ (a = false ∧ b = false ∧ c = false ∧ d = false ∧ e = false ∧ f = true) ∨ (a = false ∧ b = false ∧ c = false ∧ d = false ∧ e = false ∧ f = false) := by
  cases a <;> cases b <;> cases c <;> cases d <;> cases e <;> cases f <;> simp
set_option maxHeartbeats 1600000 in
theorem nbranch_any (b : Pl.Bra) (w : World) : Calls Try.prog 53 #[.agg #[.string b.name, .string b.from_, .string b.to_, .int .i64 b.x, .int .i64 b.tap, .int .i64 b.shift, .int .i64 b.limit, .int .i64 b.short, .int .i64 b.hold]] w fun e w' => e = .returned (.int .i64 (Pl.braE b)) ∧ Below w.heap.size w w' := by
  have HE : Hid (Pl.braE b = if (Pl.outN b.x 1 10000 || Pl.outN b.tap 500 1500 || Pl.outN b.shift (-1000) 1000 || Pl.outN b.limit 0 100000 || Pl.outN b.short b.limit 100000 || Pl.outN b.hold 0 200000) = true then 4 else 0) := rfl
  generalize Pl.braE b = R at *
  obtain ⟨nm, fr, to_, x, tap, shift, limit, short, hold⟩ := b
  simp only at *
  have H1 := Lib.hid (fun w => nout_any x 1 10000 w)
  have H2 := Lib.hid (fun w => nout_any tap 500 1500 w)
  have H3 := Lib.hid (fun w => nout_any shift (-1000) 1000 w)
  have H4 := Lib.hid (fun w => nout_any limit 0 100000 w)
  have H5 := Lib.hid (fun w => nout_any short limit 100000 w)
  have H6 := Lib.hid (fun w => nout_any hold 0 200000 w)
  have A0 := Lib.hid ((Below.refl w.heap.size w).alloc (Nat.le_refl _) (.cells #[.string nm, .string fr, .string to_, .int .i64 x, .int .i64 tap, .int .i64 shift, .int .i64 limit, .int .i64 short, .int .i64 hold] 42))
  generalize Pl.outN x 1 10000 = o1 at *
  generalize Pl.outN tap 500 1500 = o2 at *
  generalize Pl.outN shift (-1000) 1000 = o3 at *
  generalize Pl.outN limit 0 100000 = o4 at *
  generalize Pl.outN short limit 100000 = o5 at *
  generalize Pl.outN hold 0 200000 = o6 at *
  go_enter Try.func53, Try.ntmps53
  rcases or6 o1 o2 o3 o4 o5 o6 with rfl | ⟨rfl, rfl⟩ | ⟨rfl, rfl, rfl⟩ | ⟨rfl, rfl, rfl, rfl⟩ | ⟨rfl, rfl, rfl, rfl, rfl⟩ | ⟨rfl, rfl, rfl, rfl, rfl, rfl⟩ | ⟨rfl, rfl, rfl, rfl, rfl, rfl⟩
  all_goals
    go_wp2_with (go_at_call 90; (first | (with_reducible refine (H1.out _).mono ?_) | (with_reducible refine (H2.out _).mono ?_) | (with_reducible refine (H3.out _).mono ?_) | (with_reducible refine (H4.out _).mono ?_) | (with_reducible refine (H5.out _).mono ?_) | (with_reducible refine (H6.out _).mono ?_)); rintro e w1 ⟨rfl, rfl⟩)
    go_ret
    exact ⟨by rw [HE.out]; rfl, A0.out⟩
end Go.Proofs.Ytpamgeemmbbkkaa
