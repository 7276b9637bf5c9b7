/- The inner function 'better' of the reference's Ways keeps the lesser length. Condition: the variable is a block of its own. -/
import Derived.Test.YtpamgeemmbbkkaaZStep
import Derived.Test.YtpamgeemmbbkkaaPWays
namespace Go.Proofs.Ytpamgeemmbbkkaa
open Go.RowKit
set_option maxRecDepth 100000
theorem Pl.better_neg (best : Int) : Pl.better best (-1) = best := by unfold Pl.better; rw [if_neg (by omega)]
theorem wbest_any (gb : Nat) (best d : Int) (w : World) (hb : Blk w gb 3 #[.int .i64 best]) :
    Calls Try.prog 31 #[.int .i64 d, .pointer (some ⟨gb, 0, none⟩)] w fun e w' => e = .returned (.tuple #[]) ∧ Blk w' gb 3 #[.int .i64 (Pl.better best d)] ∧ OnlyZ gb gb w w' := by
  have HB := Lib.hid hb
  have HY : Hid (Pl.better best d = if 0 ≤ d ∧ (best < 0 ∨ d < best) then d else best) := rfl
  have HS : Hid (Blk (w.setCell ⟨gb, 0, none⟩ (.int .i64 d)) gb 3 #[.int .i64 d]) := hb.set_ 0 (.int .i64 d)
  have HO := Lib.hid (OnlyZ.set1 gb gb w 0 (.int .i64 d))
  generalize Pl.better best d = R at *
  have c0 := hb.cell 0
  have f0 := hb.frozen
  have l0 := hb.lt
  clear hb
  by_cases h0 : 0 ≤ d
  · have e0 : decide (0 ≤ d) = true := by simp [h0]
    by_cases h1 : best < 0
    · have e1 : decide (best < 0) = true := by simp [h1]
      rw [if_pos ⟨h0, .inl h1⟩] at HY
      clear h0 h1
      go_enter Try.func31, Try.ntmps31
      go_wp2_with fail
      rw [HY.out]
      exact ⟨rfl, .tuple #[], by simp [results, Try.results31, go_sem], rfl, HS.out, HO.out⟩
    · have e1 : decide (best < 0) = false := by simp; omega
      by_cases h2 : d < best
      · have e2 : decide (d < best) = true := by simp [h2]
        rw [if_pos ⟨h0, .inr h2⟩] at HY
        clear h0 h1 h2
        go_enter Try.func31, Try.ntmps31
        go_wp2_with fail
        rw [HY.out]
        exact ⟨rfl, .tuple #[], by simp [results, Try.results31, go_sem], rfl, HS.out, HO.out⟩
      · have e2 : decide (d < best) = false := by simp; omega
        rw [if_neg (by omega)] at HY
        clear h0 h1 h2
        go_enter Try.func31, Try.ntmps31
        go_wp2_with fail
        rw [HY.out]
        exact ⟨rfl, .tuple #[], by simp [results, Try.results31, go_sem], rfl, HB.out, OnlyZ.refl _ _ _⟩
  · have e0 : decide (0 ≤ d) = false := by simp; omega
    rw [if_neg (by omega)] at HY
    clear h0
    go_enter Try.func31, Try.ntmps31
    go_wp2_with fail
    rw [HY.out]
    exact ⟨rfl, .tuple #[], by simp [results, Try.results31, go_sem], rfl, HB.out, OnlyZ.refl _ _ _⟩
end Go.Proofs.Ytpamgeemmbbkkaa
