/- The contract of slices.Equal at states: it tells whether the two lists are the same, and leaves old memory as it is. -/
import Derived.Test.YthodaikggpbiiaaRun
namespace Go.Proofs.Ythodaikggpbiiaa
open Go.RowKit
set_option maxHeartbeats 800000 in
theorem eqst_any (A B : Option Addr) (n m c d : Nat) (x y : List Pl.St) (w : World) (hn : n ≤ 1000000000000000) (hx : Reads w w.heap.size 3 A n (states x)) (hy : Reads w w.heap.size 3 B m (states y)) (hxy : x = y) :
    Calls Try.prog 34 #[.slice A n c, .slice B m d] w fun e w' => e = .returned (.bool true) ∧ Below w.heap.size w w' := by
  subst hxy
  have hnm : m = n := by have := hx.state_len; have := hy.state_len; omega
  subst hnm
  have e0 : ((m : Int) != (m : Int)) = false := by simp
  go_enter Try.func34, Try.ntmps34
  go_wp2_with fail
  go_loopw [13] (fun i wr => ∃ k : Nat, k ≤ m ∧ i = .int .i64 k ∧ Below w.heap.size w wr) (fun i _ => m - (intOf i).toNat)
  case atStart => exact ⟨0, Nat.zero_le _, rfl, Below.refl _ _⟩
  case round =>
    obtain ⟨k, hk, rfl, hb⟩ := hrel
    have HB := Lib.hid hb
    by_cases hlt : k < m
    · obtain ⟨b, o, rfl, hl1, c1, c2, c3⟩ := (hx.go hb).state_at hlt
      obtain ⟨b', o', rfl, hl2, d1, d2, d3⟩ := (hy.go hb).state_at hlt
      clear hb
      generalize x[k] = z at *
      obtain ⟨z0, z1, z2⟩ := z
      simp only at c1 c2 c3 d1 d2 d3
      go_wp2_with fail
      go_region
      go_wp2_with fail
      go_roundw
      case rel => exact ⟨k + 1, by omega, by go_num, HB.out.drew⟩
      case measure => simp [intOf]; omega
    · go_wp2_with fail
      go_ret
      exact ⟨rfl, HB.out⟩
end Go.Proofs.Ythodaikggpbiiaa
