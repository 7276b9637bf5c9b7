/- slices.Equal at integers. No condition. -/
import Derived.Test.YtgdbodnfibiafaaGreatDoorSrt
namespace Go.Proofs.YtgdbodnfibiafaaGreatDoor
open Go.RowKit
theorem eqint_any (A B : Option Addr) (n m c d : Nat) (x y : List Int) (w : World) (hn : n ≤ 1000000000000000) (hx : Reads w w.heap.size 1 A n (ints x)) (hy : Reads w w.heap.size 1 B m (ints y)) (hxy : x = y) :
    Calls Tryz.prog 6 #[.slice A n c, .slice B m d] w fun e w' => e = .returned (.bool true) ∧ Below w.heap.size w w' := by
  subst hxy
  have hnm : m = n := by have := hx.int_len; have := hy.int_len; omega
  subst hnm
  have e0 : ((m : Int) != (m : Int)) = false := by simp
  go_enter Tryz.func6, Tryz.ntmps6
  go_wp2_with fail
  go_loopw [13] (fun i wr => ∃ k : Nat, k ≤ m ∧ i = .int .i64 k ∧ Below w.heap.size w wr) (fun i _ => m - (intOf i).toNat)
  case atStart => exact ⟨0, Nat.zero_le _, rfl, Below.refl _ _⟩
  case round =>
    obtain ⟨k, hk, rfl, hb⟩ := hrel
    have HB := Lib.hid hb
    by_cases hlt : k < m
    · obtain ⟨b, o, rfl, hl1, c1⟩ := (hx.go hb).int_at hlt
      obtain ⟨b', o', rfl, hl2, d1⟩ := (hy.go hb).int_at hlt
      clear hb
      generalize x[k] = z at *
      have ez : (z != z) = false := by simp
      go_wp2_with fail
      go_region
      go_wp2_with fail
      go_roundw
      case rel => exact ⟨k + 1, by omega, by go_num, HB.out.drew⟩
      case measure => simp [intOf]; omega
    · go_wp2_with fail
      go_ret
      exact ⟨rfl, HB.out⟩
end Go.Proofs.YtgdbodnfibiafaaGreatDoor
