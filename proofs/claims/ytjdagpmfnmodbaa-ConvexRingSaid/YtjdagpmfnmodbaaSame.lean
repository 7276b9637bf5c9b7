/- The contract of the laws' helper sameConvex at two equal functions: it returns true, and leaves old memory as it is. -/
import Derived.Test.YtjdagpmfnmodbaaConvexC
namespace Go.Proofs.Ytjdagpmfnmodbaa
open Go.RowKit
set_option maxHeartbeats 800000 in
theorem eqpc_any (A B : Option Addr) (n c d : Nat) (x : List (Int × Int)) (w : World) (hn : n ≤ 1000000000000000) (hx : Reads w w.heap.size 2 A n (pairs x)) (hy : Reads w w.heap.size 2 B n (pairs x)) :
    Calls Try.prog 73 #[.slice A n c, .slice B n d] w fun e w' => e = .returned (.bool true) ∧ Below w.heap.size w w' := by
  have e0 : ((n : Int) != (n : Int)) = false := by simp
  go_enter Try.func73, Try.ntmps73
  go_wp2_with fail
  go_loopw [13] (fun i wr => ∃ k : Nat, k ≤ n ∧ i = .int .i64 k ∧ Below w.heap.size w wr) (fun i _ => n - (intOf i).toNat)
  case atStart => exact ⟨0, Nat.zero_le _, rfl, Below.refl _ _⟩
  case round =>
    obtain ⟨k, hk, rfl, hb⟩ := hrel
    have HB := Lib.hid hb
    by_cases hlt : k < n
    · obtain ⟨b, o, rfl, hl1, c1, c2⟩ := (hx.go hb).pair_at hlt
      obtain ⟨b', o', rfl, hl2, d1, d2⟩ := (hy.go hb).pair_at hlt
      clear hb
      generalize x[k] = z at *
      obtain ⟨z0, z1⟩ := z
      simp only at c1 c2 d1 d2
      go_wp2_with fail
      go_region
      go_wp2_with fail
      go_roundw
      case rel => exact ⟨k + 1, by omega, by go_num, HB.out.drew⟩
      case measure => simp [intOf]; omega
    · go_wp2_with fail
      go_ret
      exact ⟨rfl, HB.out⟩
set_option maxHeartbeats 800000 in
set_option maxRecDepth 100000 in
theorem same_any (lo va : Int) (A B : Option Addr) (n c d : Nat) (x : List (Int × Int)) (w : World) (hn : n ≤ 1000000000000000) (hx : Reads w w.heap.size 2 A n (pairs x)) (hy : Reads w w.heap.size 2 B n (pairs x)) :
    Calls Try.prog 32 #[vCx lo va A n c, vCx lo va B n d] w fun e w' => e = .returned (.bool true) ∧ Below w.heap.size w w' := by
  unfold vCx
  go_enter Try.func32, Try.ntmps32
  go_wp2_with fail
  have HB0 : Below w.heap.size w ((w.alloc (.cells #[.int .i64 lo, .int .i64 va, .slice A n c] 30)).alloc (.cells #[.int .i64 lo, .int .i64 va, .slice B n d] 30)) := ((Below.refl _ _).alloc (Nat.le_refl _) _).alloc (by simp) _
  refine (eqpc_any A B n c d x _ hn (hx.go HB0) (hy.go HB0)).mono ?_
  rintro e w1 ⟨rfl, hb⟩
  have HB := Lib.hid (HB0.trans (hb.mono HB0.size))
  clear HB0 hb
  go_wp2_with fail
  go_ret
  exact ⟨rfl, HB.out⟩
end Go.Proofs.Ytjdagpmfnmodbaa
