/- math/bits: LeadingZeros32 shifts a word up to its highest place. No condition. -/
import Derived.Test.YtflfbbdapbjaaaaDoorLgK
import Derived.Shelf.Small.Bits
import Derived.Lib.ItoaNum
namespace Go.Proofs.YtflfbbdapbjaaaaDoor
open Go.RowKit
def len32_ren : Go.Shelf.Ren := ⟨fun | 128 => 66 | _ => 0, fun | 3 => 3 | 4 => 4 | 5 => 5 | 9 => 9 | 46 => 62 | 51 => 57 | _ => 0, fun _ => 0⟩
set_option maxRecDepth 100000 in
theorem len32S : Go.Proofs.Lays.n128 Tryd.prog len32_ren := {
  mixed := by kernel_rfl,
  f128 := Tryd.func66.trans (congrArg some (by kernel_rfl)),
  t3 := Tryd.underlying3, a3 := Tryd.isAgg3, z3 := Tryd.sizeOf3, v3 := Tryd.zeroValue3,
  t4 := Tryd.underlying4, a4 := Tryd.isAgg4, z4 := Tryd.sizeOf4, v4 := Tryd.zeroValue4,
  t5 := Tryd.underlying5, a5 := Tryd.isAgg5, z5 := Tryd.sizeOf5, v5 := Tryd.zeroValue5,
  t9 := Tryd.underlying9, a9 := Tryd.isAgg9, z9 := Tryd.sizeOf9, v9 := Tryd.zeroValue9,
  t46 := Tryd.underlying62, a46 := Tryd.isAgg62, z46 := Tryd.sizeOf62, v46 := Tryd.zeroValue62,
  t51 := Tryd.underlying57, a51 := Tryd.isAgg57, z51 := Tryd.sizeOf57, v51 := Tryd.zeroValue57 }
theorem lead_any (x : Nat) (hx : x < 4294967296) (h0 : x ≠ 0) (w : World) : ∃ s : Nat, s ≤ 31 ∧ 2147483648 ≤ x * 2 ^ s ∧ x * 2 ^ s < 4294967296 ∧
    Calls Tryd.prog 52 #[.int .u32 (x : Int)] w fun e w' => e = .returned (.int .i64 (s : Int)) ∧ w' = w := by
  have hb := Lib.bitLenAux_bounds 64 x (by have : (2 : Nat) ^ 64 = 18446744073709551616 := rfl; omega) h0
  have hl := Lib.bitLen_le x 32 (by omega) (by have : (2 : Nat) ^ 32 = 4294967296 := rfl; omega)
  have HC := Lib.hid (Any.bits_Len32 len32S (x : Int) w (by omega) (by omega))
  have e : ((x : Int)).toNat = x := by omega
  rw [e] at HC
  have e2 : Lib.bitLenAux 64 x = Lib.bitLen x := rfl
  rw [e2] at hb
  generalize Lib.bitLen x = L at *
  obtain ⟨b1, b2, b3⟩ := hb
  have k1 : (2 : Nat) ^ (L - 1) * 2 ^ (32 - L) = 2147483648 := by rw [← Nat.pow_add, show L - 1 + (32 - L) = 31 by omega]
  have k2 : (2 : Nat) ^ L * 2 ^ (32 - L) = 4294967296 := by rw [← Nat.pow_add, show L + (32 - L) = 32 by omega]
  refine ⟨32 - L, by omega, ?_, ?_, ?_⟩
  · rw [← k1]; exact Nat.mul_le_mul_right _ b2
  · rw [← k2]; exact Nat.mul_lt_mul_of_pos_right b3 (Nat.pow_pos (by omega))
  · obtain ⟨s, hs⟩ : ∃ s : Nat, s = 32 - L := ⟨_, rfl⟩
    rw [← hs]
    have ws : IntKind.i64.wrap (32 - (L : Int)) = (s : Int) := by rw [show 32 - (L : Int) = (s : Int) by omega]; exact IntWalk.i64_in _ (by omega)
    clear hs k1 k2 b1 b2 b3 e e2 hl
    have HC2 : Hid (Calls Tryd.prog 66 #[.int .u32 (x : Int)] w fun e w' => e = .returned (.int .i64 (L : Int)) ∧ w' = w) := HC.out
    clear HC
    go_enter Tryd.func52, Tryd.ntmps52
    go_wp2_with fail
    refine HC2.out.mono ?_
    rintro e w1 ⟨rfl, rfl⟩
    go_wp2_with fail
    go_ret
    exact ⟨rfl, rfl⟩
end Go.Proofs.YtflfbbdapbjaaaaDoor
