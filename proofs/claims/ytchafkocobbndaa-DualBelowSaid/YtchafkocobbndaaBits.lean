/- Bits of a number as a loop over patterns reads them; a block of integers as an owned row. No condition. -/
import Derived.Test.YtchafkocobbndaaQuiet
namespace Go.Proofs.Ytchafkocobbndaa
open Go.RowKit
theorem IBlk.own {w : World} {g base n : Nat} {t : TypeId} {os : List Int} (h : IBlk w g t os) (hn : os.length = n) (hb : base ≤ g) (hx : n ≤ 1000000) : w.ownsRow base t 1 (.slice (some ⟨g, 0, none⟩) n n) n (ints os) :=
  ⟨by simp [ints, hn], .inr ⟨g, n, (ints os).toArray, rfl, hb, h, Nat.le_refl _, by unfold maxLen; omega, by simp [ints, hn], by simp only [Nat.mul_one]; exact List.take_of_length_le (by simp [ints, hn])⟩⟩
theorem bits_one (a : Nat) (ha : a < 4611686018427387904) : bits BinOp.and IntKind.i64 (a : Int) 1 = ((a % 2 : Nat) : Int) := by
  have h1 : (BitVec.ofInt 64 (a : Int)).toNat = a := by
    rw [BitVec.ofInt_natCast, BitVec.toNat_ofNat]; exact Nat.mod_eq_of_lt (by omega)
  show IntKind.i64.wrap ((BitVec.ofInt 64 (a : Int) &&& BitVec.ofInt 64 1).toNat : Int) = _
  rw [BitVec.toNat_and, h1, show (BitVec.ofInt 64 1).toNat = 1 from rfl, Nat.and_one_is_mod]
  exact IntWalk.i64_in _ (by omega)
theorem bit_test (q j : Nat) (hq : q ≤ 256) : (bits BinOp.and IntKind.i64 ((q : Int) / 2 ^ j) 1 == 1) = q.testBit j := by
  have e : ((q : Int) / 2 ^ j) = ((q / 2 ^ j : Nat) : Int) := by push_cast; rfl
  have hl : q / 2 ^ j ≤ q := Nat.div_le_self _ _
  rw [e, bits_one _ (by omega), Nat.testBit_eq_decide_div_mod_eq]
  generalize q / 2 ^ j = z at *
  rcases Nat.mod_two_eq_zero_or_one z with h | h <;> rw [h] <;> rfl
theorem pow_wrap (k : Nat) (hk : k ≤ 8) : wrap64 ((2 : Int) ^ k) = ((2 ^ k : Nat) : Int) ∧ 2 ^ k ≤ 256 := by
  have kk : 2 ^ k ≤ 2 ^ 8 := Nat.pow_le_pow_right (by decide) hk
  have kk2 : 2 ^ k ≤ 256 := kk
  have e : ((2 : Int) ^ k) = ((2 ^ k : Nat) : Int) := by push_cast; rfl
  rw [e]
  clear kk e
  generalize 2 ^ k = z at *
  refine ⟨?_, kk2⟩
  unfold wrap64
  omega
end Go.Proofs.Ytchafkocobbndaa
