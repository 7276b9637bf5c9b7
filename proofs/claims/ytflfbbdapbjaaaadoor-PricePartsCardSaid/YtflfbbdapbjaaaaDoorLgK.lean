/- Package large: shifted answers as integers. Condition: the words read; there are at most 2^45 of them. -/
import Derived.Test.YtflfbbdapbjaaaaDoorLgJ
namespace Go.Proofs.YtflfbbdapbjaaaaDoor
open Go.RowKit
set_option maxRecDepth 100000
/-- what shifted returns: words of its own -/
def ShSaid (v n : Nat) (w : World) (e : Ending) (w' : World) : Prop :=
  ∃ (g : Nat) (l : List Nat), e = .returned (.slice (some ⟨g, 0, none⟩) n n) ∧ l.length = n ∧ Pl.W32 l ∧ Pl.lv l = v ∧ WB w' g l ∧ w.heap.size ≤ g ∧ Below w.heap.size w w'
set_option maxHeartbeats 3200000 in
theorem shifted_any (A : Option Addr) (n c : Nat) (la : List Nat) (s : Nat) (w : World) (hn : n ≤ 35184372088832) (ha : Reads w w.heap.size 1 A n (u32s la)) (ca : Pl.W32 la) (hs : s ≤ 31) :
    Calls Tryd.prog 53 #[.slice A n c, .int .i64 (s : Int)] w (ShSaid (Pl.lv la * 2 ^ s) (n + 1) w) := by
  have H := Lib.hid ha
  have HLA := Lib.hid (u32_len ha)
  have HCA := Lib.hid ca
  clear ha ca
  obtain ⟨p, hp⟩ : ∃ p : Nat, p = 2 ^ s := ⟨_, rfl⟩
  have hp0 : 1 ≤ p := by rw [hp]; exact Nat.pow_pos (by omega)
  have hpb : p ≤ 2147483648 := by rw [hp, show 2147483648 = 2 ^ 31 by rfl]; exact Nat.pow_le_pow_right (by omega) hs
  have HPS := Lib.hid hp
  rw [← hp]
  obtain ⟨z, hz⟩ : ∃ z : Nat, z = n + 1 := ⟨_, rfl⟩
  have wn1 : IntKind.i64.wrap ((n : Int) + 1) = (z : Int) := by rw [show (z : Int) = (n : Int) + 1 by omega]; exact IntWalk.i64_in _ (by omega)
  have hmk := fun W => make_u32 z (by omega) W
  rw [← hz]
  have HZ := Lib.hid hz
  have hz1 : n < z := by omega
  clear hz hp
  go_enter Tryd.func53, Tryd.ntmps53
  go_wp2_with fail
  have B0 := Lib.hid (WB.new_ w z)
  have D0 := Lib.hid ((Below.refl w.heap.size w).alloc (Nat.le_refl _) (.cells (u32s (List.replicate z 0)).toArray 57))
  generalize (w.alloc (.cells (u32s (List.replicate z 0)).toArray 57)) = w1 at *
  clear hmk wn1
  go_loopw [6, 15] (fun cv iv wr => ∃ (k cy : Nat) (pre : List Nat), k ≤ n ∧ iv = .int .i64 (k : Int) ∧ cv = .int .u64 (cy : Int) ∧ cy < p ∧ Hid (pre.length = k ∧ Pl.W32 pre ∧ Pl.lv pre + 4294967296 ^ k * cy = Pl.lv (la.take k) * p) ∧ Hid (WB wr w.heap.size (pre ++ List.replicate (z - k) 0)) ∧ Hid (Below w.heap.size w wr)) (fun _ iv _ => n - (intOf iv).toNat)
  case atStart => exact ⟨0, 0, [], Nat.zero_le _, rfl, rfl, by omega, Lib.hid ⟨rfl, Pl.W32.nil, by simp [Pl.lv]⟩, B0.out, D0.out⟩
  case round =>
    obtain ⟨k, cy, pre, hk, rfl, rfl, hcy, HP, HW, HD⟩ := hrel
    have k3 : (k : Int) < (z : Int) := by omega
    have k0 : (0 : Int) ≤ (k : Int) := by omega
    obtain ⟨v0, c0⟩ := HW.out.ex (k := k) (by have := HP.out.1; have := HZ.out; simp; omega)
    have f0 := HW.out.frozen k
    have l0 := HW.out.lt
    by_cases hlt : k < n
    · obtain ⟨b, o, rfl, hb1, hkl, y0⟩ := u32_at (H.out.below HD.out) hlt
      have hbr : b < wr.heap.size := by have := HD.out.size; omega
      have hxb := HCA.out.at_ hkl
      have HX : Hid (∃ x, x = la[k]) := ⟨_, rfl⟩
      obtain ⟨x, hx⟩ := HX.out
      rw [← hx] at y0 hxb
      have HXE := Lib.hid hx
      have k1 : (k : Int) < (n : Int) := by omega
      clear hx HX
      obtain ⟨y, hy⟩ : ∃ y : Nat, y = x * p := ⟨_, rfl⟩
      have hyb : y ≤ 4294967295 * p := by rw [hy]; exact Nat.mul_le_mul_right p (by omega)
      have wsh : IntKind.u64.wrap ((x : Int) * 2 ^ s) = (y : Int) := by
        have e : (x : Int) * 2 ^ s = (y : Int) := by rw [hy, HPS.out, Int.natCast_mul, Int.natCast_pow]; rfl
        rw [e]; exact IntWalk.u64_in _ (by omega)
      obtain ⟨t, ht⟩ : ∃ t : Nat, t = cy + y := ⟨_, rfl⟩
      have hor : bits .or .u64 (cy : Int) (y : Int) = (t : Int) := by
        rw [ht, hy, HPS.out]
        exact or_lo cy x s (by rw [← HPS.out]; exact hcy) (by rw [← HPS.out, ← hy]; omega) (by omega)
      obtain ⟨r, hr⟩ : ∃ r, r = t % 4294967296 := ⟨_, rfl⟩
      obtain ⟨q, hq⟩ : ∃ q, q = t / 4294967296 := ⟨_, rfl⟩
      have em : (t : Int) % 4294967296 = (r : Int) := by omega
      have ed : (t : Int) / 4294967296 = (q : Int) := by omega
      have hq1 : q < p := by omega
      have hrb : r < 4294967296 := by omega
      have HP2 : Hid ((pre ++ [r]).length = k + 1 ∧ Pl.W32 (pre ++ [r]) ∧ Pl.lv (pre ++ [r]) + 4294967296 ^ (k + 1) * q = Pl.lv (la.take (k + 1)) * p) := by
        refine ⟨by simp [HP.out.1], HP.out.2.1.append (Pl.W32.one hrb), ?_⟩
        have h1 := Pl.word_step HP.out.1 HP.out.2.2 ht
        rw [← hr, ← hq] at h1
        rw [h1, Pl.lv_take_succ hkl, ← HXE.out, hy, Nat.add_mul, Nat.mul_assoc]
      have HW2 : Hid (WB (wr.setCell ⟨w.heap.size, k, none⟩ (.int .u32 (r : Int))) w.heap.size ((pre ++ [r]) ++ List.replicate (z - (k + 1)) 0)) := by
        have h1 := HW.out.set_ k r
        have h2 := set_next pre (z - (k + 1)) r
        rw [HP.out.1, show z - (k + 1) + 1 = z - k by omega] at h2
        rw [h2] at h1
        exact h1
      have HD2 : Hid (Below w.heap.size w (wr.setCell ⟨w.heap.size, k, none⟩ (.int .u32 (r : Int)))) := HD.out.setCell (Nat.le_refl _) _
      clear HP HW HD ht hr hq hy
      go_wp2_with fail
      refine ⟨⟨k + 1, q, pre ++ [r], by omega, by go_num, rfl, hq1, HP2, HW2, HD2⟩, ?_⟩
      simp [intOf]; omega
    · have hkn : k = n := by omega
      subst hkn
      have k1 : ¬ (k : Int) < (k : Int) := by omega
      have em : (cy : Int) % 4294967296 = (cy : Int) := by omega
      have HW2 : Hid (WB (wr.setCell ⟨w.heap.size, k, none⟩ (.int .u32 (cy : Int))) w.heap.size (pre ++ [cy])) := by
        have h1 := HW.out.set_ k cy
        have h2 := set_next pre (z - (k + 1)) cy
        have h3 := HZ.out
        rw [HP.out.1, show z - (k + 1) + 1 = z - k by omega] at h2
        rw [h2, show z - (k + 1) = 0 by omega] at h1
        exact Lib.hid (by simpa using h1)
      have HD2 : Hid (Below w.heap.size w (wr.setCell ⟨w.heap.size, k, none⟩ (.int .u32 (cy : Int)))) := HD.out.setCell (Nat.le_refl _) _
      have HV : Hid (Pl.lv (pre ++ [cy]) = Pl.lv la * p ∧ Pl.W32 (pre ++ [cy]) ∧ (pre ++ [cy]).length = z) := by
        refine ⟨?_, HP.out.2.1.append (Pl.W32.one (by omega)), by have := HZ.out; simp [HP.out.1]; omega⟩
        rw [Pl.lv_snoc, HP.out.1, HP.out.2.2, take_all HLA.out (Nat.le_refl _)]
      clear HP HW HD HZ
      go_wp2_with fail
      go_ret
      exact ⟨_, _, rfl, HV.out.2.2, HV.out.2.1, HV.out.1, HW2.out, Nat.le_refl _, HD2.out⟩
end Go.Proofs.YtflfbbdapbjaaaaDoor
