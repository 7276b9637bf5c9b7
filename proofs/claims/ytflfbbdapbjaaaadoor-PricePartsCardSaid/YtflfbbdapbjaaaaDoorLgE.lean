/- Package large: subWords answers as integers. Condition: the words read; what is taken away is not larger. -/
import Derived.Test.YtflfbbdapbjaaaaDoorLgD
namespace Go.Proofs.YtflfbbdapbjaaaaDoor
open Go.RowKit
set_option maxRecDepth 100000
set_option maxHeartbeats 3200000 in
theorem subw_any (A : Option Addr) (n c : Nat) (la : List Nat) (B : Option Addr) (m d : Nat) (lb : List Nat) (w : World) (hn : n ≤ 35184372088832) (hm : m ≤ n) (ha : Reads w w.heap.size 1 A n (u32s la)) (hb : Reads w w.heap.size 1 B m (u32s lb)) (ca : Pl.W32 la) (cb : Pl.W32 lb) (hle : Pl.lv lb ≤ Pl.lv la) :
    Calls Tryd.prog 29 #[.slice A n c, .slice B m d] w (WordsSaid (Pl.lv la - Pl.lv lb) n w) := by
  have H := Lib.hid ha
  have H' := Lib.hid hb
  have HLA := Lib.hid (u32_len ha)
  have HLB := Lib.hid (u32_len hb)
  have HCA := Lib.hid ca
  have HCB := Lib.hid cb
  have HLE := Lib.hid hle
  clear ha hb ca cb hle
  have hmk := fun W => make_u32 n (by omega) W
  go_enter Tryd.func29, Tryd.ntmps29
  go_wp2_with fail
  have B0 := Lib.hid (WB.new_ w n)
  have D0 := Lib.hid ((Below.refl w.heap.size w).alloc (Nat.le_refl _) (.cells (u32s (List.replicate n 0)).toArray 57))
  generalize (w.alloc (.cells (u32s (List.replicate n 0)).toArray 57)) = w1 at *
  clear hmk
  go_loopw [6, 13] (fun cv i wr => ∃ (k : Nat) (cy : Int) (pre : List Nat), k ≤ n ∧ i = .int .i64 (k : Int) ∧ cv = .int .i64 cy ∧ (-1 ≤ cy ∧ cy ≤ 0) ∧ Hid (pre.length = k ∧ Pl.W32 pre ∧ (Pl.lv pre : Int) + 4294967296 ^ k * cy = (Pl.lv (la.take k) : Int) - (Pl.lv (lb.take k) : Int)) ∧ Hid (WB wr w.heap.size (pre ++ List.replicate (n - k) 0)) ∧ Hid (Below w.heap.size w wr)) (fun _ i _ => n - (intOf i).toNat)
  case atStart => exact ⟨0, 0, [], Nat.zero_le _, rfl, rfl, by omega, Lib.hid ⟨rfl, Pl.W32.nil, by simp [Pl.lv]⟩, B0.out, D0.out⟩
  case round =>
    obtain ⟨k, cy, pre, hk, rfl, rfl, ⟨hcy1, hcy2⟩, HP, HW, HD⟩ := hrel
    by_cases hlt : k < n
    · obtain ⟨b, o, rfl, hb1, hkl, y0⟩ := u32_at (H.out.below HD.out) hlt
      have hbr : b < wr.heap.size := by have := HD.out.size; omega
      have hxb := HCA.out.at_ hkl
      have HX : Hid (∃ x, x = la[k]) := ⟨_, rfl⟩
      obtain ⟨x, hx⟩ := HX.out
      rw [← hx] at y0 hxb
      have HXE := Lib.hid hx
      have k0 : (0 : Int) ≤ (k : Int) := by omega
      have k1 : (k : Int) < (n : Int) := by omega
      clear hx HX
      obtain ⟨v0, c0⟩ := HW.out.ex (k := k) (by have := HP.out.1; simp; omega)
      have f0 := HW.out.frozen k
      have l0 := HW.out.lt
      have ws0 : IntKind.i64.wrap (x : Int) = (x : Int) := IntWalk.i64_in _ (by omega)
      have ws1 : IntKind.i64.wrap (cy + (x : Int)) = cy + (x : Int) := IntWalk.i64_in _ (by omega)
      by_cases hkm : k < m
      · have k2 : (k : Int) < (m : Int) := by omega
        obtain ⟨b', o', rfl, hb2, hkl', y1⟩ := u32_at (H'.out.below HD.out) hkm
        have hbr2 : b' < wr.heap.size := by have := HD.out.size; omega
        have hyb := HCB.out.at_ hkl'
        have HY : Hid (∃ y, y = lb[k]) := ⟨_, rfl⟩
        obtain ⟨y, hy⟩ := HY.out
        rw [← hy] at y1 hyb
        have HYE := Lib.hid hy
        clear hy HY
        have wsy : IntKind.i64.wrap (y : Int) = (y : Int) := IntWalk.i64_in _ (by omega)
        have ws2 : IntKind.i64.wrap (cy + (x : Int) - (y : Int)) = cy + (x : Int) - (y : Int) := IntWalk.i64_in _ (by omega)
        obtain ⟨r, hr⟩ : ∃ r : Nat, r = ((cy + (x : Int) - (y : Int)) % 4294967296).toNat := ⟨_, rfl⟩
        obtain ⟨q, hq⟩ : ∃ q : Int, q = (cy + (x : Int) - (y : Int)) / 4294967296 := ⟨_, rfl⟩
        have em : (cy + (x : Int) - (y : Int)) % 4294967296 = (r : Int) := by omega
        have ed : (cy + (x : Int) - (y : Int)) / 4294967296 = q := hq.symm
        have hq1 : -1 ≤ q ∧ q ≤ 0 := by omega
        have hrb : r < 4294967296 := by omega
        have HP2 : Hid ((pre ++ [r]).length = k + 1 ∧ Pl.W32 (pre ++ [r]) ∧ (Pl.lv (pre ++ [r]) : Int) + 4294967296 ^ (k + 1) * q = (Pl.lv (la.take (k + 1)) : Int) - (Pl.lv (lb.take (k + 1)) : Int)) := by
          refine ⟨by simp [HP.out.1], HP.out.2.1.append (Pl.W32.one hrb), ?_⟩
          have h1 := Pl.sub_step HP.out.1 HP.out.2.2 (s := cy + (x : Int) - (y : Int)) rfl
          rw [← hr, ← hq] at h1
          rw [h1, Pl.lv_take_succ hkl, Pl.lv_take_succ hkl', ← HXE.out, ← HYE.out, Int.natCast_add, Int.natCast_add, Int.natCast_mul, Int.natCast_mul, Int.natCast_pow]
          rfl
        have HW2 : Hid (WB (wr.setCell ⟨w.heap.size, k, none⟩ (.int .u32 (r : Int))) w.heap.size ((pre ++ [r]) ++ List.replicate (n - (k + 1)) 0)) := by
          have h1 := HW.out.set_ k r
          have h2 := set_next pre (n - (k + 1)) r
          rw [HP.out.1, show n - (k + 1) + 1 = n - k by omega] at h2
          rw [h2] at h1
          exact h1
        have HD2 : Hid (Below w.heap.size w (wr.setCell ⟨w.heap.size, k, none⟩ (.int .u32 (r : Int)))) := HD.out.setCell (Nat.le_refl _) _
        clear HP HW HD hr hq
        go_wp2_with fail
        refine ⟨⟨k + 1, q, pre ++ [r], by omega, by go_num, rfl, hq1, HP2, HW2, HD2⟩, ?_⟩
        simp [intOf]; omega
      · have k2 : ¬ (k : Int) < (m : Int) := by omega
        obtain ⟨r, hr⟩ : ∃ r : Nat, r = ((cy + (x : Int)) % 4294967296).toNat := ⟨_, rfl⟩
        obtain ⟨q, hq⟩ : ∃ q : Int, q = (cy + (x : Int)) / 4294967296 := ⟨_, rfl⟩
        have em : (cy + (x : Int)) % 4294967296 = (r : Int) := by omega
        have ed : (cy + (x : Int)) / 4294967296 = q := hq.symm
        have hq1 : -1 ≤ q ∧ q ≤ 0 := by omega
        have hrb : r < 4294967296 := by omega
        have HP2 : Hid ((pre ++ [r]).length = k + 1 ∧ Pl.W32 (pre ++ [r]) ∧ (Pl.lv (pre ++ [r]) : Int) + 4294967296 ^ (k + 1) * q = (Pl.lv (la.take (k + 1)) : Int) - (Pl.lv (lb.take (k + 1)) : Int)) := by
          refine ⟨by simp [HP.out.1], HP.out.2.1.append (Pl.W32.one hrb), ?_⟩
          have h1 := Pl.sub_step HP.out.1 HP.out.2.2 (s := cy + (x : Int)) (x := x) (y := 0) (by omega)
          rw [← hr, ← hq] at h1
          rw [h1, Pl.lv_take_succ hkl, ← HXE.out, take_all HLB.out (by omega), take_all HLB.out (by omega), Int.natCast_add, Int.natCast_mul, Int.natCast_pow]
          simp
        have HW2 : Hid (WB (wr.setCell ⟨w.heap.size, k, none⟩ (.int .u32 (r : Int))) w.heap.size ((pre ++ [r]) ++ List.replicate (n - (k + 1)) 0)) := by
          have h1 := HW.out.set_ k r
          have h2 := set_next pre (n - (k + 1)) r
          rw [HP.out.1, show n - (k + 1) + 1 = n - k by omega] at h2
          rw [h2] at h1
          exact h1
        have HD2 : Hid (Below w.heap.size w (wr.setCell ⟨w.heap.size, k, none⟩ (.int .u32 (r : Int)))) := HD.out.setCell (Nat.le_refl _) _
        clear HP HW HD hr hq
        go_wp2_with fail
        refine ⟨⟨k + 1, q, pre ++ [r], by omega, by go_num, rfl, hq1, HP2, HW2, HD2⟩, ?_⟩
        simp [intOf]; omega
    · have hkn : k = n := by omega
      subst hkn
      have k1 : ¬ (k : Int) < (k : Int) := by omega
      have HV : Hid (Pl.lv pre = Pl.lv la - Pl.lv lb) := by
        have h1 := HP.out.2.2
        rw [take_all HLA.out (Nat.le_refl _), take_all HLB.out hm] at h1
        have h2 := Pl.lv_lt HP.out.2.1
        rw [HP.out.1] at h2
        have h3 := HLE.out
        have h4 : ((4294967296 ^ k : Nat) : Int) = (4294967296 : Int) ^ k := Int.natCast_pow _ _
        rw [← h4] at h1
        show _ = _
        rcases (show cy = 0 ∨ cy = -1 by omega) with e | e
        · rw [e] at h1; omega
        · rw [e] at h1
          exfalso
          have h5 : ((4294967296 ^ k : Nat) : Int) * (-1) = -((4294967296 ^ k : Nat) : Int) := by omega
          rw [h5] at h1
          generalize 4294967296 ^ k = P at *
          omega
      have HW2 : Hid (WB wr w.heap.size pre) := by
        have h1 := HW.out
        rw [Nat.sub_self, List.replicate_zero, List.append_nil] at h1
        exact h1
      go_wp2_with fail
      go_ret
      have hr := HW2.out.reads
      rw [HP.out.1] at hr
      exact ⟨_, k, k, _, rfl, Nat.le_refl _, Nat.le_refl _, HP.out.2.1, HV.out, hr, HD.out⟩
end Go.Proofs.YtflfbbdapbjaaaaDoor
