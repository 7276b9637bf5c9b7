/- Package large: addWords, subWords answer as integers. Condition: the words read. -/
import Derived.Test.YtflfbbdapbjaaaaDoorLgC
namespace Go.Proofs.YtflfbbdapbjaaaaDoor
open Go.RowKit
set_option maxRecDepth 100000
/-- what a function on words returns: a slice of words of this value -/
def WordsSaid (v bound : Nat) (w : World) (e : Ending) (w' : World) : Prop :=
  ∃ (A : Option Addr) (n c : Nat) (l : List Nat), e = .returned (.slice A n c) ∧ n ≤ c ∧ n ≤ bound ∧ Pl.W32 l ∧ Pl.lv l = v ∧ Reads w' w'.heap.size 1 A n (u32s l) ∧ Below w.heap.size w w'
theorem set_next (pre : List Nat) (m x : Nat) : (pre ++ List.replicate (m + 1) 0).set pre.length x = (pre ++ [x]) ++ List.replicate m 0 := by
  rw [List.set_append_right _ _ (Nat.le_refl _), Nat.sub_self, List.replicate_succ, List.set_cons_zero, List.append_assoc]
  rfl
theorem take_all {l : List Nat} {n k : Nat} (h : l.length = n) (hk : n ≤ k) : l.take k = l := List.take_of_length_le (by omega)
set_option maxHeartbeats 3200000 in
theorem addw_any (A : Option Addr) (n c : Nat) (la : List Nat) (B : Option Addr) (m d : Nat) (lb : List Nat) (w : World) (hn : n ≤ 35184372088832) (hm : m ≤ 35184372088832) (ha : Reads w w.heap.size 1 A n (u32s la)) (hb : Reads w w.heap.size 1 B m (u32s lb)) (ca : Pl.W32 la) (cb : Pl.W32 lb) :
    Calls Tryd.prog 27 #[.slice A n c, .slice B m d] w (WordsSaid (Pl.lv la + Pl.lv lb) (max n m + 1) w) := by
  have H := Lib.hid ha
  have H' := Lib.hid hb
  have HLA := Lib.hid (u32_len ha)
  have HLB := Lib.hid (u32_len hb)
  have HCA := Lib.hid ca
  have HCB := Lib.hid cb
  clear ha hb ca cb
  by_cases hnm : n < m
  · have hnmi : (n : Int) < (m : Int) := by omega
    obtain ⟨z, hz⟩ : ∃ z : Nat, z = m + 1 := ⟨_, rfl⟩
    have wn1 : IntKind.i64.wrap ((m : Int) + 1) = (z : Int) := by rw [show (z : Int) = (m : Int) + 1 by omega]; exact IntWalk.i64_in _ (by omega)
    have hmk := fun W => make_u32 z (by omega) W
    have HZ := Lib.hid hz
    have hz1 : m < z := by omega
    clear hz
    go_enter Tryd.func27, Tryd.ntmps27
    go_wp2_with fail
    have B0 := Lib.hid (WB.new_ w z)
    have D0 := Lib.hid ((Below.refl w.heap.size w).alloc (Nat.le_refl _) (.cells (u32s (List.replicate z 0)).toArray 57))
    generalize (w.alloc (.cells (u32s (List.replicate z 0)).toArray 57)) = w1 at *
    clear hmk
    clear wn1
    go_loopw [6, 21] (fun cv i wr => ∃ (k cy : Nat) (pre : List Nat), k ≤ m ∧ i = .int .i64 (k : Int) ∧ cv = .int .u64 (cy : Int) ∧ cy ≤ 1 ∧ Hid (pre.length = k ∧ Pl.W32 pre ∧ Pl.lv pre + 4294967296 ^ k * cy = Pl.lv (lb.take k) + Pl.lv (la.take k)) ∧ Hid (WB wr w.heap.size (pre ++ List.replicate (z - k) 0)) ∧ Hid (Below w.heap.size w wr)) (fun _ i _ => m - (intOf i).toNat)
    case atStart => exact ⟨0, 0, [], Nat.zero_le _, rfl, rfl, by omega, Lib.hid ⟨rfl, Pl.W32.nil, by simp [Pl.lv]⟩, B0.out, D0.out⟩
    case round =>
      obtain ⟨k, cy, pre, hk, rfl, rfl, hcy, HP, HW, HD⟩ := hrel
      by_cases hlt : k < m
      · obtain ⟨b, o, rfl, hb1, hkl, y0⟩ := u32_at (H'.out.below HD.out) hlt
        have hbr : b < wr.heap.size := by have := HD.out.size; omega
        have hxb := HCB.out.at_ hkl
        have HX : Hid (∃ x, x = lb[k]) := ⟨_, rfl⟩
        obtain ⟨x, hx⟩ := HX.out
        rw [← hx] at y0 hxb
        have HXE := Lib.hid hx
        have k0 : (0 : Int) ≤ (k : Int) := by omega
        have k1 : (k : Int) < (m : Int) := by omega
        clear hx HX
        obtain ⟨v0, c0⟩ := HW.out.ex (k := k) (by have := HP.out.1; have := HZ.out; simp; omega)
        have f0 := HW.out.frozen k
        have l0 := HW.out.lt
        have k3 : (k : Int) < (z : Int) := by omega
        have ws1 : IntKind.u64.wrap ((cy : Int) + (x : Int)) = (cy : Int) + (x : Int) := IntWalk.u64_in _ (by omega)
        by_cases hkm : k < n
        · have k2 : (k : Int) < (n : Int) := by omega
          obtain ⟨b', o', rfl, hb2, hkl', y1⟩ := u32_at (H.out.below HD.out) hkm
          have hbr2 : b' < wr.heap.size := by have := HD.out.size; omega
          have hyb := HCA.out.at_ hkl'
          have HY : Hid (∃ y, y = la[k]) := ⟨_, rfl⟩
          obtain ⟨y, hy⟩ := HY.out
          rw [← hy] at y1 hyb
          have HYE := Lib.hid hy
          clear hy HY
          obtain ⟨s, hs⟩ : ∃ s, s = cy + (x + y) := ⟨_, rfl⟩
          obtain ⟨r, hr⟩ : ∃ r, r = s % 4294967296 := ⟨_, rfl⟩
          obtain ⟨q, hq⟩ : ∃ q, q = s / 4294967296 := ⟨_, rfl⟩
          have ws2 : IntKind.u64.wrap ((cy : Int) + (x : Int) + (y : Int)) = (s : Int) := by rw [show (s : Int) = (cy : Int) + x + y by omega]; exact IntWalk.u64_in _ (by omega)
          have em : (s : Int) % 4294967296 = (r : Int) := by omega
          have ed : (s : Int) / 4294967296 = (q : Int) := by omega
          have hq1 : q ≤ 1 := by omega
          have hrb : r < 4294967296 := by omega
          have HP2 : Hid ((pre ++ [r]).length = k + 1 ∧ Pl.W32 (pre ++ [r]) ∧ Pl.lv (pre ++ [r]) + 4294967296 ^ (k + 1) * q = Pl.lv (lb.take (k + 1)) + Pl.lv (la.take (k + 1))) := by
            refine ⟨by simp [HP.out.1], HP.out.2.1.append (Pl.W32.one hrb), ?_⟩
            have h1 := Pl.word_step HP.out.1 HP.out.2.2 hs
            rw [← hr, ← hq] at h1
            rw [h1, Pl.lv_take_succ hkl, Pl.lv_take_succ hkl', ← HXE.out, ← HYE.out, Nat.mul_add]
            omega
          have HW2 : Hid (WB (wr.setCell ⟨w.heap.size, k, none⟩ (.int .u32 (r : Int))) w.heap.size ((pre ++ [r]) ++ List.replicate (z - (k + 1)) 0)) := by
            have h1 := HW.out.set_ k r
            have h2 := set_next pre (z - (k + 1)) r
            rw [HP.out.1, show z - (k + 1) + 1 = z - k by omega] at h2
            rw [h2] at h1
            exact h1
          have HD2 : Hid (Below w.heap.size w (wr.setCell ⟨w.heap.size, k, none⟩ (.int .u32 (r : Int)))) := HD.out.setCell (Nat.le_refl _) _
          clear HP HW HD hs hr hq
          go_wp2_with fail
          refine ⟨⟨k + 1, q, pre ++ [r], by omega, by go_num, rfl, hq1, HP2, HW2, HD2⟩, ?_⟩
          simp [intOf]; omega
        · have k2 : ¬ (k : Int) < (n : Int) := by omega
          obtain ⟨s, hs⟩ : ∃ s, s = cy + x := ⟨_, rfl⟩
          obtain ⟨r, hr⟩ : ∃ r, r = s % 4294967296 := ⟨_, rfl⟩
          obtain ⟨q, hq⟩ : ∃ q, q = s / 4294967296 := ⟨_, rfl⟩
          have em : ((cy : Int) + (x : Int)) % 4294967296 = (r : Int) := by omega
          have ed : ((cy : Int) + (x : Int)) / 4294967296 = (q : Int) := by omega
          have hq1 : q ≤ 1 := by omega
          have hrb : r < 4294967296 := by omega
          have HP2 : Hid ((pre ++ [r]).length = k + 1 ∧ Pl.W32 (pre ++ [r]) ∧ Pl.lv (pre ++ [r]) + 4294967296 ^ (k + 1) * q = Pl.lv (lb.take (k + 1)) + Pl.lv (la.take (k + 1))) := by
            refine ⟨by simp [HP.out.1], HP.out.2.1.append (Pl.W32.one hrb), ?_⟩
            have h1 := Pl.word_step HP.out.1 HP.out.2.2 hs
            rw [← hr, ← hq] at h1
            rw [h1, Pl.lv_take_succ hkl, ← HXE.out, take_all HLA.out (by omega), take_all HLA.out (by omega)]
            omega
          have HW2 : Hid (WB (wr.setCell ⟨w.heap.size, k, none⟩ (.int .u32 (r : Int))) w.heap.size ((pre ++ [r]) ++ List.replicate (z - (k + 1)) 0)) := by
            have h1 := HW.out.set_ k r
            have h2 := set_next pre (z - (k + 1)) r
            rw [HP.out.1, show z - (k + 1) + 1 = z - k by omega] at h2
            rw [h2] at h1
            exact h1
          have HD2 : Hid (Below w.heap.size w (wr.setCell ⟨w.heap.size, k, none⟩ (.int .u32 (r : Int)))) := HD.out.setCell (Nat.le_refl _) _
          clear HP HW HD hs hr hq
          go_wp2_with fail
          refine ⟨⟨k + 1, q, pre ++ [r], by omega, by go_num, rfl, hq1, HP2, HW2, HD2⟩, ?_⟩
          simp [intOf]; omega
      · have hkn : k = m := by omega
        subst hkn
        have k1 : ¬ (k : Int) < (k : Int) := by omega
        obtain ⟨v0, c0⟩ := HW.out.ex (k := k) (by have := HP.out.1; have := HZ.out; simp; omega)
        have f0 := HW.out.frozen k
        have l0 := HW.out.lt
        have k3 : (k : Int) < (z : Int) := by omega
        have k0 : (0 : Int) ≤ (k : Int) := by omega
        have em : (cy : Int) % 4294967296 = (cy : Int) := by omega
        have HW2 : Hid (WB (wr.setCell ⟨w.heap.size, k, none⟩ (.int .u32 (cy : Int))) w.heap.size (pre ++ [cy])) := by
          have h1 := HW.out.set_ k cy
          have h2 := set_next pre (z - (k + 1)) cy
          have h3 := HZ.out
          rw [HP.out.1, show z - (k + 1) + 1 = z - k by omega] at h2
          rw [h2, show z - (k + 1) = 0 by omega] at h1
          exact Lib.hid (by simpa using h1)
        have HD2 : Hid (Below w.heap.size w (wr.setCell ⟨w.heap.size, k, none⟩ (.int .u32 (cy : Int)))) := HD.out.setCell (Nat.le_refl _) _
        have HV : Hid (Pl.lv (pre ++ [cy]) = Pl.lv la + Pl.lv lb ∧ Pl.W32 (pre ++ [cy]) ∧ (pre ++ [cy]).length = z) := by
          refine ⟨?_, HP.out.2.1.append (Pl.W32.one (by omega)), by have := HZ.out; simp [HP.out.1]; omega⟩
          rw [Pl.lv_snoc, HP.out.1, HP.out.2.2, take_all HLB.out (Nat.le_refl _), take_all HLA.out (by omega)]
          all_goals omega
        have HZ2 := Lib.hid HZ.out
        clear HP HW HD HZ
        go_wp2_with fail
        go_ret
        have hr := HW2.out.reads
        rw [HV.out.2.2] at hr
        exact ⟨_, z, z, _, rfl, Nat.le_refl _, by have := HZ2.out; omega, HV.out.2.1, HV.out.1, hr, HD2.out⟩
  · have hnmi : ¬ (n : Int) < (m : Int) := by omega
    obtain ⟨z, hz⟩ : ∃ z : Nat, z = n + 1 := ⟨_, rfl⟩
    have wn1 : IntKind.i64.wrap ((n : Int) + 1) = (z : Int) := by rw [show (z : Int) = (n : Int) + 1 by omega]; exact IntWalk.i64_in _ (by omega)
    have hmk := fun W => make_u32 z (by omega) W
    have HZ := Lib.hid hz
    have hz1 : n < z := by omega
    clear hz
    go_enter Tryd.func27, Tryd.ntmps27
    go_wp2_with fail
    have B0 := Lib.hid (WB.new_ w z)
    have D0 := Lib.hid ((Below.refl w.heap.size w).alloc (Nat.le_refl _) (.cells (u32s (List.replicate z 0)).toArray 57))
    generalize (w.alloc (.cells (u32s (List.replicate z 0)).toArray 57)) = w1 at *
    clear hmk
    clear wn1
    go_loopw [6, 21] (fun cv i wr => ∃ (k cy : Nat) (pre : List Nat), k ≤ n ∧ i = .int .i64 (k : Int) ∧ cv = .int .u64 (cy : Int) ∧ cy ≤ 1 ∧ Hid (pre.length = k ∧ Pl.W32 pre ∧ Pl.lv pre + 4294967296 ^ k * cy = Pl.lv (la.take k) + Pl.lv (lb.take k)) ∧ Hid (WB wr w.heap.size (pre ++ List.replicate (z - k) 0)) ∧ Hid (Below w.heap.size w wr)) (fun _ i _ => n - (intOf i).toNat)
    case atStart => exact ⟨0, 0, [], Nat.zero_le _, rfl, rfl, by omega, Lib.hid ⟨rfl, Pl.W32.nil, by simp [Pl.lv]⟩, B0.out, D0.out⟩
    case round =>
      obtain ⟨k, cy, pre, hk, rfl, rfl, hcy, HP, HW, HD⟩ := hrel
      by_cases hlt : k < n
      · obtain ⟨b, o, rfl, hb1, hkl, y0⟩ := u32_at (H.out.below HD.out) hlt
        have hbr : b < wr.heap.size := by have := HD.out.size; omega
        have hxb := HCA.out.at_ hkl
        have HX : Hid (∃ x, x = la[k]) := ⟨_, rfl⟩
        obtain ⟨x, hx⟩ := HX.out
        rw [← hx] at y0 hxb
        have HXE := Lib.hid hx
        have k0 : (0 : Int) ≤ (k : Int) := by omega
        have k1 : (k : Int) < (n : Int) := by omega
        clear hx HX
        obtain ⟨v0, c0⟩ := HW.out.ex (k := k) (by have := HP.out.1; have := HZ.out; simp; omega)
        have f0 := HW.out.frozen k
        have l0 := HW.out.lt
        have k3 : (k : Int) < (z : Int) := by omega
        have ws1 : IntKind.u64.wrap ((cy : Int) + (x : Int)) = (cy : Int) + (x : Int) := IntWalk.u64_in _ (by omega)
        by_cases hkm : k < m
        · have k2 : (k : Int) < (m : Int) := by omega
          obtain ⟨b', o', rfl, hb2, hkl', y1⟩ := u32_at (H'.out.below HD.out) hkm
          have hbr2 : b' < wr.heap.size := by have := HD.out.size; omega
          have hyb := HCB.out.at_ hkl'
          have HY : Hid (∃ y, y = lb[k]) := ⟨_, rfl⟩
          obtain ⟨y, hy⟩ := HY.out
          rw [← hy] at y1 hyb
          have HYE := Lib.hid hy
          clear hy HY
          obtain ⟨s, hs⟩ : ∃ s, s = cy + (x + y) := ⟨_, rfl⟩
          obtain ⟨r, hr⟩ : ∃ r, r = s % 4294967296 := ⟨_, rfl⟩
          obtain ⟨q, hq⟩ : ∃ q, q = s / 4294967296 := ⟨_, rfl⟩
          have ws2 : IntKind.u64.wrap ((cy : Int) + (x : Int) + (y : Int)) = (s : Int) := by rw [show (s : Int) = (cy : Int) + x + y by omega]; exact IntWalk.u64_in _ (by omega)
          have em : (s : Int) % 4294967296 = (r : Int) := by omega
          have ed : (s : Int) / 4294967296 = (q : Int) := by omega
          have hq1 : q ≤ 1 := by omega
          have hrb : r < 4294967296 := by omega
          have HP2 : Hid ((pre ++ [r]).length = k + 1 ∧ Pl.W32 (pre ++ [r]) ∧ Pl.lv (pre ++ [r]) + 4294967296 ^ (k + 1) * q = Pl.lv (la.take (k + 1)) + Pl.lv (lb.take (k + 1))) := by
            refine ⟨by simp [HP.out.1], HP.out.2.1.append (Pl.W32.one hrb), ?_⟩
            have h1 := Pl.word_step HP.out.1 HP.out.2.2 hs
            rw [← hr, ← hq] at h1
            rw [h1, Pl.lv_take_succ hkl, Pl.lv_take_succ hkl', ← HXE.out, ← HYE.out, Nat.mul_add]
            omega
          have HW2 : Hid (WB (wr.setCell ⟨w.heap.size, k, none⟩ (.int .u32 (r : Int))) w.heap.size ((pre ++ [r]) ++ List.replicate (z - (k + 1)) 0)) := by
            have h1 := HW.out.set_ k r
            have h2 := set_next pre (z - (k + 1)) r
            rw [HP.out.1, show z - (k + 1) + 1 = z - k by omega] at h2
            rw [h2] at h1
            exact h1
          have HD2 : Hid (Below w.heap.size w (wr.setCell ⟨w.heap.size, k, none⟩ (.int .u32 (r : Int)))) := HD.out.setCell (Nat.le_refl _) _
          clear HP HW HD hs hr hq
          go_wp2_with fail
          refine ⟨⟨k + 1, q, pre ++ [r], by omega, by go_num, rfl, hq1, HP2, HW2, HD2⟩, ?_⟩
          simp [intOf]; omega
        · have k2 : ¬ (k : Int) < (m : Int) := by omega
          obtain ⟨s, hs⟩ : ∃ s, s = cy + x := ⟨_, rfl⟩
          obtain ⟨r, hr⟩ : ∃ r, r = s % 4294967296 := ⟨_, rfl⟩
          obtain ⟨q, hq⟩ : ∃ q, q = s / 4294967296 := ⟨_, rfl⟩
          have em : ((cy : Int) + (x : Int)) % 4294967296 = (r : Int) := by omega
          have ed : ((cy : Int) + (x : Int)) / 4294967296 = (q : Int) := by omega
          have hq1 : q ≤ 1 := by omega
          have hrb : r < 4294967296 := by omega
          have HP2 : Hid ((pre ++ [r]).length = k + 1 ∧ Pl.W32 (pre ++ [r]) ∧ Pl.lv (pre ++ [r]) + 4294967296 ^ (k + 1) * q = Pl.lv (la.take (k + 1)) + Pl.lv (lb.take (k + 1))) := by
            refine ⟨by simp [HP.out.1], HP.out.2.1.append (Pl.W32.one hrb), ?_⟩
            have h1 := Pl.word_step HP.out.1 HP.out.2.2 hs
            rw [← hr, ← hq] at h1
            rw [h1, Pl.lv_take_succ hkl, ← HXE.out, take_all HLB.out (by omega), take_all HLB.out (by omega)]
            omega
          have HW2 : Hid (WB (wr.setCell ⟨w.heap.size, k, none⟩ (.int .u32 (r : Int))) w.heap.size ((pre ++ [r]) ++ List.replicate (z - (k + 1)) 0)) := by
            have h1 := HW.out.set_ k r
            have h2 := set_next pre (z - (k + 1)) r
            rw [HP.out.1, show z - (k + 1) + 1 = z - k by omega] at h2
            rw [h2] at h1
            exact h1
          have HD2 : Hid (Below w.heap.size w (wr.setCell ⟨w.heap.size, k, none⟩ (.int .u32 (r : Int)))) := HD.out.setCell (Nat.le_refl _) _
          clear HP HW HD hs hr hq
          go_wp2_with fail
          refine ⟨⟨k + 1, q, pre ++ [r], by omega, by go_num, rfl, hq1, HP2, HW2, HD2⟩, ?_⟩
          simp [intOf]; omega
      · have hkn : k = n := by omega
        subst hkn
        have k1 : ¬ (k : Int) < (k : Int) := by omega
        obtain ⟨v0, c0⟩ := HW.out.ex (k := k) (by have := HP.out.1; have := HZ.out; simp; omega)
        have f0 := HW.out.frozen k
        have l0 := HW.out.lt
        have k3 : (k : Int) < (z : Int) := by omega
        have k0 : (0 : Int) ≤ (k : Int) := by omega
        have em : (cy : Int) % 4294967296 = (cy : Int) := by omega
        have HW2 : Hid (WB (wr.setCell ⟨w.heap.size, k, none⟩ (.int .u32 (cy : Int))) w.heap.size (pre ++ [cy])) := by
          have h1 := HW.out.set_ k cy
          have h2 := set_next pre (z - (k + 1)) cy
          have h3 := HZ.out
          rw [HP.out.1, show z - (k + 1) + 1 = z - k by omega] at h2
          rw [h2, show z - (k + 1) = 0 by omega] at h1
          exact Lib.hid (by simpa using h1)
        have HD2 : Hid (Below w.heap.size w (wr.setCell ⟨w.heap.size, k, none⟩ (.int .u32 (cy : Int)))) := HD.out.setCell (Nat.le_refl _) _
        have HV : Hid (Pl.lv (pre ++ [cy]) = Pl.lv la + Pl.lv lb ∧ Pl.W32 (pre ++ [cy]) ∧ (pre ++ [cy]).length = z) := by
          refine ⟨?_, HP.out.2.1.append (Pl.W32.one (by omega)), by have := HZ.out; simp [HP.out.1]; omega⟩
          rw [Pl.lv_snoc, HP.out.1, HP.out.2.2, take_all HLA.out (Nat.le_refl _), take_all HLB.out (by omega)]
          all_goals omega
        have HZ2 := Lib.hid HZ.out
        clear HP HW HD HZ
        go_wp2_with fail
        go_ret
        have hr := HW2.out.reads
        rw [HV.out.2.2] at hr
        exact ⟨_, z, z, _, rfl, Nat.le_refl _, by have := HZ2.out; omega, HV.out.2.1, HV.out.1, hr, HD2.out⟩
end Go.Proofs.YtflfbbdapbjaaaaDoor
