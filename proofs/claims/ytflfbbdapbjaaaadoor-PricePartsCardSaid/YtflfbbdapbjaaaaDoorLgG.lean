/- Package large: Mul answers as integers. Condition: the words read; there are at most 2^45 of them. -/
import Derived.Test.YtflfbbdapbjaaaaDoorLgF
namespace Go.Proofs.YtflfbbdapbjaaaaDoor
open Go.RowKit
set_option maxRecDepth 100000
theorem sgn_mul (a b : Int) : sgn (decide (a < 0) != decide (b < 0)) (a.natAbs * b.natAbs) = a * b := by
  unfold sgn
  have key : ((a.natAbs * b.natAbs : Nat) : Int) = (a.natAbs : Int) * (b.natAbs : Int) := Int.natCast_mul _ _
  rw [key]
  by_cases ha : a < 0 <;> by_cases hb : b < 0
  · have e1 : (a.natAbs : Int) = -a := by omega
    have e2 : (b.natAbs : Int) = -b := by omega
    simp only [ha, hb, decide_true, bne_self_eq_false, Bool.false_eq_true, if_false, e1, e2, Int.neg_mul_neg]
  · have e1 : (a.natAbs : Int) = -a := by omega
    have e2 : (b.natAbs : Int) = b := by omega
    simp [ha, hb, e1, e2, Int.neg_mul]
  · have e1 : (a.natAbs : Int) = a := by omega
    have e2 : (b.natAbs : Int) = -b := by omega
    simp [ha, hb, e1, e2, Int.mul_neg]
  · have e1 : (a.natAbs : Int) = a := by omega
    have e2 : (b.natAbs : Int) = b := by omega
    simp [ha, hb, e1, e2]
/-- what Mul has in memory: two boxes, the result's, the words of the product -/
structure MulW (w0 w : World) (b1 : Bool) (A1 : Option Addr) (n1 c1 : Nat) (b2 : Bool) (A2 : Option Addr) (n2 c2 : Nat) (g : Nat) (o : List Nat) : Prop where
  ar : Ar2 w w0.heap.size (w0.heap.size + 1) b1 A1 n1 c1 b2 A2 n2 c2
  res : Blk w (w0.heap.size + 1 + 1) 40 #[.bool false, .slice none 0 0]
  out : WB w g o
  w32 : Pl.W32 o
  bel : Below w0.heap.size w0 w
  gt : w0.heap.size + 1 + 1 < g
theorem MulW.set_ {w0 w : World} {b1 : Bool} {A1 : Option Addr} {n1 c1 : Nat} {b2 : Bool} {A2 : Option Addr} {n2 c2 g : Nat} {o : List Nat} (h : MulW w0 w b1 A1 n1 c1 b2 A2 n2 c2 g o) (k : Nat) {x : Nat} (hx : x < 4294967296) : MulW w0 (w.setCell ⟨g, k, none⟩ (.int .u32 (x : Int))) b1 A1 n1 c1 b2 A2 n2 c2 g (o.set k x) := by
  have := h.gt
  exact ⟨h.ar.far (by omega) (by omega) _ _, h.res.far (by show _ ≠ g; omega) _, h.out.set_ k x, h.w32.set k hx, h.bel.setCell (by show _ ≤ g; omega) _, h.gt⟩
set_option maxHeartbeats 6400000 in
theorem mul_any (a b : Int) (A : Option Addr) (c : Nat) (B : Option Addr) (d : Nat) (w : World) (ha : NumAt w w.heap.size a A c) (hb : NumAt w w.heap.size b B d) (sa : Pl.nw a.natAbs ≤ 35184372088832) (sb : Pl.nw b.natAbs ≤ 35184372088832) :
    Calls Tryd.prog 15 #[vNum a A c, vNum b B d] w (NumSaid (a * b) w) := by
  obtain ⟨hA, hB, hR, hD, hsz⟩ := boxes3 w #[.bool (decide (a < 0)), .slice A (Pl.nw a.natAbs) c] #[.bool (decide (b < 0)), .slice B (Pl.nw b.natAbs) d] #[.bool false, .slice none 0 0] 40
  have HNA := Lib.hid (ha.go hD)
  have HNB := Lib.hid (hb.go hD)
  have E := Lib.hid (sgn_mul a b)
  have HLA : Hid (Pl.lv (Pl.digs a.natAbs) = a.natAbs ∧ (Pl.digs a.natAbs).length = Pl.nw a.natAbs ∧ Pl.W32 (Pl.digs a.natAbs)) := ⟨Pl.lv_digs _, rfl, (Pl.digs_can _).1⟩
  have HLB : Hid (Pl.lv (Pl.digs b.natAbs) = b.natAbs ∧ (Pl.digs b.natAbs).length = Pl.nw b.natAbs ∧ Pl.W32 (Pl.digs b.natAbs)) := ⟨Pl.lv_digs _, rfl, (Pl.digs_can _).1⟩
  have HRA := Lib.hid HNA.out.2
  have HRB := Lib.hid HNB.out.2
  clear ha hb HNA HNB
  unfold vNum
  generalize Pl.digs a.natAbs = la at *
  generalize Pl.digs b.natAbs = lb at *
  generalize a * b = s at *
  generalize decide (a < 0) = b1 at *
  generalize decide (b < 0) = b2 at *
  generalize Pl.nw a.natAbs = n at *
  generalize Pl.nw b.natAbs = m at *
  obtain ⟨z, hz⟩ : ∃ z : Nat, z = n + m := ⟨_, rfl⟩
  have wz : IntKind.i64.wrap ((n : Int) + (m : Int)) = (z : Int) := by rw [show (z : Int) = (n : Int) + m by omega]; exact IntWalk.i64_in _ (by omega)
  have hmk := fun W => make_u32 z (by omega) W
  have HZ := Lib.hid hz
  have hzn : n ≤ z := by omega
  have hzb : z ≤ 70368744177664 := by omega
  clear hz
  have q1 := hA.cell
  have q2 := hB.cell
  have q3 := hA.lt
  have q4 := hB.lt
  have HAR := Lib.hid (And.intro hA (And.intro hB (And.intro hR (And.intro hD hsz))))
  clear hA hB hR hD hsz
  go_enter Tryd.func15, Tryd.ntmps15
  go_wp2_with fail
  have D9 := (Below.refl (((w.alloc (.cells #[.bool b1, .slice A n c] 40)).alloc (.cells #[.bool b2, .slice B m d] 40)).alloc (.cells #[.bool false, .slice none 0 0] 40)).heap.size (((w.alloc (.cells #[.bool b1, .slice A n c] 40)).alloc (.cells #[.bool b2, .slice B m d] 40)).alloc (.cells #[.bool false, .slice none 0 0] 40))).alloc (Nat.le_refl _) (.cells (u32s (List.replicate z 0)).toArray 57)
  have HM : Hid (MulW w _ b1 A n c b2 B m d (w.heap.size + 1 + 1 + 1) (List.replicate z 0)) := ⟨⟨HAR.out.1.go D9, HAR.out.2.1.go D9⟩, HAR.out.2.2.1.go D9, by have := WB.new_ (((w.alloc (.cells #[.bool b1, .slice A n c] 40)).alloc (.cells #[.bool b2, .slice B m d] 40)).alloc (.cells #[.bool false, .slice none 0 0] 40)) z; rw [HAR.out.2.2.2.2] at this; exact this, Pl.W32.zeros z, HAR.out.2.2.2.1.trans (D9.mono HAR.out.2.2.2.1.size), Nat.lt_succ_self _⟩
  have HB1 : Hid ((((w.alloc (.cells #[.bool b1, .slice A n c] 40)).alloc (.cells #[.bool b2, .slice B m d] 40)).alloc (.cells #[.bool false, .slice none 0 0] 40)).heap.size = w.heap.size + 1 + 1 + 1) := HAR.out.2.2.2.2
  generalize ((((w.alloc (.cells #[.bool b1, .slice A n c] 40)).alloc (.cells #[.bool b2, .slice B m d] 40)).alloc (.cells #[.bool false, .slice none 0 0] 40)).alloc (.cells (u32s (List.replicate z 0)).toArray 57)) = w1 at *
  generalize (((w.alloc (.cells #[.bool b1, .slice A n c] 40)).alloc (.cells #[.bool b2, .slice B m d] 40)).alloc (.cells #[.bool false, .slice none 0 0] 40)) = w3 at *
  have HRA2 := Lib.hid (HRA.out.below D9)
  have HRB2 := Lib.hid (HRB.out.below D9)
  have hs1 : w3.heap.size ≤ w1.heap.size := D9.size
  clear HAR q1 q2 q3 q4 D9 HRA HRB hmk wz
  go_loopw [22] (fun iv wr => ∃ (i : Nat) (o : List Nat), i ≤ n ∧ iv = .int .i64 (i : Int) ∧ Hid (MulW w wr b1 A n c b2 B m d (w.heap.size + 1 + 1 + 1) o) ∧ Hid (o.length = z ∧ Pl.lv o = Pl.lv (la.take i) * Pl.lv lb ∧ ∀ j (hj : j < o.length), i + m ≤ j → o[j] = 0) ∧ Hid (Below w3.heap.size w1 wr)) (fun iv _ => n - (intOf iv).toNat)
  case atStart => exact ⟨0, _, Nat.zero_le _, rfl, HM.out, Lib.hid ⟨by simp, by rw [Pl.lv_zeros, List.take_zero]; simp [Pl.lv], fun j hj _ => by simp⟩, Below.refl _ _⟩
  case round =>
    obtain ⟨i, o, hi, rfl, HW, HO, HD⟩ := hrel
    clear HM
    by_cases hlt : i < n
    · obtain ⟨bA, oA, rfl, hbA, hil, y0⟩ := u32_at (HRA2.out.below HD.out) hlt
      have hbr : bA < wr.heap.size := by have := HD.out.size; omega
      have hxb := HLA.out.2.2.at_ hil
      have HX : Hid (∃ x, x = la[i]) := ⟨_, rfl⟩
      obtain ⟨x, hx⟩ := HX.out
      rw [← hx] at y0 hxb
      have HXE := Lib.hid hx
      clear hx HX
      have i0 : (0 : Int) ≤ (i : Int) := by omega
      have i1 : (i : Int) < (n : Int) := by omega
      have q1 := HW.out.ar.1.cell
      have q2 := HW.out.ar.2.cell
      have q3 := HW.out.ar.1.lt
      have q4 := HW.out.ar.2.lt
      go_wp2_with fail
      clear q1 q2 q3 q4 y0
      go_loopw [8, 30] (fun cv kv wq => ∃ (k cy : Nat) (p : List Nat), k ≤ m ∧ kv = .int .i64 (k : Int) ∧ cv = .int .u64 (cy : Int) ∧ cy < 4294967296 ∧ Hid (MulW w wq b1 (some ⟨bA, oA, none⟩) n c b2 B m d (w.heap.size + 1 + 1 + 1) p) ∧ Hid (p.length = z ∧ Pl.lv p + 4294967296 ^ (i + k) * cy = Pl.lv (la.take i) * Pl.lv lb + 4294967296 ^ i * (x * Pl.lv (lb.take k)) ∧ ∀ j (hj : j < p.length), i + m ≤ j → p[j] = 0) ∧ Hid (Below w3.heap.size w1 wq)) (fun _ kv _ => m - (intOf kv).toNat)
      case atStart => exact ⟨0, 0, o, Nat.zero_le _, rfl, rfl, by omega, HW.out, Lib.hid ⟨HO.out.1, by rw [List.take_zero, HO.out.2.1]; simp [Pl.lv], HO.out.2.2⟩, HD.out⟩
      case round =>
        obtain ⟨k, cy, p, hk, rfl, rfl, hcy, HWQ, HP, HQ⟩ := hrel
        clear HW HO HD
        by_cases hkm : k < m
        · obtain ⟨bB, oB, rfl, hbB, hkl, y1⟩ := u32_at (HRB2.out.below HQ.out) hkm
          have hbr2 : bB < wr.heap.size := by have := HQ.out.size; omega
          have hyb := HLB.out.2.2.at_ hkl
          have HY : Hid (∃ y, y = lb[k]) := ⟨_, rfl⟩
          obtain ⟨y, hy⟩ := HY.out
          rw [← hy] at y1 hyb
          have HYE := Lib.hid hy
          clear hy HY
          have k0 : (0 : Int) ≤ (k : Int) := by omega
          have k1 : (k : Int) < (m : Int) := by omega
          obtain ⟨e, he⟩ : ∃ e : Nat, e = i + k := ⟨_, rfl⟩
          have wik : IntKind.i64.wrap ((i : Int) + (k : Int)) = (e : Int) := by rw [show (e : Int) = (i : Int) + k by omega]; exact IntWalk.i64_in _ (by omega)
          have hez : e < z := by have := HZ.out; omega
          have hel : e < p.length := by rw [HP.out.1]; exact hez
          have e0 : (0 : Int) ≤ (e : Int) := by omega
          have e1 : (e : Int) < (z : Int) := by omega
          have c0 := HWQ.out.out.at_ hel
          have f0 := HWQ.out.out.frozen e
          have l0 := HWQ.out.out.lt
          have hpe := HWQ.out.w32.at_ hel
          have HV : Hid (∃ v, v = p[e]) := ⟨_, rfl⟩
          obtain ⟨v, hv⟩ := HV.out
          rw [← hv] at c0 hpe
          have HVE := Lib.hid hv
          clear hv HV
          obtain ⟨u, hu⟩ : ∃ u : Nat, u = x * y := ⟨_, rfl⟩
          have hub : u ≤ 18446744065119617025 := by
            rw [hu]
            exact Nat.mul_le_mul (show x ≤ 4294967295 by omega) (show y ≤ 4294967295 by omega)
          have wu : IntKind.u64.wrap ((x : Int) * (y : Int)) = (u : Int) := by rw [hu, Int.natCast_mul]; exact IntWalk.u64_in _ (by rw [← Int.natCast_mul, ← hu]; omega)
          have wv : IntKind.u64.wrap ((v : Int) + (u : Int)) = (v : Int) + (u : Int) := IntWalk.u64_in _ (by omega)
          obtain ⟨t, ht⟩ : ∃ t : Nat, t = cy + v + u := ⟨_, rfl⟩
          have wt : IntKind.u64.wrap ((cy : Int) + ((v : Int) + (u : Int))) = (t : Int) := by rw [show (t : Int) = (cy : Int) + ((v : Int) + (u : Int)) by omega]; exact IntWalk.u64_in _ (by omega)
          obtain ⟨r, hr⟩ : ∃ r, r = t % 4294967296 := ⟨_, rfl⟩
          obtain ⟨q, hq⟩ : ∃ q, q = t / 4294967296 := ⟨_, rfl⟩
          have em : (t : Int) % 4294967296 = (r : Int) := by omega
          have ed : (t : Int) / 4294967296 = (q : Int) := by omega
          have hq1 : q < 4294967296 := by omega
          have hrb : r < 4294967296 := by omega
          have HW2 := Lib.hid (HWQ.out.set_ e hrb)
          have HP2 : Hid ((p.set e r).length = z ∧ Pl.lv (p.set e r) + 4294967296 ^ (i + (k + 1)) * q = Pl.lv (la.take i) * Pl.lv lb + 4294967296 ^ i * (x * Pl.lv (lb.take (k + 1))) ∧ ∀ j (hj : j < (p.set e r).length), i + m ≤ j → (p.set e r)[j] = 0) := by
            refine ⟨by rw [List.length_set]; exact HP.out.1, ?_, fun j hj hjm => ?_⟩
            · have h1 := HP.out.2.1
              rw [← he] at h1
              have h2 := Pl.mul_step hel h1 (s := t) (z := u) (by rw [← HVE.out]; exact ht)
              rw [← hr, ← hq] at h2
              rw [show i + (k + 1) = e + 1 by omega, h2, Pl.lv_take_succ hkl, ← HYE.out, hu, he, Nat.pow_add, Nat.mul_add, Nat.mul_add]
              have h3 : 4294967296 ^ i * 4294967296 ^ k * (x * y) = 4294967296 ^ i * (x * (4294967296 ^ k * y)) := by
                rw [Nat.mul_assoc, Nat.mul_left_comm (4294967296 ^ k)]
              rw [h3]
              omega
            · rw [List.getElem_set_ne (by omega)]
              exact HP.out.2.2 j (by rw [List.length_set] at hj; exact hj) hjm
          have HQ2 : Hid (Below w3.heap.size w1 (wr.setCell ⟨w.heap.size + 1 + 1 + 1, e, none⟩ (.int .u32 (r : Int)))) := HQ.out.setCell (by rw [HB1.out]; exact Nat.le_refl _) _
          clear HP HWQ HQ hr hq ht hu he
          go_wp2_with fail
          refine ⟨⟨k + 1, q, _, by omega, by go_num, rfl, hq1, HW2, HP2, HQ2⟩, ?_⟩
          simp [intOf]; omega
        · have hkk : k = m := by omega
          subst hkk
          have k1 : ¬ (k : Int) < (k : Int) := by omega
          obtain ⟨e, he⟩ : ∃ e : Nat, e = i + k := ⟨_, rfl⟩
          have wik : IntKind.i64.wrap ((i : Int) + (k : Int)) = (e : Int) := by rw [show (e : Int) = (i : Int) + k by omega]; exact IntWalk.i64_in _ (by omega)
          have hez : e < z := by have := HZ.out; omega
          have hel : e < p.length := by rw [HP.out.1]; exact hez
          have e0 : (0 : Int) ≤ (e : Int) := by omega
          have e1 : (e : Int) < (z : Int) := by omega
          obtain ⟨v0, c0⟩ := HWQ.out.out.ex hel
          have f0 := HWQ.out.out.frozen e
          have l0 := HWQ.out.out.lt
          have q2 := HWQ.out.ar.2.cell
          have q4 := HWQ.out.ar.2.lt
          have em : (cy : Int) % 4294967296 = (cy : Int) := by omega
          have HW2 := Lib.hid (HWQ.out.set_ e hcy)
          have HP2 : Hid ((p.set e cy).length = z ∧ Pl.lv (p.set e cy) = Pl.lv (la.take (i + 1)) * Pl.lv lb ∧ ∀ j (hj : j < (p.set e cy).length), i + 1 + k ≤ j → (p.set e cy)[j] = 0) := by
            refine ⟨by rw [List.length_set]; exact HP.out.1, ?_, fun j hj hjm => ?_⟩
            · have h1 := HP.out.2.1
              have h2 := Pl.lv_set hel cy
              rw [HP.out.2.2 e hel (by omega)] at h2
              rw [take_all HLB.out.2.1 (Nat.le_refl _), ← he] at h1
              rw [Pl.lv_take_succ hil, ← HXE.out, Nat.add_mul, Nat.mul_assoc]
              omega
            · rw [List.getElem_set_ne (by omega)]
              exact HP.out.2.2 j (by rw [List.length_set] at hj; exact hj) (by omega)
          have HQ2 : Hid (Below w3.heap.size w1 (wr.setCell ⟨w.heap.size + 1 + 1 + 1, e, none⟩ (.int .u32 (cy : Int)))) := HQ.out.setCell (by rw [HB1.out]; exact Nat.le_refl _) _
          clear HP HWQ HQ he
          go_wp2_with fail
          refine ⟨⟨i + 1, _, by omega, by go_num, HW2, HP2, HQ2⟩, ?_⟩
          simp [intOf]; omega
    · have hii : i = n := by omega
      subst hii
      have i1 : ¬ (i : Int) < (i : Int) := by omega
      have q1 := HW.out.ar.1.cell
      have q2 := HW.out.ar.2.cell
      have q3 := HW.out.ar.1.lt
      have q4 := HW.out.ar.2.lt
      have HNO := Lib.hid (norm_any (b1 != b2) (some ⟨w.heap.size + 1 + 1 + 1, 0, none⟩) z z o wr (by omega) (Nat.le_refl _) (by have := HW.out.out.reads; rw [HO.out.1] at this; exact this) HW.out.w32)
      have hv : sgn (b1 != b2) (Pl.lv o) = s := by
        rw [HO.out.2.1, take_all HLA.out.2.1 (Nat.le_refl _), HLA.out.1, HLB.out.1]
        exact E.out
      rw [hv] at HNO
      clear hv
      go_wp2_with fail
      refine HNO.out.mono ?_
      rintro e w6 ⟨rfl, hna6, hbl6⟩
      have BR6 := Lib.hid (HW.out.res.go hbl6)
      have F6 := Lib.hid (HW.out.bel.trans (hbl6.mono HW.out.bel.size))
      have HN6 := Lib.hid hna6
      clear HNO hna6 hbl6 HW HO HD q1 q2 q3 q4
      have f6 := BR6.out.frozen
      have g6 := BR6.out.cell
      have l6 := BR6.out.lt
      unfold vNum
      go_wp2_with fail
      have F7 := Lib.hid (num_put BR6.out HN6.out F6.out (by omega))
      have k7 := F7.out.1.cell
      refine bodyPost_ret (v := vNum s (some ⟨w.heap.size + 1 + 1 + 1, 0, none⟩) z) (by simp [results, Tryd.results15, go_sem, vNum, k7]) rfl ⟨_, z, rfl, F7.out.2⟩
end Go.Proofs.YtflfbbdapbjaaaaDoor
