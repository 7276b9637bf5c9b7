/- Package large: Cmp, Of answer as integers. Condition: the words read; there are at most 2^45 of them. Package large: shortDiv and shifted answer as integers. Condition: the words read; there are at most 2^45 of them. Package large: shifted answers as integers. Condition: the words read; there are at most 2^45 of them. math/bits: LeadingZeros32 shifts a word up to its highest place. No condition. Package large: the long division of words, its words in memory. Condition: the words read. slices.Clone at 32-bit words: a new row with the same words. No condition. -/
import Derived.Test.YtoblpcljhblnmaaGreatDoorLgF
import Derived.Laws.BitsAllLaws
import Derived.Shelf.Small.Bits
import Derived.Lib.ItoaNum
import Derived.Test.YtoblpcljhblnmaaGreatDoorSrt
import Derived.Test.YtoblpcljhblnmaaGreatDoorMid
import Derived.Test.YtoblpcljhblnmaaGreatDoorBase
import Derived.Lib.SliceRun
namespace Go.Proofs.YtoblpcljhblnmaaGreatDoor
open Go.RowKit
set_option maxRecDepth 100000
theorem boxes2 (w : World) (x y : Array Value) (t : TypeId) : let w1 := (w.alloc (.cells x t)).alloc (.cells y t)
    Blk w1 w.heap.size t x ∧ Blk w1 (w.heap.size + 1) t y ∧ Below w.heap.size w w1 ∧ w1.heap.size = w.heap.size + 1 + 1 :=
  ⟨(Blk.new_ w _ t x rfl).alloc _, Blk.new_ _ (w.heap.size + 1) t y (by simp), ((Below.refl _ w).alloc (Nat.le_refl _) _).alloc (by simp) _, by simp⟩
theorem icmp_any (a b : Int) (A : Option Addr) (c : Nat) (B : Option Addr) (d : Nat) (w : World) (ha : NumAt w w.heap.size a A c) (hb : NumAt w w.heap.size b B d) (sa : Pl.nw a.natAbs ≤ 35184372088832) (sb : Pl.nw b.natAbs ≤ 35184372088832) :
    Calls Tryz.prog 92 #[vNum a A c, vNum b B d] w fun e w' => e = .returned (.int .i64 (a - b).sign) ∧ Below w.heap.size w w' := by
  obtain ⟨hA, hB, hD, hsz⟩ := boxes2 w #[.bool (decide (a < 0)), .slice A (Pl.nw a.natAbs) c] #[.bool (decide (b < 0)), .slice B (Pl.nw b.natAbs) d] 103
  have HSUB := Lib.hid (isub_any a b A c B d _ (ha.go hD) (hb.go hD) sa sb)
  have HSG := Lib.hid (fun A c w => sign_any (a - b) A c w)
  unfold vNum at HSUB HSG
  unfold vNum
  clear ha hb
  have AR : Hid (Ar2 _ w.heap.size (w.heap.size + 1) (decide (a < 0)) A (Pl.nw a.natAbs) c (decide (b < 0)) B (Pl.nw b.natAbs) d) := ⟨hA, hB⟩
  generalize decide (a < 0) = b1 at *
  generalize decide (b < 0) = b2 at *
  generalize a - b = s at *
  have q1 := hA.cell
  have q2 := hB.cell
  have q3 := hA.lt
  have q4 := hB.lt
  have HD := Lib.hid hD
  clear hA hB hD hsz
  go_enter Tryz.func92, Tryz.ntmps92
  go_wp2_with fail
  refine HSUB.out.mono ?_
  rintro e w5 ⟨A5, c5, rfl, hna, hb⟩
  have F5 := Lib.hid (HD.out.trans (hb.mono HD.out.size))
  clear hna hb HSUB q1 q2 q3 q4
  unfold vNum
  go_wp2_with fail
  refine (HSG.out _ _ _).mono ?_
  rintro e w6 ⟨rfl, hb⟩
  have F6 := Lib.hid (F5.out.trans (hb.mono F5.out.size))
  clear hb HSG
  go_wp2_with fail
  go_ret
  exact ⟨rfl, F6.out⟩
set_option maxHeartbeats 1600000 in
theorem of_any (n : Int) (w : World) (h0 : -9223372036854775808 ≤ n) (h1 : n ≤ 9223372036854775807) : Calls Tryz.prog 93 #[.int .i64 n] w (NumSaid n w) := by
  obtain ⟨m, hm⟩ : ∃ m : Nat, m = n.natAbs := ⟨_, rfl⟩
  have hmb : m ≤ 9223372036854775808 := by omega
  obtain ⟨lo, hlo⟩ : ∃ lo : Nat, lo = m % 4294967296 := ⟨_, rfl⟩
  obtain ⟨hi, hhi⟩ : ∃ hi : Nat, hi = m / 4294967296 := ⟨_, rfl⟩
  have em : (m : Int) % 4294967296 = (lo : Int) := by omega
  have ed : (m : Int) / 4294967296 = (hi : Int) := by omega
  have eh : (hi : Int) % 4294967296 = (hi : Int) := by omega
  have hv : Pl.lv [lo, hi] = m := by show lo + 4294967296 * (hi + 4294967296 * 0) = m; omega
  have hW : Pl.W32 [lo, hi] := fun x hx => by
    simp only [List.mem_cons, List.not_mem_nil, or_false] at hx
    rcases hx with rfl | rfl <;> omega
  have D0 := (Below.refl w.heap.size w).alloc (Nat.le_refl _) (.cells #[.bool false, .slice none 0 0] 103)
  have D1 := D0.alloc (by simp) (.cells #[.int .u32 (lo : Int), .int .u32 (hi : Int)] 225)
  have B1 := Lib.hid ((Blk.new_ w w.heap.size 103 #[.bool false, .slice none 0 0] rfl).alloc (.cells #[.int .u32 (lo : Int), .int .u32 (hi : Int)] 225))
  have hr : Reads ((w.alloc (.cells #[.bool false, .slice none 0 0] 103)).alloc (.cells #[.int .u32 (lo : Int), .int .u32 (hi : Int)] 225)) ((w.alloc (.cells #[.bool false, .slice none 0 0] 103)).alloc (.cells #[.int .u32 (lo : Int), .int .u32 (hi : Int)] 225)).heap.size 1 (some ⟨w.heap.size + 1, 0, none⟩) 2 (u32s [lo, hi]) := Reads.lit _ #[.int .u32 (lo : Int), .int .u32 (hi : Int)] _ 2 1 _ (by simp) rfl
  have HNO := Lib.hid (fun b => norm_any b (some ⟨w.heap.size + 1, 0, none⟩) 2 2 [lo, hi] _ (by omega) (Nat.le_refl _) hr hW)
  have HD := Lib.hid D1
  rw [hv] at HNO
  clear D0 D1 hr hW hv
  by_cases hn : n < 0
  · have hs : sgn true m = n := by unfold sgn; simp; omega
    have HN := Lib.hid (HNO.out true)
    rw [hs] at HN
    have w1 : IntKind.u64.wrap n = n + 18446744073709551616 := by rw [IntKind.wrap_u64]; omega
    have w2 : IntKind.u64.wrap (-(n + 18446744073709551616)) = (m : Int) := by rw [IntKind.wrap_u64]; omega
    clear hs HNO hlo hhi hm
    go_enter Tryz.func93, Tryz.ntmps93
    go_wp2_with fail
    refine HN.out.mono ?_
    rintro e w6 ⟨rfl, hna6, hbl6⟩
    have BR6 := Lib.hid (B1.out.go hbl6)
    have F6 := Lib.hid (HD.out.trans (hbl6.mono HD.out.size))
    have HN6 := Lib.hid hna6
    clear HN hna6 hbl6 hn
    have f6 := BR6.out.frozen
    have g6 := BR6.out.cell
    have l6 := BR6.out.lt
    unfold vNum
    go_wp2_with fail
    have F7 := Lib.hid (num_put BR6.out HN6.out F6.out (Nat.le_refl _))
    have k7 := F7.out.1.cell
    refine bodyPost_ret (v := vNum n (some ⟨w.heap.size + 1, 0, none⟩) 2) (by simp [results, Tryz.results93, go_sem, vNum, k7]) rfl ⟨_, 2, rfl, F7.out.2⟩
  · have hs : sgn false m = n := by unfold sgn; simp; omega
    have HN := Lib.hid (HNO.out false)
    rw [hs] at HN
    have w1 : IntKind.u64.wrap n = (m : Int) := by rw [IntKind.wrap_u64]; omega
    clear hs HNO hlo hhi hm
    go_enter Tryz.func93, Tryz.ntmps93
    go_wp2_with fail
    refine HN.out.mono ?_
    rintro e w6 ⟨rfl, hna6, hbl6⟩
    have BR6 := Lib.hid (B1.out.go hbl6)
    have F6 := Lib.hid (HD.out.trans (hbl6.mono HD.out.size))
    have HN6 := Lib.hid hna6
    clear HN hna6 hbl6 hn
    have f6 := BR6.out.frozen
    have g6 := BR6.out.cell
    have l6 := BR6.out.lt
    unfold vNum
    go_wp2_with fail
    have F7 := Lib.hid (num_put BR6.out HN6.out F6.out (Nat.le_refl _))
    have k7 := F7.out.1.cell
    refine bodyPost_ret (v := vNum n (some ⟨w.heap.size + 1, 0, none⟩) 2) (by simp [results, Tryz.results93, go_sem, vNum, k7]) rfl ⟨_, 2, rfl, F7.out.2⟩
end Go.Proofs.YtoblpcljhblnmaaGreatDoor
namespace Go.Proofs.YtoblpcljhblnmaaGreatDoor
open Go.RowKit
set_option maxRecDepth 100000
def SDivSaid (v d n : Nat) (w : World) (e : Ending) (w' : World) : Prop :=
  ∃ (g : Nat) (l : List Nat), e = .returned (.tuple #[.slice (some ⟨g, 0, none⟩) n n, .int .u32 ((v % d : Nat) : Int)]) ∧ l.length = n ∧ Pl.W32 l ∧ Pl.lv l = v / d ∧ WB w' g l ∧ w.heap.size ≤ g ∧ Below w.heap.size w w'
theorem or_hi (r x : Nat) (hr : r < 4294967296) (hx : x < 4294967296) : bits .or .u64 ((r : Int) * 4294967296) (x : Int) = ((r * 4294967296 + x : Nat) : Int) := by
  have e : (r : Int) * 4294967296 = ((r * 4294967296 : Nat) : Int) := by omega
  rw [e, u64_or_nat _ _ (by omega) (by omega), show r * 4294967296 = r <<< 32 by rw [Nat.shiftLeft_eq], Nat.shiftLeft_add_eq_or_of_lt (by simpa using hx)]
theorem or_lo (c x s : Nat) (hc : c < 2 ^ s) (hs : x * 2 ^ s < 18446744073709551616) (hc2 : c < 18446744073709551616) : bits .or .u64 (c : Int) ((x * 2 ^ s : Nat) : Int) = ((c + x * 2 ^ s : Nat) : Int) := by
  rw [u64_or_nat _ _ hc2 hs, Nat.or_comm, ← Nat.shiftLeft_eq, ← Nat.shiftLeft_add_eq_or_of_lt hc, Nat.add_comm]
set_option maxHeartbeats 3200000 in
theorem sdiv_any (A : Option Addr) (n c : Nat) (la : List Nat) (d : Nat) (w : World) (hn : n ≤ 35184372088832) (ha : Reads w w.heap.size 1 A n (u32s la)) (ca : Pl.W32 la) (hd : 0 < d) (hd2 : d < 4294967296) :
    Calls Tryz.prog 163 #[.slice A n c, .int .u32 (d : Int)] w (SDivSaid (Pl.lv la) d n w) := by
  have H := Lib.hid ha
  have HLA := Lib.hid (u32_len ha)
  have HCA := Lib.hid ca
  clear ha ca
  have hmk := fun W => make_u32 n (by omega) W
  have wn1 : IntKind.i64.wrap ((n : Int) - 1) = (n : Int) - 1 := IntWalk.i64_in _ (by omega)
  go_enter Tryz.func163, Tryz.ntmps163
  go_wp2_with fail
  have B0 := Lib.hid (WB.new_ w n)
  have D0 := Lib.hid ((Below.refl w.heap.size w).alloc (Nat.le_refl _) (.cells (u32s (List.replicate n 0)).toArray 225))
  generalize (w.alloc (.cells (u32s (List.replicate n 0)).toArray 225)) = w1 at *
  clear hmk
  go_loopw [7, 8] (fun rv iv wr => ∃ (k r : Nat) (o : List Nat), k ≤ n ∧ iv = .int .i64 ((k : Int) - 1) ∧ rv = .int .u64 (r : Int) ∧ r < d ∧ Hid (o.length = n ∧ Pl.W32 o ∧ Pl.lv (o.drop k) * d + r = Pl.lv (la.drop k)) ∧ Hid (WB wr w.heap.size o) ∧ Hid (Below w.heap.size w wr)) (fun _ iv _ => (intOf iv + 1).toNat)
  case atStart => exact ⟨n, 0, _, Nat.le_refl _, rfl, rfl, hd, Lib.hid ⟨by simp, Pl.W32.zeros n, by rw [List.drop_of_length_le (by simp), List.drop_of_length_le (by have := HLA.out; omega)]; simp [Pl.lv]⟩, B0.out, D0.out⟩
  case round =>
    obtain ⟨k, r, o, hk, rfl, rfl, hr, HO, HW, HD⟩ := hrel
    by_cases hk0 : k = 0
    · subst hk0
      have em : (r : Int) % 4294967296 = (r : Int) := by omega
      have hv := HO.out.2.2
      simp only [List.drop_zero] at hv
      have HV : Hid (r = Pl.lv la % d ∧ Pl.lv o = Pl.lv la / d) := by
        constructor
        · rw [← hv, Nat.mul_comm, Nat.mul_add_mod, Nat.mod_eq_of_lt hr]
        · rw [← hv, Nat.mul_comm, Nat.mul_add_div hd, Nat.div_eq_of_lt hr, Nat.add_zero]
      clear hv
      go_wp2_with fail
      go_ret2
      refine ⟨w.heap.size, o, ?_, HO.out.1, HO.out.2.1, HV.out.2, HW.out, Nat.le_refl _, HD.out⟩
      rw [← HV.out.1]
      rfl
    · obtain ⟨j, rfl⟩ : ∃ j, k = j + 1 := ⟨k - 1, by omega⟩
      obtain ⟨b, o', rfl, hb1, hjl, y0⟩ := u32_at (H.out.below HD.out) (k := j) (by omega)
      have hbr : b < wr.heap.size := by have := HD.out.size; omega
      have e1 : (((j + 1 : Nat) : Int) - 1) = (j : Int) := by omega
      rw [e1]
      clear e1
      have j0 : (0 : Int) ≤ (j : Int) := by omega
      have j1 : (j : Int) < (n : Int) := by omega
      have hxb := HCA.out.at_ hjl
      have HX : Hid (∃ x, x = la[j]) := ⟨_, rfl⟩
      obtain ⟨x, hx⟩ := HX.out
      rw [← hx] at y0 hxb
      have HXE := Lib.hid hx
      clear hx HX
      have hol : j < o.length := by have := HO.out.1; omega
      obtain ⟨v0, c0⟩ := HW.out.ex hol
      have f0 := HW.out.frozen j
      have l0 := HW.out.lt
      have wj : IntKind.i64.wrap ((j : Int) - 1) = (j : Int) - 1 := IntWalk.i64_in _ (by omega)
      obtain ⟨t, ht⟩ : ∃ t : Nat, t = r * 4294967296 + x := ⟨_, rfl⟩
      have hor : bits .or .u64 ((r : Int) * 4294967296) (x : Int) = (t : Int) := by rw [ht]; exact or_hi r x (by omega) hxb
      obtain ⟨q, hq⟩ : ∃ q : Nat, q = t / d := ⟨_, rfl⟩
      obtain ⟨u, hu⟩ : ∃ u : Nat, u = t % d := ⟨_, rfl⟩
      have hqb : q < 4294967296 := by rw [hq, ht]; exact Pl.sdiv_lt hr hxb
      have hub : u < d := by rw [hu]; exact Nat.mod_lt _ hd
      have td : (t : Int).tdiv (d : Int) = (q : Int) := by rw [hq]; rfl
      have tm : (t : Int).tmod (d : Int) = (u : Int) := by rw [hu]; rfl
      have wq : IntKind.u64.wrap (q : Int) = (q : Int) := IntWalk.u64_in _ (by omega)
      have eq : (q : Int) % 4294967296 = (q : Int) := by omega
      have HO2 : Hid ((o.set j q).length = n ∧ Pl.W32 (o.set j q) ∧ Pl.lv ((o.set j q).drop j) * d + u = Pl.lv (la.drop j)) := by
        refine ⟨by rw [List.length_set]; exact HO.out.1, HO.out.2.1.set j hqb, ?_⟩
        have := Pl.sdiv_step hjl (by rw [HO.out.1, HLA.out]) HO.out.2.2
        rw [← HXE.out, ← ht, ← hq, ← hu] at this
        exact this
      have HW2 := Lib.hid (HW.out.set_ j q)
      have HD2 : Hid (Below w.heap.size w (wr.setCell ⟨w.heap.size, j, none⟩ (.int .u32 (q : Int)))) := HD.out.setCell (Nat.le_refl _) _
      have hd0 : ((d : Int) == 0) = false := by simp; omega
      clear HO HW HD ht hq hu
      go_wp2_with fail
      refine ⟨⟨j, u, _, by omega, rfl, rfl, hub, HO2, HW2, HD2⟩, ?_⟩
      simp [intOf]
end Go.Proofs.YtoblpcljhblnmaaGreatDoor
namespace Go.Proofs.YtoblpcljhblnmaaGreatDoor
open Go.RowKit
set_option maxRecDepth 100000
def ShSaid (v n : Nat) (w : World) (e : Ending) (w' : World) : Prop :=
  ∃ (g : Nat) (l : List Nat), e = .returned (.slice (some ⟨g, 0, none⟩) n n) ∧ l.length = n ∧ Pl.W32 l ∧ Pl.lv l = v ∧ WB w' g l ∧ w.heap.size ≤ g ∧ Below w.heap.size w w'
set_option maxHeartbeats 3200000 in
theorem shifted_any (A : Option Addr) (n c : Nat) (la : List Nat) (s : Nat) (w : World) (hn : n ≤ 35184372088832) (ha : Reads w w.heap.size 1 A n (u32s la)) (ca : Pl.W32 la) (hs : s ≤ 31) :
    Calls Tryz.prog 195 #[.slice A n c, .int .i64 (s : Int)] w (ShSaid (Pl.lv la * 2 ^ s) (n + 1) w) := by
  have H := Lib.hid ha
  have HLA := Lib.hid (u32_len ha)
  have HCA := Lib.hid ca
  clear ha ca
  obtain ⟨p, hp⟩ : ∃ p : Nat, p = 2 ^ s := ⟨_, rfl⟩
  have hp0 : 1 ≤ p := by rw [hp]; exact Nat.pow_pos (by omega)
  have hpb : p ≤ 2147483648 := by rw [hp, show 2147483648 = 2 ^ 31 by rfl]; exact Nat.pow_le_pow_right (by omega) hs
  have HPS := Lib.hid hp
  rw [← hp]
  obtain ⟨z, hz⟩ : ∃ z : Nat, z = n + 1 := ⟨_, rfl⟩
  have wn1 : IntKind.i64.wrap ((n : Int) + 1) = (z : Int) := by rw [show (z : Int) = (n : Int) + 1 by omega]; exact IntWalk.i64_in _ (by omega)
  have hmk := fun W => make_u32 z (by omega) W
  rw [← hz]
  have HZ := Lib.hid hz
  have hz1 : n < z := by omega
  clear hz hp
  go_enter Tryz.func195, Tryz.ntmps195
  go_wp2_with fail
  have B0 := Lib.hid (WB.new_ w z)
  have D0 := Lib.hid ((Below.refl w.heap.size w).alloc (Nat.le_refl _) (.cells (u32s (List.replicate z 0)).toArray 225))
  generalize (w.alloc (.cells (u32s (List.replicate z 0)).toArray 225)) = w1 at *
  clear hmk wn1
  go_loopw [6, 15] (fun cv iv wr => ∃ (k cy : Nat) (pre : List Nat), k ≤ n ∧ iv = .int .i64 (k : Int) ∧ cv = .int .u64 (cy : Int) ∧ cy < p ∧ Hid (pre.length = k ∧ Pl.W32 pre ∧ Pl.lv pre + 4294967296 ^ k * cy = Pl.lv (la.take k) * p) ∧ Hid (WB wr w.heap.size (pre ++ List.replicate (z - k) 0)) ∧ Hid (Below w.heap.size w wr)) (fun _ iv _ => n - (intOf iv).toNat)
  case atStart => exact ⟨0, 0, [], Nat.zero_le _, rfl, rfl, by omega, Lib.hid ⟨rfl, Pl.W32.nil, by simp [Pl.lv]⟩, B0.out, D0.out⟩
  case round =>
    obtain ⟨k, cy, pre, hk, rfl, rfl, hcy, HP, HW, HD⟩ := hrel
    have k3 : (k : Int) < (z : Int) := by omega
    have k0 : (0 : Int) ≤ (k : Int) := by omega
    obtain ⟨v0, c0⟩ := HW.out.ex (k := k) (by have := HP.out.1; have := HZ.out; simp; omega)
    have f0 := HW.out.frozen k
    have l0 := HW.out.lt
    by_cases hlt : k < n
    · obtain ⟨b, o, rfl, hb1, hkl, y0⟩ := u32_at (H.out.below HD.out) hlt
      have hbr : b < wr.heap.size := by have := HD.out.size; omega
      have hxb := HCA.out.at_ hkl
      have HX : Hid (∃ x, x = la[k]) := ⟨_, rfl⟩
      obtain ⟨x, hx⟩ := HX.out
      rw [← hx] at y0 hxb
      have HXE := Lib.hid hx
      have k1 : (k : Int) < (n : Int) := by omega
      clear hx HX
      obtain ⟨y, hy⟩ : ∃ y : Nat, y = x * p := ⟨_, rfl⟩
      have hyb : y ≤ 4294967295 * p := by rw [hy]; exact Nat.mul_le_mul_right p (by omega)
      have wsh : IntKind.u64.wrap ((x : Int) * 2 ^ s) = (y : Int) := by
        have e : (x : Int) * 2 ^ s = (y : Int) := by rw [hy, HPS.out, Int.natCast_mul, Int.natCast_pow]; rfl
        rw [e]; exact IntWalk.u64_in _ (by omega)
      obtain ⟨t, ht⟩ : ∃ t : Nat, t = cy + y := ⟨_, rfl⟩
      have hor : bits .or .u64 (cy : Int) (y : Int) = (t : Int) := by
        rw [ht, hy, HPS.out]
        exact or_lo cy x s (by rw [← HPS.out]; exact hcy) (by rw [← HPS.out, ← hy]; omega) (by omega)
      obtain ⟨r, hr⟩ : ∃ r, r = t % 4294967296 := ⟨_, rfl⟩
      obtain ⟨q, hq⟩ : ∃ q, q = t / 4294967296 := ⟨_, rfl⟩
      have em : (t : Int) % 4294967296 = (r : Int) := by omega
      have ed : (t : Int) / 4294967296 = (q : Int) := by omega
      have hq1 : q < p := by omega
      have hrb : r < 4294967296 := by omega
      have HP2 : Hid ((pre ++ [r]).length = k + 1 ∧ Pl.W32 (pre ++ [r]) ∧ Pl.lv (pre ++ [r]) + 4294967296 ^ (k + 1) * q = Pl.lv (la.take (k + 1)) * p) := by
        refine ⟨by simp [HP.out.1], HP.out.2.1.append (Pl.W32.one hrb), ?_⟩
        have h1 := Pl.word_step HP.out.1 HP.out.2.2 ht
        rw [← hr, ← hq] at h1
        rw [h1, Pl.lv_take_succ hkl, ← HXE.out, hy, Nat.add_mul, Nat.mul_assoc]
      have HW2 : Hid (WB (wr.setCell ⟨w.heap.size, k, none⟩ (.int .u32 (r : Int))) w.heap.size ((pre ++ [r]) ++ List.replicate (z - (k + 1)) 0)) := by
        have h1 := HW.out.set_ k r
        have h2 := set_next pre (z - (k + 1)) r
        rw [HP.out.1, show z - (k + 1) + 1 = z - k by omega] at h2
        rw [h2] at h1
        exact h1
      have HD2 : Hid (Below w.heap.size w (wr.setCell ⟨w.heap.size, k, none⟩ (.int .u32 (r : Int)))) := HD.out.setCell (Nat.le_refl _) _
      clear HP HW HD ht hr hq hy
      go_wp2_with fail
      refine ⟨⟨k + 1, q, pre ++ [r], by omega, by go_num, rfl, hq1, HP2, HW2, HD2⟩, ?_⟩
      simp [intOf]; omega
    · have hkn : k = n := by omega
      subst hkn
      have k1 : ¬ (k : Int) < (k : Int) := by omega
      have em : (cy : Int) % 4294967296 = (cy : Int) := by omega
      have HW2 : Hid (WB (wr.setCell ⟨w.heap.size, k, none⟩ (.int .u32 (cy : Int))) w.heap.size (pre ++ [cy])) := by
        have h1 := HW.out.set_ k cy
        have h2 := set_next pre (z - (k + 1)) cy
        have h3 := HZ.out
        rw [HP.out.1, show z - (k + 1) + 1 = z - k by omega] at h2
        rw [h2, show z - (k + 1) = 0 by omega] at h1
        exact Lib.hid (by simpa using h1)
      have HD2 : Hid (Below w.heap.size w (wr.setCell ⟨w.heap.size, k, none⟩ (.int .u32 (cy : Int)))) := HD.out.setCell (Nat.le_refl _) _
      have HV : Hid (Pl.lv (pre ++ [cy]) = Pl.lv la * p ∧ Pl.W32 (pre ++ [cy]) ∧ (pre ++ [cy]).length = z) := by
        refine ⟨?_, HP.out.2.1.append (Pl.W32.one (by omega)), by have := HZ.out; simp [HP.out.1]; omega⟩
        rw [Pl.lv_snoc, HP.out.1, HP.out.2.2, take_all HLA.out (Nat.le_refl _)]
      clear HP HW HD HZ
      go_wp2_with fail
      go_ret
      exact ⟨_, _, rfl, HV.out.2.2, HV.out.2.1, HV.out.1, HW2.out, Nat.le_refl _, HD2.out⟩
end Go.Proofs.YtoblpcljhblnmaaGreatDoor
namespace Go.Proofs.YtoblpcljhblnmaaGreatDoor
open Go.RowKit
def len32_ren : Go.Shelf.Ren := ⟨fun | 128 => 216 | _ => 0, fun | 3 => 3 | 4 => 4 | 5 => 5 | 9 => 9 | 46 => 206 | 51 => 225 | _ => 0, fun _ => 0⟩
set_option maxRecDepth 100000 in
theorem len32S : Go.Proofs.Lays.n128 Tryz.prog len32_ren := {
  mixed := by kernel_rfl,
  f128 := Tryz.func216.trans (congrArg some (by kernel_rfl)),
  t3 := Tryz.underlying3, a3 := Tryz.isAgg3, z3 := Tryz.sizeOf3, v3 := Tryz.zeroValue3,
  t4 := Tryz.underlying4, a4 := Tryz.isAgg4, z4 := Tryz.sizeOf4, v4 := Tryz.zeroValue4,
  t5 := Tryz.underlying5, a5 := Tryz.isAgg5, z5 := Tryz.sizeOf5, v5 := Tryz.zeroValue5,
  t9 := Tryz.underlying9, a9 := Tryz.isAgg9, z9 := Tryz.sizeOf9, v9 := Tryz.zeroValue9,
  t46 := Tryz.underlying206, a46 := Tryz.isAgg206, z46 := Tryz.sizeOf206, v46 := Tryz.zeroValue206,
  t51 := Tryz.underlying225, a51 := Tryz.isAgg225, z51 := Tryz.sizeOf225, v51 := Tryz.zeroValue225 }
theorem lead_any (x : Nat) (hx : x < 4294967296) (h0 : x ≠ 0) (w : World) : ∃ s : Nat, s ≤ 31 ∧ 2147483648 ≤ x * 2 ^ s ∧ x * 2 ^ s < 4294967296 ∧
    Calls Tryz.prog 194 #[.int .u32 (x : Int)] w fun e w' => e = .returned (.int .i64 (s : Int)) ∧ w' = w := by
  have hb := Lib.bitLenAux_bounds 64 x (by have : (2 : Nat) ^ 64 = 18446744073709551616 := rfl; omega) h0
  have hl := Lib.bitLen_le x 32 (by omega) (by have : (2 : Nat) ^ 32 = 4294967296 := rfl; omega)
  have HC := Lib.hid (Any.bits_Len32 len32S (x : Int) w (by omega) (by omega))
  have e : ((x : Int)).toNat = x := by omega
  rw [e] at HC
  have e2 : Lib.bitLenAux 64 x = Lib.bitLen x := rfl
  rw [e2] at hb
  generalize Lib.bitLen x = L at *
  obtain ⟨b1, b2, b3⟩ := hb
  have k1 : (2 : Nat) ^ (L - 1) * 2 ^ (32 - L) = 2147483648 := by rw [← Nat.pow_add, show L - 1 + (32 - L) = 31 by omega]
  have k2 : (2 : Nat) ^ L * 2 ^ (32 - L) = 4294967296 := by rw [← Nat.pow_add, show L + (32 - L) = 32 by omega]
  refine ⟨32 - L, by omega, ?_, ?_, ?_⟩
  · rw [← k1]; exact Nat.mul_le_mul_right _ b2
  · rw [← k2]; exact Nat.mul_lt_mul_of_pos_right b3 (Nat.pow_pos (by omega))
  · obtain ⟨s, hs⟩ : ∃ s : Nat, s = 32 - L := ⟨_, rfl⟩
    rw [← hs]
    have ws : IntKind.i64.wrap (32 - (L : Int)) = (s : Int) := by rw [show 32 - (L : Int) = (s : Int) by omega]; exact IntWalk.i64_in _ (by omega)
    clear hs k1 k2 b1 b2 b3 e e2 hl
    have HC2 : Hid (Calls Tryz.prog 216 #[.int .u32 (x : Int)] w fun e w' => e = .returned (.int .i64 (L : Int)) ∧ w' = w) := HC.out
    clear HC
    go_enter Tryz.func194, Tryz.ntmps194
    go_wp2_with fail
    refine HC2.out.mono ?_
    rintro e w1 ⟨rfl, rfl⟩
    go_wp2_with fail
    go_ret
    exact ⟨rfl, rfl⟩
end Go.Proofs.YtoblpcljhblnmaaGreatDoor
namespace Go.Proofs.YtoblpcljhblnmaaGreatDoor
open Go.RowKit
set_option maxRecDepth 100000
def DivSaid (a b : Nat) (w : World) (e : Ending) (w' : World) : Prop :=
  ∃ (Aq : Option Addr) (nq cq : Nat) (lq : List Nat) (Ar : Option Addr) (nr cr : Nat) (lr : List Nat), e = .returned (.tuple #[.slice Aq nq cq, .slice Ar nr cr]) ∧ nq ≤ cq ∧ nr ≤ cr ∧ Pl.W32 lq ∧ Pl.W32 lr ∧ Pl.lv lq = a / b ∧ Pl.lv lr = a % b ∧ nq ≤ Pl.nw a ∧ nr ≤ max (Pl.nw a) (Pl.nw b) ∧
    Reads w' w'.heap.size 1 Aq nq (u32s lq) ∧ Reads w' w'.heap.size 1 Ar nr (u32s lr) ∧ Below w.heap.size w w'
theorem divw_short (A : Option Addr) (c : Nat) (B : Option Addr) (d : Nat) (a b : Nat) (w : World) (hn : Pl.nw a ≤ 17592186044416) (hm : Pl.nw b ≤ 17592186044416) (hac : Pl.nw a ≤ c) (ha : Reads w w.heap.size 1 A (Pl.nw a) (u32s (Pl.digs a))) (hb : Reads w w.heap.size 1 B (Pl.nw b) (u32s (Pl.digs b))) (hlt : a < b) :
    Calls Tryz.prog 173 #[.slice A (Pl.nw a) c, .slice B (Pl.nw b) d] w (DivSaid a b w) := by
  have HCMP := Lib.hid (cmpw_any A (Pl.nw a) c (Pl.digs a) B (Pl.nw b) d (Pl.digs b) w (by omega) (by omega) ha hb (Pl.digs_can _) (Pl.digs_can _))
  rw [Pl.lv_digs, Pl.lv_digs] at HCMP
  have H := Lib.hid ha
  have HLT := Lib.hid hlt
  clear ha hb hlt
  go_enter Tryz.func173, Tryz.ntmps173
  go_wp2_with fail
  refine HCMP.out.mono ?_
  rintro e w1 ⟨r, rfl, hcmp, hbl⟩
  have HB1 := Lib.hid hbl
  have hr : r < 0 := hcmp.1.2 HLT.out
  clear HCMP hcmp hbl
  go_wp2_with fail
  go_ret2
  refine ⟨none, 0, 0, [], A, Pl.nw a, c, Pl.digs a, rfl, Nat.le_refl _, hac, Pl.W32.nil, (Pl.digs_can _).1, ?_, ?_, by omega, Nat.le_max_left _ _, Reads.none_, H.out.go HB1.out, HB1.out⟩
  · rw [Nat.div_eq_of_lt HLT.out]; rfl
  · rw [Pl.lv_digs, Nat.mod_eq_of_lt HLT.out]
set_option maxHeartbeats 1600000 in
theorem divw_one (A : Option Addr) (c : Nat) (B : Option Addr) (d : Nat) (a b : Nat) (w : World) (hn : Pl.nw a ≤ 17592186044416) (ha : Reads w w.heap.size 1 A (Pl.nw a) (u32s (Pl.digs a))) (hb : Reads w w.heap.size 1 B (Pl.nw b) (u32s (Pl.digs b))) (hle : b ≤ a) (h1 : Pl.nw b = 1) :
    Calls Tryz.prog 173 #[.slice A (Pl.nw a) c, .slice B (Pl.nw b) d] w (DivSaid a b w) := by
  have HCMP := Lib.hid (cmpw_any A (Pl.nw a) c (Pl.digs a) B (Pl.nw b) d (Pl.digs b) w (by omega) (by omega) ha hb (Pl.digs_can _) (Pl.digs_can _))
  rw [Pl.lv_digs, Pl.lv_digs] at HCMP
  have h0 : b ≠ 0 := fun e => by rw [e, Pl.nw_zero] at h1; cases h1
  have hb32 : b < 4294967296 := by have := Pl.lt_nw b; rw [h1, Nat.pow_one] at this; exact this
  have H := Lib.hid ha
  have hnm := Pl.nw_mono hle
  obtain ⟨bB, oB, rfl, hbB, hkl, y1⟩ := u32_at hb (k := 0) (by omega)
  rw [Nat.add_zero] at y1
  have e0 : (Pl.digs b)[0] = b := by
    have := Pl.digs_pos h0
    have e2 : (Pl.digs b)[0]? = some (b % 4294967296) := by rw [this]; rfl
    rw [List.getElem?_eq_getElem hkl] at e2
    injection e2 with e2
    rw [e2, Nat.mod_eq_of_lt hb32]
  rw [e0] at y1
  have HSD := Lib.hid (fun W (x : Reads W W.heap.size 1 A (Pl.nw a) (u32s (Pl.digs a))) => sdiv_any A (Pl.nw a) c (Pl.digs a) b W (by omega) x (Pl.digs_can _).1 (by omega) hb32)
  rw [h1] at HCMP ⊢
  have HLE := Lib.hid hle
  rw [h1] at hnm
  have HY := Lib.hid y1
  have HLV : Hid (Pl.lv (Pl.digs a) = a) := Pl.lv_digs a
  clear ha hb hle e0 hkl y1
  generalize Pl.digs a = la at *
  go_enter Tryz.func173, Tryz.ntmps173
  go_wp2_with fail
  refine HCMP.out.mono ?_
  rintro e w1 ⟨r, rfl, hcmp, hbl⟩
  have HB1 := Lib.hid hbl
  have hr : ¬ r < 0 := fun h => by have := hcmp.1.1 h; have := HLE.out; omega
  have y1 := (hbl.cell (p := ⟨bB, oB, none⟩) hbB).trans HY.out
  have hbr : bB < w1.heap.size := by have := hbl.size; omega
  have HS1 := Lib.hid (HSD.out _ (H.out.go hbl))
  rw [HLV.out] at HS1
  clear HCMP hcmp hbl HSD HY
  go_wp2_with fail
  refine HS1.out.mono ?_
  rintro e w2 ⟨g, l, rfl, hll, hlW, hlv, hwb, hg, hb2⟩
  have HB2 := Lib.hid (HB1.out.trans (hb2.mono HB1.out.size))
  have HQ := Lib.hid (And.intro hll (And.intro hlW (And.intro hlv hwb)))
  clear hll hlW hlv hwb hg hb2 HS1 y1
  go_wp2_with fail
  go_ret2
  have d1 := below_one w2 (.cells #[.int .u32 ((a % b : Nat) : Int)] 225)
  have hrd := HQ.out.2.2.2.reads
  rw [HQ.out.1] at hrd
  have hmb : a % b < b := Nat.mod_lt _ (by omega)
  refine ⟨some ⟨g, 0, none⟩, Pl.nw a, Pl.nw a, l, some ⟨w2.heap.size, 0, none⟩, 1, 1, [a % b], rfl, Nat.le_refl _, Nat.le_refl _, HQ.out.2.1, Pl.W32.one (by omega), HQ.out.2.2.1, by simp [Pl.lv], Nat.le_refl _, by omega, hrd.go d1, Reads.lit w2 #[.int .u32 ((a % b : Nat) : Int)] _ 1 1 _ rfl rfl, HB2.out.trans (d1.mono HB2.out.size)⟩
structure DivI (av V N n m p : Nat) (j : Nat) (us qs : List Nat) : Prop where
  ul : us.length = N + 1
  ql : qs.length = m + 1
  eq : av * p = Pl.lv (qs.drop j) * 4294967296 ^ j * V + Pl.lv (us.take (j + n))
  lt : Pl.lv (us.take (j + n)) < V * 4294967296 ^ j
  top : ∀ h : j + n < us.length, us[j + n] = 0
theorem DivI.next {av V N n m p i k Q : Nat} {us qs W : List Nat} (h : DivI av V N n m p (i + 1) us qs) (hn : n = k + 2) (hW : W.length = n) (hU : Pl.W32 us) (hQ : Pl.lv (Pl.win us i k) = Q * V + Pl.lv W) (hr : Pl.lv W < V) (hi : i + n ≤ N) (him : i ≤ m) :
    DivI av V N n m p i (Pl.wn us i (W ++ [0])) (qs.set i Q) := by
  have hul := h.ul
  have hql := h.ql
  subst hn
  have hwl : (Pl.wn us i (W ++ [0])).length = us.length := Pl.wn_len (by simp; omega)
  have hd : Pl.lv ((qs.set i Q).drop i) = Q + 4294967296 * Pl.lv (qs.drop (i + 1)) := by
    rw [Pl.lv_drop (by rw [List.length_set]; omega), List.getElem_set_self, List.drop_set_of_lt (by omega)]
  refine ⟨hwl.trans hul, by rw [List.length_set]; exact hql, ?_, Pl.div_next (by omega) hW hU hr 0, fun h9 => ?_⟩
  · rw [hd]
    exact Pl.div_step (by omega) hW h.eq (by unfold Pl.win at hQ; exact hQ) 0
  · have := Pl.wn_top (us := us) (W := W) (j := i) (k := k) (by omega) hW 0
    rw [List.getElem?_eq_getElem h9] at this
    exact Option.some.inj this
theorem wn_wn {us p1 p2 : List Nat} {i : Nat} (h : p1.length = p2.length) (hl : i ≤ us.length) : Pl.wn (Pl.wn us i p1) i p2 = Pl.wn us i p2 := by
  unfold Pl.wn
  have e1 : (us.take i ++ p1 ++ us.drop (i + p1.length)).take i = us.take i := by
    rw [List.append_assoc, List.take_append_of_le_length (by rw [List.length_take]; omega), List.take_take, Nat.min_self]
  have e2 : (us.take i ++ p1 ++ us.drop (i + p1.length)).drop (i + p2.length) = us.drop (i + p1.length) := by
    rw [List.drop_append_of_le_length (by simp only [List.length_append, List.length_take]; omega), List.drop_of_length_le (by simp only [List.length_append, List.length_take]; omega), List.nil_append]
  rw [e1, e2, h]
theorem wn_in {us p1 : List Nat} {i t : Nat} (hi : i ≤ us.length) (ht : t < p1.length) : (Pl.wn us i p1)[i + t]? = some p1[t] := by
  unfold Pl.wn
  rw [List.append_assoc, List.getElem?_append_right (by rw [List.length_take]; omega), List.length_take, Nat.min_eq_left hi, List.getElem?_append_left (by omega), show i + t - i = t by omega, List.getElem?_eq_getElem ht]
theorem and_low (x : Nat) (hx : x < 18446744073709551616) : bits .and .u64 (x : Int) 4294967295 = ((x % 4294967296 : Nat) : Int) := by
  have := u64_and_nat x 4294967295 hx (by omega)
  rw [show ((4294967295 : Nat) : Int) = 4294967295 from rfl] at this
  rw [this]
  congr 1
  have h := Nat.and_two_pow_sub_one_eq_mod x 32
  simpa using h
end Go.Proofs.YtoblpcljhblnmaaGreatDoor
namespace Go.Proofs.YtoblpcljhblnmaaGreatDoor
open Go.RowKit
def CloneSaid (e : TypeId) (size n : Nat) (xs : List Value) (w : World) (x : Ending) (w' : World) : Prop :=
  ∃ A c, x = .returned (.slice A n c) ∧ w'.ownsRow w.heap.size e size (.slice A n c) n xs ∧ Below w.heap.size w w'
theorem own_empty (w : World) (e : TypeId) (size g base : Nat) (hg : g = w.heap.size) (hb : base ≤ w.heap.size) : (w.alloc (.cells #[] e)).ownsRow base e size (.slice (some ⟨g, 0, none⟩) 0 0) 0 [] := by
  subst hg
  exact World.ownsRow_lit w #[] 0 hb (by unfold maxLen; omega) (by simp)
theorem u32s_one (l : List Nat) : ∀ u ∈ u32s l, u.oneCell' = true := by
  intro u hu
  unfold u32s at hu
  obtain ⟨o, _, rfl⟩ := List.mem_map.1 hu
  rfl
set_option maxRecDepth 100000 in
theorem clone_u32 (A : Option Addr) (n c : Nat) (xs : List Value) (w : World) (hn : n ≤ 4398046511104) (hr : Reads w w.heap.size 1 A n xs) (h1 : ∀ u ∈ xs, u.oneCell' = true) :
    Calls Tryz.prog 174 #[.slice A n c] w (CloneSaid 225 1 n xs w) := by
  obtain ⟨i0, hi0, hz0, hz1, hz2⟩ := info_parts info_u32
  rcases A with _ | ⟨b, o, s⟩
  · have h0 : n = 0 := by
      rcases Nat.eq_zero_or_pos n with h | h
      · exact h
      · obtain ⟨_, h, _⟩ := hr.2 h; cases h
    subst h0
    have hl : xs = [] := List.eq_nil_of_length_eq_zero (by simpa using hr.1)
    rw [hl]
    clear hl hr hi0 hz0 hz1 hz2 h1
    have hnil : ∀ W, (binOp .eql 101 (.slice none 0 c) (.slice none 0 0)).run Tryz.prog W = .ok (.bool true) W := fun W => Lib.run_eql_slice_nil W _ _ none 0 c 0 0 Tryz.underlying101
    go_enter Tryz.func174, Tryz.ntmps174
    go_wp2_with fail
    go_ret
    exact ⟨none, 0, rfl, World.ownsRow_nil _ _ _ _, Below.refl _ _⟩
  · have hnil : ∀ W, (binOp .eql 101 (.slice (some ⟨b, o, s⟩) n c) (.slice none 0 0)).run Tryz.prog W = .ok (.bool false) W := fun W => Lib.run_eql_slice_nil W _ _ (some ⟨b, o, s⟩) n c 0 0 Tryz.underlying101
    have HR : Hid (Reads (w.alloc (.cells #[] 225)) w.heap.size 1 (some ⟨b, o, s⟩) n xs) := hr.alloc (Nat.le_refl _) _
    have HO := Lib.hid (own_empty w 225 1 w.heap.size w.heap.size rfl (Nat.le_refl _))
    have HB := Lib.hid ((Below.refl w.heap.size w).alloc (Nat.le_refl _) (.cells #[] 225))
    have H1 := Lib.hid h1
    clear h1
    go_enter Tryz.func174, Tryz.ntmps174
    go_wp2_with (at_builtin; go_must (refine wpList_append_any _ rfl (.tmp 5) (.tmp 6) 101 rfl w.heap.size 225 i0 _ 1 4 Tryz.underlying101 hi0 hz0 hz1 hz2 rfl (by decide) (.slice (some ⟨w.heap.size, 0, none⟩) 0 0) 0 [] rfl HO.out w.heap.size (some ⟨b, o, s⟩) n c xs rfl HR.out H1.out (by unfold maxLen; omega) (by omega) (by simp) ?_); intro v' w3 hown3 hg3 _; have HO3 := Lib.hid hown3; have HG3 := Lib.hid hg3; clear hown3 hg3)
    have HO4 := HO3.out
    rw [Nat.zero_add, List.nil_append] at HO4
    obtain ⟨A', c', rfl, _⟩ := own_slice HO4
    go_ret
    exact ⟨A', c', rfl, HO4, below_grown HB.out HG3.out HO.out (Nat.le_refl _) (by simp)⟩
theorem clone_words (A : Option Addr) (n c : Nat) (l : List Nat) (w : World) (hn : n ≤ 4398046511104) (hr : Reads w w.heap.size 1 A n (u32s l)) :
    Calls Tryz.prog 174 #[.slice A n c] w fun e w' => ∃ A' c', e = .returned (.slice A' n c') ∧ n ≤ c' ∧ Reads w' w'.heap.size 1 A' n (u32s l) ∧ Below w.heap.size w w' := by
  refine (clone_u32 A n c (u32s l) w hn hr (u32s_one l)).mono ?_
  rintro e w' ⟨A', c', rfl, ho, hb⟩
  refine ⟨A', c', rfl, ?_, Reads.of_own ho, hb⟩
  rcases ho.2 with ⟨h0, h1⟩ | ⟨g, cap, cur, hv, _, _, h1, _⟩
  · injection h0 with e1 e2 e3
    omega
  · injection hv with e1 e2 e3
    omega
end Go.Proofs.YtoblpcljhblnmaaGreatDoor
