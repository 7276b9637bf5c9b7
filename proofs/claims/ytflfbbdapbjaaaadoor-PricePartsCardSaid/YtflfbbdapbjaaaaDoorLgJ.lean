/- Package large: shortDiv and shifted answer as integers. Condition: the words read; there are at most 2^45 of them. -/
import Derived.Test.YtflfbbdapbjaaaaDoorLgI
import Derived.Laws.BitsAllLaws
namespace Go.Proofs.YtflfbbdapbjaaaaDoor
open Go.RowKit
set_option maxRecDepth 100000
/-- what shortDiv returns -/
def SDivSaid (v d n : Nat) (w : World) (e : Ending) (w' : World) : Prop :=
  ∃ (g : Nat) (l : List Nat), e = .returned (.tuple #[.slice (some ⟨g, 0, none⟩) n n, .int .u32 ((v % d : Nat) : Int)]) ∧ l.length = n ∧ Pl.W32 l ∧ Pl.lv l = v / d ∧ WB w' g l ∧ w.heap.size ≤ g ∧ Below w.heap.size w w'
theorem or_hi (r x : Nat) (hr : r < 4294967296) (hx : x < 4294967296) : bits .or .u64 ((r : Int) * 4294967296) (x : Int) = ((r * 4294967296 + x : Nat) : Int) := by
  have e : (r : Int) * 4294967296 = ((r * 4294967296 : Nat) : Int) := by omega
  rw [e, u64_or_nat _ _ (by omega) (by omega), show r * 4294967296 = r <<< 32 by rw [Nat.shiftLeft_eq], Nat.shiftLeft_add_eq_or_of_lt (by simpa using hx)]
theorem or_lo (c x s : Nat) (hc : c < 2 ^ s) (hs : x * 2 ^ s < 18446744073709551616) (hc2 : c < 18446744073709551616) : bits .or .u64 (c : Int) ((x * 2 ^ s : Nat) : Int) = ((c + x * 2 ^ s : Nat) : Int) := by
  rw [u64_or_nat _ _ hc2 hs, Nat.or_comm, ← Nat.shiftLeft_eq, ← Nat.shiftLeft_add_eq_or_of_lt hc, Nat.add_comm]
set_option maxHeartbeats 3200000 in
theorem sdiv_any (A : Option Addr) (n c : Nat) (la : List Nat) (d : Nat) (w : World) (hn : n ≤ 35184372088832) (ha : Reads w w.heap.size 1 A n (u32s la)) (ca : Pl.W32 la) (hd : 0 < d) (hd2 : d < 4294967296) :
    Calls Tryd.prog 44 #[.slice A n c, .int .u32 (d : Int)] w (SDivSaid (Pl.lv la) d n w) := by
  have H := Lib.hid ha
  have HLA := Lib.hid (u32_len ha)
  have HCA := Lib.hid ca
  clear ha ca
  have hmk := fun W => make_u32 n (by omega) W
  have wn1 : IntKind.i64.wrap ((n : Int) - 1) = (n : Int) - 1 := IntWalk.i64_in _ (by omega)
  go_enter Tryd.func44, Tryd.ntmps44
  go_wp2_with fail
  have B0 := Lib.hid (WB.new_ w n)
  have D0 := Lib.hid ((Below.refl w.heap.size w).alloc (Nat.le_refl _) (.cells (u32s (List.replicate n 0)).toArray 57))
  generalize (w.alloc (.cells (u32s (List.replicate n 0)).toArray 57)) = w1 at *
  clear hmk
  go_loopw [7, 8] (fun rv iv wr => ∃ (k r : Nat) (o : List Nat), k ≤ n ∧ iv = .int .i64 ((k : Int) - 1) ∧ rv = .int .u64 (r : Int) ∧ r < d ∧ Hid (o.length = n ∧ Pl.W32 o ∧ Pl.lv (o.drop k) * d + r = Pl.lv (la.drop k)) ∧ Hid (WB wr w.heap.size o) ∧ Hid (Below w.heap.size w wr)) (fun _ iv _ => (intOf iv + 1).toNat)
  case atStart => exact ⟨n, 0, _, Nat.le_refl _, rfl, rfl, hd, Lib.hid ⟨by simp, Pl.W32.zeros n, by rw [List.drop_of_length_le (by simp), List.drop_of_length_le (by have := HLA.out; omega)]; simp [Pl.lv]⟩, B0.out, D0.out⟩
  case round =>
    obtain ⟨k, r, o, hk, rfl, rfl, hr, HO, HW, HD⟩ := hrel
    by_cases hk0 : k = 0
    · subst hk0
      have em : (r : Int) % 4294967296 = (r : Int) := by omega
      have hv := HO.out.2.2
      simp only [List.drop_zero] at hv
      have HV : Hid (r = Pl.lv la % d ∧ Pl.lv o = Pl.lv la / d) := by
        constructor
        · rw [← hv, Nat.mul_comm, Nat.mul_add_mod, Nat.mod_eq_of_lt hr]
        · rw [← hv, Nat.mul_comm, Nat.mul_add_div hd, Nat.div_eq_of_lt hr, Nat.add_zero]
      clear hv
      go_wp2_with fail
      go_ret2
      refine ⟨w.heap.size, o, ?_, HO.out.1, HO.out.2.1, HV.out.2, HW.out, Nat.le_refl _, HD.out⟩
      rw [← HV.out.1]
      rfl
    · obtain ⟨j, rfl⟩ : ∃ j, k = j + 1 := ⟨k - 1, by omega⟩
      obtain ⟨b, o', rfl, hb1, hjl, y0⟩ := u32_at (H.out.below HD.out) (k := j) (by omega)
      have hbr : b < wr.heap.size := by have := HD.out.size; omega
      have e1 : (((j + 1 : Nat) : Int) - 1) = (j : Int) := by omega
      rw [e1]
      clear e1
      have j0 : (0 : Int) ≤ (j : Int) := by omega
      have j1 : (j : Int) < (n : Int) := by omega
      have hxb := HCA.out.at_ hjl
      have HX : Hid (∃ x, x = la[j]) := ⟨_, rfl⟩
      obtain ⟨x, hx⟩ := HX.out
      rw [← hx] at y0 hxb
      have HXE := Lib.hid hx
      clear hx HX
      have hol : j < o.length := by have := HO.out.1; omega
      obtain ⟨v0, c0⟩ := HW.out.ex hol
      have f0 := HW.out.frozen j
      have l0 := HW.out.lt
      have wj : IntKind.i64.wrap ((j : Int) - 1) = (j : Int) - 1 := IntWalk.i64_in _ (by omega)
      obtain ⟨t, ht⟩ : ∃ t : Nat, t = r * 4294967296 + x := ⟨_, rfl⟩
      have hor : bits .or .u64 ((r : Int) * 4294967296) (x : Int) = (t : Int) := by rw [ht]; exact or_hi r x (by omega) hxb
      obtain ⟨q, hq⟩ : ∃ q : Nat, q = t / d := ⟨_, rfl⟩
      obtain ⟨u, hu⟩ : ∃ u : Nat, u = t % d := ⟨_, rfl⟩
      have hqb : q < 4294967296 := by rw [hq, ht]; exact Pl.sdiv_lt hr hxb
      have hub : u < d := by rw [hu]; exact Nat.mod_lt _ hd
      have td : (t : Int).tdiv (d : Int) = (q : Int) := by rw [hq]; rfl
      have tm : (t : Int).tmod (d : Int) = (u : Int) := by rw [hu]; rfl
      have wq : IntKind.u64.wrap (q : Int) = (q : Int) := IntWalk.u64_in _ (by omega)
      have eq : (q : Int) % 4294967296 = (q : Int) := by omega
      have HO2 : Hid ((o.set j q).length = n ∧ Pl.W32 (o.set j q) ∧ Pl.lv ((o.set j q).drop j) * d + u = Pl.lv (la.drop j)) := by
        refine ⟨by rw [List.length_set]; exact HO.out.1, HO.out.2.1.set j hqb, ?_⟩
        have := Pl.sdiv_step hjl (by rw [HO.out.1, HLA.out]) HO.out.2.2
        rw [← HXE.out, ← ht, ← hq, ← hu] at this
        exact this
      have HW2 := Lib.hid (HW.out.set_ j q)
      have HD2 : Hid (Below w.heap.size w (wr.setCell ⟨w.heap.size, j, none⟩ (.int .u32 (q : Int)))) := HD.out.setCell (Nat.le_refl _) _
      have hd0 : ((d : Int) == 0) = false := by simp; omega
      clear HO HW HD ht hq hu
      go_wp2_with fail
      refine ⟨⟨j, u, _, by omega, rfl, rfl, hub, HO2, HW2, HD2⟩, ?_⟩
      simp [intOf]
end Go.Proofs.YtflfbbdapbjaaaaDoor
