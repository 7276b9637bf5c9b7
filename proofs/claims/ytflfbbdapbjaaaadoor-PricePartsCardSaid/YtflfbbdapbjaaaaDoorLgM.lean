/- Package large: the long division of words, its words in memory. Condition: the words read. -/
import Derived.Test.YtflfbbdapbjaaaaDoorLgL
import Derived.Test.YtflfbbdapbjaaaaDoorPLargeD
import Derived.Test.YtflfbbdapbjaaaaDoorMid
namespace Go.Proofs.YtflfbbdapbjaaaaDoor
open Go.RowKit
set_option maxRecDepth 100000
/-- what divWords returns: quotient and remainder, each in words that are written no more -/
def DivSaid (a b : Nat) (w : World) (e : Ending) (w' : World) : Prop :=
  ∃ (Aq : Option Addr) (nq cq : Nat) (lq : List Nat) (Ar : Option Addr) (nr cr : Nat) (lr : List Nat), e = .returned (.tuple #[.slice Aq nq cq, .slice Ar nr cr]) ∧ nq ≤ cq ∧ nr ≤ cr ∧ Pl.W32 lq ∧ Pl.W32 lr ∧ Pl.lv lq = a / b ∧ Pl.lv lr = a % b ∧ nq ≤ Pl.nw a ∧ nr ≤ max (Pl.nw a) (Pl.nw b) ∧
    Reads w' w'.heap.size 1 Aq nq (u32s lq) ∧ Reads w' w'.heap.size 1 Ar nr (u32s lr) ∧ Below w.heap.size w w'
theorem divw_short (A : Option Addr) (c : Nat) (B : Option Addr) (d : Nat) (a b : Nat) (w : World) (hn : Pl.nw a ≤ 17592186044416) (hm : Pl.nw b ≤ 17592186044416) (hac : Pl.nw a ≤ c) (ha : Reads w w.heap.size 1 A (Pl.nw a) (u32s (Pl.digs a))) (hb : Reads w w.heap.size 1 B (Pl.nw b) (u32s (Pl.digs b))) (hlt : a < b) :
    Calls Tryd.prog 38 #[.slice A (Pl.nw a) c, .slice B (Pl.nw b) d] w (DivSaid a b w) := by
  have HCMP := Lib.hid (cmpw_any A (Pl.nw a) c (Pl.digs a) B (Pl.nw b) d (Pl.digs b) w (by omega) (by omega) ha hb (Pl.digs_can _) (Pl.digs_can _))
  rw [Pl.lv_digs, Pl.lv_digs] at HCMP
  have H := Lib.hid ha
  have HLT := Lib.hid hlt
  clear ha hb hlt
  go_enter Tryd.func38, Tryd.ntmps38
  go_wp2_with fail
  refine HCMP.out.mono ?_
  rintro e w1 ⟨r, rfl, hcmp, hbl⟩
  have HB1 := Lib.hid hbl
  have hr : r < 0 := hcmp.1.2 HLT.out
  clear HCMP hcmp hbl
  go_wp2_with fail
  go_ret2
  refine ⟨none, 0, 0, [], A, Pl.nw a, c, Pl.digs a, rfl, Nat.le_refl _, hac, Pl.W32.nil, (Pl.digs_can _).1, ?_, ?_, by omega, Nat.le_max_left _ _, Reads.none_, H.out.go HB1.out, HB1.out⟩
  · rw [Nat.div_eq_of_lt HLT.out]; rfl
  · rw [Pl.lv_digs, Nat.mod_eq_of_lt HLT.out]
set_option maxHeartbeats 1600000 in
theorem divw_one (A : Option Addr) (c : Nat) (B : Option Addr) (d : Nat) (a b : Nat) (w : World) (hn : Pl.nw a ≤ 17592186044416) (ha : Reads w w.heap.size 1 A (Pl.nw a) (u32s (Pl.digs a))) (hb : Reads w w.heap.size 1 B (Pl.nw b) (u32s (Pl.digs b))) (hle : b ≤ a) (h1 : Pl.nw b = 1) :
    Calls Tryd.prog 38 #[.slice A (Pl.nw a) c, .slice B (Pl.nw b) d] w (DivSaid a b w) := by
  have HCMP := Lib.hid (cmpw_any A (Pl.nw a) c (Pl.digs a) B (Pl.nw b) d (Pl.digs b) w (by omega) (by omega) ha hb (Pl.digs_can _) (Pl.digs_can _))
  rw [Pl.lv_digs, Pl.lv_digs] at HCMP
  have h0 : b ≠ 0 := fun e => by rw [e, Pl.nw_zero] at h1; cases h1
  have hb32 : b < 4294967296 := by have := Pl.lt_nw b; rw [h1, Nat.pow_one] at this; exact this
  have H := Lib.hid ha
  have hnm := Pl.nw_mono hle
  obtain ⟨bB, oB, rfl, hbB, hkl, y1⟩ := u32_at hb (k := 0) (by omega)
  rw [Nat.add_zero] at y1
  have e0 : (Pl.digs b)[0] = b := by
    have := Pl.digs_pos h0
    have e2 : (Pl.digs b)[0]? = some (b % 4294967296) := by rw [this]; rfl
    rw [List.getElem?_eq_getElem hkl] at e2
    injection e2 with e2
    rw [e2, Nat.mod_eq_of_lt hb32]
  rw [e0] at y1
  have HSD := Lib.hid (fun W (x : Reads W W.heap.size 1 A (Pl.nw a) (u32s (Pl.digs a))) => sdiv_any A (Pl.nw a) c (Pl.digs a) b W (by omega) x (Pl.digs_can _).1 (by omega) hb32)
  rw [h1] at HCMP ⊢
  have HLE := Lib.hid hle
  rw [h1] at hnm
  have HY := Lib.hid y1
  have HLV : Hid (Pl.lv (Pl.digs a) = a) := Pl.lv_digs a
  clear ha hb hle e0 hkl y1
  generalize Pl.digs a = la at *
  go_enter Tryd.func38, Tryd.ntmps38
  go_wp2_with fail
  refine HCMP.out.mono ?_
  rintro e w1 ⟨r, rfl, hcmp, hbl⟩
  have HB1 := Lib.hid hbl
  have hr : ¬ r < 0 := fun h => by have := hcmp.1.1 h; have := HLE.out; omega
  have y1 := (hbl.cell (p := ⟨bB, oB, none⟩) hbB).trans HY.out
  have hbr : bB < w1.heap.size := by have := hbl.size; omega
  have HS1 := Lib.hid (HSD.out _ (H.out.go hbl))
  rw [HLV.out] at HS1
  clear HCMP hcmp hbl HSD HY
  go_wp2_with fail
  refine HS1.out.mono ?_
  rintro e w2 ⟨g, l, rfl, hll, hlW, hlv, hwb, hg, hb2⟩
  have HB2 := Lib.hid (HB1.out.trans (hb2.mono HB1.out.size))
  have HQ := Lib.hid (And.intro hll (And.intro hlW (And.intro hlv hwb)))
  clear hll hlW hlv hwb hg hb2 HS1 y1
  go_wp2_with fail
  go_ret2
  have d1 := below_one w2 (.cells #[.int .u32 ((a % b : Nat) : Int)] 57)
  have hrd := HQ.out.2.2.2.reads
  rw [HQ.out.1] at hrd
  have hmb : a % b < b := Nat.mod_lt _ (by omega)
  refine ⟨some ⟨g, 0, none⟩, Pl.nw a, Pl.nw a, l, some ⟨w2.heap.size, 0, none⟩, 1, 1, [a % b], rfl, Nat.le_refl _, Nat.le_refl _, HQ.out.2.1, Pl.W32.one (by omega), HQ.out.2.2.1, by simp [Pl.lv], Nat.le_refl _, by omega, hrd.go d1, Reads.lit w2 #[.int .u32 ((a % b : Nat) : Int)] _ 1 1 _ rfl rfl, HB2.out.trans (d1.mono HB2.out.size)⟩
/-- the long division's invariant ahead of place j - 1 -/
structure DivI (av V N n m p : Nat) (j : Nat) (us qs : List Nat) : Prop where
  ul : us.length = N + 1
  ql : qs.length = m + 1
  eq : av * p = Pl.lv (qs.drop j) * 4294967296 ^ j * V + Pl.lv (us.take (j + n))
  lt : Pl.lv (us.take (j + n)) < V * 4294967296 ^ j
  top : ∀ h : j + n < us.length, us[j + n] = 0
theorem DivI.next {av V N n m p i k Q : Nat} {us qs W : List Nat} (h : DivI av V N n m p (i + 1) us qs) (hn : n = k + 2) (hW : W.length = n) (hU : Pl.W32 us) (hQ : Pl.lv (Pl.win us i k) = Q * V + Pl.lv W) (hr : Pl.lv W < V) (hi : i + n ≤ N) (him : i ≤ m) :
    DivI av V N n m p i (Pl.wn us i (W ++ [0])) (qs.set i Q) := by
  have hul := h.ul
  have hql := h.ql
  subst hn
  have hwl : (Pl.wn us i (W ++ [0])).length = us.length := Pl.wn_len (by simp; omega)
  have hd : Pl.lv ((qs.set i Q).drop i) = Q + 4294967296 * Pl.lv (qs.drop (i + 1)) := by
    rw [Pl.lv_drop (by rw [List.length_set]; omega), List.getElem_set_self, List.drop_set_of_lt (by omega)]
  refine ⟨hwl.trans hul, by rw [List.length_set]; exact hql, ?_, Pl.div_next (by omega) hW hU hr 0, fun h9 => ?_⟩
  · rw [hd]
    exact Pl.div_step (by omega) hW h.eq (by unfold Pl.win at hQ; exact hQ) 0
  · have := Pl.wn_top (us := us) (W := W) (j := i) (k := k) (by omega) hW 0
    rw [List.getElem?_eq_getElem h9] at this
    exact Option.some.inj this
theorem wn_wn {us p1 p2 : List Nat} {i : Nat} (h : p1.length = p2.length) (hl : i ≤ us.length) : Pl.wn (Pl.wn us i p1) i p2 = Pl.wn us i p2 := by
  unfold Pl.wn
  have e1 : (us.take i ++ p1 ++ us.drop (i + p1.length)).take i = us.take i := by
    rw [List.append_assoc, List.take_append_of_le_length (by rw [List.length_take]; omega), List.take_take, Nat.min_self]
  have e2 : (us.take i ++ p1 ++ us.drop (i + p1.length)).drop (i + p2.length) = us.drop (i + p1.length) := by
    rw [List.drop_append_of_le_length (by simp only [List.length_append, List.length_take]; omega), List.drop_of_length_le (by simp only [List.length_append, List.length_take]; omega), List.nil_append]
  rw [e1, e2, h]
theorem wn_in {us p1 : List Nat} {i t : Nat} (hi : i ≤ us.length) (ht : t < p1.length) : (Pl.wn us i p1)[i + t]? = some p1[t] := by
  unfold Pl.wn
  rw [List.append_assoc, List.getElem?_append_right (by rw [List.length_take]; omega), List.length_take, Nat.min_eq_left hi, List.getElem?_append_left (by omega), show i + t - i = t by omega, List.getElem?_eq_getElem ht]
theorem and_low (x : Nat) (hx : x < 18446744073709551616) : bits .and .u64 (x : Int) 4294967295 = ((x % 4294967296 : Nat) : Int) := by
  have := u64_and_nat x 4294967295 hx (by omega)
  rw [show ((4294967295 : Nat) : Int) = 4294967295 from rfl] at this
  rw [this]
  congr 1
  have h := Nat.and_two_pow_sub_one_eq_mod x 32
  simpa using h
end Go.Proofs.YtflfbbdapbjaaaaDoor
