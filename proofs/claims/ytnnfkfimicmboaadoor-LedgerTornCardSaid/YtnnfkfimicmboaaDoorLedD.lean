/- ledger.balance, Balance and Accounts give what their plain functions give. Condition: the entries lie in memory as the words say. -/
import Derived.Test.YtnnfkfimicmboaaDoorLedC
namespace Go.Proofs.YtnnfkfimicmboaaDoor
open Go.RowKit
set_option maxHeartbeats 1600000 in
set_option maxRecDepth 100000 in
theorem balance_any (A : Option Addr) (n c : Nat) (l : List Pl.LE) (nm : ByteArray) (w : World) (hn : n ≤ 300) (hl : ∀ x ∈ l, 1 ≤ x.2.2 ∧ x.2.2 ≤ 1000000000000) (h : Ents w A n l) :
    Calls Tryd.prog 32 #[.slice A n c, .string nm] w fun e w' => e = .returned (.int .i64 (Pl.bal l nm)) ∧ Below w.heap.size w w' := by
  have L := Lib.hid h.len
  have H := Lib.hid h
  have HL := Lib.hid hl
  clear h hl
  go_enter Tryd.func32, Tryd.ntmps32
  go_wp2_with fail
  go_loopw [5, 10] (fun v i wr => ∃ k : Nat, k ≤ n ∧ i = .int .i64 k ∧ v = .int .i64 (Pl.bal (l.take k) nm) ∧ Hid (Below w.heap.size w wr)) (fun _ i _ => n - (intOf i).toNat)
  case atStart => exact ⟨0, Nat.zero_le _, rfl, rfl, Below.refl _ _⟩
  case round =>
    obtain ⟨k, hk, rfl, rfl, HB⟩ := hrel
    by_cases hlt : k < n
    · obtain ⟨b, o, rfl, hl, c0, c1, c2, _⟩ := (H.out.go HB.out).at_ hlt
      have HBS : Hid (Pl.bal (l.take (k + 1)) nm = Pl.balS nm (Pl.bal (l.take k) nm) l[k]) := by show _ = _; rw [List.take_succ_eq_append_getElem hl, Pl.bal_snoc]
      have hx := HL.out _ (List.getElem_mem hl)
      have hbd := Pl.bal_bd (l := l.take k) (fun x hx => HL.out x (List.mem_of_mem_take hx)) nm
      have hlen : ((l.take k).length : Int) ≤ 300 := by rw [List.length_take]; omega
      generalize l[k] = x at *
      obtain ⟨xf, xt, xc⟩ := x
      unfold Pl.balS at HBS
      simp only at c0 c1 c2 HBS hx
      generalize Pl.bal (l.take k) nm = bk at *
      generalize ((l.take k).length : Int) = kl at *
      clear hl
      have k0 : (0 : Int) ≤ (k : Int) := by omega
      have k1 : (k : Int) < (n : Int) := by omega
      have HB1 := Lib.hid (HB.out.alloc HB.out.size (.cells #[.string xf, .string xt, .int .i64 xc] 31))
      have hw1 : IntKind.i64.wrap (bk - xc) = bk - xc := IntWalk.i64_in _ (by omega)
      have hw2 : IntKind.i64.wrap (bk + xc) = bk + xc := IntWalk.i64_in _ (by omega)
      have hw3 : IntKind.i64.wrap (bk - xc + xc) = bk - xc + xc := IntWalk.i64_in _ (by omega)
      by_cases h1 : xf = nm
      · subst h1
        rw [if_pos rfl] at HBS
        by_cases h2 : xt = xf
        · subst h2
          rw [if_pos rfl] at HBS
          go_wp2_with fail
          go_roundw
          case rel => exact ⟨k + 1, by omega, by go_num, vint (by rw [HBS.out]; omega), HB1⟩
          case measure => simp [intOf]; omega
        · rw [if_neg h2, Int.add_zero] at HBS
          have e1 := str_ne h2
          have e2 := str_ne2 h2
          go_wp2_with fail
          go_roundw
          case rel => exact ⟨k + 1, by omega, by go_num, vint HBS.out.symm, HB1⟩
          case measure => simp [intOf]; omega
      · rw [if_neg h1] at HBS
        have e1 := str_ne h1
        have e2 := str_ne2 h1
        by_cases h2 : xt = nm
        · subst h2
          rw [if_pos rfl] at HBS
          go_wp2_with fail
          go_roundw
          case rel => exact ⟨k + 1, by omega, by go_num, vint HBS.out.symm, HB1⟩
          case measure => simp [intOf]; omega
        · rw [if_neg h2, Int.add_zero] at HBS
          have e3 := str_ne h2
          have e4 := str_ne2 h2
          go_wp2_with fail
          go_roundw
          case rel => exact ⟨k + 1, by omega, by go_num, vint HBS.out.symm, HB1⟩
          case measure => simp [intOf]; omega
    · have : n = k := by omega
      subst this
      have HT : Hid (l.take n = l) := List.take_of_length_le (by rw [L.out]; exact Nat.le_refl _)
      go_wp2_with fail
      go_ret
      rw [HT.out]
      exact ⟨rfl, HB.out⟩
/-- slices.Contains on texts of the call's own -/
theorem contains_own (base : Nat) (A : Option Addr) (c : Nat) (zs : List (List UInt8)) (nm : ByteArray) (w : World) (hl : zs.length ≤ 1000000000) (hown : w.ownsRow base 9 1 (.slice A zs.length c) zs.length (strs zs)) :
    Calls Tryd.prog 30 #[.slice A zs.length c, .string nm] w fun e w' => e = .returned (.bool (decide (Pl.bl nm ∈ zs))) ∧ w' = w := by
  rcases hown.2 with ⟨hv, _⟩ | ⟨g, cap, cur, hv, hg1, hh, hcap, _⟩
  · injection hv with hv1 hv2 hv3
    have hS0 : zs = [] := List.eq_nil_of_length_eq_zero hv2
    subst hS0 hv1 hv3
    have h := Any.slices_Contains_string_empty contS none 0 nm w
    change Calls Tryd.prog 30 _ _ _ at h
    refine h.mono ?_
    rintro e w1 ⟨rfl, rfl⟩
    exact ⟨rfl, rfl⟩
  · injection hv with hv1 hv2 hv3
    subst hv1 hv3
    have hH := holds_strs hown
    have h := Any.slices_Contains_string contS g 0 zs.length c (zs.map fun l => ⟨l.toArray⟩) nm w (by simp) (by omega) (fun j hj => by
      have hj2 : j < zs.length := by simpa using hj
      have := (hH j (by simpa using hj2)).1
      rw [this, getElem!_pos zs.toArray j (by simpa using hj2)]
      simp [List.getD_eq_getElem?_getD, hj2])
    change Calls Tryd.prog 30 _ _ _ at h
    refine h.mono ?_
    rintro e w1 ⟨rfl, rfl⟩
    refine ⟨?_, rfl⟩
    congr 2
    rw [List.take_of_length_le (by simp)]
    have hiff := Go.Lib.containsS_iff (zs.map fun l => (⟨l.toArray⟩ : ByteArray)) nm
    rw [Bool.eq_iff_iff, hiff, decide_eq_true_iff, List.mem_map]
    constructor
    · rintro ⟨l, hl, rfl⟩; exact hl
    · intro hm; exact ⟨_, hm, rfl⟩
/-- ledger.Balance -/
def Pl.lBalance (l : List Pl.LE) (nm : ByteArray) : Int × Int := if Pl.lcheck l ≠ 0 then (0, Pl.lcheck l) else if Pl.bl nm ∈ Pl.accL l then (Pl.bal l nm, 0) else (0, 8)
set_option maxHeartbeats 1600000 in
set_option maxRecDepth 100000 in
theorem lbalance_any (A : Option Addr) (n c : Nat) (l : List Pl.LE) (nm : ByteArray) (w : World) (h : Ents w A n l) :
    Calls Tryd.prog 15 #[.slice A n c, .string nm] w fun e w' => e = .returned (.tuple #[.int .i64 (Pl.lBalance l nm).1, .int .i64 (Pl.lBalance l nm).2]) ∧ Below w.heap.size w w' := by
  have L := Lib.hid h.len
  have H := Lib.hid h
  have HC := Lib.hid (fun w h => lcheck_any A n c l w h)
  have HX : Hid (Pl.lBalance l nm = if Pl.lcheck l ≠ 0 then (0, Pl.lcheck l) else if Pl.bl nm ∈ Pl.accL l then (Pl.bal l nm, 0) else (0, 8)) := rfl
  generalize Pl.lBalance l nm = R at *
  clear h
  by_cases h0 : Pl.lcheck l = 0
  · rw [if_neg (by simpa using h0)] at HX
    obtain ⟨k1, k2, k3⟩ := Pl.lcheck_ok.1 h0
    rw [h0] at HC
    have hn : n ≤ 256 := by rw [← L.out]; exact k1
    have HACC := Lib.hid (fun (w2 : World) h => accounts_any A n c l w2 (by omega) h)
    unfold AccSaid at HACC
    have HBAL := Lib.hid (fun w h => balance_any A n c l nm w (by omega) (fun x hx => (Pl.lbad_ok.1 (k2 x hx)).2.2.2) h)
    have hal : (Pl.accL l).length ≤ 1000000000 := by omega
    clear h0 k1 k2 k3
    go_enter Tryd.func15, Tryd.ntmps15
    go_wp2_with fail
    refine (HC.out _ H.out).mono ?_
    rintro e w1 ⟨rfl, hb⟩
    have HB1 := Lib.hid hb
    clear hb HC
    go_wp2_with fail
    refine (HACC.out w1 (H.out.go HB1.out)).mono ?_
    rintro e w2 ⟨A2, c2, rfl, hown, hb⟩
    have HB2 := Lib.hid (HB1.out.trans (hb.mono HB1.out.size))
    have HCT := Lib.hid (contains_own _ A2 c2 (Pl.accL l) nm w2 hal hown)
    clear hb hown HACC
    go_wp2_with fail
    refine HCT.out.mono ?_
    rintro e w3 ⟨rfl, rfl⟩
    by_cases hm : Pl.bl nm ∈ Pl.accL l
    · rw [if_pos hm] at HX
      have hd : decide (Pl.bl nm ∈ Pl.accL l) = true := decide_eq_true hm
      rw [hd]
      clear hd hm
      go_wp2_with fail
      refine (HBAL.out _ (H.out.go HB2.out)).mono ?_
      rintro e w4 ⟨rfl, hb⟩
      have HB4 := Lib.hid (HB2.out.trans (hb.mono HB2.out.size))
      clear hb
      go_wp2_with fail
      go_ret2
      rw [HX.out]
      exact ⟨rfl, HB4.out⟩
    · rw [if_neg hm] at HX
      have hd : decide (Pl.bl nm ∈ Pl.accL l) = false := decide_eq_false hm
      rw [hd]
      clear hd hm
      go_wp2_with fail
      go_ret2
      rw [HX.out]
      exact ⟨rfl, HB2.out⟩
  · rw [if_pos h0] at HX
    generalize Pl.lcheck l = E at *
    have he : (E != 0) = true := by simpa using h0
    clear h0
    go_enter Tryd.func15, Tryd.ntmps15
    go_wp2_with fail
    refine (HC.out _ H.out).mono ?_
    rintro e w1 ⟨rfl, hb⟩
    have HB1 := Lib.hid hb
    clear hb HC
    go_wp2_with fail
    go_ret2
    rw [HX.out]
    exact ⟨rfl, HB1.out⟩
set_option maxRecDepth 100000 in
theorem laccounts_any (A : Option Addr) (n c : Nat) (l : List Pl.LE) (w : World) (h : Ents w A n l) :
    Calls Tryd.prog 16 #[.slice A n c] w fun e w' => ∃ A2 c2, e = .returned (.tuple #[.slice A2 (if Pl.lcheck l ≠ 0 then [] else Pl.accL l).length c2, .int .i64 (Pl.lcheck l)]) ∧ w'.ownsRow w.heap.size 9 1 (.slice A2 (if Pl.lcheck l ≠ 0 then [] else Pl.accL l).length c2) (if Pl.lcheck l ≠ 0 then [] else Pl.accL l).length (strs (if Pl.lcheck l ≠ 0 then [] else Pl.accL l)) ∧ Below w.heap.size w w' := by
  have L := Lib.hid h.len
  have H := Lib.hid h
  have HC := Lib.hid (fun w h => lcheck_any A n c l w h)
  clear h
  by_cases h0 : Pl.lcheck l = 0
  · rw [if_neg (by simpa using h0)]
    obtain ⟨k1, k2, k3⟩ := Pl.lcheck_ok.1 h0
    rw [h0] at HC ⊢
    have hn : n ≤ 256 := by rw [← L.out]; exact k1
    have HACC := Lib.hid (fun (w2 : World) h => accounts_any A n c l w2 (by omega) h)
    unfold AccSaid at HACC
    clear h0 k1 k2 k3
    go_enter Tryd.func16, Tryd.ntmps16
    go_wp2_with fail
    refine (HC.out _ H.out).mono ?_
    rintro e w1 ⟨rfl, hb⟩
    have HB1 := Lib.hid hb
    clear hb HC
    go_wp2_with fail
    refine (HACC.out w1 (H.out.go HB1.out)).mono ?_
    rintro e w2 ⟨A2, c2, rfl, hown, hb⟩
    have HB2 := Lib.hid (HB1.out.trans (hb.mono HB1.out.size))
    have HO := Lib.hid (own_base hown HB1.out.size)
    clear hb hown HACC
    go_wp2_with fail
    go_ret2
    exact ⟨A2, c2, rfl, HO.out, HB2.out⟩
  · rw [if_pos h0]
    generalize Pl.lcheck l = E at *
    have he : (E != 0) = true := by simpa using h0
    clear h0
    go_enter Tryd.func16, Tryd.ntmps16
    go_wp2_with fail
    refine (HC.out _ H.out).mono ?_
    rintro e w1 ⟨rfl, hb⟩
    have HB1 := Lib.hid hb
    clear hb HC
    go_wp2_with fail
    go_ret2
    exact ⟨none, 0, rfl, World.ownsRow_nil _ _ _ _, HB1.out⟩
end Go.Proofs.YtnnfkfimicmboaaDoor
