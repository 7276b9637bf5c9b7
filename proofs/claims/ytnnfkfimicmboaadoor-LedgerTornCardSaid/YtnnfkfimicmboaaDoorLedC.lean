/- ledger.Check gives what its plain function gives. Condition: the entries lie in memory as the words say. -/
import Derived.Test.YtnnfkfimicmboaaDoorLedA
namespace Go.Proofs.YtnnfkfimicmboaaDoor
open Go.RowKit
set_option maxHeartbeats 3200000 in
set_option maxRecDepth 100000 in
theorem lcheck_any (A : Option Addr) (n c : Nat) (l : List Pl.LE) (w : World) (h : Ents w A n l) :
    Calls Tryd.prog 21 #[.slice A n c] w fun e w' => e = .returned (.int .i64 (Pl.lcheck l)) ∧ Below w.heap.size w w' := by
  have L := Lib.hid h.len
  have H := Lib.hid h
  clear h
  have HX : Hid (Pl.lcheck l = if 256 < l.length then 2 else if Pl.lbads l ≠ 0 then Pl.lbads l else if 64 < (Pl.accL l).length then 9 else 0) := rfl
  generalize Pl.lcheck l = R at *
  by_cases hbig : 256 < n
  · rw [if_pos (by rw [L.out]; exact hbig)] at HX
    have hb2 : (256 : Int) < (n : Int) := by omega
    go_enter Tryd.func21, Tryd.ntmps21
    go_wp2_with fail
    go_ret
    rw [HX.out]
    exact ⟨rfl, Below.refl _ _⟩
  · rw [if_neg (by rw [L.out]; exact hbig)] at HX
    have HACC := Lib.hid (fun (w2 : World) h => accounts_any A n c l w2 (by omega) h)
    unfold AccSaid at HACC
    go_enter Tryd.func21, Tryd.ntmps21
    go_wp2_with fail
    go_loopw [10] (fun i wr => ∃ k : Nat, k ≤ n ∧ i = .int .i64 k ∧ Hid (Pl.lbads (l.take k) = 0) ∧ Hid (Below w.heap.size w wr)) (fun i _ => n - (intOf i).toNat)
    case atStart => exact ⟨0, Nat.zero_le _, rfl, rfl, Below.refl _ _⟩
    case round =>
      obtain ⟨k, hk, rfl, HN, HB⟩ := hrel
      by_cases hlt : k < n
      · obtain ⟨b, o, rfl, hl, c0, c1, c2, hin⟩ := (H.out.go HB.out).at_ hlt
        have HFS : Hid (Pl.lbad l[k] ≠ 0 → R = Pl.lbad l[k]) := fun h => by
          rw [HX.out, if_pos (by rw [Pl.lbads_first hl HN.out h]; exact h), Pl.lbads_first hl HN.out h]
        have HNX : Hid (Pl.lbad l[k] = 0 → Pl.lbads (l.take (k + 1)) = 0) := fun h => by
          rw [List.take_succ_eq_append_getElem hl, Pl.lbads_snoc, if_neg (by rw [HN.out]; simp), h]
        generalize l[k] = x at *
        obtain ⟨xf, xt, xc⟩ := x
        obtain ⟨z1, z2, _, _⟩ := hin
        have HM1 := Lib.hid (fun w => name_any xf w z1)
        have HM2 := Lib.hid (fun w => name_any xt w z2)
        have HBD : Hid (Pl.lbad (xf, xt, xc) = if Pl.nameB xf = false ∨ Pl.nameB xt = false then 6 else if xf = xt then 1 else if xc < 1 ∨ 1000000000000 < xc then 4 else 0) := rfl
        simp only at c0 c1 c2
        generalize Pl.lbad (xf, xt, xc) = bad at *
        clear hl z1 z2
        have k0 : (0 : Int) ≤ (k : Int) := by omega
        have k1 : (k : Int) < (n : Int) := by omega
        have AL : Hid (Below wr.heap.size wr (wr.alloc (.cells #[.string xf, .string xt, .int .i64 xc] 31))) := (Below.refl _ _).alloc (Nat.le_refl _) _
        have BU : Hid (Blk (wr.alloc (.cells #[.string xf, .string xt, .int .i64 xc] 31)) wr.heap.size 31 #[.string xf, .string xt, .int .i64 xc]) := Blk.new_ _ _ _ _ rfl
        have HB1 := Lib.hid (HB.out.trans (AL.out.mono HB.out.size))
        go_wp2_with fail
        clear c0 c1 c2
        generalize wr.alloc (.cells #[.string xf, .string xt, .int .i64 xc] 31) = wa at *
        generalize wr.heap.size = bu at *
        refine (HM1.out wa).mono ?_
        rintro e w2 ⟨rfl, hb⟩
        have HB2 := Lib.hid (HB1.out.trans (hb.mono HB1.out.size))
        have BU2 := Lib.hid (BU.out.go hb)
        clear hb HB1 BU HM1 AL HB
        cases hn1 : Pl.nameB xf
        · rw [hn1, if_pos (Or.inl rfl)] at HBD
          have hr := HFS.out (by rw [HBD.out]; decide)
          rw [HBD.out] at hr
          have HR := Lib.hid hr
          clear hr hn1
          go_wp2_with fail
          go_ret
          rw [HR.out]
          exact ⟨rfl, HB2.out⟩
        · have b1 := BU2.out.cell 1
          go_wp2_with fail
          refine (HM2.out w2).mono ?_
          rintro e w3 ⟨rfl, hb⟩
          have HB3 := Lib.hid (HB2.out.trans (hb.mono HB2.out.size))
          have BU3 := Lib.hid (BU2.out.go hb)
          clear hb HB2 BU2 HM2 b1
          cases hn2 : Pl.nameB xt
          · rw [hn2, if_pos (Or.inr rfl)] at HBD
            have hr := HFS.out (by rw [HBD.out]; decide)
            rw [HBD.out] at hr
            have HR := Lib.hid hr
            clear hr hn1 hn2
            go_wp2_with fail
            go_ret
            rw [HR.out]
            exact ⟨rfl, HB3.out⟩
          · rw [hn1, hn2, if_neg (by simp)] at HBD
            clear hn1 hn2
            have b0 := BU3.out.cell 0
            have b1 := BU3.out.cell 1
            have b2 := BU3.out.cell 2
            by_cases hxx : xf = xt
            · subst hxx
              rw [if_pos rfl] at HBD
              have hr := HFS.out (by rw [HBD.out]; decide)
              rw [HBD.out] at hr
              have HR := Lib.hid hr
              clear hr
              go_wp2_with fail
              go_ret
              rw [HR.out]
              exact ⟨rfl, HB3.out⟩
            · rw [if_neg hxx] at HBD
              have hne := str_ne hxx
              have hne2 := str_ne2 hxx
              by_cases hx1 : xc < 1
              · rw [if_pos (Or.inl hx1)] at HBD
                have hr := HFS.out (by rw [HBD.out]; decide)
                rw [HBD.out] at hr
                have HR := Lib.hid hr
                clear hr
                go_wp2_with fail
                go_ret
                rw [HR.out]
                exact ⟨rfl, HB3.out⟩
              · by_cases hx2 : 1000000000000 < xc
                · rw [if_pos (Or.inr hx2)] at HBD
                  have hr := HFS.out (by rw [HBD.out]; decide)
                  rw [HBD.out] at hr
                  have HR := Lib.hid hr
                  clear hr
                  go_wp2_with fail
                  go_ret
                  rw [HR.out]
                  exact ⟨rfl, HB3.out⟩
                · rw [if_neg (by omega)] at HBD
                  have HN2 := Lib.hid (HNX.out HBD.out)
                  go_wp2_with fail
                  go_roundw
                  case rel => exact ⟨k + 1, by omega, by go_num, HN2, HB3⟩
                  case measure => simp [intOf]; omega
      · have : n = k := by omega
        subst this
        rw [List.take_of_length_le (by rw [L.out]; exact Nat.le_refl _)] at HN
        rw [HN.out, if_neg (by simp)] at HX
        go_wp2_with fail
        refine (HACC.out wr (H.out.go HB.out)).mono ?_
        rintro e w2 ⟨A2, c2, rfl, _, hb⟩
        have HB2 := Lib.hid (HB.out.trans (hb.mono HB.out.size))
        clear hb
        by_cases h64 : 64 < (Pl.accL l).length
        · rw [if_pos h64] at HX
          have h64b : (64 : Int) < ((Pl.accL l).length : Int) := by omega
          go_wp2_with fail
          go_ret
          rw [HX.out]
          exact ⟨rfl, HB2.out⟩
        · rw [if_neg h64] at HX
          have h64b : ¬ (64 : Int) < ((Pl.accL l).length : Int) := by omega
          go_wp2_with fail
          go_ret
          rw [HX.out]
          exact ⟨rfl, HB2.out⟩
end Go.Proofs.YtnnfkfimicmboaaDoor
