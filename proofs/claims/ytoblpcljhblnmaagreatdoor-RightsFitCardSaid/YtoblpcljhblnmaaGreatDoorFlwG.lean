/- flow.Model: Buses, angles, Angles, Flows. flow.Model: slices.Clone, Angles. flow.Model: Flows. -/
import Derived.Test.YtoblpcljhblnmaaGreatDoorFlwO
import Derived.Test.YtoblpcljhblnmaaGreatDoorDot
namespace Go.Proofs.YtoblpcljhblnmaaGreatDoor
open Go.RowKit
set_option maxRecDepth 100000
def Pl.rightN (R : List Int) (p : List Rat) : List Rat := R.map fun b => p.getD b.toNat 0
def Pl.angTo (U : Pl.Mat) (R : List Int) (right : List Rat) (mb : Nat) (k : Nat) : List Rat := (List.range k).foldl (fun out i => out.set (R.getD i 0).toNat (Pl.dotN (U.getD i []) right)) (List.replicate mb 0)
def Pl.angN (U : Pl.Mat) (R : List Int) (mb : Nat) (p : List Rat) : List Rat := Pl.angTo U R (Pl.rightN R p) mb R.length
theorem Pl.angTo_next (U : Pl.Mat) (R : List Int) (right : List Rat) (mb k : Nat) : Pl.angTo U R right mb (k + 1) = (Pl.angTo U R right mb k).set (R.getD k 0).toNat (Pl.dotN (U.getD k []) right) := by
  unfold Pl.angTo
  rw [List.range_succ, List.foldl_append]
  rfl
theorem Pl.angTo_len (U : Pl.Mat) (R : List Int) (right : List Rat) (mb : Nat) : ∀ k, (Pl.angTo U R right mb k).length = mb
  | 0 => by unfold Pl.angTo; simp
  | k + 1 => by rw [Pl.angTo_next, List.length_set]; exact Pl.angTo_len U R right mb k
theorem mbuses_any (p : Nat) (X : MdA) (vI : Value) (w : World) (hX : ModAt w p X vI) : Calls Tryz.prog 69 #[.pointer (some ⟨p, 0, none⟩)] w fun e w' => e = .returned (.int .i64 X.mb) ∧ w' = w := by
  have cp := hX.blk.cell
  have lp := hX.blk.lt
  unfold MdA.cells at cp
  go_enter Tryz.func69, Tryz.ntmps69
  go_wp2_with fail
  go_ret
  exact ⟨rfl, rfl⟩
set_option maxHeartbeats 6400000 in
theorem angles_b (p g cp : Nat) (X : MdA) (U : List (Option Addr × Nat × List (Rat × Rt))) (P : Option Addr) (Lp : List (Rat × Rt)) (S : Nat) (w : World) (hX : ModAt w p X (.slice (some ⟨g, 0, none⟩) X.nf X.nf)) (hU : MatIn w w.heap.size (some ⟨g, 0, none⟩) X.nf X.nf U)
    (hP : RatsIs w w.heap.size P X.mb Lp) (hb : X.mb ≤ 24) (hf : X.nf ≤ 24) (hR : ∀ v ∈ X.R, 0 ≤ v ∧ v < X.mb) (hSU : ∀ row ∈ svals U, ∀ q ∈ row, Pl.rsz q ≤ S) (hSp : ∀ q ∈ Lp.map (·.1), Pl.rsz q ≤ S) (hS : 1 ≤ S ∧ S ≤ 1000000000) :
    Calls Tryz.prog 105 #[.pointer (some ⟨p, 0, none⟩), .slice P X.mb cp] w (ParseASaid (Pl.angN (svals U) X.R X.mb (Lp.map (·.1))) X.mb w) := by
  have HX := Lib.hid hX
  have HU := Lib.hid hU
  have HP := Lib.hid hP
  have HR := Lib.hid hR
  have HRL : Hid (X.R.length = X.nf) := hX.r.int_len
  have HSU := Lib.hid hSU
  have HSP := Lib.hid hSp
  clear hX hU hP hR hSU hSp
  have cp9 := HX.out.blk.cell
  have lp9 := HX.out.blk.lt
  unfold MdA.cells at cp9
  have hmk := make_rat X.nf (by omega)
  have R0 := Lib.hid (RL.new_ w X.nf)
  have D0 := Lib.hid (below_oneS w (.cells (rtl (List.replicate X.nf rt0)).toArray 105))
  go_enter Tryz.func105, Tryz.ntmps105
  go_wp2_with fail
  obtain ⟨gr, hgr⟩ : ∃ g : Nat, g = w.heap.size := ⟨_, rfl⟩
  have HGR := Lib.hid (show w.heap.size ≤ gr by omega)
  rw [← hgr] at R0 ⊢
  clear hmk hgr cp9 lp9
  generalize w.alloc (.cells (rtl (List.replicate X.nf rt0)).toArray 105) = w1 at *
  have cp9 := (HX.out.go D0.out).blk.cell
  have lp9 := (HX.out.go D0.out).blk.lt
  unfold MdA.cells at cp9
  go_wp2_with fail
  clear cp9 lp9
  go_loopw [22] (fun i wr => ∃ (k : Nat) (L : List (Rat × Rt)), k ≤ X.nf ∧ i = .int .i64 k ∧ L.length = k ∧ Hid (L.map (·.1) = (Pl.rightN X.R (Lp.map (·.1))).take k) ∧ Hid (RL wr gr L (X.nf - k)) ∧ Hid (Below w.heap.size w wr)) (fun i _ => X.nf - (intOf i).toNat)
  case atStart => exact ⟨0, [], Nat.zero_le _, rfl, rfl, by show _ = _; simp, by rw [Nat.sub_zero]; exact R0, D0⟩
  case round =>
    clear R0 D0
    obtain ⟨k, L, hk, rfl, hl, HQ, RX, D⟩ := hrel
    by_cases hlt : k < X.nf
    · have hk4 : (k : Int) < (X.nf : Int) := by omega
      have hkR : k < X.R.length := by rw [HRL.out]; exact hlt
      obtain ⟨br, o7, eAr, _, hcr⟩ := ints_getD (HX.out.go D.out).r hlt
      have hv := HR.out _ (List.getElem_mem hkR)
      have HQ2 : Hid ((Pl.rightN X.R (Lp.map (·.1))).take (k + 1) = (Pl.rightN X.R (Lp.map (·.1))).take k ++ [(Lp.map (·.1)).getD (X.R.getD k 0).toNat 0]) := by
        show _ = _
        unfold Pl.rightN
        rw [List.take_succ_eq_append_getElem (by rw [List.length_map]; exact hkR), List.getElem_map, show X.R.getD k 0 = X.R[k] by rw [List.getD_eq_getElem?_getD, List.getElem?_eq_getElem hkR]; rfl]
      have e9 : X.R.getD k 0 = X.R[k] := by rw [List.getD_eq_getElem?_getD, List.getElem?_eq_getElem hkR]; rfl
      rw [← e9] at hv
      clear e9
      obtain ⟨v, hvv⟩ : ∃ v, v = X.R.getD k 0 := ⟨_, rfl⟩
      rw [← hvv] at hv hcr HQ2
      clear hvv
      obtain ⟨hv0, hv1⟩ := hv
      obtain ⟨bp, op, x, rfl, hlp, hx, hcx⟩ := rats_cells (HP.out.go D.out) (show v.toNat < X.mb by omega)
      obtain ⟨c1, c2, c3, c4⟩ := hcx wr (Below.refl _ wr)
      obtain ⟨q, hq⟩ : ∃ q, q = (Lp.map (·.1)).getD v.toNat 0 := ⟨_, rfl⟩
      rw [← hq] at hx HQ2
      have HX9 := Lib.hid hx
      clear hx hcx hq
      subst hl
      obtain ⟨d0, d1, d2, d3⟩ := RX.out.blk.at_ (k := L.length) (by simp; omega)
      generalize (L.map (·.2) ++ List.replicate (X.nf - L.length) rt0)[L.length]'_ = z at *
      have fz := RX.out.frozen
      have lt := RX.out.lt
      have hgw : w.heap.size ≤ gr := HGR.out
      have RY := Lib.hid ((show RL wr gr L (X.nf - (L.length + 1) + 1) by have := RX.out; rwa [show X.nf - (L.length + 1) + 1 = X.nf - L.length by omega]).add HX9.out)
      have DY : Hid (Below w.heap.size w (rput wr gr L.length x)) := (((D.out.setCell hgw _).setCell hgw _).setCell hgw _).setCell hgw _
      go_wp2_with fail
      go_roundw
      case rel =>
        refine ⟨L.length + 1, L ++ [(q, x)], by omega, by go_num, by simp, ?_, RY, DY⟩
        show _ = _
        rw [HQ2.out, List.map_append, HQ.out]
        rfl
      case measure => simp [intOf]; omega
    · obtain rfl : k = X.nf := by omega
      have hk4 : ¬ ((X.nf : Int) < (X.nf : Int)) := by omega
      rw [Nat.sub_self] at RX
      rw [List.take_of_length_le (by unfold Pl.rightN; rw [List.length_map, HRL.out]; exact Nat.le_refl _)] at HQ
      go_wp2_with fail
      refine (mbuses_any p X _ wr (HX.out.go D.out)).mono ?_
      rintro e w2 ⟨rfl, rfl⟩
      go_wp2_with fail
      refine (zeros_any X.mb (by omega) w2).mono ?_
      rintro e w3 ⟨go, x0, rfl, hgo, hro, hb5⟩
      have HRO := Lib.hid hro
      have HGO := Lib.hid (show w2.heap.size ≤ go from hgo)
      have D3 := Lib.hid hb5
      have cp9 := (HX.out.go (D.out.trans (hb5.mono D.out.size))).blk.cell
      have lp9 := (HX.out.go (D.out.trans (hb5.mono D.out.size))).blk.lt
      unfold MdA.cells at cp9
      clear hgo hro hb5
      go_wp2_with fail
      clear cp9 lp9
      have HRR := Lib.hid (RX.out.rats)
      rw [hl] at HRR
      have HUS : Hid (∀ k, k < X.nf → ∀ q ∈ (svals U).getD k [], Pl.rsz q ≤ S) := fun k hk q hq => by
        obtain ⟨row, h1, h2⟩ := Pl.mem_getD hq
        exact HSU.out row h1 q h2
      have HRS : Hid (∀ q ∈ Pl.rightN X.R (Lp.map (·.1)), Pl.rsz q ≤ S) := fun q hq => by
        unfold Pl.rightN at hq
        obtain ⟨b, _, rfl⟩ := List.mem_map.1 hq
        rw [List.getD_eq_getElem?_getD]
        by_cases hb9 : b.toNat < (Lp.map (·.1)).length
        · rw [List.getElem?_eq_getElem hb9]; exact HSP.out _ (List.getElem_mem hb9)
        · rw [List.getElem?_eq_none (by omega), Option.getD_none, rsz_zero]; omega
      rw [← HQ.out] at HRS
      go_loopw [43] (fun i wr => ∃ (k : Nat) (Lo : List (Rat × Rt)), k ≤ X.nf ∧ i = .int .i64 k ∧ Hid (Lo.map (·.1) = Pl.angTo (svals U) X.R (L.map (·.1)) X.mb k) ∧ Hid (RL wr go Lo 0) ∧ Hid (Below w2.heap.size w2 wr)) (fun i _ => X.nf - (intOf i).toNat)
      case atStart => exact ⟨0, _, Nat.zero_le _, rfl, by show _ = _; unfold Pl.angTo; rw [List.map_replicate]; rfl, HRO, D3⟩
      case round =>
        clear HRO D3
        obtain ⟨k, Lo, hk, rfl, HQO, RO, D2⟩ := hrel
        have HLO : Hid (Lo.length = X.mb) := by show _ = _; have := congrArg List.length HQO.out; rwa [List.length_map, Pl.angTo_len] at this
        by_cases hlt : k < X.nf
        · have hk4 : (k : Int) < (X.nf : Int) := by omega
          have hkR : k < X.R.length := by rw [HRL.out]; exact hlt
          have DW := Lib.hid (D.out.trans (D2.out.mono D.out.size))
          have cp9 := (HX.out.go DW.out).blk.cell
          have lp9 := (HX.out.go DW.out).blk.lt
          unfold MdA.cells at cp9
          obtain ⟨br, o7, eAr, _, hcr⟩ := ints_getD (HX.out.go DW.out).r hlt
          have hv := HR.out _ (List.getElem_mem hkR)
          have e9 : X.R.getD k 0 = X.R[k] := by rw [List.getD_eq_getElem?_getD, List.getElem?_eq_getElem hkR]; rfl
          rw [← e9] at hv
          clear e9
          have HNX := Lib.hid (Pl.angTo_next (svals U) X.R (L.map (·.1)) X.mb k)
          obtain ⟨v, hvv⟩ : ∃ v, v = X.R.getD k 0 := ⟨_, rfl⟩
          rw [← hvv] at hv hcr HNX
          clear hvv
          obtain ⟨hv0, hv1⟩ := hv
          obtain ⟨bu, ou, eu, _, hlu, hcu, hru⟩ := (HU.out.go DW.out).at_ hlt
          injection eu with eu
          injection eu with eu1 eu2
          subst eu1
          subst eu2
          rw [Nat.zero_add] at hcu
          have eus : (svals U).getD k [] = U[k].2.2.map (·.1) := by unfold svals; rw [List.getD_eq_getElem?_getD, List.getElem?_map, List.getElem?_eq_getElem hlu]; rfl
          have hus := HUS.out k hlt
          rw [eus] at hus HNX
          have hd := dot_any U[k].1 X.nf U[k].2.1 (some ⟨gr, 0, none⟩) X.nf X.nf U[k].2.2 L S wr (Nat.le_refl _) (by omega) hru (HRR.out.go D2.out) hus HRS.out ⟨hS.1, by
            have : X.nf * (2 * S + 1) ≤ 24 * (2 * 1000000000 + 1) := Nat.mul_le_mul hf (by omega)
            omega⟩ (by omega)
          have HD := Lib.hid hd
          clear hd hru hus eus
          generalize Pl.dotN (U[k].2.2.map (·.1)) (L.map (·.1)) = dv at *
          generalize U[k] = su at *
          go_wp2_with fail
          refine HD.out.mono ?_
          rintro e w4 ⟨y, rfl, hy, hb5⟩
          have HY := Lib.hid hy
          have RO4 := Lib.hid (RO.out.go hb5)
          have D4 := Lib.hid (D2.out.trans (hb5.mono D2.out.size))
          clear hy hb5 HD cp9 lp9 hcr hcu
          have hvl : v.toNat < Lo.length := by rw [HLO.out]; omega
          have hz := RO4.out.at_ hvl
          obtain ⟨d0, d1, d2, d3⟩ := hz
          generalize Lo[v.toNat] = z at *
          have fz := RO4.out.frozen
          have lt := RO4.out.lt
          have hgw : w2.heap.size ≤ go := HGO.out
          have RY := Lib.hid (RO4.out.set_ HY.out hvl)
          have DY : Hid (Below w2.heap.size w2 (rput w4 go v.toNat y)) := (((D4.out.setCell hgw _).setCell hgw _).setCell hgw _).setCell hgw _
          go_wp2_with fail
          go_roundw
          case rel =>
            rw [eAr]
            refine ⟨_, _, _, _, _, _, _, _, _, _, _, _, _, _, _, _, _, _, _, _, ⟨k + 1, Lo.set v.toNat (dv, y), by omega, by go_num, ?_, RY, DY⟩, rfl⟩
            show _ = _
            rw [HNX.out, List.map_set, HQO.out]
          case measure => simp [intOf]; omega
        · obtain rfl : k = X.nf := by omega
          have hk4 : ¬ ((X.nf : Int) < (X.nf : Int)) := by omega
          go_wp2_with fail
          go_ret
          refine ⟨go, Lo, rfl, Nat.le_trans D.out.size HGO.out, RO.out, ?_, D.out.trans (D2.out.mono D.out.size)⟩
          unfold Pl.angN
          rw [HQO.out, HQ.out, HRL.out]
end Go.Proofs.YtoblpcljhblnmaaGreatDoor
namespace Go.Proofs.YtoblpcljhblnmaaGreatDoor
open Go.RowKit
set_option maxRecDepth 100000
def LW (w : World) (base : Nat) (A : Option Addr) (L : List (Rat × Rt)) : Prop := L.length = 0 ∨ ∃ g, A = some ⟨g, 0, none⟩ ∧ base ≤ g ∧ RowW w g L
theorem LW.rats {w : World} {base n : Nat} {A : Option Addr} {L : List (Rat × Rt)} (h : LW w base A L) (hn : L.length = n) (he : AllR w L) : RatsIs w w.heap.size A n L := by
  refine ⟨⟨by rw [rts_len, hn]; omega, fun h9 => ?_⟩, he⟩
  rcases h with h | ⟨g, rfl, h2, h3⟩
  · omega
  · exact ⟨_, rfl, h3.lt, fun j u hu => by rw [Srt.addr_add]; exact h3.cell hu⟩
theorem RQ.lw {w : World} {base n c : Nat} {A : Option Addr} {L : List (Rat × Rt)} (h : RQ w base (.slice A n c) L) : LW w base A L ∧ n = L.length := by
  rcases h with ⟨h, rfl⟩ | ⟨g, cap, cur, h1, h2, h3, h4, h5, h6, h7, h8⟩
  · injection h with e1 e2 e3
    exact ⟨.inl rfl, e2⟩
  · injection h1 with e1 e2 e3
    exact ⟨.inr ⟨g, e1, h2, cur, h3, h4, h8⟩, e2⟩
def CloneR (n : Nat) (L : List (Rat × Rt)) (w : World) (e : Ending) (w' : World) : Prop := ∃ A c, e = .returned (.slice A n c) ∧ LW w' w.heap.size A L ∧ AllR w' L ∧ Below w.heap.size w w'
theorem clone_ratq (A : Option Addr) (n c : Nat) (L : List (Rat × Rt)) (w : World) (hn : n ≤ 1000000) (hr : RatsIs w w.heap.size A n L) :
    Calls Tryz.prog 103 #[.slice A n c] w (CloneR n L w) := by
  have hL := hr.len
  have HE := Lib.hid (show AllR w L from hr.each)
  rcases A with _ | ⟨b, o, s⟩
  · have h0 : n = 0 := by
      rcases Nat.eq_zero_or_pos n with h | h
      · exact h
      · obtain ⟨_, h, _⟩ := hr.row.2 h; cases h
    subst h0
    clear hr
    have hnil : ∀ W, (binOp .eql 94 (.slice none 0 c) (.slice none 0 0)).run Tryz.prog W = .ok (.bool true) W := fun W => Lib.run_eql_slice_nil W _ _ none 0 c 0 0 Tryz.underlying94
    go_enter Tryz.func103, Tryz.ntmps103
    go_wp2_with fail
    go_ret
    exact ⟨none, 0, rfl, .inl hL, HE.out, Below.refl _ _⟩
  · have hnil : ∀ W, (binOp .eql 94 (.slice (some ⟨b, o, s⟩) n c) (.slice none 0 0)).run Tryz.prog W = .ok (.bool false) W := fun W => Lib.run_eql_slice_nil W _ _ (some ⟨b, o, s⟩) n c 0 0 Tryz.underlying94
    have hb := (Below.refl w.heap.size w).alloc (Nat.le_refl _) (.cells #[] 105)
    have hq : RQ (w.alloc (.cells #[] 105)) w.heap.size (.slice (some ⟨w.heap.size, 0, none⟩) 0 0) [] :=
      .inr ⟨w.heap.size, 0, #[], rfl, Nat.le_refl _, Blk.new_ w _ _ _ rfl, noU32_of (by simp), rfl, Nat.le_refl _, by unfold maxLen; omega, by simp [rts]⟩
    obtain ⟨v', w', hap, hq2, hb2, hsz, hnum⟩ := hq.pushs (c := c) (hr.row.go hb) (by simp only [List.length_nil]; omega) (by simp)
    rw [List.nil_append] at hq2
    have HQ := Lib.hid hq2
    have HB := Lib.hid (hb.trans hb2)
    clear hq hq2 hb hb2 hr hsz hnum
    go_enter Tryz.func103, Tryz.ntmps103
    go_wp2_with (at_builtin; go_must (refine wpList_append_run9 rfl _ _ 94 rfl _ _ _ rfl rfl hap ?_))
    obtain ⟨A', c', e9⟩ := HQ.out.slice
    subst e9
    obtain ⟨h1, h2⟩ := HQ.out.lw
    rw [hL]
    go_ret
    exact ⟨A', c', rfl, h1, HE.out.go HB.out, HB.out⟩
def Pl.leftStep (F T : List Int) (C : List Rat) (l : List Rat) (k : Nat) : List Rat :=
  (l.set (F.getD k 0).toNat (l.getD (F.getD k 0).toNat 0 - C.getD k 0)).set (T.getD k 0).toNat ((l.set (F.getD k 0).toNat (l.getD (F.getD k 0).toNat 0 - C.getD k 0)).getD (T.getD k 0).toNat 0 + C.getD k 0)
def Pl.leftTo (F T : List Int) (C : List Rat) (p : List Rat) (k : Nat) : List Rat := (List.range k).foldl (Pl.leftStep F T C) p
theorem Pl.leftTo_next (F T : List Int) (C : List Rat) (p : List Rat) (k : Nat) : Pl.leftTo F T C p (k + 1) = Pl.leftStep F T C (Pl.leftTo F T C p k) k := by
  unfold Pl.leftTo
  rw [List.range_succ, List.foldl_append]
  rfl
theorem Pl.leftStep_len (F T : List Int) (C : List Rat) (l : List Rat) (k : Nat) : (Pl.leftStep F T C l k).length = l.length := by unfold Pl.leftStep; rw [List.length_set, List.length_set]
theorem Pl.leftTo_len (F T : List Int) (C : List Rat) (p : List Rat) : ∀ k, (Pl.leftTo F T C p k).length = p.length
  | 0 => rfl
  | k + 1 => by rw [Pl.leftTo_next, Pl.leftStep_len]; exact Pl.leftTo_len F T C p k
theorem getD_rsz {l : List Rat} {S : Nat} (h : ∀ q ∈ l, Pl.rsz q ≤ S) (hS : 1 ≤ S) (j : Nat) : Pl.rsz (l.getD j 0) ≤ S := by
  rw [List.getD_eq_getElem?_getD]
  by_cases hj : j < l.length
  · rw [List.getElem?_eq_getElem hj]; exact h _ (List.getElem_mem hj)
  · rw [List.getElem?_eq_none (by omega), Option.getD_none, rsz_zero]; exact hS
theorem set_rsz {l : List Rat} {S S' : Nat} (h : ∀ q ∈ l, Pl.rsz q ≤ S) (hS : S ≤ S') {z : Rat} (hz : Pl.rsz z ≤ S') (j : Nat) : ∀ q ∈ l.set j z, Pl.rsz q ≤ S' := fun q hq => by
  rcases List.mem_or_eq_of_mem_set hq with hq | rfl
  · exact Nat.le_trans (h q hq) hS
  · exact hz
theorem Pl.leftTo_rsz {F T : List Int} {C : List Rat} {p : List Rat} {S : Nat} (hp : ∀ q ∈ p, Pl.rsz q ≤ S) (hS : 1 ≤ S) (hC : ∀ q ∈ C, Pl.rsz q ≤ 4) : ∀ k, (∀ q ∈ Pl.leftTo F T C p k, Pl.rsz q ≤ S + k * 10) ∧ ∀ q ∈ (Pl.leftTo F T C p k).set (F.getD k 0).toNat ((Pl.leftTo F T C p k).getD (F.getD k 0).toNat 0 - C.getD k 0), Pl.rsz q ≤ S + k * 10 + 5 := by
  have h2 : ∀ k, (∀ q ∈ Pl.leftTo F T C p k, Pl.rsz q ≤ S + k * 10) → ∀ q ∈ (Pl.leftTo F T C p k).set (F.getD k 0).toNat ((Pl.leftTo F T C p k).getD (F.getD k 0).toNat 0 - C.getD k 0), Pl.rsz q ≤ S + k * 10 + 5 := fun k h => by
    have h3 := Pl.rsz_sub ((Pl.leftTo F T C p k).getD (F.getD k 0).toNat 0) (C.getD k 0)
    have h4 := getD_rsz h (by omega) (F.getD k 0).toNat
    have h5 := getD_rsz hC (by omega) k
    exact set_rsz h (by omega) (by omega) _
  intro k
  induction k with
  | zero => exact ⟨by simpa [Pl.leftTo] using hp, h2 0 (by simpa [Pl.leftTo] using hp)⟩
  | succ k ih =>
    have h6 : ∀ q ∈ Pl.leftTo F T C p (k + 1), Pl.rsz q ≤ S + (k + 1) * 10 := by
      rw [Pl.leftTo_next]
      unfold Pl.leftStep
      have h3 := Pl.rsz_add (((Pl.leftTo F T C p k).set (F.getD k 0).toNat ((Pl.leftTo F T C p k).getD (F.getD k 0).toNat 0 - C.getD k 0)).getD (T.getD k 0).toNat 0) (C.getD k 0)
      have h4 := getD_rsz ih.2 (by omega) (T.getD k 0).toNat
      have h5 := getD_rsz hC (by omega) k
      exact set_rsz ih.2 (by omega) (by omega) _
    exact ⟨h6, h2 _ h6⟩
structure LF (w wr : World) (g : Nat) (L : List (Rat × Rt)) : Prop where
  row : RowW wr g L
  each : AllR wr L
  own : w.heap.size ≤ g
  below : Below w.heap.size w wr
theorem LF.go {w wr wx : World} {g : Nat} {L : List (Rat × Rt)} (h : LF w wr g L) (hb : Below wr.heap.size wr wx) : LF w wx g L := ⟨h.row.go hb, h.each.go hb, h.own, h.below.trans (hb.mono h.below.size)⟩
theorem LF.put {w wr : World} {g j : Nat} {L : List (Rat × Rt)} (h : LF w wr g L) (hj : j < L.length) {q : Rat} {x : Rt} (hx : RatIs wr wr.heap.size q x) : LF w (rput wr g j x) g (L.set j (q, x)) := by
  obtain ⟨h1, h2⟩ := h.row.put hj q x
  refine ⟨h1, fun y hy => ?_, h.own, (((h.below.setCell h.own _).setCell h.own _).setCell h.own _).setCell h.own _⟩
  rcases List.mem_or_eq_of_mem_set hy with hy | rfl
  · exact h2 _ _ (h.each y hy)
  · exact h2 _ _ hx
set_option maxHeartbeats 6400000 in
theorem Angles_b (p g cp : Nat) (X : MdA) (U : List (Option Addr × Nat × List (Rat × Rt))) (P : Option Addr) (Lp : List (Rat × Rt)) (S : Nat) (w : World) (hX : ModAt w p X (.slice (some ⟨g, 0, none⟩) X.nf X.nf)) (hU : MatIn w w.heap.size (some ⟨g, 0, none⟩) X.nf X.nf U)
    (hP : RatsIs w w.heap.size P X.mb Lp) (hb : X.mb ≤ 24) (hf : X.nf ≤ 24) (hn : X.nb ≤ 24) (hR : ∀ v ∈ X.R, 0 ≤ v ∧ v < X.mb) (hF : ∀ v ∈ X.F, 0 ≤ v ∧ v < X.mb) (hT : ∀ v ∈ X.T, 0 ≤ v ∧ v < X.mb) (hC : ∀ q ∈ X.LC.map (·.1), Pl.rsz q ≤ 4)
    (hSU : ∀ row ∈ svals U, ∀ q ∈ row, Pl.rsz q ≤ S) (hSp : ∀ q ∈ Lp.map (·.1), Pl.rsz q + 300 ≤ S) (hS : 400 ≤ S ∧ S ≤ 1000000000) :
    Calls Tryz.prog 60 #[.pointer (some ⟨p, 0, none⟩), .slice P X.mb cp] w (ParseASaid (Pl.angN (svals U) X.R X.mb (Pl.leftTo X.F X.T (X.LC.map (·.1)) (Lp.map (·.1)) X.nb)) X.mb w) := by
  have HX := Lib.hid hX
  have HU := Lib.hid hU
  have HP := Lib.hid hP
  have HRI := Lib.hid hR
  have HFI := Lib.hid hF
  have HTI := Lib.hid hT
  have HSU := Lib.hid hSU
  have HSP := Lib.hid (Pl.leftTo_rsz (F := X.F) (T := X.T) (C := X.LC.map (·.1)) (p := Lp.map (·.1)) (S := S - 300) (fun q hq => by have := hSp q hq; omega) (by omega) hC)
  have HCI := Lib.hid hC
  have HLF : Hid (X.F.length = X.nb) := hX.f.int_len
  have HLT : Hid (X.T.length = X.nb) := hX.t.int_len
  have hlp := hP.len
  have hcl := clone_ratq P X.mb cp Lp w (by omega) hP
  clear hX hU hP hR hF hT hSU hSp hC
  go_enter Tryz.func60, Tryz.ntmps60
  go_wp2_with fail
  refine hcl.mono ?_
  rintro e w1 ⟨A, c, rfl, hlw, hal, hb5⟩
  have HL0 := Lib.hid hlw
  have HA0 := Lib.hid hal
  have D0 := Lib.hid hb5
  have cp9 := (HX.out.go D0.out).blk.cell
  have lp9 := (HX.out.go D0.out).blk.lt
  unfold MdA.cells at cp9
  clear hlw hal hb5 hcl
  go_wp2_with fail
  clear cp9 lp9
  go_loopw [15] (fun i wr => ∃ (k : Nat) (L : List (Rat × Rt)), k ≤ X.nb ∧ i = .int .i64 k ∧ Hid (L.map (·.1) = Pl.leftTo X.F X.T (X.LC.map (·.1)) (Lp.map (·.1)) k) ∧ Hid (LW wr w.heap.size A L) ∧ Hid (AllR wr L) ∧ Hid (Below w.heap.size w wr)) (fun i _ => X.nb - (intOf i).toNat)
  case atStart => exact ⟨0, Lp, Nat.zero_le _, rfl, by show _ = _; rfl, HL0, HA0, D0⟩
  case round =>
    clear HL0 HA0 D0
    obtain ⟨k, L, hk, rfl, HV, HLW, HAL, D⟩ := hrel
    have HLL : Hid (L.length = X.mb) := by show _ = _; have := congrArg List.length HV.out; rw [List.length_map, Pl.leftTo_len, List.length_map, hlp] at this; exact this
    by_cases hlt : k < X.nb
    · have hk9 : (k : Int) < (X.nb : Int) := by omega
      obtain ⟨bq0, oq0, xq, eAc, hlq, hnq, hcq⟩ := rats_cells (HX.out.go D.out).c hlt
      obtain ⟨q, hq9⟩ : ∃ q, q = (X.LC.map (·.1)).getD k 0 := ⟨_, rfl⟩
      rw [← hq9] at hnq
      have HSQ : Pl.rsz q ≤ 4 := by rw [hq9]; exact getD_rsz HCI.out (by omega) k
      have HNX := Lib.hid (Pl.leftTo_next X.F X.T (X.LC.map (·.1)) (Lp.map (·.1)) k)
      have HS1 := Lib.hid (HSP.out k)
      rw [← HV.out] at HNX HS1
      unfold Pl.leftStep at HNX
      rw [← hq9] at HNX HS1
      clear hq9
      have hkF : k < X.F.length := by rw [HLF.out]; exact hlt
      have hkT : k < X.T.length := by rw [HLT.out]; exact hlt
      have hfr := HFI.out _ (List.getElem_mem hkF)
      have htu := HTI.out _ (List.getElem_mem hkT)
      rw [show X.F[k] = X.F.getD k 0 by rw [List.getD_eq_getElem?_getD, List.getElem?_eq_getElem hkF]; rfl] at hfr
      rw [show X.T[k] = X.T.getD k 0 by rw [List.getD_eq_getElem?_getD, List.getElem?_eq_getElem hkT]; rfl] at htu
      obtain ⟨fr, EFR⟩ : ∃ x, Hid (X.F.getD k 0 = x) := ⟨_, Lib.hid rfl⟩
      obtain ⟨tu, ETO⟩ : ∃ x, Hid (X.T.getD k 0 = x) := ⟨_, Lib.hid rfl⟩
      rw [EFR.out] at hfr HNX HS1
      rw [ETO.out] at htu HNX
      obtain ⟨hfr0, hfr1⟩ := hfr
      obtain ⟨htu0, htu1⟩ := htu
      have hfl : fr.toNat < L.length := by rw [HLL.out]; omega
      obtain ⟨gl, hA⟩ : ∃ gl, A = some ⟨gl, 0, none⟩ ∧ LF w wr gl L := by
        rcases HLW.out with h | ⟨gl, h1, h2, h3⟩
        · omega
        · exact ⟨gl, h1, h3, HAL.out, h2, D.out⟩
      obtain ⟨rfl, hlf⟩ := hA
      have HL := Lib.hid hlf
      obtain ⟨c0, c1, c2, c3⟩ := hcq wr (Below.refl _ _)
      have HXQ := Lib.hid hnq
      have EAc := Lib.hid eAc
      clear hlf HLW HAL hnq hcq D
      rw [eAc]
      go_wp2_with fail
      have hb5 := below_oneS wr (.cells #[.bool xq.N.b, .slice xq.N.A xq.N.n xq.N.c, .bool xq.D.b, .slice xq.D.A xq.D.n xq.D.c] 105)
      obtain ⟨bq, hbq⟩ : ∃ b, b = wr.heap.size := ⟨_, rfl⟩
      have BQ : Hid (BoxR (wr.alloc (.cells #[.bool xq.N.b, .slice xq.N.A xq.N.n xq.N.c, .bool xq.D.b, .slice xq.D.A xq.D.n xq.D.c] 105)) bq q xq) := ⟨Blk.new_ wr bq _ _ hbq, HXQ.out.go hb5⟩
      have hbg : bq ≠ gl := by have := HL.out.row.lt; omega
      rw [← hbq]
      replace HL := Lib.hid (HL.out.go hb5)
      obtain ⟨bf, o7, eAf, _, _⟩ := ints_getD (HX.out.go HL.out.below).f hlt
      obtain ⟨bt, ot, eAt, _, _⟩ := ints_getD (HX.out.go HL.out.below).t hlt
      have EAf := Lib.hid eAf
      have EAt := Lib.hid eAt
      clear hb5 hbq HXQ c0 c1 c2 c3 eAf eAt eAc
      generalize wr.alloc (.cells #[.bool xq.N.b, .slice xq.N.A xq.N.n xq.N.c, .bool xq.D.b, .slice xq.D.A xq.D.n xq.D.c] 105) = wa at *
      obtain ⟨y1, hy1⟩ : ∃ y, y = (L.map (·.1)).getD fr.toNat 0 := ⟨_, rfl⟩
      have hen1 : L[fr.toNat].1 = y1 := by rw [hy1, List.getD_eq_getElem?_getD, List.getElem?_map, List.getElem?_eq_getElem hfl]; rfl
      obtain ⟨x1, EJ1⟩ : ∃ x, Hid (L[fr.toNat] = (y1, x)) := ⟨L[fr.toNat].2, by show _ = _; rw [← hen1]⟩
      have HY1 : Hid (RatIs wa wa.heap.size y1 x1) := by
        show RatIs _ _ _ _
        have h9 := HL.out.each _ (List.getElem_mem hfl)
        rw [EJ1.out] at h9
        exact h9
      have HYE1 := Lib.hid hy1
      clear hy1 hen1
      have HSY1 : Pl.rsz y1 ≤ 1000000000 := by rw [HYE1.out]; have := getD_rsz HS1.out.1 (by omega) fr.toNat; omega
      go_upto_region 5 with fail
      have hb5 := (Below.refl wa.heap.size wa).drew
      replace HL := Lib.hid (HL.out.go hb5)
      replace BQ := Lib.hid (BQ.out.go hb5)
      replace HY1 := Lib.hid (HY1.out.go hb5)
      clear hb5
      have HB0 := Lib.hid (Below.refl wa.drew.heap.size wa.drew)
      generalize hw9 : wa.drew = w5 at *
      have hSw : (fun w' : World => Below w5.heap.size w5 w') w5 := HB0.out
      refine wp_region_mid (fun w' : World => Below w5.heap.size w5 w') 21 (by kernel_rfl) ?_
      rw [hw9]
      clear hw9
      refine Tk.go [(0, [20, 21]), (1, [2, 3, 4, 6, 7, 20, 21]), (2, [3, 4, 6, 7, 20, 21]), (3, [4, 6, 7, 20, 21]), (4, [6, 7, 20, 21]), (5, [6, 7, 20, 21]), (6, [7, 20, 21]), (7, [20, 21]), (8, [16, 17, 19, 20, 21]), (9, [10, 11, 12, 14, 15, 16, 17, 19, 20, 21]), (10, [11, 12, 14, 15, 16, 17, 19, 20, 21]), (11, [12, 14, 15, 16, 17, 19, 20, 21]), (12, [14, 15, 16, 17, 19, 20, 21]), (13, [14, 15, 16, 17, 19, 20, 21]), (14, [15, 16, 17, 19, 20, 21]), (15, [16, 17, 19, 20, 21]), (16, [17, 19, 20, 21]), (17, [19, 20, 21]), (18, [19, 20, 21])] ?_
      iterate 19 (refine Tk.cons rfl (by kernel_rfl) (fun _ _ _ h => h) hSw (by kernel_rfl) (fun w' hSx => by have cp := (HX.out.go (HL.out.go hSx).below).blk.cell; unfold MdA.cells at cp; rw [EAf.out] at cp; have hf := (HX.out.go (HL.out.go hSx).below).f; rw [EAf.out] at hf; have cf := ints_cell hf hlt; rw [EFR.out] at cf; clear hf; have hc := (HL.out.go hSx).row.at_ hfl; rw [EJ1.out] at hc; have c1 := hc.1; have c2 := hc.2.1; have c3 := hc.2.2.1; have c4 := hc.2.2.2; clear hc; have c9 := ((BQ.out.go hSx).blk).cell; go_simp; first | done | with_reducible rfl) ?_; simp only [Act.put, List.setIfInBounds_toArray])
      refine Tk.nil ?_
      refine wpAnyM_ready [19] (by kernel_rfl) (by simp) ?_
      refine AllReadyM.cons (by rfl) (fun K hK => ?_) AllReadyM.nil
      go_simp
      refine (rsub_any (HY1.out.go HB0.out) (BQ.out.go HB0.out).num (by omega) (by omega)).mono ?_
      rintro e wq1 ⟨z1, rfl, hz9, hb5⟩
      clear HY1
      replace HB0 := Lib.hid (Below.trans HB0.out (hb5.mono HB0.out.size))
      have HZ1 := Lib.hid hz9
      clear hz9
      clear hb5
      clear hSw
      have hSw : (fun w' : World => Below w5.heap.size w5 w') wq1 := HB0.out
      refine hK.out _ _ hSw ?_
      clear hK K
      refine wpAnyM_takeB 20 [21] rfl (by kernel_rfl) (by kernel_rfl) (by kernel_rfl) (by kernel_rfl) (by kernel_rfl) (fun _ _ _ h => h) hSw (by kernel_rfl) (fun w' hSx => by have cp := (HX.out.go (HL.out.go hSx).below).blk.cell; unfold MdA.cells at cp; rw [EAf.out] at cp; have hf := (HX.out.go (HL.out.go hSx).below).f; rw [EAf.out] at hf; have cf := ints_cell hf hlt; rw [EFR.out] at cf; clear hf; have hc := (HL.out.go hSx).row.at_ hfl; rw [EJ1.out] at hc; have c1 := hc.1; have c2 := hc.2.1; have c3 := hc.2.2.1; have c4 := hc.2.2.2; clear hc; have c9 := ((BQ.out.go hSx).blk).cell; go_simp; first | done | with_reducible rfl) ?_
      simp only [Act.put]
      refine wpAnyM_ready [21] (by kernel_rfl) (by simp) ?_
      refine AllReadyM.last (by rfl) (by decide) (fun K hK => ?_)
      replace HL := Lib.hid (HL.out.go HB0.out)
      replace BQ := Lib.hid (BQ.out.go HB0.out)
      have hc := HL.out.row.at_ hfl
      rw [EJ1.out] at hc
      have c1 := hc.1
      have c2 := hc.2.1
      have c3 := hc.2.2.1
      have c4 := hc.2.2.2
      clear hc
      have cf9 := HL.out.row.frozen
      have cl9 := HL.out.row.lt
      go_simp
      clear c1 c2 c3 c4 cf9 cl9
      have HP1 := HL.out.put hfl HZ1.out
      have HB1 := BQ.out.rput (q2 := y1 - q) (y := z1) HL.out.row hfl hbg
      unfold rput at HP1 HB1
      clear HL BQ HZ1
      generalize ((((wq1.setCell ⟨gl, fr.toNat * 4, none⟩ (.bool z1.N.b)).setCell ⟨gl, fr.toNat * 4 + 1, none⟩ (.slice z1.N.A z1.N.n z1.N.c)).setCell ⟨gl, fr.toNat * 4 + 2, none⟩ (.bool z1.D.b)).setCell ⟨gl, fr.toNat * 4 + 3, none⟩ (.slice z1.D.A z1.D.n z1.D.c)) = wq2 at *
      have HL := Lib.hid HP1
      have BQ := Lib.hid HB1
      clear HP1 HB1
      replace HB0 := Lib.hid (Below.refl wq2.heap.size wq2)
      refine hK.out _ _ ?_
      clear hK K
      refine wpAnyM_done (by kernel_rfl) ?_ _
      clear HB0 hSw
      obtain ⟨L1, hL1⟩ : ∃ l, l = L.set fr.toNat (y1 - q, z1) := ⟨_, rfl⟩
      have hm1 : L1.map (·.1) = (L.map (·.1)).set fr.toNat ((L.map (·.1)).getD fr.toNat 0 - q) := by rw [hL1, List.map_set, HYE1.out]
      have hll1 : L1.length = L.length := by rw [hL1, List.length_set]
      rw [← hm1] at HNX HS1
      rw [← hL1] at HL
      have htl : tu.toNat < L1.length := by rw [hll1, HLL.out]; omega
      clear hL1 hm1 HYE1 EJ1
      obtain ⟨y2, hy2⟩ : ∃ y, y = (L1.map (·.1)).getD tu.toNat 0 := ⟨_, rfl⟩
      have hen2 : L1[tu.toNat].1 = y2 := by rw [hy2, List.getD_eq_getElem?_getD, List.getElem?_map, List.getElem?_eq_getElem htl]; rfl
      obtain ⟨x2, EJ2⟩ : ∃ x, Hid (L1[tu.toNat] = (y2, x)) := ⟨L1[tu.toNat].2, by show _ = _; rw [← hen2]⟩
      have HY2 : Hid (RatIs wq2 wq2.heap.size y2 x2) := by
        show RatIs _ _ _ _
        have h9 := HL.out.each _ (List.getElem_mem htl)
        rw [EJ2.out] at h9
        exact h9
      have HYE2 := Lib.hid hy2
      clear hy2 hen2
      have HSY2 : Pl.rsz y2 ≤ 1000000000 := by rw [HYE2.out]; have := getD_rsz HS1.out.2 (by omega) tu.toNat; omega
      go_upto_region 6 with fail
      have hb5 := (Below.refl wq2.heap.size wq2).drew
      replace HL := Lib.hid (HL.out.go hb5)
      replace BQ := Lib.hid (BQ.out.go hb5)
      replace HY2 := Lib.hid (HY2.out.go hb5)
      clear hb5
      have HB0 := Lib.hid (Below.refl wq2.drew.heap.size wq2.drew)
      generalize hw9 : wq2.drew = w6 at *
      have hSw : (fun w' : World => Below w6.heap.size w6 w') w6 := HB0.out
      refine wp_region_mid (fun w' : World => Below w6.heap.size w6 w') 21 (by kernel_rfl) ?_
      rw [hw9]
      clear hw9
      refine Tk.go [(0, [20, 21]), (1, [2, 3, 4, 6, 7, 20, 21]), (2, [3, 4, 6, 7, 20, 21]), (3, [4, 6, 7, 20, 21]), (4, [6, 7, 20, 21]), (5, [6, 7, 20, 21]), (6, [7, 20, 21]), (7, [20, 21]), (8, [16, 17, 19, 20, 21]), (9, [10, 11, 12, 14, 15, 16, 17, 19, 20, 21]), (10, [11, 12, 14, 15, 16, 17, 19, 20, 21]), (11, [12, 14, 15, 16, 17, 19, 20, 21]), (12, [14, 15, 16, 17, 19, 20, 21]), (13, [14, 15, 16, 17, 19, 20, 21]), (14, [15, 16, 17, 19, 20, 21]), (15, [16, 17, 19, 20, 21]), (16, [17, 19, 20, 21]), (17, [19, 20, 21]), (18, [19, 20, 21])] ?_
      iterate 19 (refine Tk.cons rfl (by kernel_rfl) (fun _ _ _ h => h) hSw (by kernel_rfl) (fun w' hSx => by have cp := (HX.out.go (HL.out.go hSx).below).blk.cell; unfold MdA.cells at cp; rw [EAt.out] at cp; have hf := (HX.out.go (HL.out.go hSx).below).t; rw [EAt.out] at hf; have cf := ints_cell hf hlt; rw [ETO.out] at cf; clear hf; have hc := (HL.out.go hSx).row.at_ htl; rw [EJ2.out] at hc; have c1 := hc.1; have c2 := hc.2.1; have c3 := hc.2.2.1; have c4 := hc.2.2.2; clear hc; have c9 := ((BQ.out.go hSx).blk).cell; go_simp; first | done | with_reducible rfl) ?_; simp only [Act.put, List.setIfInBounds_toArray])
      refine Tk.nil ?_
      refine wpAnyM_ready [19] (by kernel_rfl) (by simp) ?_
      refine AllReadyM.cons (by rfl) (fun K hK => ?_) AllReadyM.nil
      go_simp
      refine (radd_any (HY2.out.go HB0.out) (BQ.out.go HB0.out).num (by omega) (by omega)).mono ?_
      rintro e wq1 ⟨z2, rfl, hz9, hb5⟩
      clear HY2
      replace HB0 := Lib.hid (Below.trans HB0.out (hb5.mono HB0.out.size))
      have HZ2 := Lib.hid hz9
      clear hz9
      clear hb5
      clear hSw
      have hSw : (fun w' : World => Below w6.heap.size w6 w') wq1 := HB0.out
      refine hK.out _ _ hSw ?_
      clear hK K
      refine wpAnyM_takeB 20 [21] rfl (by kernel_rfl) (by kernel_rfl) (by kernel_rfl) (by kernel_rfl) (by kernel_rfl) (fun _ _ _ h => h) hSw (by kernel_rfl) (fun w' hSx => by have cp := (HX.out.go (HL.out.go hSx).below).blk.cell; unfold MdA.cells at cp; rw [EAt.out] at cp; have hf := (HX.out.go (HL.out.go hSx).below).t; rw [EAt.out] at hf; have cf := ints_cell hf hlt; rw [ETO.out] at cf; clear hf; have hc := (HL.out.go hSx).row.at_ htl; rw [EJ2.out] at hc; have c1 := hc.1; have c2 := hc.2.1; have c3 := hc.2.2.1; have c4 := hc.2.2.2; clear hc; have c9 := ((BQ.out.go hSx).blk).cell; go_simp; first | done | with_reducible rfl) ?_
      simp only [Act.put]
      refine wpAnyM_ready [21] (by kernel_rfl) (by simp) ?_
      refine AllReadyM.last (by rfl) (by decide) (fun K hK => ?_)
      replace HL := Lib.hid (HL.out.go HB0.out)
      replace BQ := Lib.hid (BQ.out.go HB0.out)
      have hc := HL.out.row.at_ htl
      rw [EJ2.out] at hc
      have c1 := hc.1
      have c2 := hc.2.1
      have c3 := hc.2.2.1
      have c4 := hc.2.2.2
      clear hc
      have cf9 := HL.out.row.frozen
      have cl9 := HL.out.row.lt
      go_simp
      clear c1 c2 c3 c4 cf9 cl9
      have HP1 := HL.out.put htl HZ2.out
      have HB1 := BQ.out.rput (q2 := y2 + q) (y := z2) HL.out.row htl hbg
      unfold rput at HP1 HB1
      clear HL BQ HZ2
      generalize ((((wq1.setCell ⟨gl, tu.toNat * 4, none⟩ (.bool z2.N.b)).setCell ⟨gl, tu.toNat * 4 + 1, none⟩ (.slice z2.N.A z2.N.n z2.N.c)).setCell ⟨gl, tu.toNat * 4 + 2, none⟩ (.bool z2.D.b)).setCell ⟨gl, tu.toNat * 4 + 3, none⟩ (.slice z2.D.A z2.D.n z2.D.c)) = wq2 at *
      have HL := Lib.hid HP1
      have BQ := Lib.hid HB1
      clear HP1 HB1
      replace HB0 := Lib.hid (Below.refl wq2.heap.size wq2)
      refine hK.out _ _ ?_
      clear hK K
      refine wpAnyM_done (by kernel_rfl) ?_ _
      clear HB0 hSw
      obtain ⟨L2, hL2⟩ : ∃ l, l = L1.set tu.toNat (y2 + q, z2) := ⟨_, rfl⟩
      have HV2 : Hid (L2.map (·.1) = Pl.leftTo X.F X.T (X.LC.map (·.1)) (Lp.map (·.1)) (k + 1)) := by show _ = _; rw [HNX.out, hL2, List.map_set, HYE2.out]
      rw [← hL2] at HL
      clear hL2
      go_wp2_with fail
      go_roundw
      case rel => exact ⟨k + 1, L2, hlt, by go_num, HV2, Lib.hid (.inr ⟨gl, rfl, HL.out.own, HL.out.row⟩), Lib.hid HL.out.each, Lib.hid HL.out.below⟩
      case measure => simp [intOf]; omega
    · obtain rfl : k = X.nb := by omega
      have hk9 : ¬ ((X.nb : Int) < (X.nb : Int)) := by omega
      have hang := angles_b p g c X U A L S wr (HX.out.go D.out) (HU.out.go D.out) (HLW.out.rats HLL.out HAL.out) hb hf HRI.out HSU.out (by
        rw [HV.out]
        intro q hq
        have := (HSP.out X.nb).1 q hq
        omega) (by omega)
      rw [HV.out] at hang
      have HANG := Lib.hid hang
      clear hang
      go_wp2_with fail
      refine HANG.out.mono ?_
      rintro e w9 ⟨g9, L9, rfl, hg9, hr9, hv9, hb9⟩
      have HR9 := Lib.hid hr9
      have HV9 := Lib.hid hv9
      have HG9 := Lib.hid hg9
      have HB9 := Lib.hid hb9
      clear hr9 hv9 hg9 hb9
      go_wp2_with fail
      go_ret
      exact ⟨g9, L9, rfl, Nat.le_trans D.out.size HG9.out, HR9.out, HV9.out, D.out.trans (HB9.out.mono D.out.size)⟩
end Go.Proofs.YtoblpcljhblnmaaGreatDoor
namespace Go.Proofs.YtoblpcljhblnmaaGreatDoor
open Go.RowKit
set_option maxRecDepth 100000
def Pl.flowN (F T : List Int) (B C a : List Rat) (n : Nat) : List Rat := (List.range n).map fun k => B.getD k 0 * (a.getD (F.getD k 0).toNat 0 - a.getD (T.getD k 0).toNat 0) + C.getD k 0
theorem Pl.flowN_next (F T : List Int) (B C a : List Rat) (n : Nat) : Pl.flowN F T B C a (n + 1) = Pl.flowN F T B C a n ++ [B.getD n 0 * (a.getD (F.getD n 0).toNat 0 - a.getD (T.getD n 0).toNat 0) + C.getD n 0] := by
  unfold Pl.flowN
  rw [List.range_succ, List.map_append]
  rfl
structure LQ (w wr : World) (v : Value) (L : List (Rat × Rt)) : Prop where
  row : RQ wr w.heap.size v L
  each : AllR wr L
  below : Below w.heap.size w wr
theorem LQ.go {w wr wx : World} {v : Value} {L : List (Rat × Rt)} (h : LQ w wr v L) (hb : Below wr.heap.size wr wx) : LQ w wx v L := ⟨h.row.go hb, h.each.go hb, h.below.trans (hb.mono h.below.size)⟩
def RowSaid (qs : List Rat) (n : Nat) (w : World) (e : Ending) (w' : World) : Prop := ∃ (A : Option Addr) (c : Nat) (L : List (Rat × Rt)), e = .returned (.slice A n c) ∧ L.map (·.1) = qs ∧ L.length = n ∧ RQ w' w.heap.size (.slice A n c) L ∧ AllR w' L ∧ Below w.heap.size w w'
set_option maxHeartbeats 6400000 in
theorem Flows_b (p cp : Nat) (X : MdA) (vI : Value) (P : Option Addr) (Lp : List (Rat × Rt)) (S : Nat) (w : World) (hX : ModAt w p X vI) (hP : RatsIs w w.heap.size P X.mb Lp) (hn : X.nb ≤ 24) (hF : ∀ v ∈ X.F, 0 ≤ v ∧ v < X.mb) (hT : ∀ v ∈ X.T, 0 ≤ v ∧ v < X.mb)
    (hB : ∀ q ∈ X.LB.map (·.1), Pl.rsz q ≤ 2) (hC : ∀ q ∈ X.LC.map (·.1), Pl.rsz q ≤ 4) (hSp : ∀ q ∈ Lp.map (·.1), Pl.rsz q ≤ S) (hS : 1 ≤ S ∧ S ≤ 100000000000) :
    Calls Tryz.prog 62 #[.pointer (some ⟨p, 0, none⟩), .slice P X.mb cp] w (RowSaid (Pl.flowN X.F X.T (X.LB.map (·.1)) (X.LC.map (·.1)) (Lp.map (·.1)) X.nb) X.nb w) := by
  have HX := Lib.hid hX
  have HP := Lib.hid hP
  have HFI := Lib.hid hF
  have HTI := Lib.hid hT
  have HSP := Lib.hid hSp
  have HBI := Lib.hid hB
  have HCI := Lib.hid hC
  have HLF : Hid (X.F.length = X.nb) := hX.f.int_len
  have HLT : Hid (X.T.length = X.nb) := hX.t.int_len
  have hlp := hP.len
  clear hX hP hF hT hSp hB hC
  have cp9 := HX.out.blk.cell
  have lp9 := HX.out.blk.lt
  unfold MdA.cells at cp9
  go_enter Tryz.func62, Tryz.ntmps62
  go_wp2_with fail
  clear cp9 lp9
  go_loopw [5, 13] (fun v i wr => ∃ (k : Nat) (L : List (Rat × Rt)), k ≤ X.nb ∧ i = .int .i64 k ∧ L.length = k ∧ Hid (L.map (·.1) = Pl.flowN X.F X.T (X.LB.map (·.1)) (X.LC.map (·.1)) (Lp.map (·.1)) k) ∧ Hid (LQ w wr v L)) (fun _ i _ => X.nb - (intOf i).toNat)
  case atStart => exact ⟨0, [], Nat.zero_le _, rfl, rfl, by show _ = _; rfl, Lib.hid ⟨RQ.none_ _ _, (fun x hx => by cases hx), Below.refl _ _⟩⟩
  case round =>
    obtain ⟨k, L, hk, rfl, hl, HV, HL⟩ := hrel
    obtain ⟨Al, cl, rfl⟩ := HL.out.row.slice
    rw [hl] at HL
    by_cases hlt : k < X.nb
    · have hk9 : (k : Int) < (X.nb : Int) := by omega
      obtain ⟨bq0, oq0, xq, eAc, hlq, hnq, hcq⟩ := rats_cells (HX.out.go HL.out.below).c hlt
      obtain ⟨q, hq9⟩ : ∃ q, q = (X.LC.map (·.1)).getD k 0 := ⟨_, rfl⟩
      rw [← hq9] at hnq
      have HSQ : Pl.rsz q ≤ 4 := by rw [hq9]; exact getD_rsz HCI.out (by omega) k
      have HNX := Lib.hid (Pl.flowN_next X.F X.T (X.LB.map (·.1)) (X.LC.map (·.1)) (Lp.map (·.1)) k)
      rw [← hq9] at HNX
      clear hq9
      have hkF : k < X.F.length := by rw [HLF.out]; exact hlt
      have hkT : k < X.T.length := by rw [HLT.out]; exact hlt
      have hfr := HFI.out _ (List.getElem_mem hkF)
      have htu := HTI.out _ (List.getElem_mem hkT)
      rw [show X.F[k] = X.F.getD k 0 by rw [List.getD_eq_getElem?_getD, List.getElem?_eq_getElem hkF]; rfl] at hfr
      rw [show X.T[k] = X.T.getD k 0 by rw [List.getD_eq_getElem?_getD, List.getElem?_eq_getElem hkT]; rfl] at htu
      obtain ⟨fr, EFR⟩ : ∃ x, Hid (X.F.getD k 0 = x) := ⟨_, Lib.hid rfl⟩
      obtain ⟨tu, ETO⟩ : ∃ x, Hid (X.T.getD k 0 = x) := ⟨_, Lib.hid rfl⟩
      rw [EFR.out] at hfr HNX
      rw [ETO.out] at htu HNX
      obtain ⟨hfr0, hfr1⟩ := hfr
      obtain ⟨htu0, htu1⟩ := htu
      have hfl : fr.toNat < X.mb := by omega
      have htl : tu.toNat < X.mb := by omega
      obtain ⟨c0, c1, c2, c3⟩ := hcq wr (Below.refl _ _)
      have HXQ := Lib.hid hnq
      have EAc := Lib.hid eAc
      clear hnq hcq
      rw [eAc]
      go_wp2_with fail
      have hb5 := below_oneS wr (.cells #[.bool xq.N.b, .slice xq.N.A xq.N.n xq.N.c, .bool xq.D.b, .slice xq.D.A xq.D.n xq.D.c] 105)
      obtain ⟨bq, hbq⟩ : ∃ b, b = wr.heap.size := ⟨_, rfl⟩
      have BQ : Hid (BoxR (wr.alloc (.cells #[.bool xq.N.b, .slice xq.N.A xq.N.n xq.N.c, .bool xq.D.b, .slice xq.D.A xq.D.n xq.D.c] 105)) bq q xq) := ⟨Blk.new_ wr bq _ _ hbq, HXQ.out.go hb5⟩
      rw [← hbq]
      replace HL := Lib.hid (HL.out.go hb5)
      obtain ⟨bf, o7, eAf, _, _⟩ := ints_getD (HX.out.go HL.out.below).f hlt
      obtain ⟨bt, ot, eAt, _, _⟩ := ints_getD (HX.out.go HL.out.below).t hlt
      obtain ⟨bb0, ob0, xb, eAb, _, hnb, hcb⟩ := rats_cells (HX.out.go HL.out.below).b hlt
      obtain ⟨ba0, oa0, xf, eP, _, hnf, hcf⟩ := rats_cells (HP.out.go HL.out.below) hfl
      obtain ⟨ba1, oa1, xt, eP1, _, hnt, hct⟩ := rats_cells (HP.out.go HL.out.below) htl
      rw [eP] at eP1
      obtain ⟨rfl, rfl⟩ : ba0 = ba1 ∧ oa0 = oa1 := by
        injection eP1 with e1
        injection e1 with e2 e3
        exact ⟨e2, e3⟩
      obtain ⟨yb, hyb⟩ : ∃ y, y = (X.LB.map (·.1)).getD k 0 := ⟨_, rfl⟩
      obtain ⟨yf, hyf⟩ : ∃ y, y = (Lp.map (·.1)).getD fr.toNat 0 := ⟨_, rfl⟩
      obtain ⟨yt, hyt⟩ : ∃ y, y = (Lp.map (·.1)).getD tu.toNat 0 := ⟨_, rfl⟩
      have HSB : Pl.rsz yb ≤ 2 := by rw [hyb]; exact getD_rsz HBI.out (by omega) k
      have HSF : Pl.rsz yf ≤ S := by rw [hyf]; exact getD_rsz HSP.out hS.1 _
      have HST : Pl.rsz yt ≤ S := by rw [hyt]; exact getD_rsz HSP.out hS.1 _
      rw [← hyb, ← hyf, ← hyt] at HNX
      rw [← hyb] at hnb
      rw [← hyf] at hnf
      rw [← hyt] at hnt
      have HYB := Lib.hid hnb
      have HYF := Lib.hid hnf
      have HYT := Lib.hid hnt
      have EAf := Lib.hid eAf
      have EAt := Lib.hid eAt
      have EAb := Lib.hid eAb
      have HCB := Lib.hid hcb
      have HCF := Lib.hid hcf
      have HCT := Lib.hid hct
      have h9s := Pl.rsz_sub yf yt
      have h9m := Pl.rsz_mul yb (yf - yt)
      clear hb5 hbq HXQ c0 c1 c2 c3 eAf eAt eAc eAb eP1 hnb hnf hnt hcb hcf hct hyb hyf hyt
      have EP := Lib.hid eP
      rw [eP]
      clear eP
      generalize wr.alloc (.cells #[.bool xq.N.b, .slice xq.N.A xq.N.n xq.N.c, .bool xq.D.b, .slice xq.D.A xq.D.n xq.D.c] 105) = wa at *
      go_upto_region 5 with fail
      have HB8 := Lib.hid (Below.refl wa.heap.size wa)
      have hb5 := (Below.refl wa.heap.size wa).drew
      replace HB8 := Lib.hid hb5
      replace HL := Lib.hid (HL.out.go hb5)
      replace BQ := Lib.hid (BQ.out.go hb5)
      replace HYB := Lib.hid (HYB.out.go hb5)
      replace HYF := Lib.hid (HYF.out.go hb5)
      replace HYT := Lib.hid (HYT.out.go hb5)
      clear hb5
      have HB0 := Lib.hid (Below.refl wa.drew.heap.size wa.drew)
      generalize hw9 : wa.drew = w5 at *
      have hSw : (fun w' : World => Below w5.heap.size w5 w') w5 := HB0.out
      refine wp_region_mid (fun w' : World => Below w5.heap.size w5 w') 33 (by kernel_rfl) ?_
      rw [hw9]
      clear hw9
      refine Tk.go [(0, [33, 34]), (1, [2, 3, 4, 6, 7, 29, 31, 32, 33, 34]), (2, [3, 4, 6, 7, 29, 31, 32, 33, 34]), (3, [4, 6, 7, 29, 31, 32, 33, 34]), (4, [6, 7, 29, 31, 32, 33, 34]), (5, [6, 7, 29, 31, 32, 33, 34]), (6, [7, 29, 31, 32, 33, 34]), (7, [29, 31, 32, 33, 34]), (8, [16, 17, 28, 29, 31, 32, 33, 34]), (9, [10, 11, 12, 14, 15, 16, 17, 28, 29, 31, 32, 33, 34]), (10, [11, 12, 14, 15, 16, 17, 28, 29, 31, 32, 33, 34]), (11, [12, 14, 15, 16, 17, 28, 29, 31, 32, 33, 34]), (12, [14, 15, 16, 17, 28, 29, 31, 32, 33, 34]), (13, [14, 15, 16, 17, 28, 29, 31, 32, 33, 34]), (14, [15, 16, 17, 28, 29, 31, 32, 33, 34]), (15, [16, 17, 28, 29, 31, 32, 33, 34]), (16, [17, 28, 29, 31, 32, 33, 34]), (17, [28, 29, 31, 32, 33, 34]), (18, [26, 27, 28, 29, 31, 32, 33, 34]), (19, [20, 21, 22, 24, 25, 26, 27, 28, 29, 31, 32, 33, 34]), (20, [21, 22, 24, 25, 26, 27, 28, 29, 31, 32, 33, 34]), (21, [22, 24, 25, 26, 27, 28, 29, 31, 32, 33, 34]), (22, [24, 25, 26, 27, 28, 29, 31, 32, 33, 34]), (23, [24, 25, 26, 27, 28, 29, 31, 32, 33, 34]), (24, [25, 26, 27, 28, 29, 31, 32, 33, 34]), (25, [26, 27, 28, 29, 31, 32, 33, 34]), (26, [27, 28, 29, 31, 32, 33, 34]), (27, [28, 29, 31, 32, 33, 34]), (30, [31, 32, 33, 34])] ?_
      iterate 29 (refine Tk.cons rfl (by kernel_rfl) (fun _ _ _ h => h) hSw (by kernel_rfl) (fun w' hSx => by have cp := (HX.out.go (HL.out.go hSx).below).blk.cell; unfold MdA.cells at cp; rw [EAf.out, EAt.out, EAb.out] at cp; have hf := (HX.out.go (HL.out.go hSx).below).f; rw [EAf.out] at hf; have cf := ints_cell hf hlt; rw [EFR.out] at cf; clear hf; have ht := (HX.out.go (HL.out.go hSx).below).t; rw [EAt.out] at ht; have ct := ints_cell ht hlt; rw [ETO.out] at ct; clear ht; have ck := ((BQ.out.go hSx).blk).cell; have hc := HCB.out _ (HB8.out.trans (hSx.mono HB8.out.size)); have c0 := hc.1; have c1 := hc.2.1; have c2 := hc.2.2.1; have c3 := hc.2.2.2; clear hc; have hc := HCF.out _ (HB8.out.trans (hSx.mono HB8.out.size)); have c4 := hc.1; have c5 := hc.2.1; have c6 := hc.2.2.1; have c7 := hc.2.2.2; clear hc; have hc := HCT.out _ (HB8.out.trans (hSx.mono HB8.out.size)); have c8 := hc.1; have c9 := hc.2.1; have c10 := hc.2.2.1; have c11 := hc.2.2.2; clear hc; go_simp; first | done | with_reducible rfl) ?_; simp only [Act.put, List.setIfInBounds_toArray])
      refine Tk.nil ?_
      refine wpAnyM_ready [28] (by kernel_rfl) (by simp) ?_
      refine AllReadyM.cons (by rfl) (fun K hK => ?_) AllReadyM.nil
      go_simp
      refine (rsub_any (HYF.out.go HB0.out) (HYT.out.go HB0.out) (by omega) (by omega)).mono ?_
      rintro e wq1 ⟨z1, rfl, hz9, hb5⟩
      clear HYF HYT
      replace HB0 := Lib.hid (Below.trans HB0.out (hb5.mono HB0.out.size))
      have HZ1 := Lib.hid hz9
      clear hz9
      clear hb5
      clear hSw
      have hSw : (fun w' : World => Below w5.heap.size w5 w') wq1 := HB0.out
      refine hK.out _ _ hSw ?_
      clear hK K
      refine wpAnyM_ready [29] (by kernel_rfl) (by simp) ?_
      refine AllReadyM.cons (by rfl) (fun K hK => ?_) AllReadyM.nil
      go_simp
      refine (rmul_any (HYB.out.go HB0.out) HZ1.out (by omega) (by omega)).mono ?_
      rintro e wq2 ⟨z2, rfl, hz9, hb5⟩
      clear HYB HZ1
      replace HB0 := Lib.hid (Below.trans HB0.out (hb5.mono HB0.out.size))
      have HZ2 := Lib.hid hz9
      clear hz9
      clear hb5
      clear hSw
      have hSw : (fun w' : World => Below w5.heap.size w5 w') wq2 := HB0.out
      refine hK.out _ _ hSw ?_
      clear hK K
      refine wpAnyM_ready [31] (by kernel_rfl) (by simp) ?_
      refine AllReadyM.cons (by rfl) (fun K hK => ?_) AllReadyM.nil
      go_simp
      refine (radd_any HZ2.out (BQ.out.go HB0.out).num (by omega) (by omega)).mono ?_
      rintro e wq3 ⟨z3, rfl, hz9, hb5⟩
      clear HZ2
      replace HB0 := Lib.hid (Below.trans HB0.out (hb5.mono HB0.out.size))
      have HZ3 := Lib.hid hz9
      clear hz9
      clear hb5
      clear hSw
      have hSw : (fun w' : World => Below w5.heap.size w5 w') wq3 := HB0.out
      refine hK.out _ _ hSw ?_
      clear hK K
      refine wpAnyM_ready [32] (by kernel_rfl) (by simp) ?_
      refine AllReadyM.cons (by rfl) (fun K hK => ?_) AllReadyM.nil
      go_simp
      have hb5 := below_one wq3 (.cells #[.bool z3.N.b, .slice z3.N.A z3.N.n z3.N.c, .bool z3.D.b, .slice z3.D.A z3.D.n z3.D.c] 105)
      obtain ⟨gx, hg2⟩ : ∃ g : Nat, g = wq3.heap.size := ⟨_, rfl⟩
      have BX := Lib.hid (Blk.new_ wq3 gx 105 #[.bool z3.N.b, .slice z3.N.A z3.N.n z3.N.c, .bool z3.D.b, .slice z3.D.A z3.D.n z3.D.c] hg2)
      have hS_BX : w5.heap.size ≤ gx := by have := HB0.out.size; omega
      rw [← hg2]
      replace HZ3 := Lib.hid (HZ3.out.go hb5)
      replace HB0 := Lib.hid (Below.trans HB0.out (hb5.mono HB0.out.size))
      clear hb5 hg2
      generalize wq3.alloc (.cells #[.bool z3.N.b, .slice z3.N.A z3.N.n z3.N.c, .bool z3.D.b, .slice z3.D.A z3.D.n z3.D.c] 105) = wq4 at *
      clear hSw
      have hSw : (fun w' : World => Below w5.heap.size w5 w') wq4 := HB0.out
      refine hK.out _ _ hSw ?_
      clear hK K
      refine wpAnyM_ready [33] (by kernel_rfl) (by simp) ?_
      refine AllReadyM.last (by rfl) (by decide) (fun K hK => ?_)
      replace HL := Lib.hid (HL.out.go HB0.out)
      replace BQ := Lib.hid (BQ.out.go HB0.out)
      obtain ⟨v9, wq5, hap, hrq, hbw, hsz, hnum⟩ := HL.out.row.push (yb * (yf - yt) + q) (x := z3) BX.out (by omega) HL.out.below.size
      obtain ⟨A9, c9, rfl⟩ := hrq.slice
      rw [List.length_append, hl] at hap hrq
      refine step_append_runF (by rfl) _ _ _ (by rfl) _ _ _ (by rfl) (by rfl) hap ?_
      simp only [Act.put]
      have hall : AllR wq5 (L ++ [(yb * (yf - yt) + q, z3)]) := AllR.snoc (fun x hx => hnum _ _ (HL.out.each x hx)) (hnum _ _ HZ3.out)
      have HL9 := Lib.hid (show LQ w wq5 _ _ from ⟨hrq, hall, HL.out.below.trans hbw⟩)
      clear hap hrq hbw hsz hnum hall HL BX HZ3 BQ
      have HL := HL9
      clear HL9
      replace HB0 := Lib.hid (Below.refl wq5.heap.size wq5)
      refine hK.out _ _ ?_
      clear hK K
      refine wpAnyM_ready [34] (by kernel_rfl) (by simp) ?_
      refine AllReadyM.last (by rfl) (by decide) (fun K hK => ?_)
      go_simp
      refine hK.out _ _ ?_
      clear hK K
      refine wpAnyM_done (by kernel_rfl) ?_ _
      clear HB0 hSw
      go_wp2_with fail
      go_roundw
      case rel => rw [EP.out]; exact ⟨_, _, _, _, _, _, _, _, _, _, _, _, _, _, _, _, _, _, _, _, _, _, _, _, _, _, _, _, _, _, _, _, _, _, _, _, _, _, _, _, _, _, _, ⟨k + 1, L ++ [(yb * (yf - yt) + q, z3)], hlt, by go_num, by rw [List.length_append, hl]; rfl, by show _ = _; rw [HNX.out, List.map_append, HV.out]; rfl, HL⟩, rfl⟩
      case measure => simp [intOf]; omega
    · obtain rfl : k = X.nb := by omega
      have hk9 : ¬ ((X.nb : Int) < (X.nb : Int)) := by omega
      go_wp2_with fail
      go_ret
      exact ⟨Al, cl, L, rfl, HV.out, hl, HL.out.row, HL.out.each, HL.out.below⟩
end Go.Proofs.YtoblpcljhblnmaaGreatDoor
