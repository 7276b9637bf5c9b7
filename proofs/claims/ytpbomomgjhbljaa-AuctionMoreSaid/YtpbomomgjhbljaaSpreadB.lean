/- The contract of hours.Spread where it divides: the parts have the total, and differ from the proportion by less than 1. No condition. -/
import Derived.Test.YtpbomomgjhbljaaSpread
import Derived.Test.YtpbomomgjhbljaaOwn
import Derived.Outline
namespace Go.Proofs.Ytpbomomgjhbljaa
open Go.RowKit
/-- what Spread gives: the quotients, and one more for the first by the plain insertion sort of the remainders -/
def Pl.spreadS (total : Int) (ws : List Int) : List Int :=
  Pl.incs (ws.map (Pl.quo_ total (Pl.sumI ws))) ((Sort.insertionSort (Srt.ltOf (Pl.scf total (Pl.sumI ws) ws)) (Pl.iota ws.length).toArray 0 ws.length).toList.take (total - Pl.sumI (ws.map (Pl.quo_ total (Pl.sumI ws)))).toNat)
def SpreadGood (total : Int) (ws : List Int) (w : World) (e : Ending) (w' : World) : Prop :=
  ∃ g c l, e = .returned (.tuple #[.slice (some ⟨g, 0, none⟩) ws.length c, .int .i64 0]) ∧ Reads w' w'.heap.size 1 (some ⟨g, 0, none⟩) ws.length (ints l) ∧ Pl.sumI l = total ∧ (∀ (k : Nat), k < ws.length → 0 ≤ l.getD k 0 ∧ l.getD k 0 ≤ 240000000001) ∧
    (∀ (k : Nat), k < ws.length → -(Pl.sumI ws) < l.getD k 0 * Pl.sumI ws - total * ws.getD k 0 ∧ l.getD k 0 * Pl.sumI ws - total * ws.getD k 0 < Pl.sumI ws) ∧ (ws.length < 20 → l = Pl.spreadS total ws) ∧ Below w.heap.size w w'
theorem iota_get (n i : Nat) (h : i < n) : (Pl.iota n).toArray[i]! = (i : Int) := by
  rw [getElem!_pos _ i (by simpa [Pl.iota_len] using h)]
  simp [Pl.iota]
theorem order_of {total S : Int} {ws : List Int} {n : Nat} {d : Array Int} (hn : ws.length = n) (hz : d.size = n) (hp : Sort.PermIn 0 n (Pl.iota n).toArray d) (hs : Sort.SortedIn (Srt.ltOf (Pl.scf total S ws)) 0 n d) : Pl.Order total S ws d.toList := by
  subst hn
  refine ⟨?_, fun i j hij hj => ?_⟩
  · have h := hp.2.2
    rw [show d.extract 0 ws.length = d from by rw [← hz]; simp, show (Pl.iota ws.length).toArray.extract 0 ws.length = (Pl.iota ws.length).toArray from by
      apply Array.ext'
      simp [Pl.iota_len, List.take_of_length_le]] at h
    exact h
  · have h := hs i j (Nat.zero_le _) hij hj
    have g : ∀ k, k < ws.length → d.toList.getD k 0 = d[k]! := fun k hk => by
      rw [List.getD_eq_getElem?_getD, List.getElem?_eq_getElem (by simpa [hz] using hk), getElem!_pos d k (by omega)]
      simp
    rw [g i (by omega), g j hj]
    unfold Srt.ltOf Pl.scf at h
    simp only [decide_eq_false_iff_not] at h
    omega
theorem info_int : (Try.prog.info? 3).map (fun i => (i.zero, i.size, i.bytes)) = some (some (.int .i64 0), 1, 8) := by kernel_rfl
set_option maxHeartbeats 3200000 in
set_option maxRecDepth 100000 in
theorem spread_good (A : Option Addr) (n c : Nat) (ws : List Int) (total : Int) (w : World) (hr : Reads w w.heap.size 1 A n (ints ws)) (hc : Pl.hcheck ws = 0) (t0 : 0 ≤ total) (t1 : total ≤ 2400000) (hw : ∀ z ∈ ws, 0 ≤ z) (hS : 0 < Pl.sumI ws) :
    Calls Try.prog 15 #[.int .i64 total, .slice A n c] w (SpreadGood total ws w) := by
  have L1 := Lib.hid hr.int_len
  have HC := Lib.hid (fun B w h => check_any A n c ws B w h)
  rw [hc] at HC
  obtain ⟨hn0, hw1⟩ := Pl.hcheck_ok hc
  have hn : n ≤ 24 := by have := hr.int_len; omega
  have HNEG : Pl.has (fun z => decide (z < 0)) ws = false := by
    unfold Pl.has
    rw [List.any_eq_false]
    intro x hx
    have := hw x hx
    simp; omega
  have HCF := Lib.hid (fun B w h => contains_int A n c ws 50 (fun z => decide (z < 0)) B w (by omega) enters_spread1 (Lib.hid spread1_any) h)
  rw [HNEG] at HCF
  have HO : Hid (Pl.outB total 0 2400000 = false) := Pl.outB_false.2 ⟨t0, t1⟩
  have HWB : Hid (∀ z ∈ ws, 0 ≤ z ∧ z ≤ 100000) := fun z hz => by
    obtain ⟨j, hj, rfl⟩ := List.getElem_of_mem hz
    exact ⟨hw _ hz, (hw1 j hj).2⟩
  have HSB : Hid (∀ k, 0 ≤ Pl.sumI (ws.take k) ∧ Pl.sumI (ws.take k) ≤ 2400000) := fun k => by
    have := Pl.sumI_bd (l := ws.take k) (lo := 0) (hi := 100000) fun x hx => HWB.out x (List.mem_of_mem_take hx)
    rw [List.length_take] at this
    omega
  obtain ⟨i0, hi0, hz0, hz1, hz2⟩ := info_parts info_int
  have hmk0 : ∀ w, (Instr.makeSlice 22 (.int .i64 (n : Int)) (.int .i64 (n : Int))).run Try.prog w = .ok (.slice (some ⟨w.heap.size, 0, none⟩) n n) (w.alloc (.cells (madeCells #[.int .i64 0] n) 3)) := fun w => by
    have := run_make (P := Try.prog) w 22 3 i0 (.int .i64 0) Try.underlying22 hi0 hz0 .i64 .i64 n n (by omega) (by omega) (by rw [hz2]; omega) (by omega)
    rw [hz1, show (Value.int .i64 0).cells = #[.int .i64 0] from rfl] at this
    simpa using this
  generalize hz : madeCells #[Value.int .i64 0] n = ZC at hmk0
  have HZC := Lib.hid hz
  have HMK := Lib.hid hmk0
  clear hz hmk0 hc hn0 hw1 HNEG hw hi0 hz0 hz1 hz2
  go_enter Try.func15, Try.ntmps15
  go_wp2_with fail
  have HB0 := Lib.hid (((Below.refl w.heap.size w).alloc (Nat.le_refl _) (.cells #[.int .i64 total] 3)).alloc (by simp) (.cells #[.slice A n c] 22))
  refine (HC.out _ _ (hr.below HB0.out)).mono ?_; rintro e w' ⟨rfl, rfl⟩
  go_wp2_with fail
  refine (out_any _ _ _ _).mono ?_; rintro e w' ⟨rfl, rfl⟩
  rw [HO.out]
  go_wp2_with fail
  refine (HCF.out _ _ (hr.below HB0.out)).mono ?_; rintro e w' ⟨rfl, rfl⟩
  go_wp2_with fail
  go_loopw [9, 30] (fun _ i wr => ∃ k : Nat, k ≤ n ∧ i = .int .i64 k ∧ Blk wr w.heap.size 3 #[.int .i64 total] ∧ Blk wr (w.heap.size + 1) 22 #[.slice A n c] ∧ Blk wr (w.heap.size + 2) 3 #[.int .i64 (Pl.sumI (ws.take k))] ∧ Below w.heap.size w wr) (fun _ i _ => n - (intOf i).toNat)
  case atStart =>
    refine ⟨0, Nat.zero_le _, rfl, ?_, ?_, ?_, ?_⟩
    · exact (Blk.old_ (by simp <;> omega) (Blk.old_ (by simp <;> omega) (Blk.new_ _ _ _ _ (by simp))))
    · exact (Blk.old_ (by simp) (Blk.new_ _ _ _ _ (by simp)))
    · exact Blk.new_ _ _ _ _ (by simp)
    · exact HB0.out.alloc (by simp; omega) _
  case round =>
    obtain ⟨k, hk, rfl, bt, bw, bs, hbel⟩ := hrel
    have BT := Lib.hid bt
    have BW := Lib.hid bw
    have BS := Lib.hid bs
    have HB := Lib.hid hbel
    clear bt bw bs hbel
    obtain ⟨s1, s2⟩ := HSB.out k
    have ct := BT.out.cell
    have cw := BW.out.cell
    have cs := BS.out.cell
    have fs := BS.out.frozen
    have ls := BS.out.lt
    have lw := BW.out.lt
    have lt := BT.out.lt
    by_cases hlt : k < n
    · obtain ⟨b, o, rfl, hl1, c1⟩ := (hr.below HB.out).int_at hlt
      obtain ⟨g1, g2⟩ := HWB.out _ (List.getElem_mem hl1)
      have HS : Hid (Pl.sumI (ws.take (k + 1)) = Pl.sumI (ws.take k) + ws[k]) := by show _ = _; rw [List.take_succ_eq_append_getElem hl1, Pl.sumI_snoc]
      generalize Pl.sumI (ws.take k) = sm at *
      generalize ws[k] = x at *
      go_wp2_with fail
      go_roundw
      case rel =>
        refine ⟨k + 1, by omega, by go_num, BT.out.far (by simp <;> omega) _, BW.out.far (by simp <;> omega) _, ?_, HB.out.setCell (by simp <;> omega) _⟩
        rw [HS.out]
        exact BS.out.set_ 0 _
      case measure => simp [intOf]; omega
    · have : k = n := by omega
      subst this
      have HT : Hid (ws.take k = ws) := List.take_of_length_le (by have := L1.out; omega)
      rw [HT.out] at BS cs s1 s2
      have sne : (Pl.sumI ws == 0) = false := by rw [beq_eq_false_iff_ne]; omega
      generalize hSS : Pl.sumI ws = S at *
      have HSS := Lib.hid hSS
      clear hSS
      have hmk := HMK.out
      go_wp2_with fail
      go_region
      · have HZL : Hid (ZC.toList = ints (List.replicate k 0)) := by show _ = _; rw [← HZC.out, toList_madeCells_one]; simp [ints]
        have HZS : Hid (ZC.size = k) := by show _ = _; rw [← HZC.out]; simp [size_madeCells]
        have OA : Hid (((wr.alloc (.cells ZC 3)).alloc (.cells ZC 3)).drew.ownsRow (w.heap.size + 3) 3 1 (.slice (some ⟨wr.heap.size, 0, none⟩) k k) k (ints (List.replicate k 0))) := (own_new wr ZC _ k _ ls (by unfold maxLen; omega) HZS.out _ HZL.out _ rfl).alloc _
        have OB : Hid (((wr.alloc (.cells ZC 3)).alloc (.cells ZC 3)).drew.ownsRow (w.heap.size + 3) 3 1 (.slice (some ⟨wr.heap.size + 1, 0, none⟩) k k) k (ints (List.replicate k 0))) := own_new (wr.alloc (.cells ZC 3)) ZC _ k _ (by simp; omega) (by unfold maxLen; omega) HZS.out _ HZL.out _ (by simp)
        have BT5 : Hid (Blk ((wr.alloc (.cells ZC 3)).alloc (.cells ZC 3)).drew w.heap.size 3 #[.int .i64 total]) := (BT.out.alloc _).alloc _
        have BW5 : Hid (Blk ((wr.alloc (.cells ZC 3)).alloc (.cells ZC 3)).drew (w.heap.size + 1) 22 #[.slice A k c]) := (BW.out.alloc _).alloc _
        have BS5 : Hid (Blk ((wr.alloc (.cells ZC 3)).alloc (.cells ZC 3)).drew (w.heap.size + 2) 3 #[.int .i64 S]) := (BS.out.alloc _).alloc _
        have HB5 : Hid (Below w.heap.size w ((wr.alloc (.cells ZC 3)).alloc (.cells ZC 3)).drew) := ((HB.out.alloc HB.out.size _).alloc (by have := HB.out.size; simp; omega) _).drew
        have HZ5 : Hid (w.heap.size + 3 ≤ ((wr.alloc (.cells ZC 3)).alloc (.cells ZC 3)).drew.heap.size) := by show _ ≤ _; simp; omega
        clear BT BW BS HB ct cw cs fs
        generalize ((wr.alloc (.cells ZC 3)).alloc (.cells ZC 3)).drew = w5 at *
        obtain ⟨gp, go, hgp, hgo, g1, g2, g3, g4⟩ : ∃ gp go : Nat, gp = wr.heap.size ∧ go = wr.heap.size + 1 ∧ w.heap.size + 3 ≤ gp ∧ w.heap.size + 3 ≤ go ∧ gp ≠ go ∧ go ≠ gp := ⟨_, _, rfl, rfl, by omega, by omega, by omega, by omega⟩
        rw [← hgo, ← hgp]
        have OP : Hid (w5.ownsRow (w.heap.size + 3) 3 1 (.slice (some ⟨gp, 0, none⟩) k k) k (ints (List.replicate k 0))) := by rw [hgp]; exact OA
        have OO : Hid (w5.ownsRow (w.heap.size + 3) 3 1 (.slice (some ⟨go, 0, none⟩) k k) k (ints (List.replicate k 0))) := by rw [hgo]; exact OB
        clear hgp hgo OA OB ls lw lt hmk
        have c5 := BW5.out.cell
        have c6 := BT5.out.cell
        go_wp2_with fail
        have bS : 0 ≤ total - 0 := by omega
        have HQL := Lib.hid (fun j => Pl.left_take (total := total) (S := S) HSS.out hS t0 (fun z hz => (HWB.out z hz).1) j)
        clear c5 c6 bS
        have W5 := HZ5
        go_loopw [12, 13, 14, 49] (fun vl _ _ i wr => ∃ j : Nat, j ≤ k ∧ i = .int .i64 j ∧ vl = .int .i64 (total - Pl.sumI ((ws.take j).map (Pl.quo_ total S))) ∧
            wr.ownsRow (w.heap.size + 3) 3 1 (.slice (some ⟨gp, 0, none⟩) k k) k (ints ((ws.take j).map (Pl.quo_ total S) ++ List.replicate (k - j) 0)) ∧
            wr.ownsRow (w.heap.size + 3) 3 1 (.slice (some ⟨go, 0, none⟩) k k) k (ints (Pl.iota j ++ List.replicate (k - j) 0)) ∧
            Blk wr w.heap.size 3 #[.int .i64 total] ∧ Blk wr (w.heap.size + 1) 22 #[.slice A k c] ∧ Blk wr (w.heap.size + 2) 3 #[.int .i64 S] ∧ Below w.heap.size w wr ∧ w.heap.size + 3 ≤ wr.heap.size) (fun _ _ _ i _ => k - (intOf i).toNat)
        case atStart => exact ⟨0, Nat.zero_le _, rfl, by simp [Pl.sumI], OP.out, OO.out, BT5.out, BW5.out, BS5.out, HB5.out, HZ5.out⟩
        case round =>
          clear OP OO BT5 BW5 BS5 HB5 HZ5 W5
          obtain ⟨j, hjk, rfl, rfl, hop, hoo, bt, bw, bs, hbel, hsz⟩ := hrel
          have OP := Lib.hid hop
          have OO := Lib.hid hoo
          have BT := Lib.hid bt
          have BW := Lib.hid bw
          have BS := Lib.hid bs
          have HB := Lib.hid hbel
          clear hop hoo bt bw bs hbel
          obtain ⟨q1, q2⟩ := HQL.out j
          by_cases hlt : j < k
          · obtain ⟨b, o, rfl, hl1, c1⟩ := (hr.below HB.out).int_at hlt
            obtain ⟨x1, x2⟩ := HWB.out _ (List.getElem_mem hl1)
            obtain ⟨y1, y2⟩ := Pl.quo_bd (total := total) (S := S) t0 hS x1 t1 x2
            have HS : Hid ((ws.take (j + 1)).map (Pl.quo_ total S) = (ws.take j).map (Pl.quo_ total S) ++ [Pl.quo_ total S ws[j]]) := by show _ = _; rw [List.take_succ_eq_append_getElem hl1, List.map_append]; rfl
            have HL1 : Hid (((ws.take j).map (Pl.quo_ total S)).length = j) := by show _ = _; simp; omega
            have HSM : Hid (Pl.sumI ((ws.take (j + 1)).map (Pl.quo_ total S)) = Pl.sumI ((ws.take j).map (Pl.quo_ total S)) + total * ws[j] / S) := by show _ = _; rw [HS.out, Pl.sumI_snoc]; rfl
            have HF1 : Hid (((ws.take j).map (Pl.quo_ total S) ++ List.replicate (k - j) 0).set j (total * ws[j] / S) = (ws.take (j + 1)).map (Pl.quo_ total S) ++ List.replicate (k - (j + 1)) 0) := by
              show _ = _
              have := set_fill ((ws.take j).map (Pl.quo_ total S)) (k - (j + 1)) (total * ws[j] / S)
              rw [HL1.out, show k - (j + 1) + 1 = k - j from by omega] at this
              rw [this, HS.out]
              rfl
            have HF2 : Hid ((Pl.iota j ++ List.replicate (k - j) 0).set j (j : Int) = Pl.iota (j + 1) ++ List.replicate (k - (j + 1)) 0) := by
              show _ = _
              have := set_fill (Pl.iota j) (k - (j + 1)) (j : Int)
              rw [Pl.iota_len, show k - (j + 1) + 1 = k - j from by omega] at this
              rw [this, Pl.iota_snoc]
            have m0 := Int.mul_nonneg t0 x1
            have m1 : total * ws[j] ≤ 240000000000 := by
              have : total * ws[j] ≤ total * 100000 := Int.mul_le_mul_of_nonneg_left x2 t0
              omega
            have HQ : Hid (Pl.quo_ total S ws[j] = total * ws[j] / S) := rfl
            rw [HQ.out] at HS y1 y2
            have cp := own_int_cell OP.out j hlt
            have co := own_int_cell OO.out j hlt
            have fp := World.ownsRow.frozenAt OP.out
            have fo := World.ownsRow.frozenAt OO.out
            have ct := BT.out.cell
            have cw := BW.out.cell
            have cs := BS.out.cell
            have LB : Hid (go ≠ gp) := g4
            have n1 : w.heap.size ≠ go := by omega
            have n2 : w.heap.size + 2 ≠ go := by omega
            have n3 : gp ≠ go := g3
            generalize Pl.sumI ((ws.take j).map (Pl.quo_ total S)) = sm at *
            generalize ws[j] = x at *
            go_wp2_with fail
            go_roundw
            case rel =>
              refine ⟨j + 1, by omega, by go_num, vint (by rw [HSM.out]; omega), ?_, ?_, (BT.out.far (by simp; omega) _).far (by simp; omega) _, (BW.out.far (by simp; omega) _).far (by simp; omega) _, (BS.out.far (by simp; omega) _).far (by simp; omega) _, (HB.out.setCell (by simp; omega) _).setCell (by simp; omega) _, by simp; omega⟩
              · rw [← HF1.out]; exact own_int_set (own_other OP.out n3 _ _) _ _
              · rw [← HF2.out]; exact own_other (own_int_set OO.out _ _) LB.out _ _
            case measure => simp [intOf]; omega
          · have : j = k := by omega
            subst this
            have HT2 : Hid (ws.take j = ws) := HT
            rw [HT2.out, Nat.sub_self, List.replicate_zero, List.append_nil] at OP
            rw [Nat.sub_self, List.replicate_zero, List.append_nil] at OO
            rw [HT2.out] at q1 q2 ⊢
            obtain ⟨p0, p1, _⟩ := Pl.left_bd (total := total) HSS.out hS
            obtain ⟨L, hL⟩ := Int.eq_ofNat_of_zero_le p0
            have HLL := Lib.hid hL
            have n0 : gp ≠ go := g3
            have N0 : Hid (go ≠ gp) := g4
            have l1 : L ≤ j := by have := L1.out; omega
            clear hL
            rw [HLL.out]
            have ROW : Hid (Srt.Row Srt.encI 1 (w.heap.size + 3) 3 go j j wr (Pl.iota j).toArray) := ⟨by simp [Pl.iota_len], fun _ => rfl, fun _ v hv => by simp [Srt.encI] at hv; subst hv; rfl, g2, by rw [List.toList_toArray, flat_ints]; exact OO.out⟩
            have HCMP : Hid (Srt.CmpOk 52 #[.pointer (some ⟨w.heap.size, 0, none⟩), .pointer (some ⟨w.heap.size + 1, 0, none⟩), .pointer (some ⟨w.heap.size + 2, 0, none⟩)] Srt.valI (Pl.scf total S ws) (fun x => 0 ≤ x ∧ x < (j : Int)) go wr) := by
              intro wt x y hkp qx qy
              exact spread2_any w.heap.size (w.heap.size + 1) (w.heap.size + 2) A j c ws total S w.heap.size x y wt ((Blk.kp BT.out hkp (by omega)).cell 0) ((Blk.kp BW.out hkp (by omega)).cell 0) ((Blk.kp BS.out hkp (by omega)).cell 0) ((hr.below HB.out).grown hkp (by omega) (fun g hg => by injection hg with hg; omega)) t0 t1 hS s2 HWB.out qx qy
            have HSORT := Lib.hid (Srt.sortI (w.heap.size + 3) go j j 52 _ (Pl.scf total S ws) (fun x => 0 ≤ x ∧ x < (j : Int)) wr enters_spread2 HCMP.out (Pl.scf_swo total S ws) (by omega) (Pl.iota j).toArray wr (Srt.Kp.refl _ _) ROW.out (fun i hi => by rw [iota_get j i hi]; omega))
            clear HCMP
            go_wp2_with fail
            refine HSORT.out.mono ?_
            rintro e w6 ⟨rfl, d', hrow, hperm, hsort, hdx, hkp⟩
            have HDX := Lib.hid hdx
            have ORD := Lib.hid (order_of (total := total) (S := S) (ws := ws) L1.out hrow.size hperm hsort)
            have OP6 := Lib.hid (own_kp OP.out n0 hkp)
            have OO6 : Hid (w6.ownsRow (w.heap.size + 3) 3 1 (.slice (some ⟨go, 0, none⟩) j j) j (ints d'.toList)) := by have := hrow.own; rwa [flat_ints] at this
            have HB6 := Lib.hid (below_kp HB.out hkp (by omega) (by omega))
            have HZ6 : Hid (w.heap.size + 3 ≤ w6.heap.size) := Nat.le_trans hsz hkp.size
            clear hrow hperm hsort hdx hkp OP OO BT BW BS HB HSORT ROW hsz
            go_wp2_with fail
            go_loopw [16, 80] (fun _ i wr => ∃ q : Nat, q ≤ L ∧ i = .int .i64 q ∧ wr.ownsRow (w.heap.size + 3) 3 1 (.slice (some ⟨gp, 0, none⟩) j j) j (ints (Pl.incs (ws.map (Pl.quo_ total S)) (d'.toList.take q))) ∧
                wr.ownsRow (w.heap.size + 3) 3 1 (.slice (some ⟨go, 0, none⟩) j j) j (ints d'.toList) ∧ Below w.heap.size w wr ∧ w.heap.size + 3 ≤ wr.heap.size) (fun _ i _ => L - (intOf i).toNat)
            case atStart => exact ⟨0, Nat.zero_le _, rfl, OP6.out, OO6.out, HB6.out, HZ6.out⟩
            case round =>
              clear OP6 OO6 HB6 HZ6
              obtain ⟨q, hqL, rfl, hop, hoo, hbel, hsz⟩ := hrel
              have OP := Lib.hid hop
              have OO := Lib.hid hoo
              have HB := Lib.hid hbel
              clear hop hoo hbel
              by_cases hlt : q < L
              · have qj : q < j := by omega
                have co := own_int_cell OO.out q qj
                have hl : q < d'.toList.length := by rw [ORD.out.len, L1.out]; exact qj
                have hm := ORD.out.mem _ (List.getElem_mem hl)
                have e1 : d'.toList.getD q 0 = d'.toList[q] := by rw [List.getD_eq_getElem?_getD, List.getElem?_eq_getElem hl]; rfl
                rw [e1] at co
                obtain ⟨p, hp⟩ := Int.eq_ofNat_of_zero_le hm.1
                have HPE := Lib.hid hp
                have pj : p < j := by have := hm.2; have := L1.out; omega
                rw [hp] at co
                clear hp hm e1
                have cp := own_int_cell OP.out p pj
                obtain ⟨b1, b2⟩ := Pl.incs_bd ORD.out t0 t1 hS HWB.out q p (by rw [L1.out]; exact pj)
                have fp := World.ownsRow.frozenAt OP.out
                have HI : Hid (Pl.incs (ws.map (Pl.quo_ total S)) (d'.toList.take (q + 1)) = (Pl.incs (ws.map (Pl.quo_ total S)) (d'.toList.take q)).set p ((Pl.incs (ws.map (Pl.quo_ total S)) (d'.toList.take q)).getD p 0 + 1)) := by
                  show _ = _
                  rw [List.take_succ_eq_append_getElem hl, Pl.incs_snoc, HPE.out]
                  rfl
                generalize hgd : (Pl.incs (ws.map (Pl.quo_ total S)) (d'.toList.take q)).getD p 0 = pv at *
                clear hgd
                have z1 : (p : Int) < (j : Int) := by omega
                have z2 : (0 : Int) ≤ (p : Int) := by omega
                have z3 : (q : Int) < (L : Int) := by omega
                go_wp2_with fail
                go_roundw
                case rel =>
                  refine ⟨q + 1, by omega, by go_num, ?_, own_other OO.out N0.out _ _, HB.out.setCell (by simp; omega) _, by simp; omega⟩
                  rw [HI.out]
                  exact own_int_set OP.out _ _
                case measure => simp [intOf]; omega
              · have : q = L := by omega
                subst this
                obtain ⟨r1, r2, r3⟩ := Pl.spread_law ORD.out HSS.out hS q HLL.out
                have RR := Lib.hid r2
                have R3 := Lib.hid r3
                clear r1 r2 r3
                go_wp2_with fail
                go_ret2
                exact ⟨gp, j, _, by rw [L1.out]; rfl, by rw [L1.out]; exact Reads.of_own OP.out, RR.out, fun k hk => Pl.incs_bd ORD.out t0 t1 hS HWB.out q k hk, by rw [HSS.out]; exact R3.out, fun hh => by unfold Pl.spreadS; rw [HSS.out, L1.out, ← HDX.out (by rw [← L1.out]; exact hh), HLL.out]; rfl, HB.out⟩
      · have HZL : Hid (ZC.toList = ints (List.replicate k 0)) := by show _ = _; rw [← HZC.out, toList_madeCells_one]; simp [ints]
        have HZS : Hid (ZC.size = k) := by show _ = _; rw [← HZC.out]; simp [size_madeCells]
        have OA : Hid (((wr.alloc (.cells ZC 3)).alloc (.cells ZC 3)).drew.ownsRow (w.heap.size + 3) 3 1 (.slice (some ⟨wr.heap.size, 0, none⟩) k k) k (ints (List.replicate k 0))) := (own_new wr ZC _ k _ ls (by unfold maxLen; omega) HZS.out _ HZL.out _ rfl).alloc _
        have OB : Hid (((wr.alloc (.cells ZC 3)).alloc (.cells ZC 3)).drew.ownsRow (w.heap.size + 3) 3 1 (.slice (some ⟨wr.heap.size + 1, 0, none⟩) k k) k (ints (List.replicate k 0))) := own_new (wr.alloc (.cells ZC 3)) ZC _ k _ (by simp; omega) (by unfold maxLen; omega) HZS.out _ HZL.out _ (by simp)
        have BT5 : Hid (Blk ((wr.alloc (.cells ZC 3)).alloc (.cells ZC 3)).drew w.heap.size 3 #[.int .i64 total]) := (BT.out.alloc _).alloc _
        have BW5 : Hid (Blk ((wr.alloc (.cells ZC 3)).alloc (.cells ZC 3)).drew (w.heap.size + 1) 22 #[.slice A k c]) := (BW.out.alloc _).alloc _
        have BS5 : Hid (Blk ((wr.alloc (.cells ZC 3)).alloc (.cells ZC 3)).drew (w.heap.size + 2) 3 #[.int .i64 S]) := (BS.out.alloc _).alloc _
        have HB5 : Hid (Below w.heap.size w ((wr.alloc (.cells ZC 3)).alloc (.cells ZC 3)).drew) := ((HB.out.alloc HB.out.size _).alloc (by have := HB.out.size; simp; omega) _).drew
        have HZ5 : Hid (w.heap.size + 3 ≤ ((wr.alloc (.cells ZC 3)).alloc (.cells ZC 3)).drew.heap.size) := by show _ ≤ _; simp; omega
        clear BT BW BS HB ct cw cs fs
        generalize ((wr.alloc (.cells ZC 3)).alloc (.cells ZC 3)).drew = w5 at *
        obtain ⟨gp, go, hgp, hgo, g1, g2, g3, g4⟩ : ∃ gp go : Nat, gp = wr.heap.size + 1 ∧ go = wr.heap.size ∧ w.heap.size + 3 ≤ gp ∧ w.heap.size + 3 ≤ go ∧ gp ≠ go ∧ go ≠ gp := ⟨_, _, rfl, rfl, by omega, by omega, by omega, by omega⟩
        rw [← hgp, ← hgo]
        have OP : Hid (w5.ownsRow (w.heap.size + 3) 3 1 (.slice (some ⟨gp, 0, none⟩) k k) k (ints (List.replicate k 0))) := by rw [hgp]; exact OB
        have OO : Hid (w5.ownsRow (w.heap.size + 3) 3 1 (.slice (some ⟨go, 0, none⟩) k k) k (ints (List.replicate k 0))) := by rw [hgo]; exact OA
        clear hgp hgo OA OB ls lw lt hmk
        have c5 := BW5.out.cell
        have c6 := BT5.out.cell
        go_wp2_with fail
        have bS : 0 ≤ total - 0 := by omega
        have HQL := Lib.hid (fun j => Pl.left_take (total := total) (S := S) HSS.out hS t0 (fun z hz => (HWB.out z hz).1) j)
        clear c5 c6 bS
        have W5 := HZ5
        go_loopw [12, 13, 14, 49] (fun vl _ _ i wr => ∃ j : Nat, j ≤ k ∧ i = .int .i64 j ∧ vl = .int .i64 (total - Pl.sumI ((ws.take j).map (Pl.quo_ total S))) ∧
            wr.ownsRow (w.heap.size + 3) 3 1 (.slice (some ⟨gp, 0, none⟩) k k) k (ints ((ws.take j).map (Pl.quo_ total S) ++ List.replicate (k - j) 0)) ∧
            wr.ownsRow (w.heap.size + 3) 3 1 (.slice (some ⟨go, 0, none⟩) k k) k (ints (Pl.iota j ++ List.replicate (k - j) 0)) ∧
            Blk wr w.heap.size 3 #[.int .i64 total] ∧ Blk wr (w.heap.size + 1) 22 #[.slice A k c] ∧ Blk wr (w.heap.size + 2) 3 #[.int .i64 S] ∧ Below w.heap.size w wr ∧ w.heap.size + 3 ≤ wr.heap.size) (fun _ _ _ i _ => k - (intOf i).toNat)
        case atStart => exact ⟨0, Nat.zero_le _, rfl, by simp [Pl.sumI], OP.out, OO.out, BT5.out, BW5.out, BS5.out, HB5.out, HZ5.out⟩
        case round =>
          clear OP OO BT5 BW5 BS5 HB5 HZ5 W5
          obtain ⟨j, hjk, rfl, rfl, hop, hoo, bt, bw, bs, hbel, hsz⟩ := hrel
          have OP := Lib.hid hop
          have OO := Lib.hid hoo
          have BT := Lib.hid bt
          have BW := Lib.hid bw
          have BS := Lib.hid bs
          have HB := Lib.hid hbel
          clear hop hoo bt bw bs hbel
          obtain ⟨q1, q2⟩ := HQL.out j
          by_cases hlt : j < k
          · obtain ⟨b, o, rfl, hl1, c1⟩ := (hr.below HB.out).int_at hlt
            obtain ⟨x1, x2⟩ := HWB.out _ (List.getElem_mem hl1)
            obtain ⟨y1, y2⟩ := Pl.quo_bd (total := total) (S := S) t0 hS x1 t1 x2
            have HS : Hid ((ws.take (j + 1)).map (Pl.quo_ total S) = (ws.take j).map (Pl.quo_ total S) ++ [Pl.quo_ total S ws[j]]) := by show _ = _; rw [List.take_succ_eq_append_getElem hl1, List.map_append]; rfl
            have HL1 : Hid (((ws.take j).map (Pl.quo_ total S)).length = j) := by show _ = _; simp; omega
            have HSM : Hid (Pl.sumI ((ws.take (j + 1)).map (Pl.quo_ total S)) = Pl.sumI ((ws.take j).map (Pl.quo_ total S)) + total * ws[j] / S) := by show _ = _; rw [HS.out, Pl.sumI_snoc]; rfl
            have HF1 : Hid (((ws.take j).map (Pl.quo_ total S) ++ List.replicate (k - j) 0).set j (total * ws[j] / S) = (ws.take (j + 1)).map (Pl.quo_ total S) ++ List.replicate (k - (j + 1)) 0) := by
              show _ = _
              have := set_fill ((ws.take j).map (Pl.quo_ total S)) (k - (j + 1)) (total * ws[j] / S)
              rw [HL1.out, show k - (j + 1) + 1 = k - j from by omega] at this
              rw [this, HS.out]
              rfl
            have HF2 : Hid ((Pl.iota j ++ List.replicate (k - j) 0).set j (j : Int) = Pl.iota (j + 1) ++ List.replicate (k - (j + 1)) 0) := by
              show _ = _
              have := set_fill (Pl.iota j) (k - (j + 1)) (j : Int)
              rw [Pl.iota_len, show k - (j + 1) + 1 = k - j from by omega] at this
              rw [this, Pl.iota_snoc]
            have m0 := Int.mul_nonneg t0 x1
            have m1 : total * ws[j] ≤ 240000000000 := by
              have : total * ws[j] ≤ total * 100000 := Int.mul_le_mul_of_nonneg_left x2 t0
              omega
            have HQ : Hid (Pl.quo_ total S ws[j] = total * ws[j] / S) := rfl
            rw [HQ.out] at HS y1 y2
            have cp := own_int_cell OP.out j hlt
            have co := own_int_cell OO.out j hlt
            have fp := World.ownsRow.frozenAt OP.out
            have fo := World.ownsRow.frozenAt OO.out
            have ct := BT.out.cell
            have cw := BW.out.cell
            have cs := BS.out.cell
            have LB : Hid (go ≠ gp) := g4
            have n1 : w.heap.size ≠ go := by omega
            have n2 : w.heap.size + 2 ≠ go := by omega
            have n3 : gp ≠ go := g3
            generalize Pl.sumI ((ws.take j).map (Pl.quo_ total S)) = sm at *
            generalize ws[j] = x at *
            go_wp2_with fail
            go_roundw
            case rel =>
              refine ⟨j + 1, by omega, by go_num, vint (by rw [HSM.out]; omega), ?_, ?_, (BT.out.far (by simp; omega) _).far (by simp; omega) _, (BW.out.far (by simp; omega) _).far (by simp; omega) _, (BS.out.far (by simp; omega) _).far (by simp; omega) _, (HB.out.setCell (by simp; omega) _).setCell (by simp; omega) _, by simp; omega⟩
              · rw [← HF1.out]; exact own_int_set (own_other OP.out n3 _ _) _ _
              · rw [← HF2.out]; exact own_other (own_int_set OO.out _ _) LB.out _ _
            case measure => simp [intOf]; omega
          · have : j = k := by omega
            subst this
            have HT2 : Hid (ws.take j = ws) := HT
            rw [HT2.out, Nat.sub_self, List.replicate_zero, List.append_nil] at OP
            rw [Nat.sub_self, List.replicate_zero, List.append_nil] at OO
            rw [HT2.out] at q1 q2 ⊢
            obtain ⟨p0, p1, _⟩ := Pl.left_bd (total := total) HSS.out hS
            obtain ⟨L, hL⟩ := Int.eq_ofNat_of_zero_le p0
            have HLL := Lib.hid hL
            have n0 : gp ≠ go := g3
            have N0 : Hid (go ≠ gp) := g4
            have l1 : L ≤ j := by have := L1.out; omega
            clear hL
            rw [HLL.out]
            have ROW : Hid (Srt.Row Srt.encI 1 (w.heap.size + 3) 3 go j j wr (Pl.iota j).toArray) := ⟨by simp [Pl.iota_len], fun _ => rfl, fun _ v hv => by simp [Srt.encI] at hv; subst hv; rfl, g2, by rw [List.toList_toArray, flat_ints]; exact OO.out⟩
            have HCMP : Hid (Srt.CmpOk 52 #[.pointer (some ⟨w.heap.size, 0, none⟩), .pointer (some ⟨w.heap.size + 1, 0, none⟩), .pointer (some ⟨w.heap.size + 2, 0, none⟩)] Srt.valI (Pl.scf total S ws) (fun x => 0 ≤ x ∧ x < (j : Int)) go wr) := by
              intro wt x y hkp qx qy
              exact spread2_any w.heap.size (w.heap.size + 1) (w.heap.size + 2) A j c ws total S w.heap.size x y wt ((Blk.kp BT.out hkp (by omega)).cell 0) ((Blk.kp BW.out hkp (by omega)).cell 0) ((Blk.kp BS.out hkp (by omega)).cell 0) ((hr.below HB.out).grown hkp (by omega) (fun g hg => by injection hg with hg; omega)) t0 t1 hS s2 HWB.out qx qy
            have HSORT := Lib.hid (Srt.sortI (w.heap.size + 3) go j j 52 _ (Pl.scf total S ws) (fun x => 0 ≤ x ∧ x < (j : Int)) wr enters_spread2 HCMP.out (Pl.scf_swo total S ws) (by omega) (Pl.iota j).toArray wr (Srt.Kp.refl _ _) ROW.out (fun i hi => by rw [iota_get j i hi]; omega))
            clear HCMP
            go_wp2_with fail
            refine HSORT.out.mono ?_
            rintro e w6 ⟨rfl, d', hrow, hperm, hsort, hdx, hkp⟩
            have HDX := Lib.hid hdx
            have ORD := Lib.hid (order_of (total := total) (S := S) (ws := ws) L1.out hrow.size hperm hsort)
            have OP6 := Lib.hid (own_kp OP.out n0 hkp)
            have OO6 : Hid (w6.ownsRow (w.heap.size + 3) 3 1 (.slice (some ⟨go, 0, none⟩) j j) j (ints d'.toList)) := by have := hrow.own; rwa [flat_ints] at this
            have HB6 := Lib.hid (below_kp HB.out hkp (by omega) (by omega))
            have HZ6 : Hid (w.heap.size + 3 ≤ w6.heap.size) := Nat.le_trans hsz hkp.size
            clear hrow hperm hsort hdx hkp OP OO BT BW BS HB HSORT ROW hsz
            go_wp2_with fail
            go_loopw [16, 80] (fun _ i wr => ∃ q : Nat, q ≤ L ∧ i = .int .i64 q ∧ wr.ownsRow (w.heap.size + 3) 3 1 (.slice (some ⟨gp, 0, none⟩) j j) j (ints (Pl.incs (ws.map (Pl.quo_ total S)) (d'.toList.take q))) ∧
                wr.ownsRow (w.heap.size + 3) 3 1 (.slice (some ⟨go, 0, none⟩) j j) j (ints d'.toList) ∧ Below w.heap.size w wr ∧ w.heap.size + 3 ≤ wr.heap.size) (fun _ i _ => L - (intOf i).toNat)
            case atStart => exact ⟨0, Nat.zero_le _, rfl, OP6.out, OO6.out, HB6.out, HZ6.out⟩
            case round =>
              clear OP6 OO6 HB6 HZ6
              obtain ⟨q, hqL, rfl, hop, hoo, hbel, hsz⟩ := hrel
              have OP := Lib.hid hop
              have OO := Lib.hid hoo
              have HB := Lib.hid hbel
              clear hop hoo hbel
              by_cases hlt : q < L
              · have qj : q < j := by omega
                have co := own_int_cell OO.out q qj
                have hl : q < d'.toList.length := by rw [ORD.out.len, L1.out]; exact qj
                have hm := ORD.out.mem _ (List.getElem_mem hl)
                have e1 : d'.toList.getD q 0 = d'.toList[q] := by rw [List.getD_eq_getElem?_getD, List.getElem?_eq_getElem hl]; rfl
                rw [e1] at co
                obtain ⟨p, hp⟩ := Int.eq_ofNat_of_zero_le hm.1
                have HPE := Lib.hid hp
                have pj : p < j := by have := hm.2; have := L1.out; omega
                rw [hp] at co
                clear hp hm e1
                have cp := own_int_cell OP.out p pj
                obtain ⟨b1, b2⟩ := Pl.incs_bd ORD.out t0 t1 hS HWB.out q p (by rw [L1.out]; exact pj)
                have fp := World.ownsRow.frozenAt OP.out
                have HI : Hid (Pl.incs (ws.map (Pl.quo_ total S)) (d'.toList.take (q + 1)) = (Pl.incs (ws.map (Pl.quo_ total S)) (d'.toList.take q)).set p ((Pl.incs (ws.map (Pl.quo_ total S)) (d'.toList.take q)).getD p 0 + 1)) := by
                  show _ = _
                  rw [List.take_succ_eq_append_getElem hl, Pl.incs_snoc, HPE.out]
                  rfl
                generalize hgd : (Pl.incs (ws.map (Pl.quo_ total S)) (d'.toList.take q)).getD p 0 = pv at *
                clear hgd
                have z1 : (p : Int) < (j : Int) := by omega
                have z2 : (0 : Int) ≤ (p : Int) := by omega
                have z3 : (q : Int) < (L : Int) := by omega
                go_wp2_with fail
                go_roundw
                case rel =>
                  refine ⟨q + 1, by omega, by go_num, ?_, own_other OO.out N0.out _ _, HB.out.setCell (by simp; omega) _, by simp; omega⟩
                  rw [HI.out]
                  exact own_int_set OP.out _ _
                case measure => simp [intOf]; omega
              · have : q = L := by omega
                subst this
                obtain ⟨r1, r2, r3⟩ := Pl.spread_law ORD.out HSS.out hS q HLL.out
                have RR := Lib.hid r2
                have R3 := Lib.hid r3
                clear r1 r2 r3
                go_wp2_with fail
                go_ret2
                exact ⟨gp, j, _, by rw [L1.out]; rfl, by rw [L1.out]; exact Reads.of_own OP.out, RR.out, fun k hk => Pl.incs_bd ORD.out t0 t1 hS HWB.out q k hk, by rw [HSS.out]; exact R3.out, fun hh => by unfold Pl.spreadS; rw [HSS.out, L1.out, ← HDX.out (by rw [← L1.out]; exact hh), HLL.out]; rfl, HB.out⟩
end Go.Proofs.Ytpbomomgjhbljaa
