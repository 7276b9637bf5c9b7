/- auction.Clear: what it gives is a clearing of the orders. No condition. -/
import Derived.Test.YtibhgcldogfonaaGreatDoorClrA
import Derived.Outline
namespace Go.Proofs.YtibhgcldogfonaaGreatDoor
open Go.RowKit
/-- what Clear gives for orders that are valid -/
def ClearSaid (l : List Pl.Ord) (n : Nat) (w : World) (e : Ending) (w' : World) : Prop :=
  ∃ A fs q, e = .returned (.tuple #[vRes (Pl.cPrice l fs q) q A n n, .int .i64 0]) ∧ Pl.Cleared l fs q ∧ 0 ≤ q ∧ q ≤ 3200000 ∧ Reads w' w'.heap.size 1 A n (ints fs) ∧ Below w.heap.size w w'
def ClrRel (l : List Pl.Ord) (db ds : List Int) (n g r N : Nat) (v6 v7 : Value) (w wr : World) : Prop :=
  ∃ (i j : Nat) (fs : List Int) (q : Int) (Ab As : Option Addr) (cb cs : Nat), v6 = .slice Ab (db.length - i) cb ∧ v7 = .slice As (ds.length - j) cs ∧ db.length - i ≤ cb ∧ ds.length - j ≤ cs ∧
    Hid (∀ ad, Ab = some ad → r < ad.block) ∧ Hid (∀ ad, As = some ad → r < ad.block) ∧ Hid (Reads wr wr.heap.size 1 Ab (db.length - i) (ints (db.drop i))) ∧ Hid (Reads wr wr.heap.size 1 As (ds.length - j) (ints (ds.drop j))) ∧
    Hid (Pl.Mer l db ds i j fs q) ∧ Hid (wr.ownsRow (N + 1) 3 1 (.slice (some ⟨g, 0, none⟩) n n) n (ints fs)) ∧
    Hid (Blk wr N 27 #[.int .i64 0, .int .i64 0, .slice none 0 0]) ∧ Hid (Blk wr r 27 #[.int .i64 0, .int .i64 q, .slice (some ⟨g, 0, none⟩) n n]) ∧ Hid (Below N w wr)
theorem clear_bad (A : Option Addr) (n c : Nat) (l : List Pl.Ord) (w : World) (hcap : n ≤ c) (hs : ∀ z ∈ l, z.name.size ≤ 9223372036854775807) (hr : Reads w w.heap.size 4 A n (orders l)) (h0 : Pl.acheck l ≠ 0) :
    Calls Tryz.prog 4 #[.slice A n c] w fun e w' => e = .returned (.tuple #[vRes 0 0 none 0 0, .int .i64 (Pl.acheck l)]) ∧ Below w.heap.size w w' := by
  have HB0 := Lib.hid ((Below.refl w.heap.size w).alloc (Nat.le_refl _) (.cells #[.int .i64 0, .int .i64 0, .slice none 0 0] 27))
  have HC := Lib.hid (fun wt h => acheck_any A n c l wt hcap hs h)
  have h2 : (Pl.acheck l != 0) = true := by simpa using h0
  clear h0 hs
  generalize Pl.acheck l = u at *
  go_enter Tryz.func4, Tryz.ntmps4
  go_wp2_with fail
  refine (HC.out _ (hr.go HB0.out)).mono ?_
  rintro e w1 ⟨rfl, hb⟩
  have HB1 := Lib.hid (HB0.out.trans (hb.mono HB0.out.size))
  have B1 : Hid (Blk w1 w.heap.size 27 #[.int .i64 0, .int .i64 0, .slice none 0 0]) := (Blk.new_ w w.heap.size _ _ rfl).go hb
  have c1 := B1.out.cell
  have f1 := B1.out.frozen
  clear hb
  go_wp2_with fail
  have D6 := Lib.hid (((B1.out.set_ 0 (.int .i64 0)).set_ 1 (.int .i64 0)).set_ 2 (.slice none 0 0))
  have k7 := D6.out.cell
  refine bodyPost_ret (v := .tuple #[vRes 0 0 none 0 0, .int .i64 u]) (by simp [results, Tryz.results4, go_sem, vRes, k7]) rfl ⟨rfl, ?_⟩
  exact (((HB1.out.setCell (by simp) _).setCell (by simp) _).setCell (by simp) _)
set_option maxHeartbeats 6400000 in
set_option maxRecDepth 100000 in
theorem clear_good (A : Option Addr) (n c : Nat) (l : List Pl.Ord) (w : World) (hcap : n ≤ c) (hs : ∀ z ∈ l, z.name.size ≤ 9223372036854775807) (hr : Reads w w.heap.size 4 A n (orders l)) (h0 : Pl.acheck l = 0) :
    Calls Tryz.prog 4 #[.slice A n c] w (ClearSaid l n w) := by
  have HB0 := Lib.hid ((Below.refl w.heap.size w).alloc (Nat.le_refl _) (.cells #[.int .i64 0, .int .i64 0, .slice none 0 0] 27))
  have HC := Lib.hid (fun wt h => acheck_any A n c l wt hcap hs h)
  rw [h0] at HC
  have HG := Lib.hid (Pl.acheck_good h0)
  have h32 := Pl.acheck_len h0
  have L1 := Lib.hid hr.ord_len
  have hn32 : n ≤ 32 := by have := L1.out; omega
  have HP : Hid (∀ z ∈ l, -1000000 ≤ z.price ∧ z.price ≤ 1000000) := fun z hz => (HG.out z hz).2.2
  have HRK := Lib.hid (fun b wt h => ranked_any A n c l b wt hn32 h HP.out)
  have HOB : Hid (∀ k, k < n → 1 ≤ (Pl.oAt l k).pow ∧ (Pl.oAt l k).pow ≤ 100000 ∧ -1000000 ≤ (Pl.oAt l k).price ∧ (Pl.oAt l k).price ≤ 1000000) := fun k hk => by
    have hk' : k < l.length := by rw [L1.out]; exact hk
    rw [Pl.oAt_eq hk']; exact HG.out _ (List.getElem_mem hk')
  obtain ⟨i0, hi0, hz0, hz1, hz2⟩ := info_parts info_int
  have hmk0 : ∀ w, (Instr.makeSlice 25 (.int .i64 (n : Int)) (.int .i64 (n : Int))).run Tryz.prog w = .ok (.slice (some ⟨w.heap.size, 0, none⟩) n n) (w.alloc (.cells (madeCells #[.int .i64 0] n) 3)) := fun w => by
    have := run_make (P := Tryz.prog) w 25 3 i0 (.int .i64 0) Tryz.underlying25 hi0 hz0 .i64 .i64 n n (by omega) (by omega) (by rw [hz2]; omega) (by omega)
    rw [hz1, show (Value.int .i64 0).cells = #[.int .i64 0] from rfl] at this
    simpa using this
  generalize hz : madeCells #[Value.int .i64 0] n = ZC at hmk0
  have HZC := Lib.hid hz
  have HMK := Lib.hid hmk0
  clear hz hmk0 hi0 hz0 hz1 hz2 h0 hs h32
  go_enter Tryz.func4, Tryz.ntmps4
  go_wp2_with fail
  refine (HC.out _ (hr.go HB0.out)).mono ?_
  rintro e w1 ⟨rfl, hb⟩
  have HB1 := Lib.hid (HB0.out.trans (hb.mono HB0.out.size))
  have B1 : Hid (Blk w1 w.heap.size 27 #[.int .i64 0, .int .i64 0, .slice none 0 0]) := (Blk.new_ w w.heap.size _ _ rfl).go hb
  clear hb
  have l1 := B1.out.lt
  have hmk := HMK.out
  go_wp2_with fail
  have HZL : Hid (ZC.toList = ints (List.replicate n 0)) := by show _ = _; rw [← HZC.out, toList_madeCells_one]; simp [ints]
  have HZS : Hid (ZC.size = n) := by show _ = _; rw [← HZC.out]; simp [size_madeCells]
  have OF2 : Hid (((w1.alloc (.cells ZC 3)).alloc (.cells #[.int .i64 0, .int .i64 0, .slice (some ⟨w1.heap.size, 0, none⟩) n n] 27)).ownsRow (w.heap.size + 1) 3 1 (.slice (some ⟨w1.heap.size, 0, none⟩) n n) n (ints (List.replicate n 0))) := (own_new w1 ZC _ n _ (by omega) (by unfold maxLen; omega) HZS.out _ HZL.out _ rfl).alloc _
  have BN2 : Hid (Blk ((w1.alloc (.cells ZC 3)).alloc (.cells #[.int .i64 0, .int .i64 0, .slice (some ⟨w1.heap.size, 0, none⟩) n n] 27)) w.heap.size 27 #[.int .i64 0, .int .i64 0, .slice none 0 0]) := (B1.out.alloc _).alloc _
  have BR2 : Hid (Blk ((w1.alloc (.cells ZC 3)).alloc (.cells #[.int .i64 0, .int .i64 0, .slice (some ⟨w1.heap.size, 0, none⟩) n n] 27)) (w1.heap.size + 1) 27 #[.int .i64 0, .int .i64 0, .slice (some ⟨w1.heap.size, 0, none⟩) n n]) := Blk.new_ _ _ _ _ (by simp)
  have HB2 : Hid (Below w.heap.size w ((w1.alloc (.cells ZC 3)).alloc (.cells #[.int .i64 0, .int .i64 0, .slice (some ⟨w1.heap.size, 0, none⟩) n n] 27))) := (HB1.out.alloc HB1.out.size _).alloc (by have := HB1.out.size; simp; omega) _
  have hz2 : w1.heap.size + 2 = ((w1.alloc (.cells ZC 3)).alloc (.cells #[.int .i64 0, .int .i64 0, .slice (some ⟨w1.heap.size, 0, none⟩) n n] 27)).heap.size := by simp
  generalize (w1.alloc (.cells ZC 3)).alloc (.cells #[.int .i64 0, .int .i64 0, .slice (some ⟨w1.heap.size, 0, none⟩) n n] 27) = w2 at *
  obtain ⟨g, hg⟩ : ∃ g : Nat, g = w1.heap.size := ⟨_, rfl⟩
  rw [← hg] at OF2 BR2 hz2 l1 ⊢
  clear hg hmk HZL HZS HB1 B1
  have HZ2 := Lib.hid hz2
  clear hz2
  refine (HRK.out true _ (hr.go HB2.out)).mono ?_
  rintro e w3 ⟨Ab, cb, db, rfl, hcb, hlb, hrb, hpb, hob, hb⟩
  have RB := Lib.hid (Pl.rk_of hpb hob)
  have OF3 := Lib.hid (own_go OF2.out hb)
  have BN3 := Lib.hid (BN2.out.go hb)
  have BR3 := Lib.hid (BR2.out.go hb)
  have HB3 := Lib.hid (HB2.out.trans (hb.mono HB2.out.size))
  have HLB : Hid (∀ ad, Ab = some ad → g + 1 < ad.block) := fun ad h => by have := hlb ad h; have := HZ2.out; omega
  have HRB := Lib.hid hrb
  have hs3 : g + 2 ≤ w3.heap.size := by have := hb.size; have := HZ2.out; omega
  clear hb hpb hob hlb hrb OF2 BN2 BR2 HB2 HZ2
  go_wp2_with fail
  refine (HRK.out false _ (hr.go HB3.out)).mono ?_
  rintro e w4 ⟨As, cs, ds, rfl, hcs, hls, hrs, hps, hos, hb⟩
  have RS := Lib.hid (Pl.rk_of hps hos)
  have OF4 := Lib.hid (own_go OF3.out hb)
  have BN4 := Lib.hid (BN3.out.go hb)
  have BR4 := Lib.hid (BR3.out.go hb)
  have HB4 := Lib.hid (HB3.out.trans (hb.mono HB3.out.size))
  have HLS : Hid (∀ ad, As = some ad → g + 1 < ad.block) := fun ad h => by have := hls ad h; omega
  have HRS := Lib.hid hrs
  have HRB4 := Lib.hid (HRB.out.go hb)
  have hs4 : g + 2 ≤ w4.heap.size := by have := hb.size; omega
  clear hb hps hos hls hrs OF3 BN3 BR3 HB3 HRB hs3
  have HOB1 : Hid (∀ x, x < l.length → 1 ≤ (Pl.oAt l x).pow) := fun x hx => (HOB.out x (by rw [← L1.out]; exact hx)).1
  have HOB2 : Hid (∀ x, x < l.length → -1000000 ≤ (Pl.oAt l x).price ∧ (Pl.oAt l x).price ≤ 1000000) := fun x hx => (HOB.out x (by rw [← L1.out]; exact hx)).2.2
  have HM := Lib.hid (Pl.Mer.start RB.out RS.out HOB1.out)
  rw [L1.out] at HM
  go_wp2_with fail
  go_loopw [6, 7] (fun v6 v7 wr => ClrRel l db ds n g (g + 1) w.heap.size v6 v7 w wr) (fun v6 v7 _ => vlen v6 + vlen v7)
  case atStart => exact ⟨0, 0, _, 0, Ab, As, cb, cs, rfl, rfl, hcb, hcs, HLB, HLS, HRB4, HRS, HM, OF4, BN4, BR4, HB4⟩
  case round =>
    clear HLB HLS HRB4 HRS HM OF4 BN4 BR4 HB4 hcb hcs hs4
    obtain ⟨i, j, fs, q, Ab, As, cb, cs, rfl, rfl, hcb, hcs, HLB, HLS, HRB, HRS, HM, OF, BN, BR, HB⟩ := hrel
    have hbl := HM.out.sb.le
    have hsl := HM.out.ss.le
    obtain ⟨nb, hnb⟩ : ∃ nb : Nat, nb = db.length - i := ⟨_, rfl⟩
    obtain ⟨ns, hns⟩ : ∃ ns : Nat, ns = ds.length - j := ⟨_, rfl⟩
    have HNB := Lib.hid hnb
    have HNS := Lib.hid hns
    rw [← hnb] at hcb HRB ⊢
    rw [← hns] at hcs HRS ⊢
    clear hnb hns
    by_cases hi : 0 < nb
    · by_cases hj : 0 < ns
      · have gi : i < db.length := by have := HNB.out; omega
        have gj : j < ds.length := by have := HNS.out; omega
        obtain ⟨pb0, pb1, pb2⟩ := RB.out.pos i gi
        obtain ⟨ps0, ps1, ps2⟩ := RS.out.pos j gj
        rw [L1.out] at pb1 ps1
        obtain ⟨bb, bo, rfl, c1⟩ := head_at HRB.out gi pb0
        obtain ⟨sb, so, rfl, c2⟩ := head_at HRS.out gj ps0
        obtain ⟨lb, lo, rfl⟩ : ∃ lb lo, A = some ⟨lb, lo, none⟩ := by obtain ⟨b, o, e, _⟩ := hr.where_ (by omega) (by omega); exact ⟨b, o, e⟩
        obtain ⟨_, _, d1, d2⟩ := (hr.below HB.out).oat pb1
        obtain ⟨_, _, d3, d4⟩ := (hr.below HB.out).oat ps1
        have f1 : wr.cell? ⟨g, Pl.dN db i, none⟩ = some (.int .i64 (Pl.fAt fs (Pl.dN db i))) := own_int_cell OF.out _ pb1
        have f2 : wr.cell? ⟨g, Pl.dN ds j, none⟩ = some (.int .i64 (Pl.fAt fs (Pl.dN ds j))) := own_int_cell OF.out _ ps1
        have ff := World.ownsRow.frozenAt OF.out
        have rr := BR.out.cell
        have rf := BR.out.frozen
        have nf := BN.out.frozen
        have lr := BR.out.lt
        have bb1 := HLB.out _ rfl
        have sb1 := HLS.out _ rfl
        obtain ⟨x1, x2⟩ := HM.out.sb.head gi
        obtain ⟨x3, x4⟩ := HM.out.ss.head gj
        obtain ⟨y1, y2, y3, y4⟩ := HOB.out _ pb1
        obtain ⟨y5, y6, y7, y8⟩ := HOB.out _ ps1
        have hne : Pl.dN db i ≠ Pl.dN ds j := fun e => by rw [← e, pb2] at ps2; cases ps2
        have HSTEP := Lib.hid (fun m p m0 m1 m2 => HM.out.step RB.out RS.out HOB1.out gi gj p (m := m) m0 m1 m2)
        have HEND := Lib.hid (fun p => HM.out.cleared RB.out RS.out HOB2.out (fun _ _ => p))
        have HQ := HM.out.q_bd HOB.out L1.out hn32
        clear pb0 pb2 ps0 ps2
        generalize Pl.dN db i = kb at *
        generalize Pl.dN ds j = ks at *
        generalize Pl.fAt fs kb = fb at *
        generalize Pl.fAt fs ks = fk at *
        generalize hwb : (Pl.oAt l kb).pow = wb at *
        generalize hwk : (Pl.oAt l ks).pow = wk at *
        have HWB := Lib.hid hwb
        have HWK := Lib.hid hwk
        clear hwb hwk
        generalize (Pl.oAt l kb).price = rb at *
        generalize (Pl.oAt l ks).price = rk at *
        by_cases hp : rk ≤ rb
        · have g1 : decide ((0 : Int) < (nb : Int)) = true := decide_eq_true (by omega)
          have g2 : decide ((0 : Int) < (ns : Int)) = true := decide_eq_true (by omega)
          have g3 : decide (rk ≤ rb) = true := decide_eq_true hp
          have k1 : (0 : Int) < (nb : Int) := by omega
          have k2 : (0 : Int) < (ns : Int) := by omega
          have k3 : (kb : Int) < (n : Int) := by omega
          have k4 : (ks : Int) < (n : Int) := by omega
          have k5 : (0 : Int) ≤ (kb : Int) := by omega
          have k6 : (0 : Int) ≤ (ks : Int) := by omega
          go_wp2_with fail
          go_quiet (fail)
          revert nq; intro j1
          go_wp2_with fail
          go_quiet (fail)
          revert nq; intro j2
          go_wp2_with fail
          --ARMS
          rcases Int.lt_trichotomy (wk - fk) (wb - fb) with hm3 | hm3 | hm3
          · have w1' : IntKind.i64.wrap (wb - fb) = wb - fb := by rw [IntWalk.i64_in _ (by omega)]
            have w2' : IntKind.i64.wrap (wk - fk) = wk - fk := by rw [IntWalk.i64_in _ (by omega)]
            go_quiet (fail)
            revert nq; intro j3
            go_wp2_with fail
            clear w1' w2'
            obtain ⟨m, hm⟩ : ∃ m : Int, m = wk - fk := ⟨_, rfl⟩
            rw [← hm]
            have m0 : 0 ≤ m := by omega
            have m1 : fb + m ≤ wb := by omega
            have m2 : fk + m ≤ wk := by omega
            have HN := Lib.hid (HSTEP.out m hp m0 m1 m2)
            rw [if_neg (by omega), if_pos (by omega)] at HN
            have t1 : (fb + m == wb) = false := by simp; omega
            have t2 : (fk + m == wk) = true := by simp; omega
            clear hm HSTEP HEND
            obtain ⟨OF5, BN5, BR5, HRB5, HRS5, HB5, s1, s2⟩ := clr_store (w0 := wr.drewN (j1 + j2 + j3)) l1 OF.out BN.out BR.out HRB.out HRS.out (below_drewN HB.out (j1 + j2 + j3)) HLB.out HLS.out kb ks pb1 ps1 hne (fb + m) (fk + m) (q + m)
            have o1 := ((hr.below HB5.out).oat pb1).2.2.1
            have o2 := ((hr.below HB5.out).oat ps1).2.2.1
            rw [HWB.out] at o1
            rw [HWK.out] at o2
            clear f1 f2 ff rr rf nf lr OF BN BR HB c1 c2 d1 d2 d3 d4 HRB HRS
            generalize (((wr.drewN (j1 + j2 + j3)).setCell ⟨g, kb, none⟩ (.int .i64 (fb + m))).setCell ⟨g, ks, none⟩ (.int .i64 (fk + m))).setCell ⟨g + 1, 1, none⟩ (.int .i64 (q + m)) = w5 at *
            have r5 : w5.cell? ⟨g + 1, 2, none⟩ = some (.slice (some ⟨g, 0, none⟩) n n) := BR5.out.cell 2
            have HRB6 := HRB5
            have HLB6 := HLB
            obtain ⟨As2, cs2, hrun2, hread, hcc2, hblk⟩ := rest_from HRS5.out hcs (by omega)
            have HRS6 := Lib.hid hread
            have HLS6 : Hid (∀ ad, As2 = some ad → g + 1 < ad.block) := fun ad h => by obtain ⟨a0, h1, h2⟩ := hblk ad h; have := HLS.out a0 h1; omega
            clear hread hblk
            go_quiet (fail)
            revert nq; intro j4
            go_wp2_with fail
            go_quiet (fail)
            revert nq; intro j5
            go_wp2_with fail
            go_roundw
            case rel =>
              exact ⟨i, j + 1, _, q + m, some ⟨bb, bo, none⟩, As2, cb, cs2, by rw [show db.length - i = nb from HNB.out.symm], by rw [show ds.length - (j + 1) = ns - 1 from by have := HNS.out; omega], by have := HNB.out; omega, by have := HNS.out; omega, HLB6, HLS6, (by rw [show db.length - i = nb from HNB.out.symm]; exact HRB6.out), (by rw [show ds.length - (j + 1) = ns - 1 from by have := HNS.out; omega]; exact HRS6.out), HN, OF5, BN5, BR5, (by first | exact Lib.hid (below_drewN_s HB5.out (j4 + j5)) | exact Lib.hid (below_drewN_s (below_drewN_s HB5.out j4) j5))⟩
            case measure => simp [vlen]; omega
          · have w1' : IntKind.i64.wrap (wb - fb) = wb - fb := by rw [IntWalk.i64_in _ (by omega)]
            have w2' : IntKind.i64.wrap (wk - fk) = wk - fk := by rw [IntWalk.i64_in _ (by omega)]
            go_quiet (fail)
            revert nq; intro j3
            go_wp2_with fail
            clear w1' w2'
            obtain ⟨m, hm⟩ : ∃ m : Int, m = wb - fb := ⟨_, rfl⟩
            rw [← hm]
            have m0 : 0 ≤ m := by omega
            have m1 : fb + m ≤ wb := by omega
            have m2 : fk + m ≤ wk := by omega
            have HN := Lib.hid (HSTEP.out m hp m0 m1 m2)
            rw [if_pos (by omega), if_pos (by omega)] at HN
            have t1 : (fb + m == wb) = true := by simp; omega
            have t2 : (fk + m == wk) = true := by simp; omega
            clear hm HSTEP HEND
            obtain ⟨OF5, BN5, BR5, HRB5, HRS5, HB5, s1, s2⟩ := clr_store (w0 := wr.drewN (j1 + j2 + j3)) l1 OF.out BN.out BR.out HRB.out HRS.out (below_drewN HB.out (j1 + j2 + j3)) HLB.out HLS.out kb ks pb1 ps1 hne (fb + m) (fk + m) (q + m)
            have o1 := ((hr.below HB5.out).oat pb1).2.2.1
            have o2 := ((hr.below HB5.out).oat ps1).2.2.1
            rw [HWB.out] at o1
            rw [HWK.out] at o2
            clear f1 f2 ff rr rf nf lr OF BN BR HB c1 c2 d1 d2 d3 d4 HRB HRS
            generalize (((wr.drewN (j1 + j2 + j3)).setCell ⟨g, kb, none⟩ (.int .i64 (fb + m))).setCell ⟨g, ks, none⟩ (.int .i64 (fk + m))).setCell ⟨g + 1, 1, none⟩ (.int .i64 (q + m)) = w5 at *
            have r5 : w5.cell? ⟨g + 1, 2, none⟩ = some (.slice (some ⟨g, 0, none⟩) n n) := BR5.out.cell 2
            obtain ⟨Ab2, cb2, hrun, hread, hcc, hblk⟩ := rest_from HRB5.out hcb (by omega)
            have HRB6 := Lib.hid hread
            have HLB6 : Hid (∀ ad, Ab2 = some ad → g + 1 < ad.block) := fun ad h => by obtain ⟨a0, h1, h2⟩ := hblk ad h; have := HLB.out a0 h1; omega
            clear hread hblk
            obtain ⟨As2, cs2, hrun2, hread, hcc2, hblk⟩ := rest_from HRS5.out hcs (by omega)
            have HRS6 := Lib.hid hread
            have HLS6 : Hid (∀ ad, As2 = some ad → g + 1 < ad.block) := fun ad h => by obtain ⟨a0, h1, h2⟩ := hblk ad h; have := HLS.out a0 h1; omega
            clear hread hblk
            go_quiet (fail)
            revert nq; intro j4
            go_wp2_with fail
            go_quiet (fail)
            revert nq; intro j5
            go_wp2_with fail
            go_roundw
            case rel =>
              exact ⟨i + 1, j + 1, _, q + m, Ab2, As2, cb2, cs2, by rw [show db.length - (i + 1) = nb - 1 from by have := HNB.out; omega], by rw [show ds.length - (j + 1) = ns - 1 from by have := HNS.out; omega], by have := HNB.out; omega, by have := HNS.out; omega, HLB6, HLS6, (by rw [show db.length - (i + 1) = nb - 1 from by have := HNB.out; omega]; exact HRB6.out), (by rw [show ds.length - (j + 1) = ns - 1 from by have := HNS.out; omega]; exact HRS6.out), HN, OF5, BN5, BR5, (by first | exact Lib.hid (below_drewN_s HB5.out (j4 + j5)) | exact Lib.hid (below_drewN_s (below_drewN_s HB5.out j4) j5))⟩
            case measure => simp [vlen]; omega
          · have w1' : IntKind.i64.wrap (wb - fb) = wb - fb := by rw [IntWalk.i64_in _ (by omega)]
            have w2' : IntKind.i64.wrap (wk - fk) = wk - fk := by rw [IntWalk.i64_in _ (by omega)]
            go_quiet (fail)
            revert nq; intro j3
            go_wp2_with fail
            clear w1' w2'
            obtain ⟨m, hm⟩ : ∃ m : Int, m = wb - fb := ⟨_, rfl⟩
            rw [← hm]
            have m0 : 0 ≤ m := by omega
            have m1 : fb + m ≤ wb := by omega
            have m2 : fk + m ≤ wk := by omega
            have HN := Lib.hid (HSTEP.out m hp m0 m1 m2)
            rw [if_pos (by omega), if_neg (by omega)] at HN
            have t1 : (fb + m == wb) = true := by simp; omega
            have t2 : (fk + m == wk) = false := by simp; omega
            clear hm HSTEP HEND
            obtain ⟨OF5, BN5, BR5, HRB5, HRS5, HB5, s1, s2⟩ := clr_store (w0 := wr.drewN (j1 + j2 + j3)) l1 OF.out BN.out BR.out HRB.out HRS.out (below_drewN HB.out (j1 + j2 + j3)) HLB.out HLS.out kb ks pb1 ps1 hne (fb + m) (fk + m) (q + m)
            have o1 := ((hr.below HB5.out).oat pb1).2.2.1
            have o2 := ((hr.below HB5.out).oat ps1).2.2.1
            rw [HWB.out] at o1
            rw [HWK.out] at o2
            clear f1 f2 ff rr rf nf lr OF BN BR HB c1 c2 d1 d2 d3 d4 HRB HRS
            generalize (((wr.drewN (j1 + j2 + j3)).setCell ⟨g, kb, none⟩ (.int .i64 (fb + m))).setCell ⟨g, ks, none⟩ (.int .i64 (fk + m))).setCell ⟨g + 1, 1, none⟩ (.int .i64 (q + m)) = w5 at *
            have r5 : w5.cell? ⟨g + 1, 2, none⟩ = some (.slice (some ⟨g, 0, none⟩) n n) := BR5.out.cell 2
            obtain ⟨Ab2, cb2, hrun, hread, hcc, hblk⟩ := rest_from HRB5.out hcb (by omega)
            have HRB6 := Lib.hid hread
            have HLB6 : Hid (∀ ad, Ab2 = some ad → g + 1 < ad.block) := fun ad h => by obtain ⟨a0, h1, h2⟩ := hblk ad h; have := HLB.out a0 h1; omega
            clear hread hblk
            have HRS6 := HRS5
            have HLS6 := HLS
            go_quiet (fail)
            revert nq; intro j4
            go_wp2_with fail
            go_quiet (fail)
            revert nq; intro j5
            go_wp2_with fail
            go_roundw
            case rel =>
              exact ⟨i + 1, j, _, q + m, Ab2, some ⟨sb, so, none⟩, cb2, cs, by rw [show db.length - (i + 1) = nb - 1 from by have := HNB.out; omega], by rw [show ds.length - j = ns from HNS.out.symm], by have := HNB.out; omega, by have := HNS.out; omega, HLB6, HLS6, (by rw [show db.length - (i + 1) = nb - 1 from by have := HNB.out; omega]; exact HRB6.out), (by rw [show ds.length - j = ns from HNS.out.symm]; exact HRS6.out), HN, OF5, BN5, BR5, (by first | exact Lib.hid (below_drewN_s HB5.out (j4 + j5)) | exact Lib.hid (below_drewN_s (below_drewN_s HB5.out j4) j5))⟩
            case measure => simp [vlen]; omega
          --END
        · have HCL := Lib.hid (HEND.out (by omega))
          obtain ⟨q0, q1⟩ := HQ
          have g1 : decide ((0 : Int) < (nb : Int)) = true := decide_eq_true (by omega)
          have g2 : decide ((0 : Int) < (ns : Int)) = true := decide_eq_true (by omega)
          have g3 : decide (rk ≤ rb) = false := decide_eq_false hp
          have k1 : (0 : Int) < (nb : Int) := by omega
          have k2 : (0 : Int) < (ns : Int) := by omega
          have k3 : (kb : Int) < (n : Int) := by omega
          have k4 : (ks : Int) < (n : Int) := by omega
          have k5 : (0 : Int) ≤ (kb : Int) := by omega
          have k6 : (0 : Int) ≤ (ks : Int) := by omega
          clear HSTEP HEND f1 f2 ff
          go_wp2_with fail
          go_quiet (fail)
          revert nq; intro j1
          have BNq : Hid (Blk (wr.drewN j1) w.heap.size 27 #[.int .i64 0, .int .i64 0, .slice none 0 0]) := BN.out.drewN j1
          have BRq : Hid (Blk (wr.drewN j1) (g + 1) 27 #[.int .i64 0, .int .i64 q, .slice (some ⟨g, 0, none⟩) n n]) := BR.out.drewN j1
          have OFq : Hid ((wr.drewN j1).ownsRow (w.heap.size + 1) 3 1 (.slice (some ⟨g, 0, none⟩) n n) n (ints fs)) := OF.out
          have HBq := Lib.hid (below_drewN_s HB.out j1)
          clear rr rf nf lr BN BR OF HB HRB HRS HM HLB HLS HNB HNS
          generalize wr.drewN j1 = wq at *
          have rr := BRq.out.cell
          have rf := BRq.out.frozen
          have nf := BNq.out.frozen
          have nc := BNq.out.cell
          have lr := BRq.out.lt
          by_cases hq : 0 < q
          · obtain ⟨z1, z2⟩ := HCL.out.fit_bd hq HOB2.out
            have z3 := HCL.out.fits
            go_wp2_with fail
            refine (fitting_any _ (some ⟨g, 0, none⟩) n c n l fs wq hn32 (hr.go HBq.out) (Reads.of_own OFq.out)).mono ?_
            rintro e w6 ⟨rfl, hb⟩
            have BN6 := Lib.hid (BNq.out.go hb)
            have BR6 := Lib.hid (BRq.out.go hb)
            have OF6 := Lib.hid (own_go OFq.out hb)
            have HB6 := Lib.hid (HBq.out.trans (hb.mono HBq.out.size))
            have HPR : Hid (Pl.cPrice l fs q = ((Pl.fit l fs).1 + (Pl.fit l fs).2) / 2) := by show _ = _; unfold Pl.cPrice; rw [if_pos hq]
            generalize (Pl.fit l fs).1 = plo at *
            generalize (Pl.fit l fs).2 = phi at *
            clear hb rr rf nf nc lr
            have rr := BR6.out.cell
            have rf := BR6.out.frozen
            have nf := BN6.out.frozen
            have nc := BN6.out.cell
            have lr := BR6.out.lt
            go_wp2_with fail
            have D6 := Lib.hid ((((BN6.out.far (by simp; omega) (p := ⟨g + 1, 0, none⟩) (.int .i64 ((plo + phi) / 2))).set_ 0 (.int .i64 ((plo + phi) / 2))).set_ 1 (.int .i64 q)).set_ 2 (.slice (some ⟨g, 0, none⟩) n n))
            have k7 := D6.out.cell
            clear rr rf nf nc lr
            refine bodyPost_ret (v := .tuple #[vRes ((plo + phi) / 2) q (some ⟨g, 0, none⟩) n n, .int .i64 0]) (by simp [results, Tryz.results4, go_sem, vRes, k7]) rfl ⟨some ⟨g, 0, none⟩, fs, q, by rw [HPR.out], HCL.out, q0, q1, ?_, ?_⟩
            · exact Reads.of_own (own_other (own_other (own_other (own_other OF6.out (by omega) _ _) (by omega) _ _) (by omega) _ _) (by omega) _ _)
            · exact (((HB6.out.setCell (by simp; omega) _).setCell (by simp) _).setCell (by simp) _).setCell (by simp) _
          · have HPR : Hid (Pl.cPrice l fs q = 0) := by show _ = _; unfold Pl.cPrice; rw [if_neg hq]
            go_wp2_with fail
            have D6 := Lib.hid (((BNq.out.set_ 0 (.int .i64 0)).set_ 1 (.int .i64 q)).set_ 2 (.slice (some ⟨g, 0, none⟩) n n))
            have k7 := D6.out.cell
            clear rr rf nf nc lr
            refine bodyPost_ret (v := .tuple #[vRes 0 q (some ⟨g, 0, none⟩) n n, .int .i64 0]) (by simp [results, Tryz.results4, go_sem, vRes, k7]) rfl ⟨some ⟨g, 0, none⟩, fs, q, by rw [HPR.out], HCL.out, q0, q1, ?_, ?_⟩
            · exact Reads.of_own (own_other (own_other (own_other OFq.out (by omega) _ _) (by omega) _ _) (by omega) _ _)
            · exact (((HBq.out.setCell (by simp) _).setCell (by simp) _).setCell (by simp) _)
      · have HCL := Lib.hid (HM.out.cleared RB.out RS.out HOB2.out (fun _ h => absurd h (by have := HNS.out; omega)))
        obtain ⟨q0, q1⟩ := HM.out.q_bd HOB.out L1.out hn32
        have rr := BR.out.cell
        have rf := BR.out.frozen
        have nf := BN.out.frozen
        have lr := BR.out.lt
        obtain rfl : ns = 0 := by omega
        have g1 : decide ((0 : Int) < (nb : Int)) = true := decide_eq_true (by omega)
        have k1 : (0 : Int) < (nb : Int) := by omega
        go_wp2_with fail
        go_quiet (fail)
        revert nq; intro j1
        have BNq : Hid (Blk (wr.drewN j1) w.heap.size 27 #[.int .i64 0, .int .i64 0, .slice none 0 0]) := BN.out.drewN j1
        have BRq : Hid (Blk (wr.drewN j1) (g + 1) 27 #[.int .i64 0, .int .i64 q, .slice (some ⟨g, 0, none⟩) n n]) := BR.out.drewN j1
        have OFq : Hid ((wr.drewN j1).ownsRow (w.heap.size + 1) 3 1 (.slice (some ⟨g, 0, none⟩) n n) n (ints fs)) := OF.out
        have HBq := Lib.hid (below_drewN_s HB.out j1)
        clear rr rf nf lr BN BR OF HB HRB HRS HM HLB HLS HNB HNS
        generalize wr.drewN j1 = wq at *
        have rr := BRq.out.cell
        have rf := BRq.out.frozen
        have nf := BNq.out.frozen
        have nc := BNq.out.cell
        have lr := BRq.out.lt
        by_cases hq : 0 < q
        · obtain ⟨z1, z2⟩ := HCL.out.fit_bd hq HOB2.out
          have z3 := HCL.out.fits
          go_wp2_with fail
          refine (fitting_any _ (some ⟨g, 0, none⟩) n c n l fs wq hn32 (hr.go HBq.out) (Reads.of_own OFq.out)).mono ?_
          rintro e w6 ⟨rfl, hb⟩
          have BN6 := Lib.hid (BNq.out.go hb)
          have BR6 := Lib.hid (BRq.out.go hb)
          have OF6 := Lib.hid (own_go OFq.out hb)
          have HB6 := Lib.hid (HBq.out.trans (hb.mono HBq.out.size))
          have HPR : Hid (Pl.cPrice l fs q = ((Pl.fit l fs).1 + (Pl.fit l fs).2) / 2) := by show _ = _; unfold Pl.cPrice; rw [if_pos hq]
          generalize (Pl.fit l fs).1 = plo at *
          generalize (Pl.fit l fs).2 = phi at *
          clear hb rr rf nf nc lr
          have rr := BR6.out.cell
          have rf := BR6.out.frozen
          have nf := BN6.out.frozen
          have nc := BN6.out.cell
          have lr := BR6.out.lt
          go_wp2_with fail
          have D6 := Lib.hid ((((BN6.out.far (by simp; omega) (p := ⟨g + 1, 0, none⟩) (.int .i64 ((plo + phi) / 2))).set_ 0 (.int .i64 ((plo + phi) / 2))).set_ 1 (.int .i64 q)).set_ 2 (.slice (some ⟨g, 0, none⟩) n n))
          have k7 := D6.out.cell
          clear rr rf nf nc lr
          refine bodyPost_ret (v := .tuple #[vRes ((plo + phi) / 2) q (some ⟨g, 0, none⟩) n n, .int .i64 0]) (by simp [results, Tryz.results4, go_sem, vRes, k7]) rfl ⟨some ⟨g, 0, none⟩, fs, q, by rw [HPR.out], HCL.out, q0, q1, ?_, ?_⟩
          · exact Reads.of_own (own_other (own_other (own_other (own_other OF6.out (by omega) _ _) (by omega) _ _) (by omega) _ _) (by omega) _ _)
          · exact (((HB6.out.setCell (by simp; omega) _).setCell (by simp) _).setCell (by simp) _).setCell (by simp) _
        · have HPR : Hid (Pl.cPrice l fs q = 0) := by show _ = _; unfold Pl.cPrice; rw [if_neg hq]
          go_wp2_with fail
          have D6 := Lib.hid (((BNq.out.set_ 0 (.int .i64 0)).set_ 1 (.int .i64 q)).set_ 2 (.slice (some ⟨g, 0, none⟩) n n))
          have k7 := D6.out.cell
          clear rr rf nf nc lr
          refine bodyPost_ret (v := .tuple #[vRes 0 q (some ⟨g, 0, none⟩) n n, .int .i64 0]) (by simp [results, Tryz.results4, go_sem, vRes, k7]) rfl ⟨some ⟨g, 0, none⟩, fs, q, by rw [HPR.out], HCL.out, q0, q1, ?_, ?_⟩
          · exact Reads.of_own (own_other (own_other (own_other OFq.out (by omega) _ _) (by omega) _ _) (by omega) _ _)
          · exact (((HBq.out.setCell (by simp) _).setCell (by simp) _).setCell (by simp) _)
    · have HCL := Lib.hid (HM.out.cleared RB.out RS.out HOB2.out (fun h _ => absurd h (by have := HNB.out; omega)))
      obtain ⟨q0, q1⟩ := HM.out.q_bd HOB.out L1.out hn32
      have rr := BR.out.cell
      have rf := BR.out.frozen
      have nf := BN.out.frozen
      have lr := BR.out.lt
      obtain rfl : nb = 0 := by omega
      go_wp2_with fail
      go_quiet (fail)
      revert nq; intro j1
      have BNq : Hid (Blk (wr.drewN j1) w.heap.size 27 #[.int .i64 0, .int .i64 0, .slice none 0 0]) := BN.out.drewN j1
      have BRq : Hid (Blk (wr.drewN j1) (g + 1) 27 #[.int .i64 0, .int .i64 q, .slice (some ⟨g, 0, none⟩) n n]) := BR.out.drewN j1
      have OFq : Hid ((wr.drewN j1).ownsRow (w.heap.size + 1) 3 1 (.slice (some ⟨g, 0, none⟩) n n) n (ints fs)) := OF.out
      have HBq := Lib.hid (below_drewN_s HB.out j1)
      clear rr rf nf lr BN BR OF HB HRB HRS HM HLB HLS HNB HNS
      generalize wr.drewN j1 = wq at *
      have rr := BRq.out.cell
      have rf := BRq.out.frozen
      have nf := BNq.out.frozen
      have nc := BNq.out.cell
      have lr := BRq.out.lt
      by_cases hq : 0 < q
      · obtain ⟨z1, z2⟩ := HCL.out.fit_bd hq HOB2.out
        have z3 := HCL.out.fits
        go_wp2_with fail
        refine (fitting_any _ (some ⟨g, 0, none⟩) n c n l fs wq hn32 (hr.go HBq.out) (Reads.of_own OFq.out)).mono ?_
        rintro e w6 ⟨rfl, hb⟩
        have BN6 := Lib.hid (BNq.out.go hb)
        have BR6 := Lib.hid (BRq.out.go hb)
        have OF6 := Lib.hid (own_go OFq.out hb)
        have HB6 := Lib.hid (HBq.out.trans (hb.mono HBq.out.size))
        have HPR : Hid (Pl.cPrice l fs q = ((Pl.fit l fs).1 + (Pl.fit l fs).2) / 2) := by show _ = _; unfold Pl.cPrice; rw [if_pos hq]
        generalize (Pl.fit l fs).1 = plo at *
        generalize (Pl.fit l fs).2 = phi at *
        clear hb rr rf nf nc lr
        have rr := BR6.out.cell
        have rf := BR6.out.frozen
        have nf := BN6.out.frozen
        have nc := BN6.out.cell
        have lr := BR6.out.lt
        go_wp2_with fail
        have D6 := Lib.hid ((((BN6.out.far (by simp; omega) (p := ⟨g + 1, 0, none⟩) (.int .i64 ((plo + phi) / 2))).set_ 0 (.int .i64 ((plo + phi) / 2))).set_ 1 (.int .i64 q)).set_ 2 (.slice (some ⟨g, 0, none⟩) n n))
        have k7 := D6.out.cell
        clear rr rf nf nc lr
        refine bodyPost_ret (v := .tuple #[vRes ((plo + phi) / 2) q (some ⟨g, 0, none⟩) n n, .int .i64 0]) (by simp [results, Tryz.results4, go_sem, vRes, k7]) rfl ⟨some ⟨g, 0, none⟩, fs, q, by rw [HPR.out], HCL.out, q0, q1, ?_, ?_⟩
        · exact Reads.of_own (own_other (own_other (own_other (own_other OF6.out (by omega) _ _) (by omega) _ _) (by omega) _ _) (by omega) _ _)
        · exact (((HB6.out.setCell (by simp; omega) _).setCell (by simp) _).setCell (by simp) _).setCell (by simp) _
      · have HPR : Hid (Pl.cPrice l fs q = 0) := by show _ = _; unfold Pl.cPrice; rw [if_neg hq]
        go_wp2_with fail
        have D6 := Lib.hid (((BNq.out.set_ 0 (.int .i64 0)).set_ 1 (.int .i64 q)).set_ 2 (.slice (some ⟨g, 0, none⟩) n n))
        have k7 := D6.out.cell
        clear rr rf nf nc lr
        refine bodyPost_ret (v := .tuple #[vRes 0 q (some ⟨g, 0, none⟩) n n, .int .i64 0]) (by simp [results, Tryz.results4, go_sem, vRes, k7]) rfl ⟨some ⟨g, 0, none⟩, fs, q, by rw [HPR.out], HCL.out, q0, q1, ?_, ?_⟩
        · exact Reads.of_own (own_other (own_other (own_other OFq.out (by omega) _ _) (by omega) _ _) (by omega) _ _)
        · exact (((HBq.out.setCell (by simp) _).setCell (by simp) _).setCell (by simp) _)
end Go.Proofs.YtibhgcldogfonaaGreatDoor
