/- Slices of slices of integers in memory; commit.Cost: the cost of schedules that serve the demands, or an error. Condition: the arguments lie in memory as the words say. -/
import Derived.Test.YtchafkocobbndaaWay
import Derived.Test.YtchafkocobbndaaIdxInt
import Derived.Test.YtchafkocobbndaaDAll
import Derived.Test.YtchafkocobbndaaServe
import Derived.Test.YtchafkocobbndaaPCommitG
import Derived.Test.YtchafkocobbndaaRun
import Derived.Deep.RegionHeld3
namespace Go.Proofs.Ytchafkocobbndaa
open Go.RowKit
/-- a slice of slices of integers -/
def Grid (w : World) (A : Option Addr) (n : Nat) (l : List MRow) : Prop := Reads w w.heap.size 1 A n (l.map rowv) ∧ ∀ r ∈ l, Reads w w.heap.size 1 r.1 r.2.2.length (ints r.2.2)
theorem Grid.go {w w' : World} {A : Option Addr} {n : Nat} {l : List MRow} (h : Grid w A n l) (hb : Below w.heap.size w w') : Grid w' A n l := ⟨h.1.go hb, fun r hr => (h.2 r hr).go hb⟩
theorem Grid.len {w : World} {A : Option Addr} {n : Nat} {l : List MRow} (h : Grid w A n l) : l.length = n := by have := h.1.1; simpa using this
theorem Grid.at_ {w : World} {A : Option Addr} {n : Nat} {l : List MRow} (h : Grid w A n l) {k : Nat} (hk : k < n) :
    ∃ b o, A = some ⟨b, o, none⟩ ∧ ∃ hl : k < l.length, w.cell? ⟨b, o + k, none⟩ = some (rowv (l[k]'hl)) ∧ Reads w w.heap.size 1 (l[k]'hl).1 (l[k]'hl).2.2.length (ints (l[k]'hl).2.2) := by
  obtain ⟨b, o, rfl, hb, hc⟩ := h.1.where_ (by omega) (by omega)
  have hl : k < l.length := by have := h.len; omega
  exact ⟨b, o, rfl, hl, hc k _ (by simp [hl]), h.2 _ (List.getElem_mem hl)⟩
theorem Grid.of_own {w : World} {base base2 c : Nat} {A : Option Addr} {l : List MRow} (h : w.ownsRow base 23 1 (.slice A l.length c) l.length (l.map rowv)) (hr : ∀ r ∈ l, w.ownsRow base2 3 1 (rowv r) r.2.2.length (ints r.2.2)) : Grid w A l.length l :=
  ⟨Reads.of_own h, fun r hx => Reads.of_own (hr r hx)⟩
def neL (n m : Nat) : Bool := decide (n ≠ m)
set_option maxRecDepth 100000 in
theorem cost1_any (A B : Option Addr) (n c m d bo : Nat) (w : World) (hc : w.cell? ⟨bo, 0, none⟩ = some (.slice B m d)) :
    Calls Try.prog 31 #[.slice A n c, .pointer (some ⟨bo, 0, none⟩)] w fun e w' => e = .returned (.bool (neL n m)) ∧ Below w.heap.size w w' := by
  by_cases h : n = m
  · subst h
    have e0 : ((n : Int) != (n : Int)) = false := by simp
    go_enter Try.func31, Try.ntmps31
    go_wp2_with fail
    go_ret
    exact ⟨by simp [neL], Below.refl _ _⟩
  · have e0 : ((n : Int) != (m : Int)) = true := by rw [bne_iff_ne]; omega
    have e1 : neL n m = true := by simpa [neL] using h
    rw [e1]
    go_enter Try.func31, Try.ntmps31
    go_wp2_with fail
    all_goals
      go_ret
      exact ⟨rfl, Below.refl _ _⟩
theorem enters_cost1 : ∀ args w, Sem.run Try.prog (callFunc 31 args) w = .ok (.enter 31 args) w := by intro args w; go_simp
set_option maxHeartbeats 1600000 in
set_option maxRecDepth 100000 in
theorem idxfn_row (A B : Option Addr) (n c m d bo : Nat) (l : List MRow) (w : World) (hn : n ≤ 1000000000000000) (hc : w.cell? ⟨bo, 0, none⟩ = some (.slice B m d)) (h : Grid w A n l) :
    Calls Try.prog 53 #[.slice A n c, .func (.func 31) #[] #[.pointer (some ⟨bo, 0, none⟩)]] w fun e w' => e = .returned (.int .i64 (Pl.idxOf (fun z : MRow => neL z.2.2.length m) l)) ∧ Below w.heap.size w w' := by
  have HL := Lib.hid h.len
  have H := Lib.hid h
  clear h
  have lt := cell_lt hc
  go_enter Try.func53, Try.ntmps53
  go_wp2_with fail
  go_loopw [8] (fun i wr => ∃ k : Nat, k ≤ n ∧ i = .int .i64 k ∧ Hid (∀ j (hj : j < l.length), j < k → neL l[j].2.2.length m = false) ∧ Below w.heap.size w wr) (fun i _ => n - (intOf i).toNat)
  case atStart => exact ⟨0, Nat.zero_le _, rfl, fun j _ h => absurd h (by omega), Below.refl _ _⟩
  case round =>
    obtain ⟨k, hk, rfl, HN, hbel⟩ := hrel
    have HB := Lib.hid hbel
    clear hbel
    by_cases hlt : k < n
    · obtain ⟨b, o, rfl, hl, cc, _⟩ := (H.out.go HB.out).at_ hlt
      have HC := Lib.hid (cost1_any l[k].1 B l[k].2.2.length l[k].2.1 m d bo wr (by rw [HB.out.cell (p := ⟨bo, 0, none⟩) lt]; exact hc))
      unfold rowv at cc
      go_wp2_with fail
      refine HC.out.mono ?_
      rintro e w' ⟨rfl, hb⟩
      have HB2 := Lib.hid (HB.out.trans (hb.mono HB.out.size))
      clear hb cc
      cases hv : neL l[k].2.2.length m
      · have HV := Lib.hid hv
        clear hv HC
        go_wp2_with fail
        go_roundw
        case rel =>
          exact ⟨k + 1, by omega, by go_num, fun j hj hjk => by
            by_cases e : j = k
            · subst e; exact HV.out
            · exact HN.out j hj (by omega), HB2.out⟩
        case measure => simp [intOf]; omega
      · have HV := Lib.hid hv
        clear hv HC
        go_wp2_with fail
        go_ret
        exact ⟨ret_int (Pl.idxOf_hit (fun z : MRow => neL z.2.2.length m) l k hl HV.out HN.out).symm, HB2.out⟩
    · go_wp2_with fail
      go_ret
      exact ⟨ret_int (Pl.idxOf_miss (fun z : MRow => neL z.2.2.length m) l fun j hj => HN.out j hj (by have := HL.out; omega)).symm, HB.out⟩
theorem contains_row (A B : Option Addr) (n c m d bo : Nat) (l : List MRow) (w : World) (hn : n ≤ 1000000000000000) (hc : w.cell? ⟨bo, 0, none⟩ = some (.slice B m d)) (h : Grid w A n l) :
    Calls Try.prog 30 #[.slice A n c, .func (.func 31) #[] #[.pointer (some ⟨bo, 0, none⟩)]] w fun e w' => e = .returned (.bool (Pl.has (fun z : MRow => neL z.2.2.length m) l)) ∧ Below w.heap.size w w' := by
  go_enter Try.func30, Try.ntmps30
  go_wp2_with fail
  refine (idxfn_row A B n c m d bo l _ hn hc h).mono ?_
  rintro e w' ⟨rfl, hb⟩
  go_wp2_with fail
  go_ret
  exact ⟨ret_bool (Pl.has_idx _ l), hb⟩
set_option maxRecDepth 100000 in
/-- slices.Equal at integers, both answers -/
theorem eqints_any (A B : Option Addr) (n m c d : Nat) (x y : List Int) (w : World) (hn : n ≤ 1000000000000000) (hx : Reads w w.heap.size 1 A n (ints x)) (hy : Reads w w.heap.size 1 B m (ints y)) :
    Calls Try.prog 11 #[.slice A n c, .slice B m d] w fun e w' => e = .returned (.bool (decide (x = y))) ∧ Below w.heap.size w w' := by
  have lx := hx.int_len
  have ly := hy.int_len
  by_cases hnm : n = m
  · subst hnm
    have LX := Lib.hid lx
    have LY := Lib.hid ly
    clear lx ly
    have e0 : ((n : Int) != (n : Int)) = false := by simp
    go_enter Try.func11, Try.ntmps11
    go_wp2_with fail
    go_loopw [13] (fun i wr => ∃ k : Nat, k ≤ n ∧ i = .int .i64 k ∧ Hid (∀ j, j < k → x[j]? = y[j]?) ∧ Below w.heap.size w wr) (fun i _ => n - (intOf i).toNat)
    case atStart => exact ⟨0, Nat.zero_le _, rfl, fun j h => absurd h (by omega), Below.refl _ _⟩
    case round =>
      obtain ⟨k, hk, rfl, HE, hb⟩ := hrel
      have HB := Lib.hid hb
      by_cases hlt : k < n
      · obtain ⟨b, o, rfl, hl1, c1⟩ := (hx.go hb).int_at hlt
        obtain ⟨b', o', rfl, hl2, d1⟩ := (hy.go hb).int_at hlt
        clear hb
        have HX : Hid (x[k]? = some x[k]) := List.getElem?_eq_getElem hl1
        have HY : Hid (y[k]? = some y[k]) := List.getElem?_eq_getElem hl2
        generalize x[k] = zx at *
        generalize y[k] = zy at *
        by_cases hz : zx = zy
        · subst hz
          have ez : (zx != zx) = false := by simp
          go_wp2_with fail
          go_region
          go_wp2_with fail
          go_roundw
          case rel =>
            exact ⟨k + 1, by omega, by go_num, fun j hj => by
              by_cases e : j = k
              · subst e; rw [HX.out, HY.out]
              · exact HE.out j (by omega), HB.out.drew⟩
          case measure => simp [intOf]; omega
        · have ez : (zx != zy) = true := by rw [bne_iff_ne]; exact hz
          have hxy : decide (x = y) = false := by
            rw [decide_eq_false_iff_not]
            intro e
            subst e
            have := HX.out.symm.trans HY.out
            injection this with this
            exact hz this
          have HXY := Lib.hid hxy
          clear hxy
          go_wp2_with fail
          go_region
          go_wp2_with fail
          go_ret
          exact ⟨ret_bool HXY.out.symm, HB.out.drew⟩
      · have hxy : decide (x = y) = true := by
          rw [decide_eq_true_iff]
          refine List.ext_getElem? fun j => ?_
          by_cases hj : j < k
          · exact HE.out j hj
          · rw [List.getElem?_eq_none (by have := LX.out; omega), List.getElem?_eq_none (by have := LY.out; omega)]
        have HXY := Lib.hid hxy
        clear hxy
        go_wp2_with fail
        go_ret
        exact ⟨ret_bool HXY.out.symm, HB.out⟩
  · have hxy : decide (x = y) = false := by
      rw [decide_eq_false_iff_not]
      intro e
      subst e
      omega
    rw [hxy]
    have e0 : ((n : Int) != (m : Int)) = true := by rw [bne_iff_ne]; omega
    clear hxy lx ly
    go_enter Try.func11, Try.ntmps11
    go_wp2_with fail
    go_ret
    exact ⟨rfl, Below.refl _ _⟩
end Go.Proofs.Ytchafkocobbndaa
namespace Go.Proofs.Ytchafkocobbndaa
open Go.RowKit
/-- what commit.Cost returns -/
def CcSaid (l : List Pl.CU) (ds : List Int) (S : List (List Int)) (w : World) (e : Ending) (w' : World) : Prop :=
  ∃ cost er : Int, e = .returned (.tuple #[.int .i64 cost, .int .i64 er]) ∧ Pl.CostP l ds S cost er ∧ Below w.heap.size w w'
def grs (S : List MRow) : List (List Int) := S.map (·.2.2)
theorem grs_len (S : List MRow) : (grs S).length = S.length := by unfold grs; simp
theorem grs_at (S : List MRow) {i : Nat} (h : i < S.length) : (grs S).getD i [] = S[i].2.2 := by
  unfold grs
  rw [List.getD_eq_getElem?_getD, List.getElem?_map, List.getElem?_eq_getElem h]
  rfl
theorem grs_has (S : List MRow) (m : Nat) : Pl.has (fun z : MRow => neL z.2.2.length m) S = Pl.has (Pl.badLen m) (grs S) := by
  unfold Pl.has grs
  rw [List.any_map]
  rfl
set_option maxHeartbeats 6400000 in
set_option maxRecDepth 100000 in
theorem ccost_any (A B C : Option Addr) (n c m cm q cq : Nat) (l : List MU) (ds : List Int) (S : List MRow) (w : World) (hcap : n ≤ c) (h : Unis w A n l) (hd : Reads w w.heap.size 1 B m (ints ds)) (hs : Grid w C q S) :
    Calls Try.prog 14 #[.slice A n c, .slice B m cm, .slice C q cq] w (CcSaid (plus l) ds (grs S) w) := by
  have L1 := Lib.hid h.len
  have LP : Hid ((plus l).length = n) := by show _ = _; rw [plus_len]; exact L1.out
  have LD := Lib.hid hd.int_len
  have LS := Lib.hid hs.len
  have H := Lib.hid h
  have HRD := Lib.hid hd
  have HGR := Lib.hid hs
  have HC := Lib.hid (fun w h hd => duall_any A B n c m cm l ds w hcap h hd)
  have HB0 := Lib.hid ((Below.refl w.heap.size w).alloc (Nat.le_refl _) (.cells #[.slice B m cm] 23))
  have BX0 := Lib.hid (Blk.new_ w w.heap.size 23 #[.slice B m cm] rfl)
  clear h hd hs
  go_enter Try.func14, Try.ntmps14
  go_wp2_with fail
  refine (HC.out _ (H.out.go HB0.out) (HRD.out.go HB0.out)).mono ?_
  rintro e w1 ⟨rfl, hb⟩
  have HB1 := Lib.hid (HB0.out.trans (hb.mono HB0.out.size))
  have BX1 := Lib.hid (BX0.out.go hb)
  clear hb HC HB0 BX0
  by_cases h0 : Pl.duAll (plus l) ds = 0
  · rw [h0]
    have HH0 := Lib.hid h0
    have HOK := Lib.hid (Pl.duAll_ok h0)
    have hn3 : n ≤ 3 := by have := HOK.out.hl; rw [LP.out] at this; exact this
    have hm8 : m ≤ 8 := by have := HOK.out.hd; rw [LD.out] at this; exact this
    clear h0
    by_cases hq : q = n
    · subst hq
      have hqq : ((q : Int) != (q : Int)) = false := by simp
      have hq3 : q ≤ 1000000000000000 := by omega
      have HCT := Lib.hid (contains_row C B q cq m cm w.heap.size S w1 hq3 (BX1.out.cell 0) (HGR.out.go HB1.out))
      rw [grs_has] at HCT
      go_wp2_with fail
      refine HCT.out.mono ?_
      rintro e w2 ⟨rfl, hb⟩
      have HB2 := Lib.hid (HB1.out.trans (hb.mono HB1.out.size))
      have BX2 := Lib.hid (BX1.out.go hb)
      clear hb HCT HB1 BX1
      cases hf : Pl.has (Pl.badLen m) (grs S)
      · have HRO : Hid (Pl.RunsOk (plus l) ds (grs S) 0) := Pl.form_ok HH0.out (by rw [grs_len, LS.out, LP.out]) (by rw [LD.out]; exact hf)
        clear hf
        obtain ⟨j0, ji0, jz0, jz1, jz2⟩ := info_parts info_int
        have hmk : ∀ w, (Instr.makeSlice 23 (.int .i64 (m : Int)) (.int .i64 (m : Int))).run Try.prog w = .ok (.slice (some ⟨w.heap.size, 0, none⟩) m m) (w.alloc (.cells (madeCells #[.int .i64 0] m) 3)) := fun w => by
          have := run_make (P := Try.prog) w 23 3 j0 (.int .i64 0) Try.underlying23 ji0 jz0 .i64 .i64 m m (by omega) (by omega) (by rw [jz2]; omega) (by omega)
          rw [jz1, show (Value.int .i64 0).cells = #[.int .i64 0] from rfl] at this
          simpa using this
        generalize hz : madeCells #[Value.int .i64 0] m = ZC at hmk
        have HZL : Hid (ZC.toList = ints (List.replicate m 0)) := by show _ = _; rw [← hz, toList_madeCells_one]; simp [ints]
        have c0 := BX2.out.cell 0
        have f0 := BX2.out.frozen 0
        clear hz ji0 jz0 jz1 jz2
        go_wp2_with fail
        have IS : Hid (IBlk (w2.alloc (.cells ZC 3)) w2.heap.size 3 (Pl.mixN (Pl.sumK (grs S) 0) (fun _ => 0) m m)) := by
          rw [Pl.mixN_full _ _ (fun _ => 0), show Pl.sumK (grs S) 0 = (fun _ => 0) from rfl, Pl.mixN_zero]
          exact IBlk.new_ _ _ _ _ rfl HZL.out
        have HB3 := Lib.hid (HB2.out.alloc HB2.out.size (.cells ZC 3))
        have BX3 := Lib.hid (BX2.out.alloc (.cells ZC 3))
        have HGS : Hid (w.heap.size < w2.heap.size) := BX2.out.lt
        clear hmk HZL c0 f0 HB2 BX2
        generalize w2.alloc (.cells ZC 3) = w3 at *
        generalize w2.heap.size = gs at *
        go_loopw [9, 41] (fun cv i wr => ∃ k : Nat, k ≤ q ∧ i = .int .i64 k ∧ cv = .int .i64 (Pl.costK (plus l) (grs S) m k) ∧ Hid (Pl.RunsOk (plus l) ds (grs S) k) ∧ Hid (IBlk wr gs 3 (Pl.mixN (Pl.sumK (grs S) k) (fun _ => 0) m m)) ∧ Hid (Blk wr w.heap.size 23 #[.slice B m cm]) ∧ Hid (Below w.heap.size w wr)) (fun _ i _ => q - (intOf i).toNat)
        case atStart => exact ⟨0, Nat.zero_le _, rfl, rfl, HRO, IS, BX3, HB3⟩
        case round =>
          clear HRO IS BX3 HB3
          obtain ⟨k, hk, rfl, rfl, HRO, IS, BX, HB⟩ := hrel
          by_cases hlt : k < q
          · obtain ⟨b, o, rfl, u, ⟨hl1, hu⟩, c0, c1, c2, c3, c4, c5, c6, c7, c8, c9, c10, c11, c12, hin⟩ := (H.out.go HB.out).cells5 hlt
            obtain ⟨bc, oc, rfl, hl2, cc, hrr⟩ := (HGR.out.go HB.out).at_ hlt
            have HCU : Hid (Pl.cu (plus l) k = plu u) := by show _ = _; rw [hu]; exact plus_cu hl1
            have HCK : Hid (Pl.duCheck (plu u) = 0) := by rw [← HCU.out]; exact HOK.out.hu _ (Pl.cu_mem (by rw [LP.out]; exact hlt))
            have HGT : Hid ((grs S).getD k [] = S[k].2.2) := grs_at S hl2
            have HMR := List.getElem_mem hl2
            have HRRW : Hid (∀ wr, Below w.heap.size w wr → Reads wr wr.heap.size 1 S[k].1 S[k].2.2.length (ints S[k].2.2)) := fun wr hb => (HGR.out.2 _ HMR).go hb
            have HINW : Hid (∀ wr, Below w.heap.size w wr → UnIn wr u) := fun wr hb => (H.out.2 u (by rw [hu]; exact List.getElem_mem hl1)).go hb
            clear HMR
            have HZM : Hid (S[k].2.2.length = m) := by
              have := HRO.out.len k (by rw [LP.out]; exact hlt)
              rw [HGT.out, LD.out] at this
              exact this
            generalize S[k] = r0 at *
            obtain ⟨Az0, cz0, zs⟩ := r0
            unfold rowv at cc
            simp only at cc hrr HGT HZM HRRW
            rw [HZM.out] at cc hrr HRRW
            have HRK : Hid (Pl.runK (plus l) (grs S) k = Pl.urun u.r u.s zs) := by show _ = _; unfold Pl.runK; rw [HCU.out, HGT.out]; rfl
            have HRN := Lib.hid (fun w h => run_any u.r u.s Az0 m cz0 zs w hin.1 h)
            unfold RunSaid vRule vSt at HRN
            have HRR := Lib.hid hrr
            have HIN := Lib.hid hin
            have HOC := Lib.hid (Pl.duCheck_ok HCK.out).2.1
            have HTM := Lib.hid (Pl.duCheck_ok HCK.out).2.2.1
            have hle : Pl.costK (plus l) (grs S) m k ≤ 3000000000000 ∧ -3000000000000 ≤ Pl.costK (plus l) (grs S) m k := by
              have := Pl.costK_bd HRO.out (by rw [LP.out]; omega) (Nat.le_refl k)
              rw [LD.out] at this
              omega
            clear hrr hin hu hl1 hl2
            obtain ⟨⟨rn, r1, r2, r3, r4, r5, r6, r7⟩, nm, Az, nz, cz, st, ⟨s1, s2, s3⟩⟩ := u
            simp only at c0 c1 c2 c3 c4 c5 c6 c7 c8 c9 c10 c11 c12 HRN HRK
            have k0 : (0 : Int) ≤ (k : Int) := by omega
            have k1 : (k : Int) < (q : Int) := by omega
            have AL : Hid (Below wr.heap.size wr (wr.alloc (.cells #[.string rn, .int .i64 r1, .int .i64 r2, .int .i64 r3, .int .i64 r4, .int .i64 r5, .int .i64 r6, .int .i64 r7, .string nm, .slice Az nz cz, .bool s1, .int .i64 s2, .int .i64 s3] 35))) := (Below.refl _ _).alloc (Nat.le_refl _) _
            have BU1 : Hid (Blk (wr.alloc (.cells #[.string rn, .int .i64 r1, .int .i64 r2, .int .i64 r3, .int .i64 r4, .int .i64 r5, .int .i64 r6, .int .i64 r7, .string nm, .slice Az nz cz, .bool s1, .int .i64 s2, .int .i64 s3] 35)) wr.heap.size 35 #[.string rn, .int .i64 r1, .int .i64 r2, .int .i64 r3, .int .i64 r4, .int .i64 r5, .int .i64 r6, .int .i64 r7, .string nm, .slice Az nz cz, .bool s1, .int .i64 s2, .int .i64 s3]) := Blk.new_ _ _ _ _ rfl
            have HB1 := Lib.hid (HB.out.trans (AL.out.mono HB.out.size))
            have IS1 := Lib.hid (IS.out.go AL.out)
            have BX1 := Lib.hid (BX.out.go AL.out)
            have HRR1 := Lib.hid (HRR.out.go AL.out)
            have HIN1 := Lib.hid (HIN.out.go AL.out)
            have cc1 := AL.out.cell (p := ⟨bc, oc + k, none⟩) (cell_lt cc)
            rw [cc] at cc1
            have HWB : Hid (w.heap.size ≤ wr.heap.size) := HB.out.size
            have HNE : Hid (gs ≠ wr.heap.size) := by have := IS.out.lt; show ¬ _; omega
            clear IS BX HB
            go_wp2_with fail
            clear c0 c1 c2 c3 c4 c5 c6 c7 c8 c9 c10 c11 c12 cc HRR HIN AL
            generalize wr.alloc (.cells #[.string rn, .int .i64 r1, .int .i64 r2, .int .i64 r3, .int .i64 r4, .int .i64 r5, .int .i64 r6, .int .i64 r7, .string nm, .slice Az nz cz, .bool s1, .int .i64 s2, .int .i64 s3] 35) = wa at *
            generalize wr.heap.size = bu at *
            have bcl := cell_lt cc1
            have hcur : Hid (Below wa.heap.size wa wa.drew) := (Below.refl _ _).drew
            have HSF : Hid (∀ w', Below wa.heap.size wa w' → (∀ j, w'.cell? ⟨bu, j, none⟩ = #[.string rn, .int .i64 r1, .int .i64 r2, .int .i64 r3, .int .i64 r4, .int .i64 r5, .int .i64 r6, .int .i64 r7, .string nm, .slice Az nz cz, .bool s1, .int .i64 s2, .int .i64 s3][j]?) ∧ w'.cell? ⟨bc, oc + k, none⟩ = some (.slice Az0 m cz0)) := fun w' hb => ⟨(BU1.out.go hb).cell, (hb.cell (p := ⟨bc, oc + k, none⟩) bcl).trans cc1⟩
            go_region_held3 (fun w' => (∀ j, w'.cell? ⟨bu, j, none⟩ = #[.string rn, .int .i64 r1, .int .i64 r2, .int .i64 r3, .int .i64 r4, .int .i64 r5, .int .i64 r6, .int .i64 r7, .string nm, .slice Az nz cz, .bool s1, .int .i64 s2, .int .i64 s3][j]?) ∧ w'.cell? ⟨bc, oc + k, none⟩ = some (.slice Az0 m cz0))
              (exact HSF.out _ hcur.out)
              (first | (go_at_call 32; refine (HRN.out _ (HRR1.out.go hcur.out)).mono ?_; rintro e w4 ⟨Ar, cr, rfl, hrr4, hown4, hb4⟩; have hcur := Lib.hid (hcur.out.trans (hb4.mono hcur.out.size)); clear hrr4 hown4 hb4))
            have HB4 := Lib.hid (HB1.out.trans (hcur.out.mono HB1.out.size))
            have BU4 := Lib.hid (BU1.out.go hcur.out)
            have IS4 := Lib.hid (IS1.out.go hcur.out)
            have BX4 := Lib.hid (BX1.out.go hcur.out)
            have cc4 := (HSF.out _ hcur.out).2
            have HBU : Hid (w.heap.size ≤ bu) := by
              show _ ≤ _
              have h1 := HWB.out
              exact h1
            have hgb : gs ≠ bu := HNE.out
            clear HSF hcur HB1 BU1 IS1 BX1 HRR1 HIN1 cc1 HRN
            generalize Pl.urun ⟨rn, r1, r2, r3, r4, r5, r6, r7⟩ ⟨s1, s2, s3⟩ zs = UR at *
            obtain ⟨UL, us, ue⟩ := UR
            simp only
            by_cases hue : ue = 0
            · subst hue
              have HRO1 : Hid (Pl.RunsOk (plus l) ds (grs S) (k + 1)) := HRO.out.step (by rw [HRK.out])
              have hq1 : k + 1 ≤ (plus l).length := by rw [LP.out]; omega
              have hub : 0 ≤ us ∧ us ≤ 24000000 := by
                have := Pl.costT_bd HRO1.out hq1 (Nat.lt_succ_self k) (Nat.zero_le ds.length)
                rw [Pl.costT_zero, HRK.out] at this
                simp only at this
                omega
              have HT0 : Hid (Pl.costT (plus l) (grs S) k 0 = us) := by show _ = _; rw [Pl.costT_zero, HRK.out]
              go_wp2_with fail
              have HMXR : Hid (∀ a b : Int, (if a < b then b else a) = max a b) := ite_max
              have IS5 : Hid (IBlk w4 gs 3 (Pl.mixN (Pl.sumK (grs S) (k + 1)) (Pl.sumK (grs S) k) m 0)) := by
                show IBlk _ _ _ _
                rw [← Pl.mixN_full (Pl.sumK (grs S) k) (fun _ => 0) (Pl.sumK (grs S) (k + 1)) m]
                exact IS4.out
              have HGL : Hid (w.heap.size ≤ gs) := Nat.le_of_lt HGS.out
              have hgx : w.heap.size ≠ gs := by have := HGS.out; omega
              have hCT : IntKind.i64.wrap (Pl.costK (plus l) (grs S) m k + us) = Pl.costK (plus l) (grs S) m k + us := IntWalk.i64_in _ (by omega)
              clear IS4 cc4
              go_loopw [9, 70] (fun cv i wr => ∃ t : Nat, t ≤ m ∧ i = .int .i64 t ∧ cv = .int .i64 (Pl.costK (plus l) (grs S) m k + Pl.costT (plus l) (grs S) k t) ∧ Hid (IBlk wr gs 3 (Pl.mixN (Pl.sumK (grs S) (k + 1)) (Pl.sumK (grs S) k) m t)) ∧ Hid (Blk wr w.heap.size 23 #[.slice B m cm]) ∧ Hid (Blk wr bu 35 #[.string rn, .int .i64 r1, .int .i64 r2, .int .i64 r3, .int .i64 r4, .int .i64 r5, .int .i64 r6, .int .i64 r7, .string nm, .slice Az nz cz, .bool s1, .int .i64 s2, .int .i64 s3]) ∧ Hid (Below w.heap.size w wr)) (fun _ i _ => m - (intOf i).toNat)
              case atStart => exact ⟨0, Nat.zero_le _, rfl, vint (by rw [HT0.out]), IS5, BX4, BU4, HB4⟩
              case round =>
                clear IS5 BX4 BU4 HB4
                obtain ⟨t, ht, rfl, rfl, IS, BX, BU, HB⟩ := hrel
                by_cases htm : t < m
                · obtain ⟨bz, oz, rfl, hl5, zc⟩ := (HRRW.out wr HB.out).int_at htm
                  have HSV : Hid (Pl.sv (grs S) k t = max 0 zs[t]) := by show _ = _; unfold Pl.sv; rw [HGT.out, List.getD_eq_getElem?_getD, List.getElem?_eq_getElem hl5]; rfl
                  have hsv := Pl.sv_bd HRO1.out hq1 (Nat.lt_succ_self k) (t := t) (by rw [LD.out]; exact htm)
                  have hoc := Pl.ocost_sv HRO1.out hq1 (Nat.lt_succ_self k) (t := t) (by rw [LD.out]; exact htm)
                  have hct := Pl.costT_bd HRO1.out hq1 (Nat.lt_succ_self k) (t := t) (by rw [LD.out]; omega)
                  have hsk := Pl.sumK_bd HRO1.out hq1 (Nat.le_succ k) (t := t) (by rw [LD.out]; exact htm)
                  have HCS := Lib.hid (Pl.costT_succ (plus l) (grs S) k t)
                  have HSS := Lib.hid (Pl.sumK_succ (grs S) k t)
                  have HMS := Lib.hid (Pl.mixN_set (Pl.sumK (grs S) (k + 1)) (Pl.sumK (grs S) k) m t)
                  rw [HCU.out] at HCS hoc hsv
                  rw [HSV.out] at hsv hoc HCS HSS
                  rw [HSS.out] at HMS
                  have e2 : (plu ⟨⟨rn, r1, r2, r3, r4, r5, r6, r7⟩, nm, Az, nz, cz, st, ⟨s1, s2, s3⟩⟩).o.2 = st := rfl
                  rw [e2] at HCS hoc
                  have HPC : Hid (Pl.oCost nm st (max 0 zs[t]) = (Pl.ocost st (max 0 zs[t]), 0)) := by
                    have : Pl.opcheck nm st (max 0 zs[t]) = 0 := by
                      unfold Pl.opcheck
                      rw [if_neg (by have := HOC.out; simpa [plu] using this), if_neg (by have e : Pl.total st = r2 := HTM.out; have e3 : (plu ⟨⟨rn, r1, r2, r3, r4, r5, r6, r7⟩, nm, Az, nz, cz, st, ⟨s1, s2, s3⟩⟩).r.most = r2 := rfl; omega)]
                    show _ = _
                    unfold Pl.oCost; rw [if_neg (by simpa using this)]
                  have HCO := Lib.hid (fun (w : World) (h : Reads w w.heap.size 2 Az nz (pairs st)) => oCost_any nm Az nz cz st (max 0 zs[t]) w (HINW.out wr HB.out).2.1 h)
                  unfold TwoSaid vOff at HCO
                  rw [HPC.out] at HCO
                  simp only at HCO
                  have HRS : Hid (Reads wr wr.heap.size 2 Az nz (pairs st)) := (HINW.out wr HB.out).2.2.2
                  have hst2 : (Pl.mixN (Pl.sumK (grs S) (k + 1)) (Pl.sumK (grs S) k) m t).getD t 0 = Pl.sumK (grs S) k t := by rw [Pl.mixN_at _ _ htm, if_neg (Nat.lt_irrefl t)]
                  have cS := IS.out.cell t (by rw [Pl.mixN_len]; exact htm)
                  rw [hst2] at cS
                  have hct2 : (t : Int) ≤ 8 := by omega
                  generalize zs[t] = z at *
                  generalize Pl.ocost st (max 0 z) = oc1 at *
                  generalize Pl.costT (plus l) (grs S) k t = ct at *
                  generalize Pl.sumK (grs S) k t = sk at *
                  have t0 : (0 : Int) ≤ (t : Int) := by omega
                  have t1 : (t : Int) < (m : Int) := by omega
                  have b8 := BU.out.cell 8
                  have b9 := BU.out.cell 9
                  have lS := IS.out.lt
                  have fS := IS.out.frozen t
                  have hmx := HMXR.out
                  clear hst2 hl5 HPC HSV HSS e2
                  go_wp2_with fail
                  refine (HCO.out _ HRS.out).mono ?_
                  rintro e w5 ⟨rfl, hb⟩
                  have HB5 := Lib.hid (HB.out.trans (hb.mono HB.out.size))
                  have IS6 := Lib.hid (IS.out.go hb)
                  have BX6 := Lib.hid (BX.out.go hb)
                  have BU6 := Lib.hid (BU.out.go hb)
                  have cS2 := hb.cell (p := ⟨gs, t, none⟩) (cell_lt cS)
                  rw [cS] at cS2
                  have lS2 := IS6.out.lt
                  have fS2 := IS6.out.frozen t
                  clear hb cS lS fS b8 b9 IS BX BU HB HCO HRS zc
                  have hw1 : IntKind.i64.wrap (Pl.costK (plus l) (grs S) m k + ct + oc1) = Pl.costK (plus l) (grs S) m k + ct + oc1 := IntWalk.i64_in _ (by omega)
                  have hw2 : IntKind.i64.wrap (sk + max 0 z) = sk + max 0 z := IntWalk.i64_in _ (by omega)
                  go_wp2_with fail
                  go_roundw
                  case rel =>
                    refine ⟨t + 1, by omega, by go_num, vint (by rw [HCS.out]; omega), ?_, BX6.out.far hgx _, BU6.out.far hgb.symm _, HB5.out.setCell (p := ⟨gs, t, none⟩) HGL.out _⟩
                    have := IS6.out.set_ t (sk + max 0 z)
                    rw [HMS.out] at this
                    exact this
                  case measure => simp [intOf]; omega
                · have : t = m := by omega
                  subst this
                  go_wp2_with fail
                  go_roundw
                  case rel =>
                    refine ⟨k + 1, by omega, by go_num, rfl, HRO1, ?_, BX, HB⟩
                    show IBlk _ _ _ _
                    rw [Pl.mixN_full _ (fun _ => 0) (Pl.sumK (grs S) k), ← Pl.mixN_full _ (Pl.sumK (grs S) k)]
                    exact IS.out
                  case measure => simp [intOf]; omega
            · have hue2 : (ue != 0) = true := by simpa using hue
              have HCP : Hid (Pl.CostP (plus l) ds (grs S) 0 ue) := by
                have := Pl.costP_run (ds := ds) (l := plus l) (S := grs S) (i := k) (by rw [LP.out]; exact hlt) (by rw [HRK.out]; exact hue)
                rw [HRK.out] at this
                exact this
              go_wp2_with fail
              go_ret2
              exact ⟨0, ue, rfl, HCP.out, HB4.out⟩
          · have : q = k := by omega
            subst this
            have HEQ := Lib.hid (fun w (h1 : Reads w w.heap.size 1 (some ⟨gs, 0, none⟩) m (ints (Pl.mixN (Pl.sumK (grs S) q) (fun _ => 0) m m))) h2 => eqints_any (some ⟨gs, 0, none⟩) B m m m cm _ ds w (by omega) h1 h2)
            have b0 := BX.out.cell 0
            go_wp2_with fail
            refine (HEQ.out _ (IBlk.reads IS.out (Pl.mixN_len _ _ _ _)) (HRD.out.go HB.out)).mono ?_
            rintro e w5 ⟨rfl, hb⟩
            have HB5 := Lib.hid (HB.out.trans (hb.mono HB.out.size))
            clear hb HEQ
            by_cases heq : Pl.mixN (Pl.sumK (grs S) q) (fun _ => 0) m m = ds
            · have HCP : Hid (Pl.CostP (plus l) ds (grs S) (Pl.costK (plus l) (grs S) m q) 0) := by
                have := Pl.costP_ok (l := plus l) (ds := ds) (S := grs S) (by rw [LP.out]; exact HRO.out) (by rw [LP.out, LD.out]; exact heq)
                rw [LD.out, LP.out] at this
                exact this
              have hde : decide (Pl.mixN (Pl.sumK (grs S) q) (fun _ => 0) m m = ds) = true := decide_eq_true heq
              rw [hde]
              clear hde heq
              go_wp2_with fail
              go_ret2
              exact ⟨_, 0, rfl, HCP.out, HB5.out⟩
            · have HCP : Hid (Pl.CostP (plus l) ds (grs S) 0 14) := by
                refine Pl.costP_sums ?_
                rw [LP.out, LD.out]
                exact heq
              have hde : decide (Pl.mixN (Pl.sumK (grs S) q) (fun _ => 0) m m = ds) = false := decide_eq_false heq
              rw [hde]
              clear hde heq
              go_wp2_with fail
              go_ret2
              exact ⟨0, 14, rfl, HCP.out, HB5.out⟩
      · have HCP : Hid (Pl.CostP (plus l) ds (grs S) 0 3) := Pl.costP_form (by rw [grs_len, LS.out, LP.out]) (by rw [LD.out]; exact hf)
        clear hf
        go_wp2_with fail
        go_ret2
        exact ⟨0, 3, rfl, HCP.out, HB2.out⟩
    · have HCP : Hid (Pl.CostP (plus l) ds (grs S) 0 3) := Pl.costP_len (by rw [grs_len, LS.out, LP.out]; exact hq)
      have hqq : ((q : Int) != (n : Int)) = true := by rw [bne_iff_ne]; omega
      go_wp2_with fail
      go_ret2
      exact ⟨0, 3, rfl, HCP.out, HB1.out⟩
  · have HCP := Lib.hid (Pl.costP_all (grs S) h0)
    generalize Pl.duAll (plus l) ds = E at *
    have he : (E != 0) = true := by simpa using h0
    clear h0
    go_wp2_with fail
    go_ret2
    exact ⟨0, E, rfl, HCP.out, HB1.out⟩
end Go.Proofs.Ytchafkocobbndaa
