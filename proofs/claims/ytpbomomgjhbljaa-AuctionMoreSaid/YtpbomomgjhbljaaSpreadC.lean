/- hours.Spread whole: the error cases, and the literal case [1,1,1]; slices.Equal at int. No condition. -/
import Derived.Test.YtpbomomgjhbljaaSpreadB
import Derived.Test.YtpbomomgjhbljaaSums
namespace Go.Proofs.Ytpbomomgjhbljaa
open Go.RowKit
theorem spreadS_lit : Pl.spreadS 10 [1, 1, 1] = [4, 3, 3] := by
  have e : Sort.insertionSort (Srt.ltOf (Pl.scf 10 3 [1, 1, 1])) #[0, 1, 2] 0 3 = #[0, 1, 2] := by
    unfold Sort.insertionSort
    rw [Srt.insOuter_go_ _ _ _ _ _ (by omega), Srt.insInner_stop_ _ _ _ _ (.inr (by decide)), Srt.insOuter_go_ _ _ _ _ _ (by omega), Srt.insInner_stop_ _ _ _ _ (.inr (by decide)), Srt.insOuter_stop_ _ _ _ _ _ (by omega)]
  unfold Pl.spreadS
  rw [show Pl.sumI [1, 1, 1] = 3 from by decide, show (Pl.iota [(1 : Int), 1, 1].length).toArray = #[0, 1, 2] from by decide, show [(1 : Int), 1, 1].length = 3 from rfl, e]
  decide
/-- slices.Equal at int: true at equal lists -/
theorem eqint_any (A B : Option Addr) (n m c d : Nat) (x y : List Int) (w : World) (hn : n ≤ 1000000000000000) (hx : Reads w w.heap.size 1 A n (ints x)) (hy : Reads w w.heap.size 1 B m (ints y)) (hxy : x = y) :
    Calls Try.prog 16 #[.slice A n c, .slice B m d] w fun e w' => e = .returned (.bool true) ∧ Below w.heap.size w w' := by
  subst hxy
  have hnm : m = n := by have := hx.int_len; have := hy.int_len; omega
  subst hnm
  have e0 : ((m : Int) != (m : Int)) = false := by simp
  go_enter Try.func16, Try.ntmps16
  go_wp2_with fail
  go_loopw [13] (fun i wr => ∃ k : Nat, k ≤ m ∧ i = .int .i64 k ∧ Below w.heap.size w wr) (fun i _ => m - (intOf i).toNat)
  case atStart => exact ⟨0, Nat.zero_le _, rfl, Below.refl _ _⟩
  case round =>
    obtain ⟨k, hk, rfl, hb⟩ := hrel
    have HB := Lib.hid hb
    by_cases hlt : k < m
    · obtain ⟨b, o, rfl, hl1, c1⟩ := (hx.go hb).int_at hlt
      obtain ⟨b', o', rfl, hl2, d1⟩ := (hy.go hb).int_at hlt
      clear hb
      generalize x[k] = z at *
      have ez : (z != z) = false := by simp
      go_wp2_with fail
      go_region
      go_wp2_with fail
      go_roundw
      case rel => exact ⟨k + 1, by omega, by go_num, HB.out.drew⟩
      case measure => simp [intOf]; omega
    · go_wp2_with fail
      go_ret
      exact ⟨rfl, HB.out⟩
theorem sumI_small {l : List Int} (h : l.length ≤ 24) (hb : ∀ x ∈ l, -1000000000000 ≤ x ∧ x ≤ 1000000000000) (k : Nat) : -24000000000000 ≤ Pl.sumI (l.take k) ∧ Pl.sumI (l.take k) ≤ 24000000000000 := by
  have := Pl.sumI_bd (l := l.take k) (lo := -1000000000000) (hi := 1000000000000) fun x hx => hb x (List.mem_of_mem_take hx)
  rw [List.length_take] at this
  omega
/-- the sum that the law makes for itself -/
theorem lsum_any (A : Option Addr) (n c : Nat) (l : List Int) (w : World) (hn : n ≤ 24) (hr : Reads w w.heap.size 1 A n (ints l)) (hb : ∀ x ∈ l, -1000000000000 ≤ x ∧ x ≤ 1000000000000) :
    Calls Try.prog 18 #[.slice A n c] w fun e w' => e = .returned (.int .i64 (Pl.sumI l)) ∧ w = w' := by
  have HL := Lib.hid hr.int_len
  have HSB := Lib.hid (fun k => sumI_small (l := l) (by have := HL.out; omega) hb k)
  have HXB := Lib.hid hb
  clear hb
  go_enter Try.func18, Try.ntmps18
  go_wp2_with fail
  go_loopw [3, 8] (fun s i wr => ∃ k : Nat, k ≤ n ∧ i = .int .i64 k ∧ s = .int .i64 (Pl.sumI (l.take k)) ∧ w = wr) (fun _ i _ => n - (intOf i).toNat)
  case atStart => exact ⟨0, Nat.zero_le _, rfl, rfl, rfl⟩
  case round =>
    obtain ⟨k, hk, rfl, rfl, rfl⟩ := hrel
    obtain ⟨s1, s2⟩ := HSB.out k
    by_cases hlt : k < n
    · obtain ⟨b, o, rfl, hl1, c1⟩ := hr.int_at hlt
      obtain ⟨x1, x2⟩ := HXB.out _ (List.getElem_mem hl1)
      have HS : Hid (Pl.sumI (l.take (k + 1)) = Pl.sumI (l.take k) + l[k]) := by show _ = _; rw [List.take_succ_eq_append_getElem hl1, Pl.sumI_snoc]
      generalize Pl.sumI (l.take k) = sm at *
      generalize l[k] = x at *
      go_wp2_with fail
      go_roundw
      case rel => exact ⟨k + 1, by omega, by go_num, by rw [HS.out], trivial⟩
      case measure => simp [intOf]; omega
    · have : k = n := by omega
      subst this
      rw [List.take_of_length_le (show l.length ≤ k by have := HL.out; omega)]
      go_wp2_with fail
      go_ret
      exact ⟨rfl, rfl⟩
def SpreadBad (w : World) (e : Ending) (w' : World) : Prop := ∃ er, er ≠ 0 ∧ e = .returned (.tuple #[.slice none 0 0, .int .i64 er]) ∧ Below w.heap.size w w'
def SpreadFit (total : Int) (ws : List Int) : Prop := Pl.hcheck ws = 0 ∧ 0 ≤ total ∧ total ≤ 2400000 ∧ (∀ z ∈ ws, 0 ≤ z) ∧ 0 < Pl.sumI ws
set_option maxHeartbeats 1600000 in
set_option maxRecDepth 100000 in
theorem spread_bad (A : Option Addr) (n c : Nat) (ws : List Int) (total : Int) (w : World) (hr : Reads w w.heap.size 1 A n (ints ws)) (hf : ¬ SpreadFit total ws) :
    Calls Try.prog 15 #[.int .i64 total, .slice A n c] w (SpreadBad w) := by
  have L1 := Lib.hid hr.int_len
  have HC := Lib.hid (fun B w h => check_any A n c ws B w h)
  have HB0 := Lib.hid (((Below.refl w.heap.size w).alloc (Nat.le_refl _) (.cells #[.int .i64 total] 3)).alloc (by simp) (.cells #[.slice A n c] 22))
  by_cases h1 : Pl.hcheck ws = 0
  · rw [h1] at HC
    obtain ⟨hn0, hw1⟩ := Pl.hcheck_ok h1
    have hn : n ≤ 24 := by have := hr.int_len; omega
    have HCF := Lib.hid (fun B w h => contains_int A n c ws 50 (fun z => decide (z < 0)) B w (by omega) enters_spread1 (Lib.hid spread1_any) h)
    cases h2 : Pl.outB total 0 2400000
    · obtain ⟨t0, t1⟩ := Pl.outB_false.1 h2
      have HO := Lib.hid h2
      clear h2
      cases h3 : Pl.has (fun z => decide (z < 0)) ws
      · rw [h3] at HCF
        have hw : ∀ z ∈ ws, 0 ≤ z := fun z hz => by
          obtain ⟨j, hj, rfl⟩ := List.getElem_of_mem hz
          have := Pl.has_false h3 j hj
          simp at this; omega
        have HWB : Hid (∀ z ∈ ws, 0 ≤ z ∧ z ≤ 100000) := fun z hz => by
          obtain ⟨j, hj, rfl⟩ := List.getElem_of_mem hz
          exact ⟨hw _ hz, (hw1 j hj).2⟩
        have HSB : Hid (∀ k, 0 ≤ Pl.sumI (ws.take k) ∧ Pl.sumI (ws.take k) ≤ 2400000) := fun k => by
          have := Pl.sumI_bd (l := ws.take k) (lo := 0) (hi := 100000) fun x hx => HWB.out x (List.mem_of_mem_take hx)
          rw [List.length_take] at this
          omega
        have HSZ : Hid (Pl.sumI ws = 0) := by
          show _ = _
          have h := HSB.out ws.length
          rw [List.take_of_length_le (Nat.le_refl _)] at h
          have : ¬ 0 < Pl.sumI ws := fun hp => hf ⟨h1, t0, t1, hw, hp⟩
          omega
        clear h1 hn0 hw1 h3 hw hf
        go_enter Try.func15, Try.ntmps15
        go_wp2_with fail
        refine (HC.out _ _ (hr.below HB0.out)).mono ?_; rintro e w' ⟨rfl, rfl⟩
        go_wp2_with fail
        refine (out_any _ _ _ _).mono ?_; rintro e w' ⟨rfl, rfl⟩
        rw [HO.out]
        go_wp2_with fail
        refine (HCF.out _ _ (hr.below HB0.out)).mono ?_; rintro e w' ⟨rfl, rfl⟩
        go_wp2_with fail
        go_loopw [9, 30] (fun _ i wr => ∃ k : Nat, k ≤ n ∧ i = .int .i64 k ∧ Blk wr w.heap.size 3 #[.int .i64 total] ∧ Blk wr (w.heap.size + 1) 22 #[.slice A n c] ∧ Blk wr (w.heap.size + 2) 3 #[.int .i64 (Pl.sumI (ws.take k))] ∧ Below w.heap.size w wr) (fun _ i _ => n - (intOf i).toNat)
        case atStart =>
          refine ⟨0, Nat.zero_le _, rfl, ?_, ?_, ?_, ?_⟩
          · exact (Blk.old_ (by simp <;> omega) (Blk.old_ (by simp <;> omega) (Blk.new_ _ _ _ _ (by simp))))
          · exact (Blk.old_ (by simp) (Blk.new_ _ _ _ _ (by simp)))
          · exact Blk.new_ _ _ _ _ (by simp)
          · exact HB0.out.alloc (by simp; omega) _
        case round =>
          obtain ⟨k, hk, rfl, bt, bw, bs, hbel⟩ := hrel
          have BT := Lib.hid bt
          have BW := Lib.hid bw
          have BS := Lib.hid bs
          have HB := Lib.hid hbel
          clear bt bw bs hbel
          obtain ⟨s1, s2⟩ := HSB.out k
          have ct := BT.out.cell
          have cw := BW.out.cell
          have cs := BS.out.cell
          have fs := BS.out.frozen
          have ls := BS.out.lt
          have lw := BW.out.lt
          have lt := BT.out.lt
          by_cases hlt : k < n
          · obtain ⟨b, o, rfl, hl1, c1⟩ := (hr.below HB.out).int_at hlt
            obtain ⟨g1, g2⟩ := HWB.out _ (List.getElem_mem hl1)
            have HS : Hid (Pl.sumI (ws.take (k + 1)) = Pl.sumI (ws.take k) + ws[k]) := by show _ = _; rw [List.take_succ_eq_append_getElem hl1, Pl.sumI_snoc]
            generalize Pl.sumI (ws.take k) = sm at *
            generalize ws[k] = x at *
            go_wp2_with fail
            go_roundw
            case rel =>
              refine ⟨k + 1, by omega, by go_num, BT.out.far (by simp <;> omega) _, BW.out.far (by simp <;> omega) _, ?_, HB.out.setCell (by simp <;> omega) _⟩
              rw [HS.out]
              exact BS.out.set_ 0 _
            case measure => simp [intOf]; omega
          · have : k = n := by omega
            subst this
            have HT : Hid (ws.take k = ws) := List.take_of_length_le (by have := L1.out; omega)
            rw [HT.out, HSZ.out] at BS cs s1 s2
            go_wp2_with fail
            go_ret2
            exact ⟨10, by decide, rfl, HB.out⟩
      · rw [h3] at HCF
        clear h1 hn0 hw1 h3 hf
        go_enter Try.func15, Try.ntmps15
        go_wp2_with fail
        refine (HC.out _ _ (hr.below HB0.out)).mono ?_; rintro e w' ⟨rfl, rfl⟩
        go_wp2_with fail
        refine (out_any _ _ _ _).mono ?_; rintro e w' ⟨rfl, rfl⟩
        rw [HO.out]
        go_wp2_with fail
        refine (HCF.out _ _ (hr.below HB0.out)).mono ?_; rintro e w' ⟨rfl, rfl⟩
        go_wp2_with fail
        go_ret2
        exact ⟨4, by decide, rfl, HB0.out⟩
    · have HO := Lib.hid h2
      clear h1 hn0 hw1 h2 hf
      go_enter Try.func15, Try.ntmps15
      go_wp2_with fail
      refine (HC.out _ _ (hr.below HB0.out)).mono ?_; rintro e w' ⟨rfl, rfl⟩
      go_wp2_with fail
      refine (out_any _ _ _ _).mono ?_; rintro e w' ⟨rfl, rfl⟩
      rw [HO.out]
      go_wp2_with fail
      go_ret2
      exact ⟨4, by decide, rfl, HB0.out⟩
  · have h2 : (Pl.hcheck ws != 0) = true := by simpa using h1
    have HE := Lib.hid h1
    clear h1 hf
    generalize Pl.hcheck ws = u at *
    go_enter Try.func15, Try.ntmps15
    go_wp2_with fail
    refine (HC.out _ _ (hr.below HB0.out)).mono ?_; rintro e w' ⟨rfl, rfl⟩
    go_wp2_with fail
    go_ret2
    exact ⟨u, HE.out, rfl, HB0.out⟩
end Go.Proofs.Ytpbomomgjhbljaa
