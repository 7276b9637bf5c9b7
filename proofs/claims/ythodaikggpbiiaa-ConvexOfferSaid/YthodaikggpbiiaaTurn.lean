/- The contract of convexpl.Turn: it returns what its plain function gives, and leaves old memory as it is. -/
import Derived.Test.YthodaikggpbiiaaMove
import Derived.Deep.RegionLaw
namespace Go.Proofs.Ythodaikggpbiiaa
open Go.RowKit
set_option maxHeartbeats 3200000 in
set_option maxRecDepth 100000 in
theorem cTurn_any (lo va : Int) (A : Option Addr) (n c : Nat) (st : List (Int × Int)) (w : World) (hr : Reads w w.heap.size 2 A n (pairs st)) :
    Calls Try.prog 35 #[vCx lo va A n c] w (MadeSaid (Pl.cTurn lo va st) w) := by
  have HC := Lib.hid (fun w h => ccheck_any lo va A n c st w h)
  have L1 := Lib.hid hr.pair_len
  by_cases h1 : Pl.ccheck lo va st = 0
  · obtain ⟨g, l, hlo, hva⟩ := Pl.ccheck_ok h1
    have hn : n ≤ 64 := by have := hr.pair_len; omega
    have HH := Lib.hid (fun w h => chigh_any lo va A n c st w h g hn hlo)
    have hb1 := Pl.total_pos g.long
    have hb2 : Pl.chigh lo st ≤ 1000000 := g.place.2
    have hb3 : lo ≤ Pl.chigh lo st := by unfold Pl.chigh; omega
    have hb4 : -1000000 ≤ Pl.chigh lo st := by omega
    have HA := Lib.hid (fun w h => cat_any lo va A n c st (Pl.chigh lo st) w h g hn hlo hva hb3 hb2)
    have HM := Lib.hid (fun A' c' w h => made_any (-(Pl.chigh lo st)) (Pl.cvat lo va st (Pl.chigh lo st)) A' n c' (Pl.turnP st) w h (fun q hq => by obtain ⟨p, hp, rfl⟩ := Pl.turnP_mem hq; exact ⟨(g.step p hp).1, (g.step p hp).2.1⟩) hn)
    have HX : Hid (Pl.cTurn lo va st = Pl.cMade (-(Pl.chigh lo st)) (Pl.cvat lo va st (Pl.chigh lo st)) (Pl.turnP st)) := by show _ = _; unfold Pl.cTurn; rw [if_neg (by simpa using h1)]
    have HG := Lib.hid g.step
    rw [h1] at HC
    obtain ⟨i0, hi0, hz0, hz1, hz2⟩ := info_parts info_ConvexPiece
    clear h1 l g hlo hva hb1 hb3
    unfold MadeSaid at HM
    unfold vCx at *
    generalize Pl.cTurn lo va st = R at *
    generalize Pl.cvat lo va st (Pl.chigh lo st) = vv at *
    generalize Pl.chigh lo st = hi at *
    go_enter Try.func35, Try.ntmps35
    go_wp2_with fail
    refine (HC.out _ ?hr1).mono ?_
    case hr1 => exact (hr.go ((Below.refl _ _).alloc (Nat.le_refl _) _)).go ((Below.refl _ _).alloc (Nat.le_refl _) _)
    rintro e w1 ⟨rfl, hb⟩
    have HB := Lib.hid ((((Below.refl w.heap.size w).alloc (Nat.le_refl _) _).alloc (by simp) _).trans (hb.mono (by simp; omega)))
    have B3 : Hid (Blk w1 w.heap.size _ _) := (Blk.old_ (by simp) (Blk.new_ _ _ _ _ (by simp))).go hb
    have B6 : Hid (Blk w1 (w.heap.size + 1) _ _) := (Blk.new_ _ _ _ _ (by simp)).go hb
    have HR := Lib.hid (hr.go HB.out)
    have c3 := B3.out.cell
    clear hb
    go_wp2_with fail
    go_loopw [5, 6] (fun v i wr => ∃ k : Nat, k ≤ n ∧ i = .int .i64 ((k : Int) - 1) ∧ wr.ownsRow w1.heap.size 80 2 v (n - k) (pairs (Pl.turnP (st.drop k))) ∧ w1.heap.size ≤ wr.heap.size ∧ Below w1.heap.size w1 wr) (fun _ i _ => (intOf i + 1).toNat)
    case atStart => exact ⟨n, Nat.le_refl _, rfl, by rw [List.drop_of_length_le (by have := L1.out; omega), Nat.sub_self]; exact World.ownsRow_nil _ _ _ _, Nat.le_refl _, Below.refl _ _⟩
    case round =>
      obtain ⟨k, hk, rfl, hown, hsz, hbel⟩ := hrel
      have HB2 := Lib.hid hbel
      have B4 := Lib.hid (B3.out.go hbel)
      have B7 := Lib.hid (B6.out.go hbel)
      clear c3
      have c3 := B4.out.cell
      have l3 := B4.out.lt
      cases k with
      | zero =>
        have f6 := B7.out.frozen
        have whi : IntKind.i64.wrap (-hi) = -hi := IntWalk.i64_in _ (by omega)
        have hcur := Lib.hid (HB.out.trans (hbel.mono HB.out.size)).drew
        have bcur := Lib.hid B4.out.drew
        have rcur := Lib.hid B7.out.drew
        have hlen : (Pl.turnP (st.drop 0)).length = n := by rw [Pl.turnP_len, List.drop_zero]; exact L1.out
        rw [Nat.sub_zero, List.drop_zero] at hown
        have ocur := Lib.hid (show wr.drew.ownsRow _ _ _ _ _ _ from hown)
        obtain ⟨A2, c2, rfl, _⟩ := own_slice hown
        clear hown hlen
        go_wp2_with fail
        go_region_held3 (fun w' => (∀ j, w'.cell? ⟨w.heap.size, j, none⟩ = #[.int .i64 lo, .int .i64 va, .slice A n c][j]?) ∧ Below w.heap.size w w')
          (first | exact ⟨bcur.out.cell, hcur.out⟩ | exact ⟨(((bcur.out.far (by simp) _).far (by simp) _).far (by simp) _).cell, ((hcur.out.setCell (by simp) _).setCell (by simp) _).setCell (by simp) _⟩)
          (first
            | (go_at_call 46; refine (HH.out _ (hr.go hcur.out)).mono ?_; rintro e wz ⟨rfl, hbz⟩; have hcur := Lib.hid (hcur.out.trans (hbz.mono hcur.out.size)); have bcur := Lib.hid (bcur.out.go hbz); have rcur := Lib.hid (rcur.out.go hbz); have ocur := Lib.hid (own_go ocur.out hbz); clear hbz)
            | (go_at_call 45; refine (HA.out _ (hr.go hcur.out)).mono ?_; rintro e wz ⟨rfl, hbz⟩; have hcur := Lib.hid (hcur.out.trans (hbz.mono hcur.out.size)); have bcur := Lib.hid (bcur.out.go hbz); have rcur := Lib.hid (rcur.out.go hbz); have ocur := Lib.hid (own_go ocur.out hbz); clear hbz)
            | (go_at_call 56; refine (HM.out _ _ _ (Reads.of_own ocur.out)).mono ?_; rintro e wz ⟨A9, c9, rfl, hown9, hbz⟩; have o9' := own_base hown9 (Nat.succ_le_of_lt rcur.out.lt); have hcur := Lib.hid (hcur.out.trans (hbz.mono hcur.out.size)); have bcur := Lib.hid (bcur.out.go hbz); have rcur := Lib.hid (rcur.out.go hbz); have o9 := Lib.hid o9'; have k9 := rcur.out.cell; have f9 := rcur.out.frozen; clear hbz hown9 o9'))
        go_wp2_with fail
        have E6 := Lib.hid (((rcur.out.set_ 0 (.int .i64 (Pl.cMade (-hi) vv (Pl.turnP st)).1.1)).set_ 1 (.int .i64 (Pl.cMade (-hi) vv (Pl.turnP st)).1.2.1)).set_ 2 (.slice A9 (Pl.cMade (-hi) vv (Pl.turnP st)).1.2.2.length c9))
        have k7 := E6.out.cell
        refine bodyPost_ret (v := .tuple #[vCx (Pl.cMade (-hi) vv (Pl.turnP st)).1.1 (Pl.cMade (-hi) vv (Pl.turnP st)).1.2.1 A9 (Pl.cMade (-hi) vv (Pl.turnP st)).1.2.2.length c9, .int .i64 (Pl.cMade (-hi) vv (Pl.turnP st)).2]) (by simp [results, Try.results35, go_sem, vCx, k7]) rfl ⟨A9, c9, by rw [HX.out], ?_, ?_⟩
        · rw [HX.out]
          exact own_base (own_far (own_far (own_far o9.out (by simp) _) (by simp) _) (by simp) _) (by omega)
        · exact (((hcur.out.setCell (by simp) _).setCell (by simp) _).setCell (by simp) _)
      | succ j =>
        obtain ⟨b, o, rfl, hl1, d1, d2⟩ := (HR.out.go hbel).pair_at (k := j) (by omega)
        clear hbel
        have hbw : b < w1.heap.size := by
          obtain ⟨_, _, e, _, d5, _⟩ := HR.out.pair_at (k := j) (by omega)
          injection e with e; injection e with e1 e2; subst e1 e2
          exact lt_of_cell2 d5
        obtain ⟨g1, g2, g3, g4⟩ := HG.out _ (List.getElem_mem hl1)
        have HS := Lib.hid (Pl.turnP_step st j hl1)
        have hbl : b < wr.heap.size := lt_of_cell2 d1
        generalize st[j] = p at *
        obtain ⟨x, y⟩ := p
        simp only at g1 g2 g3 g4 d1 d2
        have j0 : (0 : Int) ≤ (j : Int) := by omega
        have jn : (j : Int) < (n : Int) := by omega
        have e1 : ((j + 1 : Nat) : Int) - 1 = (j : Int) := by omega
        rw [e1]
        clear e1
        obtain ⟨A2, c2, rfl, _⟩ := own_slice hown
        have wy : IntKind.i64.wrap (-y) = -y := IntWalk.i64_in _ (by omega)
        have Q1 : n - (j + 1) + 1 ≤ maxLen := by unfold maxLen; omega
        have Q2 : (n - (j + 1) + 1) * 16 ≤ 140737488355328 := by omega
        have G3 : (Value.slice A2 (n - (j + 1)) c2).ownBlock ≠ some w.heap.size := fun h => own_ne hown (.inl B3.out.lt) h.symm
        have Gb : (Value.slice A2 (n - (j + 1)) c2).ownBlock ≠ some b := fun h => own_ne hown (.inl hbw) h.symm
        have d0 : wr.cell? ⟨w.heap.size, 2, none⟩ = some (.slice (some ⟨b, o, none⟩) n c) := c3 2
        have HOW := Lib.hid hown
        clear c3 hown
        go_wp2_with fail
        go_region_held3 (fun w' => w'.cell? ⟨w.heap.size, 2, none⟩ = some (.slice (some ⟨b, o, none⟩) n c) ∧ w'.cell? ⟨b, o + j * 2, none⟩ = some (.int .i64 x) ∧ w'.cell? ⟨b, o + j * 2 + 1, none⟩ = some (.int .i64 y))
          (first
            | go_keep
            | (go_split_ands
               refine ⟨?_, ?_, ?_⟩
               · (rw [hgrow.cell_far _ (by simp; omega) (Ne.symm G3)]; assumption)
               · (rw [hgrow.cell_far _ (by simp; omega) (Ne.symm Gb)]; assumption)
               · (rw [hgrow.cell_far _ (by simp; omega) (Ne.symm Gb)]; assumption)))
          ((refine step_append_lies _ (by rfl) _ _ _ (by rfl) w1.heap.size 80 i0 _ 2 16 Try.underlying32 hi0 hz0 hz1 hz2 rfl (by omega) (.slice A2 (n - (j + 1)) c2) (n - (j + 1)) (pairs (Pl.turnP (st.drop (j + 1)))) (by rfl) ((HOW.out.alloc _).drew)
              ⟨wr.heap.size, 0, none⟩ 1 1 [.int .i64 x, .int .i64 (-y)] (by rfl) (by rfl) (World.news_of_block (cs := #[.int .i64 x, .int .i64 (-y)]) (t := 80) (fr := (0, 0)) (heap_alloc_new wr _)) (by simp [Value.oneCell'])
              (by omega) Q1 Q2 (by simp; omega) (wr.heap.size + 1) (by simp) ?_; intro gg cap w3 hown3 hgrow hat hlt3))
        have HB3 := Lib.hid (below_grown (HB2.out.alloc HB2.out.size (.cells #[.int .i64 x, .int .i64 (-y)] 80)).drew hgrow (HOW.out.alloc _).drew (Nat.le_refl _) (by simp; omega))
        have HO3 := Lib.hid hown3
        have HZ3 : Hid (w1.heap.size ≤ w3.heap.size) := HB3.out.size
        clear hgrow hown3 hat hlt3
        go_wp2_with fail
        go_roundw
        case rel =>
          refine ⟨j, by omega, rfl, ?_, HZ3.out, HB3.out⟩
          rw [HS.out, pairs_snoc, show n - j = n - (j + 1) + 1 from by omega]
          exact HO3.out
        case measure => simp [intOf]
  · have HX : Hid (Pl.cTurn lo va st = ((0, 0, []), Pl.ccheck lo va st)) := by show _ = _; unfold Pl.cTurn; rw [if_pos h1]
    have h2 : (Pl.ccheck lo va st != 0) = true := by simpa using h1
    clear h1
    unfold vCx at *
    generalize Pl.cTurn lo va st = R at *
    generalize Pl.ccheck lo va st = u at *
    go_enter Try.func35, Try.ntmps35
    go_wp2_with fail
    refine (HC.out _ ?hr2).mono ?_
    case hr2 => exact (hr.go ((Below.refl _ _).alloc (Nat.le_refl _) _)).go ((Below.refl _ _).alloc (Nat.le_refl _) _)
    rintro e w1 ⟨rfl, hb⟩
    have HB := Lib.hid ((((Below.refl w.heap.size w).alloc (Nat.le_refl _) _).alloc (by simp) _).trans (hb.mono (by simp; omega)))
    have B6 : Hid (Blk w1 (w.heap.size + 1) _ _) := (Blk.new_ _ _ _ _ (by simp)).go hb
    clear hb
    have c6 := B6.out.cell
    have f6 := B6.out.frozen
    go_wp2_with fail
    have E6 := Lib.hid (((B6.out.set_ 0 (.int .i64 0)).set_ 1 (.int .i64 0)).set_ 2 (.slice none 0 0))
    have k7 := E6.out.cell
    refine bodyPost_ret (v := .tuple #[vCx 0 0 none 0 0, .int .i64 u]) (by simp [results, Try.results35, go_sem, vCx, k7]) rfl ⟨none, 0, by rw [HX.out]; rfl, by rw [HX.out]; exact World.ownsRow_nil _ _ _ _, ?_⟩
    exact (((HB.out.setCell (by simp) _).setCell (by simp) _).setCell (by simp) _)
end Go.Proofs.Ythodaikggpbiiaa
