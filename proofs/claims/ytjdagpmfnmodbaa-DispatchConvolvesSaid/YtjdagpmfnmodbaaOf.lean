/- The contract of convexpl.Of: it returns what its plain function gives, and leaves old memory as it is. -/
import Derived.Test.YtjdagpmfnmodbaaMade
import Derived.StillTailTactics
import Derived.Deep.RegionHeld3
import Derived.Outline
import Derived.Test.YtjdagpmfnmodbaaPOf
namespace Go.Proofs.Ytjdagpmfnmodbaa
open Go.RowKit
set_option maxHeartbeats 3200000 in
set_option maxRecDepth 100000 in
theorem cOf_any (nm : ByteArray) (A : Option Addr) (n c : Nat) (st : List (Int × Int)) (w : World) (hs : nm.size ≤ 9223372036854775807) (hr : Reads w w.heap.size 2 A n (pairs st)) :
    Calls Try.prog 18 #[vOff nm A n c] w (MadeSaid (Pl.cOf nm st) w) := by
  have HC := Lib.hid (fun w h => ocheck_any nm A n c st w hs h)
  have L1 := Lib.hid hr.pair_len
  unfold vOff at *
  by_cases h1 : Pl.ocheck nm st = 0
  · obtain ⟨g, l, _⟩ := Pl.ocheck_ok h1
    have hn : n ≤ 12 := by have := hr.pair_len; omega
    have HM := Lib.hid (fun A' c' w h => made_any 0 0 A' st.length c' st w h (fun q hq => ⟨(g.step q hq).1, by have := (g.step q hq).2.1; omega⟩) (by omega))
    have HX : Hid (Pl.cOf nm st = Pl.cMade 0 0 st) := by show _ = _; unfold Pl.cOf; rw [if_neg (by simpa using h1)]
    rw [h1] at HC
    obtain ⟨i0, hi0, hz0, hz1, hz2⟩ := info_parts info_ConvexPiece
    clear h1 l g
    generalize Pl.cMade 0 0 st = RM at *
    generalize Pl.cOf nm st = R at *
    unfold MadeSaid at HM
    unfold vCx at *
    go_enter Try.func18, Try.ntmps18
    go_wp2_with fail
    refine (HC.out _ ?hr1).mono ?_
    case hr1 => exact (hr.go ((Below.refl _ _).alloc (Nat.le_refl _) _)).go ((Below.refl _ _).alloc (Nat.le_refl _) _)
    rintro e w1 ⟨rfl, hb⟩
    have HB := Lib.hid ((((Below.refl w.heap.size w).alloc (Nat.le_refl _) _).alloc (by simp) _).trans (hb.mono (by simp; omega)))
    have B3 : Hid (Blk w1 w.heap.size _ _) := (Blk.old_ (by simp) (Blk.new_ _ _ _ _ (by simp))).go hb
    have B6 : Hid (Blk w1 (w.heap.size + 1) _ _) := (Blk.new_ _ _ _ _ (by simp)).go hb
    have HR := Lib.hid (hr.go HB.out)
    have c3 := B3.out.cell
    clear hb
    go_wp2_with fail
    clear c3
    go_loopw [5, 17] (fun v i wr => ∃ k : Nat, k ≤ n ∧ i = .int .i64 k ∧ wr.ownsRow w1.heap.size 73 2 v k (pairs (st.take k)) ∧ w1.heap.size ≤ wr.heap.size ∧ Below w1.heap.size w1 wr) (fun _ i _ => n - (intOf i).toNat)
    case atStart => exact ⟨0, Nat.zero_le _, rfl, World.ownsRow_nil _ _ _ _, Nat.le_refl _, Below.refl _ _⟩
    case round =>
      obtain ⟨k, hk, rfl, hown, hsz, hbel⟩ := hrel
      have HB2 := Lib.hid hbel
      by_cases hlt : k < n
      · obtain ⟨b, o, rfl, hl1, d1, d2⟩ := (HR.out.go hbel).pair_at hlt
        have HS : Hid (st.take (k + 1) = st.take k ++ [st[k]]) := List.take_succ_eq_append_getElem hl1
        clear hbel
        generalize st[k] = p at *
        obtain ⟨x, y⟩ := p
        simp only at d1 d2
        obtain ⟨A2, c2, rfl, _⟩ := own_slice hown
        have HO := Lib.hid hown
        clear hown
        have HW : Hid ((wr.alloc (.cells #[.int .i64 x, .int .i64 y] 57)).ownsRow w1.heap.size 73 2 (.slice A2 k c2) k (pairs (st.take k))) := HO.out.alloc _
        go_wp2_with (at_builtin; go_must (refine wpList_append_grow _ rfl (.tmp 21) (.tmp 27) 28 rfl w1.heap.size 73 i0 _ 2 16 Try.underlying28 hi0 hz0 hz1 hz2 rfl (by decide) (.slice A2 k c2) k (pairs (st.take k)) rfl HW.out (by simp; omega) #[.int .i64 x, .int .i64 y] rfl rfl (by simp) (by simp [Value.oneCell']) (by unfold maxLen; omega) (by omega) ?_); intro v' w3 hown3 hg3 hsz3; have HO3 := Lib.hid hown3; have HG3 := Lib.hid hg3; clear hown3 hg3)
        have HB3 := Lib.hid (below_grown (HB2.out.alloc HB2.out.size (.cells #[.int .i64 x, .int .i64 y] 57)) HG3.out HW.out (Nat.le_refl _) (by simp; omega))
        go_roundw
        case rel =>
          refine ⟨k + 1, by omega, by go_num, ?_, hsz3, HB3.out⟩
          rw [HS.out, pairs_snoc]
          exact HO3.out
        case measure => simp [intOf]; omega
      · have : k = n := by omega
        subst this
        have HT : Hid (st.take k = st) := List.take_of_length_le (by have := L1.out; omega)
        rw [HT.out] at hown
        have B7 := Lib.hid (B6.out.go hbel)
        obtain ⟨A2, c2, rfl, hrd⟩ := own_slice hown
        have HRD := Lib.hid hrd
        have hcur := Lib.hid (HB.out.trans (hbel.mono HB.out.size))
        clear hown hrd hbel
        obtain rfl : st.length = k := L1.out
        go_wp2_with fail
        refine (HM.out _ _ _ HRD.out).mono ?_
        rintro e w2 ⟨A9, c9, rfl, hown9, hbz⟩
        have o9 := Lib.hid (own_base hown9 (Nat.succ_le_of_lt B7.out.lt))
        have hcur := Lib.hid (hcur.out.trans (hbz.mono hcur.out.size))
        have rcur := Lib.hid (B7.out.go hbz)
        have k9 := rcur.out.cell
        have f9 := rcur.out.frozen
        clear hbz hown9
        go_wp2_with fail
        have E6 := Lib.hid (((rcur.out.set_ 0 (.int .i64 RM.1.1)).set_ 1 (.int .i64 RM.1.2.1)).set_ 2 (.slice A9 RM.1.2.2.length c9))
        have k7 := E6.out.cell
        refine bodyPost_ret (v := .tuple #[vCx RM.1.1 RM.1.2.1 A9 RM.1.2.2.length c9, .int .i64 RM.2]) (by simp [results, Try.results18, go_sem, vCx, k7]) rfl ⟨A9, c9, by rw [HX.out], ?_, ?_⟩
        · rw [HX.out]
          exact own_base (own_far (own_far (own_far o9.out (by simp) _) (by simp) _) (by simp) _) (by omega)
        · exact (((hcur.out.setCell (by simp) _).setCell (by simp) _).setCell (by simp) _)
  · have HX : Hid (Pl.cOf nm st = ((0, 0, []), Pl.ocheck nm st)) := by show _ = _; unfold Pl.cOf; rw [if_pos h1]
    have h2 : (Pl.ocheck nm st != 0) = true := by simpa using h1
    clear h1
    generalize Pl.cOf nm st = R at *
    generalize Pl.ocheck nm st = u at *
    go_enter Try.func18, Try.ntmps18
    go_wp2_with fail
    refine (HC.out _ ?hr2).mono ?_
    case hr2 => exact (hr.go ((Below.refl _ _).alloc (Nat.le_refl _) _)).go ((Below.refl _ _).alloc (Nat.le_refl _) _)
    rintro e w1 ⟨rfl, hb⟩
    have HB := Lib.hid ((((Below.refl w.heap.size w).alloc (Nat.le_refl _) _).alloc (by simp) _).trans (hb.mono (by simp; omega)))
    have B6 : Hid (Blk w1 (w.heap.size + 1) _ _) := (Blk.new_ _ _ _ _ (by simp)).go hb
    clear hb
    have c6 := B6.out.cell
    have f6 := B6.out.frozen
    go_wp2_with fail
    have E6 := Lib.hid (((B6.out.set_ 0 (.int .i64 0)).set_ 1 (.int .i64 0)).set_ 2 (.slice none 0 0))
    have k7 := E6.out.cell
    refine bodyPost_ret (v := .tuple #[vCx 0 0 none 0 0, .int .i64 u]) (by simp [results, Try.results18, go_sem, vCx, k7]) rfl ⟨none, 0, by rw [HX.out]; rfl, by rw [HX.out]; exact World.ownsRow_nil _ _ _ _, ?_⟩
    exact (((HB.out.setCell (by simp) _).setCell (by simp) _).setCell (by simp) _)
end Go.Proofs.Ytjdagpmfnmodbaa
