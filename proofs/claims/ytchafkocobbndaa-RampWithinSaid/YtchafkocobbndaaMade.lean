/- The contract of convexpl.made: it returns what the plain function gives, in new memory, and leaves old memory as it is. -/
import Derived.Test.YtchafkocobbndaaConvexC
import Derived.Test.YtchafkocobbndaaPMade
import Derived.RegionTactic
import Derived.ChangeAlike
import Derived.Test.YtchafkocobbndaaBase
import Derived.Deep.DeepFit
namespace Go.Proofs.Ytchafkocobbndaa
open Go.RowKit
theorem info_Convex : (Try.prog.info? 92).map (fun i => (i.zero, i.size, i.bytes)) = some (some (.agg #[.int .i64 0, .int .i64 0, .slice none 0 0]), 3, 40) := by kernel_rfl
def MadeSaid (x : (Int × Int × List (Int × Int)) × Int) (w : World) (e : Ending) (w' : World) : Prop :=
  ∃ A c, e = .returned (.tuple #[vCx x.1.1 x.1.2.1 A x.1.2.2.length c, .int .i64 x.2]) ∧ w'.ownsRow w.heap.size 94 2 (.slice A x.1.2.2.length c) x.1.2.2.length (pairs x.1.2.2) ∧ Below w.heap.size w w'
theorem own_blk {w : World} {base : Nat} {e : TypeId} {size n cap g : Nat} {xs : List Value} (h : w.ownsRow base e size (.slice (some ⟨g, 0, none⟩) n cap) n xs) : ∃ cur, Blk w g e cur := by
  rcases h.2 with ⟨h2, _⟩ | ⟨g', cap', cur, hv, hg, hh, _⟩
  · cases h2
  · injection hv with e1 e2 e3
    injection e1 with e1
    injection e1 with e1
    subst e1
    exact ⟨cur, hh⟩
set_option maxHeartbeats 3200000 in
set_option maxRecDepth 100000 in
theorem made_big (lo va : Int) (A : Option Addr) (n c : Nat) (st : List (Int × Int)) (w : World) (hr : Reads w w.heap.size 2 A n (pairs st)) (hg : ∀ p ∈ st, 1 ≤ p.1 ∧ p.1 ≤ 2000000) (hn : n ≤ 200) :
    Calls Try.prog 63 #[.int .i64 lo, .int .i64 va, .slice A n c] w (MadeSaid (Pl.cMade lo va st) w) := by
  have L1 := Lib.hid hr.pair_len
  have HN := Lib.hid (fun k => Pl.cjoin_len (st.take k))
  have HG := Lib.hid (fun k => Pl.cjoin_bd (ps := st.take k) fun p hp => hg p (List.mem_of_mem_take hp))
  obtain ⟨i0, hi0, hz0, hz1, hz2⟩ := info_parts info_ConvexPiece
  go_enter Try.func63, Try.ntmps63
  go_wp2_with fail
  go_loopw [17] (fun i wr => ∃ (k : Nat) (v : Value), k ≤ n ∧ i = .int .i64 k ∧ wr.ownsRow (w.heap.size + 2) 94 2 v (Pl.cjoin (st.take k)).length (pairs (Pl.cjoin (st.take k))) ∧ w.heap.size + 2 ≤ wr.heap.size ∧
    Blk wr w.heap.size 92 #[.int .i64 0, .int .i64 0, .slice none 0 0] ∧ Blk wr (w.heap.size + 1) 92 #[.int .i64 lo, .int .i64 va, v] ∧ Below w.heap.size w wr) (fun i _ => n - (intOf i).toNat)
  case atStart =>
    refine ⟨0, .slice none 0 0, Nat.zero_le _, rfl, World.ownsRow_nil _ _ _ _, by simp, ?_, ?_, ?_⟩
    · exact Blk.old_ (by simp) (Blk.new_ _ _ _ _ (by simp))
    · exact Blk.new_ _ _ _ _ (by simp)
    · exact ((Below.refl _ _).alloc (Nat.le_refl _) _).alloc (by simp) _
  case round =>
    obtain ⟨k, v, hk, rfl, hown, hsz, b6, b8, hbel⟩ := hrel
    have B6 := Lib.hid b6
    have B8 := Lib.hid b8
    have HB := Lib.hid hbel
    clear b6 b8
    have n1 := HN.out k
    rw [List.length_take] at n1
    have c8 := B8.out.cell
    have l8 := B8.out.lt
    by_cases hlt : k < n
    · obtain ⟨b, o, rfl, hl1, d1, d2⟩ := (hr.go hbel).pair_at hlt
      obtain ⟨g1, g2⟩ := hg _ (List.getElem_mem hl1)
      have HS : Hid (Pl.cjoin (st.take (k + 1)) = Pl.jstep (Pl.cjoin (st.take k)) st[k]) := by show _ = _; rw [List.take_succ_eq_append_getElem hl1, Pl.cjoin_snoc]
      have HGK := Lib.hid (HG.out k)
      generalize Pl.cjoin (st.take k) = L at *
      generalize st[k] = p at *
      obtain ⟨x, y⟩ := p
      simp only at g1 g2 d1 d2
      induction L using Pl.snocInd with
      | h0 =>
        obtain ⟨A', c', rfl, hrd⟩ := own_slice hown
        simp only [List.length_nil] at n1 hown c8
        go_wp2_with fail
        go_quiet (fail)
        have HW : ∀ (o : Obj) (j : Nat), Hid (((wr.alloc o).drewN j).ownsRow (w.heap.size + 2) 94 2 (.slice A' 0 c') 0 (pairs [])) := fun o j => hown.alloc o
        have q8 : Hid (w.heap.size + 1 < w.heap.size + 2) := Nat.lt_succ_self _
        have q6 : Hid (w.heap.size < w.heap.size + 2) := by show _ < _; omega
        go_wp2_with (at_builtin; go_must (refine wpList_append_grow _ rfl (.tmp 51) (.tmp 53) 90 rfl (w.heap.size + 2) 94 i0 _ 2 16 Try.underlying90 hi0 hz0 hz1 hz2 rfl (by decide) (.slice A' 0 c') 0 (pairs []) rfl (HW _ _).out (by simp; omega) _ rfl rfl (by simp) (by simp [Value.oneCell']) (by unfold maxLen; omega) (by omega) ?_); intro v' w3 hown3 hg3 hsz3; obtain ⟨A3, c3, rfl, hrd3⟩ := own_slice hown3; have E1 := own_ne (HW (.cells #[.int .i64 x, .int .i64 y] 94) nq).out (g := w.heap.size + 1) (.inl q8.out); have E2 := own_ne (HW (.cells #[.int .i64 x, .int .i64 y] 94) nq).out (g := w.heap.size) (.inl q6.out); have E8 := Lib.hid (((B8.out.alloc (.cells #[.int .i64 x, .int .i64 y] 94)).drewN nq).grown hg3 E1); have E6 := Lib.hid (((B6.out.alloc (.cells #[.int .i64 x, .int .i64 y] 94)).drewN nq).grown hg3 E2); have c9 := E8.out.cell; have f9 := E8.out.frozen; have l9 := E8.out.lt; have HO3 := Lib.hid hown3; have HG3 := Lib.hid hg3; clear E1 E2 hrd3 hown3 hg3)
        have HN2 : Hid (Pl.cjoin (st.take (k + 1)) = [(x, y)]) := by show _ = _; rw [HS.out, Pl.jstep_nil]
        have HB9 := Lib.hid (below_grown (below_drewN (HB.out.alloc HB.out.size (.cells #[.int .i64 x, .int .i64 y] 94)) nq) HG3.out (HW (.cells #[.int .i64 x, .int .i64 y] 94) nq).out (by omega) (by have := HB.out.size; simp; omega))
        go_roundw
        case rel =>
          refine ⟨k + 1, .slice A3 (0 + 1) c3, by omega, by go_num, ?_, by simpa using hsz3, E6.out.far (by simp) _, E8.out.set_ 2 _, HB9.out.setCell (by simp) _⟩
          rw [HN2.out]
          exact own_far HO3.out (by simp) _
        case measure => simp [intOf]; omega
      | h1 M q _ =>
        have hlen : (M ++ [q]).length = M.length + 1 := by simp
        rw [hlen] at hown
        obtain ⟨g, cap, rfl, hg1, hg2⟩ := hown.form (by omega)
        obtain ⟨q0, q1⟩ := HGK.out q (by simp)
        rw [List.length_take] at q1
        rw [hlen] at n1
        clear hlen
        obtain ⟨_, _, e, _, f1, f2⟩ := (Reads.of_own hown).pair_at (k := M.length) (by omega)
        injection e with e; injection e with e1 e2; subst e1 e2
        simp only [Nat.zero_add, List.getElem_concat_length] at f1 f2
        have HJ := Lib.hid (HS.out.trans (Pl.jstep_snoc M q (x, y)))
        clear HS HGK
        obtain ⟨u, v⟩ := q
        simp only at q0 q1 f1 f2 HJ
        have m0 : (0 : Int) ≤ (M.length : Int) := by omega
        have m1 : (0 : Int) < (M.length : Int) + 1 := by omega
        have m2 : IntKind.i64.wrap (M.length : Int) = (M.length : Int) := IntWalk.i64_in _ (by omega)
        have m3 : (M.length : Int) < (M.length : Int) + 1 := by omega
        by_cases hq : v = y
        · subst hq
          have HN2 : Hid (Pl.cjoin (st.take (k + 1)) = M ++ [(u + x, v)]) := by show _ = _; rw [HJ.out, if_pos rfl]
          clear HJ
          go_wp2_with fail
          go_quiet (fail)
          go_wp2_with fail
          obtain ⟨cur, bg⟩ := own_blk hown
          have fz := bg.frozen
          go_region
          have HWB := Lib.hid (hown.alloc (.cells #[.int .i64 x, .int .i64 v] 94))
          go_wp2_with fail
          go_roundw
          case rel =>
            refine ⟨k + 1, .slice (some ⟨g, 0, none⟩) (M.length + 1) cap, by omega, by go_num, ?_, by simp; omega, ((B6.out.alloc (.cells #[.int .i64 x, .int .i64 v] 94)).drewN (nq + 1)).far (by simp; omega) _, ((B8.out.alloc (.cells #[.int .i64 x, .int .i64 v] 94)).drewN (nq + 1)).far (by simp; omega) _, (below_drewN (HB.out.alloc HB.out.size (.cells #[.int .i64 x, .int .i64 v] 94)) (nq + 1)).setCell (by simp; omega) _⟩
            rw [HN2.out, show (M ++ [(u + x, v)]).length = M.length + 1 from by simp]
            exact own_last (show ((wr.alloc (.cells #[.int .i64 x, .int .i64 v] 94)).drewN (nq + 1)).ownsRow (w.heap.size + 2) 94 2 (.slice (some ⟨g, 0, none⟩) (M.length + 1) cap) (M.length + 1) (pairs (M ++ [(u, v)])) from HWB.out) (u + x)
          case measure => simp [intOf]; omega
        · have HN2 : Hid (Pl.cjoin (st.take (k + 1)) = M ++ [(u, v)] ++ [(x, y)]) := by show _ = _; rw [HJ.out, if_neg hq]
          have hq2 : (v == y) = false := by simpa using hq
          clear HJ
          go_wp2_with fail
          go_quiet (fail)
          have HW : ∀ (o : Obj) (j : Nat), Hid (((wr.alloc o).drewN j).ownsRow (w.heap.size + 2) 94 2 (.slice (some ⟨g, 0, none⟩) (M.length + 1) cap) (M.length + 1) (pairs (M ++ [(u, v)]))) := fun o j => hown.alloc o
          have q8 : Hid (w.heap.size + 1 < w.heap.size + 2) := Nat.lt_succ_self _
          have q6 : Hid (w.heap.size < w.heap.size + 2) := by show _ < _; omega
          go_wp2_with (at_builtin; go_must (refine wpList_append_grow _ rfl (.tmp 51) (.tmp 53) 90 rfl (w.heap.size + 2) 94 i0 _ 2 16 Try.underlying90 hi0 hz0 hz1 hz2 rfl (by decide) (.slice (some ⟨g, 0, none⟩) (M.length + 1) cap) (M.length + 1) (pairs (M ++ [(u, v)])) rfl (HW _ _).out (by simp; omega) _ rfl rfl (by simp) (by simp [Value.oneCell']) (by unfold maxLen; omega) (by omega) ?_); intro v' w3 hown3 hg3 hsz3; obtain ⟨A3, c3, rfl, hrd3⟩ := own_slice hown3; have E1 := own_ne (HW (.cells #[.int .i64 x, .int .i64 y] 94) nq).out (g := w.heap.size + 1) (.inl q8.out); have E2 := own_ne (HW (.cells #[.int .i64 x, .int .i64 y] 94) nq).out (g := w.heap.size) (.inl q6.out); have E8 := Lib.hid (((B8.out.alloc (.cells #[.int .i64 x, .int .i64 y] 94)).drewN nq).grown hg3 E1); have E6 := Lib.hid (((B6.out.alloc (.cells #[.int .i64 x, .int .i64 y] 94)).drewN nq).grown hg3 E2); have c9 := E8.out.cell; have f9 := E8.out.frozen; have l9 := E8.out.lt; have HO3 := Lib.hid hown3; have HG3 := Lib.hid hg3; clear E1 E2 hrd3 hown3 hg3)
          skip
          have HB9 := Lib.hid (below_grown (below_drewN (HB.out.alloc HB.out.size (.cells #[.int .i64 x, .int .i64 y] 94)) nq) HG3.out (HW (.cells #[.int .i64 x, .int .i64 y] 94) nq).out (by omega) (by have := HB.out.size; simp; omega))
          go_roundw
          case rel =>
            refine ⟨k + 1, .slice A3 (M.length + 1 + 1) c3, by omega, by go_num, ?_, by simpa using hsz3, E6.out.far (by simp) _, E8.out.set_ 2 _, HB9.out.setCell (by simp) _⟩
            rw [HN2.out, pairs_snoc, show (M ++ [(u, v)] ++ [(x, y)]).length = M.length + 1 + 1 from by simp]
            exact own_far HO3.out (by simp) _
          case measure => simp [intOf]; omega
    · have : k = n := by omega
      subst this
      have HT : Hid (st.take k = st) := List.take_of_length_le (by have := L1.out; omega)
      rw [HT.out] at hown
      obtain ⟨A', c', rfl, hrd⟩ := own_slice hown
      have HC := Lib.hid (fun w h => ccheck_any lo va A' (Pl.cjoin st).length c' (Pl.cjoin st) w h)
      unfold vCx at HC
      go_wp2_with fail
      refine (HC.out _ hrd).mono ?_
      rintro e w1 ⟨rfl, hb⟩
      have HB1 := Lib.hid (HB.out.trans (hb.mono HB.out.size))
      have C6 := Lib.hid (B6.out.go hb)
      have C8 := Lib.hid (B8.out.go hb)
      have O1 := Lib.hid (own_go hown hb)
      have k6 := C6.out.cell
      have k8 := C8.out.cell
      clear hb c8
      by_cases h1 : Pl.ccheck lo va (Pl.cjoin st) = 0
      · have HF : Hid (Pl.cMade lo va st = ((lo, va, Pl.cjoin st), 0)) := by show _ = _; unfold Pl.cMade; rw [if_neg (by simpa using h1)]
        have h2 : (Pl.ccheck lo va (Pl.cjoin st) != 0) = false := by simpa using h1
        clear h1
        have f6 := C6.out.frozen
        go_wp2_with fail
        have D6 := Lib.hid (((C6.out.set_ 0 (.int .i64 lo)).set_ 1 (.int .i64 va)).set_ 2 (.slice A' (Pl.cjoin st).length c'))
        have k7 := D6.out.cell
        refine bodyPost_ret (v := .tuple #[vCx lo va A' (Pl.cjoin st).length c', .int .i64 0]) (by simp [results, Try.results63, go_sem, vCx, k7]) rfl ⟨A', c', by rw [HF.out], ?_, ?_⟩
        · rw [HF.out]; exact own_base (own_far (own_far (own_far O1.out (by simp) _) (by simp) _) (by simp) _) (by omega)
        · exact (((HB1.out.setCell (by simp) _).setCell (by simp) _).setCell (by simp) _)
      · have HF : Hid (Pl.cMade lo va st = ((0, 0, []), 2)) := by show _ = _; unfold Pl.cMade; rw [if_pos h1]
        have h2 : (Pl.ccheck lo va (Pl.cjoin st) != 0) = true := by simpa using h1
        clear h1
        have f6 := C6.out.frozen
        go_wp2_with fail
        have D6 := Lib.hid (((C6.out.set_ 0 (.int .i64 0)).set_ 1 (.int .i64 0)).set_ 2 (.slice none 0 0))
        have k7 := D6.out.cell
        refine bodyPost_ret (v := .tuple #[vCx 0 0 none 0 0, .int .i64 2]) (by simp [results, Try.results63, go_sem, vCx, k7]) rfl ⟨none, 0, by rw [HF.out]; rfl, by rw [HF.out]; exact World.ownsRow_nil _ _ _ _, ?_⟩
        exact (((HB1.out.setCell (by simp) _).setCell (by simp) _).setCell (by simp) _)
theorem made_any (lo va : Int) (A : Option Addr) (n c : Nat) (st : List (Int × Int)) (w : World) (hr : Reads w w.heap.size 2 A n (pairs st)) (hg : ∀ p ∈ st, 1 ≤ p.1 ∧ p.1 ≤ 2000000) (hn : n ≤ 64) :
    Calls Try.prog 63 #[.int .i64 lo, .int .i64 va, .slice A n c] w (MadeSaid (Pl.cMade lo va st) w) :=
  made_big lo va A n c st w hr hg (by omega)
end Go.Proofs.Ytchafkocobbndaa
