/- The contract of convexpl.cut: it returns what the plain function gives, in new memory, and leaves old memory as it is. -/
import Derived.Test.YtchafkocobbndaaConvexC
import Derived.Test.YtchafkocobbndaaMade
namespace Go.Proofs.Ytchafkocobbndaa
open Go.RowKit
/-- a list of pieces in new memory -/
def PiecesSaid (l : List (Int × Int)) (w : World) (e : Ending) (w' : World) : Prop :=
  ∃ A c, e = .returned (.slice A l.length c) ∧ Reads w' w'.heap.size 2 A l.length (pairs l) ∧ Below w.heap.size w w'
/-- .. that the call owns -/
def PiecesOwn (l : List (Int × Int)) (w : World) (e : Ending) (w' : World) : Prop :=
  ∃ A c, e = .returned (.slice A l.length c) ∧ w'.ownsRow w.heap.size 94 2 (.slice A l.length c) l.length (pairs l) ∧ Below w.heap.size w w'
set_option maxHeartbeats 3200000 in
set_option maxRecDepth 100000 in
theorem cut_own (lo va : Int) (A : Option Addr) (n c : Nat) (st : List (Int × Int)) (low hi : Int) (w : World) (hr : Reads w w.heap.size 2 A n (pairs st)) (hg : Pl.GoodC lo va st) (hn : n ≤ 64) (hlo : -1000000 ≤ lo ∧ lo ≤ 1000000) (hl0 : -1000000 ≤ low ∧ low ≤ 1000000) (hh0 : -1000000 ≤ hi ∧ hi ≤ 1000000) :
    Calls Try.prog 67 #[vCx lo va A n c, .int .i64 low, .int .i64 hi] w (PiecesOwn (Pl.ccut lo low hi st) w) := by
  have L1 := Lib.hid hr.pair_len
  have HP := Lib.hid hg.place
  have HG := Lib.hid (fun k => Pl.total_take_bd hg.long k)
  have HX := Lib.hid (fun k => Pl.cutacc_x lo low hi (st.take k))
  have HN := Lib.hid (fun k => Pl.cutacc_len lo low hi (st.take k))
  have HO : Hid (Pl.ccut lo low hi st = (Pl.cutacc lo low hi st).1) := rfl
  obtain ⟨i0, hi0, hz0, hz1, hz2⟩ := info_parts info_ConvexPiece
  unfold vCx
  obtain ⟨lo0, lo1⟩ := hlo
  obtain ⟨low0, low1⟩ := hl0
  obtain ⟨hi0', hi1'⟩ := hh0
  generalize Pl.ccut lo low hi st = hc at *
  go_enter Try.func67, Try.ntmps67
  go_wp2_with fail
  go_loopw [7, 8, 17] (fun v x i wr => ∃ k : Nat, k ≤ n ∧ i = .int .i64 k ∧ x = .int .i64 (Pl.cutacc lo low hi (st.take k)).2 ∧ wr.ownsRow (w.heap.size + 1) 94 2 v (Pl.cutacc lo low hi (st.take k)).1.length (pairs (Pl.cutacc lo low hi (st.take k)).1) ∧ w.heap.size + 1 ≤ wr.heap.size ∧ Below w.heap.size w wr) (fun _ _ i _ => n - (intOf i).toNat)
  case atStart => exact ⟨0, Nat.zero_le _, rfl, rfl, World.ownsRow_nil _ _ _ _, by simp, (Below.refl _ _).alloc (Nat.le_refl _) _⟩
  case round =>
    obtain ⟨k, hk, rfl, rfl, hown, hsz, hbel⟩ := hrel
    obtain ⟨q1, q2⟩ := HG.out k
    obtain ⟨r1, r2⟩ := HP.out
    have x1 := HX.out k
    have n1 := HN.out k
    rw [List.length_take] at n1
    have HB := Lib.hid hbel
    by_cases hlt : k < n
    · obtain ⟨b, o, rfl, hl1, d1, d2⟩ := (hr.go hbel).pair_at hlt
      obtain ⟨g1, g2, _, _⟩ := hg.step _ (List.getElem_mem hl1)
      have HS : Hid (Pl.cutacc lo low hi (st.take (k + 1)) = Pl.cutstep low hi (Pl.cutacc lo low hi (st.take k)) st[k]) := by show _ = _; rw [List.take_succ_eq_append_getElem hl1, Pl.cutacc_snoc]
      generalize Pl.cutacc lo low hi (st.take k) = a at *
      generalize Pl.total (st.take k) = sm at *
      generalize Pl.total st = tt at *
      generalize st[k] = p at *
      obtain ⟨x, y⟩ := p
      obtain ⟨L, xx⟩ := a
      simp only at g1 g2 d1 d2 x1 n1 hown
      have y1 : -1000000 ≤ xx := by omega
      have y2 : xx ≤ 1000000 := by omega
      clear x1 q1 q2 r1 r2
      by_cases hm1 : xx + x < hi
      · by_cases hm2 : low < xx
        · have HM : Hid (Pl.cutN low hi xx (x, y) = xx + x - xx) := by show _ = _; simp only [Pl.cutN]; omega
          by_cases hpos : 0 < xx + x - xx
          · have HC : Hid (Pl.cutstep low hi (L, xx) (x, y) = (L ++ [(xx + x - xx, y)], xx + x)) := by show _ = _; simp only [Pl.cutstep]; rw [HM.out, if_pos hpos]
            go_wp2_with (at_builtin; refine wpList_append_grow _ rfl (.tmp 33) (.tmp 38) 90 rfl (w.heap.size + 1) 94 i0 _ 2 16 Try.underlying90 hi0 hz0 hz1 hz2 rfl (by decide) _ _ _ rfl (hown.alloc _) (by simp; omega) _ rfl rfl (by simp) (by simp [Value.oneCell']) (by unfold maxLen; omega) (by omega) ?_; intro v' w3 hown3 hg3 hsz3; have B7 := Lib.hid ((Blk.new_ wr wr.heap.size _ _ rfl).grown hg3 (own_ne hown (.inr (Nat.le_refl _)))); have c7 := B7.out.cell)
            go_roundw
            case rel =>
              refine ⟨k + 1, by omega, by go_num, by rw [HS.out, HC.out], ?_, hsz3, below_grown (HB.out.alloc HB.out.size _) hg3 (hown.alloc _) (by omega) (by have := HB.out.size; simp; omega)⟩
              rw [HS.out, HC.out]; simp only; rw [pairs_snoc, List.length_append]; exact hown3
            case measure => simp [intOf]; omega
          · exfalso; omega
        · have HM : Hid (Pl.cutN low hi xx (x, y) = xx + x - low) := by show _ = _; simp only [Pl.cutN]; omega
          by_cases hpos : 0 < xx + x - low
          · have HC : Hid (Pl.cutstep low hi (L, xx) (x, y) = (L ++ [(xx + x - low, y)], xx + x)) := by show _ = _; simp only [Pl.cutstep]; rw [HM.out, if_pos hpos]
            go_wp2_with (at_builtin; refine wpList_append_grow _ rfl (.tmp 33) (.tmp 38) 90 rfl (w.heap.size + 1) 94 i0 _ 2 16 Try.underlying90 hi0 hz0 hz1 hz2 rfl (by decide) _ _ _ rfl (hown.alloc _) (by simp; omega) _ rfl rfl (by simp) (by simp [Value.oneCell']) (by unfold maxLen; omega) (by omega) ?_; intro v' w3 hown3 hg3 hsz3; have B7 := Lib.hid ((Blk.new_ wr wr.heap.size _ _ rfl).grown hg3 (own_ne hown (.inr (Nat.le_refl _)))); have c7 := B7.out.cell)
            go_roundw
            case rel =>
              refine ⟨k + 1, by omega, by go_num, by rw [HS.out, HC.out], ?_, hsz3, below_grown (HB.out.alloc HB.out.size _) hg3 (hown.alloc _) (by omega) (by have := HB.out.size; simp; omega)⟩
              rw [HS.out, HC.out]; simp only; rw [pairs_snoc, List.length_append]; exact hown3
            case measure => simp [intOf]; omega
          · have HC : Hid (Pl.cutstep low hi (L, xx) (x, y) = (L, xx + x)) := by show _ = _; simp only [Pl.cutstep]; rw [HM.out, if_neg hpos]
            go_wp2_with fail
            go_roundw
            case rel => exact ⟨k + 1, by omega, by go_num, by rw [HS.out, HC.out], by rw [HS.out, HC.out]; exact hown.alloc _, by simp; omega, HB.out.alloc HB.out.size _⟩
            case measure => simp [intOf]; omega
      · by_cases hm2 : low < xx
        · have HM : Hid (Pl.cutN low hi xx (x, y) = hi - xx) := by show _ = _; simp only [Pl.cutN]; omega
          by_cases hpos : 0 < hi - xx
          · have HC : Hid (Pl.cutstep low hi (L, xx) (x, y) = (L ++ [(hi - xx, y)], xx + x)) := by show _ = _; simp only [Pl.cutstep]; rw [HM.out, if_pos hpos]
            go_wp2_with (at_builtin; refine wpList_append_grow _ rfl (.tmp 33) (.tmp 38) 90 rfl (w.heap.size + 1) 94 i0 _ 2 16 Try.underlying90 hi0 hz0 hz1 hz2 rfl (by decide) _ _ _ rfl (hown.alloc _) (by simp; omega) _ rfl rfl (by simp) (by simp [Value.oneCell']) (by unfold maxLen; omega) (by omega) ?_; intro v' w3 hown3 hg3 hsz3; have B7 := Lib.hid ((Blk.new_ wr wr.heap.size _ _ rfl).grown hg3 (own_ne hown (.inr (Nat.le_refl _)))); have c7 := B7.out.cell)
            go_roundw
            case rel =>
              refine ⟨k + 1, by omega, by go_num, by rw [HS.out, HC.out], ?_, hsz3, below_grown (HB.out.alloc HB.out.size _) hg3 (hown.alloc _) (by omega) (by have := HB.out.size; simp; omega)⟩
              rw [HS.out, HC.out]; simp only; rw [pairs_snoc, List.length_append]; exact hown3
            case measure => simp [intOf]; omega
          · have HC : Hid (Pl.cutstep low hi (L, xx) (x, y) = (L, xx + x)) := by show _ = _; simp only [Pl.cutstep]; rw [HM.out, if_neg hpos]
            go_wp2_with fail
            go_roundw
            case rel => exact ⟨k + 1, by omega, by go_num, by rw [HS.out, HC.out], by rw [HS.out, HC.out]; exact hown.alloc _, by simp; omega, HB.out.alloc HB.out.size _⟩
            case measure => simp [intOf]; omega
        · have HM : Hid (Pl.cutN low hi xx (x, y) = hi - low) := by show _ = _; simp only [Pl.cutN]; omega
          by_cases hpos : 0 < hi - low
          · have HC : Hid (Pl.cutstep low hi (L, xx) (x, y) = (L ++ [(hi - low, y)], xx + x)) := by show _ = _; simp only [Pl.cutstep]; rw [HM.out, if_pos hpos]
            go_wp2_with (at_builtin; refine wpList_append_grow _ rfl (.tmp 33) (.tmp 38) 90 rfl (w.heap.size + 1) 94 i0 _ 2 16 Try.underlying90 hi0 hz0 hz1 hz2 rfl (by decide) _ _ _ rfl (hown.alloc _) (by simp; omega) _ rfl rfl (by simp) (by simp [Value.oneCell']) (by unfold maxLen; omega) (by omega) ?_; intro v' w3 hown3 hg3 hsz3; have B7 := Lib.hid ((Blk.new_ wr wr.heap.size _ _ rfl).grown hg3 (own_ne hown (.inr (Nat.le_refl _)))); have c7 := B7.out.cell)
            go_roundw
            case rel =>
              refine ⟨k + 1, by omega, by go_num, by rw [HS.out, HC.out], ?_, hsz3, below_grown (HB.out.alloc HB.out.size _) hg3 (hown.alloc _) (by omega) (by have := HB.out.size; simp; omega)⟩
              rw [HS.out, HC.out]; simp only; rw [pairs_snoc, List.length_append]; exact hown3
            case measure => simp [intOf]; omega
          · have HC : Hid (Pl.cutstep low hi (L, xx) (x, y) = (L, xx + x)) := by show _ = _; simp only [Pl.cutstep]; rw [HM.out, if_neg hpos]
            go_wp2_with fail
            go_roundw
            case rel => exact ⟨k + 1, by omega, by go_num, by rw [HS.out, HC.out], by rw [HS.out, HC.out]; exact hown.alloc _, by simp; omega, HB.out.alloc HB.out.size _⟩
            case measure => simp [intOf]; omega
    · have : k = n := by omega
      subst this
      have HT : Hid (st.take k = st) := List.take_of_length_le (by have := L1.out; omega)
      rw [HT.out, ← HO.out] at hown
      obtain ⟨A', c', rfl, hrd⟩ := own_slice hown
      go_wp2_with fail
      go_ret
      exact ⟨A', c', rfl, own_base hown (Nat.le_succ _), HB.out⟩
theorem cut_any (lo va : Int) (A : Option Addr) (n c : Nat) (st : List (Int × Int)) (low hi : Int) (w : World) (hr : Reads w w.heap.size 2 A n (pairs st)) (hg : Pl.GoodC lo va st) (hn : n ≤ 64) (hlo : -1000000 ≤ lo ∧ lo ≤ 1000000) (hl0 : -1000000 ≤ low ∧ low ≤ 1000000) (hh0 : -1000000 ≤ hi ∧ hi ≤ 1000000) :
    Calls Try.prog 67 #[vCx lo va A n c, .int .i64 low, .int .i64 hi] w (PiecesSaid (Pl.ccut lo low hi st) w) := by
  refine (cut_own lo va A n c st low hi w hr hg hn hlo hl0 hh0).mono ?_
  rintro e w' ⟨A', c', rfl, hown, hb⟩
  exact ⟨A', c', rfl, Reads.of_own hown, hb⟩
end Go.Proofs.Ytchafkocobbndaa
