/- Contracts of convexpl.high, at, lowest: each returns what its plain function gives, and leaves old memory as it is. -/
import Derived.Test.YtchafkocobbndaaConvex
import Derived.Test.YtchafkocobbndaaOfferB
import Derived.Test.YtchafkocobbndaaPConvex
namespace Go.Proofs.Ytchafkocobbndaa
open Go.RowKit
set_option maxHeartbeats 800000 in
set_option maxRecDepth 100000 in
theorem chigh_any (lo va : Int) (A : Option Addr) (n c : Nat) (st : List (Int × Int)) (w : World) (hr : Reads w w.heap.size 2 A n (pairs st)) (hg : Pl.GoodC lo va st) (hn : n ≤ 64) (hlo : -1000000 ≤ lo ∧ lo ≤ 1000000) :
    Calls Try.prog 65 #[vCx lo va A n c] w fun e w' => e = .returned (.int .i64 (Pl.chigh lo st)) ∧ Below w.heap.size w w' := by
  have L1 := Lib.hid hr.pair_len
  have HP := Lib.hid hg.place
  have HG := Lib.hid (fun k => Pl.total_take_bd hg.long k)
  have HO : Hid (Pl.chigh lo st = lo + Pl.total st) := rfl
  unfold vCx
  obtain ⟨lo0, lo1⟩ := hlo
  generalize Pl.chigh lo st = hc at *
  go_enter Try.func65, Try.ntmps65
  go_wp2_with fail
  go_loopw [3, 11] (fun x i wr => ∃ k : Nat, k ≤ n ∧ i = .int .i64 k ∧ x = .int .i64 (lo + Pl.total (st.take k)) ∧ Below w.heap.size w wr) (fun _ i _ => n - (intOf i).toNat)
  case atStart => exact ⟨0, Nat.zero_le _, rfl, vint (by simp [Pl.total]), (Below.refl _ _).alloc (Nat.le_refl _) _⟩
  case round =>
    obtain ⟨k, hk, rfl, rfl, hbel⟩ := hrel
    obtain ⟨q1, q2⟩ := HG.out k
    obtain ⟨r1, r2⟩ := HP.out
    have HB := Lib.hid hbel
    by_cases hlt : k < n
    · obtain ⟨b, o, rfl, hl1, d1, d2⟩ := (hr.go hbel).pair_at hlt
      obtain ⟨g1, g2, _, _⟩ := hg.step _ (List.getElem_mem hl1)
      have HS : Hid (Pl.total (st.take (k + 1)) = Pl.total (st.take k) + st[k].1) := by show _ = _; rw [List.take_succ_eq_append_getElem hl1, Pl.total_snoc]
      generalize Pl.total (st.take k) = sm at *
      generalize Pl.total st = tt at *
      generalize st[k] = p at *
      obtain ⟨x, y⟩ := p
      simp only at g1 g2 d1 d2
      go_wp2_with fail
      go_roundw
      case rel => exact ⟨k + 1, by omega, by go_num, vint (by rw [HS.out]; simp only; omega), HB.out.alloc HB.out.size _⟩
      case measure => simp [intOf]; omega
    · have : k = n := by omega
      subst this
      have HT : Hid (st.take k = st) := List.take_of_length_le (by have := L1.out; omega)
      go_wp2_with fail
      go_ret
      exact ⟨ret_int (by rw [HT.out, HO.out]), HB.out⟩
set_option maxHeartbeats 1600000 in
set_option maxRecDepth 100000 in
theorem cat_any (lo va : Int) (A : Option Addr) (n c : Nat) (st : List (Int × Int)) (x : Int) (w : World) (hr : Reads w w.heap.size 2 A n (pairs st)) (hg : Pl.GoodC lo va st) (hn : n ≤ 64) (hlo : -1000000 ≤ lo ∧ lo ≤ 1000000) (hva : -1000000000000000 ≤ va ∧ va ≤ 1000000000000000) (hx0 : lo ≤ x) (hx1 : x ≤ 1000000) :
    Calls Try.prog 66 #[vCx lo va A n c, .int .i64 x] w fun e w' => e = .returned (.int .i64 (Pl.cvat lo va st x)) ∧ Below w.heap.size w w' := by
  have L1 := Lib.hid hr.pair_len
  have HG := Lib.hid (fun k => Pl.vacc_bd hg hva (x - lo) (by omega) (by omega) k)
  have HO := Lib.hid (Pl.vacc_at lo va st x)
  unfold vCx
  obtain ⟨lo0, lo1⟩ := hlo
  generalize Pl.cvat lo va st x = hc at *
  go_enter Try.func66, Try.ntmps66
  go_wp2_with fail
  go_quiet (fail)
  go_wp2_with fail
  go_loopw [5, 6, 19] (fun y l i wr => ∃ k : Nat, k ≤ n ∧ i = .int .i64 k ∧ y = .int .i64 (Pl.vacc va (x - lo) (st.take k)).1 ∧ l = .int .i64 (Pl.vacc va (x - lo) (st.take k)).2 ∧ Below w.heap.size w wr) (fun _ _ i _ => n - (intOf i).toNat)
  case atStart => exact ⟨0, Nat.zero_le _, rfl, rfl, rfl, below_drewN ((Below.refl _ _).alloc (Nat.le_refl _) _) _⟩
  case round =>
    obtain ⟨k, hk, rfl, rfl, rfl, hbel⟩ := hrel
    obtain ⟨q1, q2, q3, q4⟩ := HG.out k
    have HB := Lib.hid hbel
    by_cases hlt : k < n
    · obtain ⟨b, o, rfl, hl1, d1, d2⟩ := (hr.go hbel).pair_at hlt
      obtain ⟨g1, g2, g3, g4⟩ := hg.step _ (List.getElem_mem hl1)
      have HS : Hid (Pl.vacc va (x - lo) (st.take (k + 1)) = Pl.cstep (Pl.vacc va (x - lo) (st.take k)) st[k]) := by show _ = _; rw [List.take_succ_eq_append_getElem hl1, Pl.vacc_snoc]
      generalize Pl.vacc va (x - lo) (st.take k) = a at *
      obtain ⟨cc, yy⟩ := a
      generalize st[k] = p at *
      obtain ⟨px, py⟩ := p
      simp only at g1 g2 g3 g4 d1 d2 q1 q2 q3 q4
      by_cases hm : px < yy
      · have HM : Hid (min yy px = px) := by show _ = _; omega
        have hmb := Pl.piece_bd (m := px) (p := py) (by omega) (by omega) g3 g4
        obtain ⟨hm1, hm2⟩ := hmb
        go_wp2_with fail
        go_roundw
        case rel => exact ⟨k + 1, by omega, by go_num, by rw [HS.out]; simp only [Pl.cstep]; rw [HM.out], by rw [HS.out]; simp only [Pl.cstep]; rw [HM.out], HB.out.alloc HB.out.size _⟩
        case measure => simp [intOf]; omega
      · have HM : Hid (min yy px = yy) := by show _ = _; omega
        have hmb := Pl.piece_bd (m := yy) (p := py) (by omega) (by omega) g3 g4
        obtain ⟨hm1, hm2⟩ := hmb
        go_wp2_with fail
        go_roundw
        case rel => exact ⟨k + 1, by omega, by go_num, by rw [HS.out]; simp only [Pl.cstep]; rw [HM.out], by rw [HS.out]; simp only [Pl.cstep]; rw [HM.out]; exact vint (by omega), HB.out.alloc HB.out.size _⟩
        case measure => simp [intOf]; omega
    · have : k = n := by omega
      subst this
      have HT : Hid (st.take k = st) := List.take_of_length_le (by have := L1.out; omega)
      go_wp2_with fail
      go_ret
      exact ⟨ret_int (by rw [HT.out, ← HO.out]), HB.out⟩
end Go.Proofs.Ytchafkocobbndaa
