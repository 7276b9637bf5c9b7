/- The contract of convexpl.lowest. No condition. -/
import Derived.Test.YtchafkocobbndaaConvexB
namespace Go.Proofs.Ytchafkocobbndaa
open Go.RowKit
set_option maxHeartbeats 800000 in
set_option maxRecDepth 100000 in
theorem clowest_any (lo va : Int) (A : Option Addr) (n c : Nat) (st : List (Int × Int)) (s : Int) (w : World) (hr : Reads w w.heap.size 2 A n (pairs st)) (hg : Pl.GoodC lo va st) (hn : n ≤ 64) (hlo : -1000000 ≤ lo ∧ lo ≤ 1000000) :
    Calls Try.prog 68 #[vCx lo va A n c, .int .i64 s] w fun e w' => e = .returned (.int .i64 (lo + Pl.lowR s st)) ∧ Below w.heap.size w w' := by
  have L1 := Lib.hid hr.pair_len
  have HP := Lib.hid hg.place
  have HG := Lib.hid (fun k => Pl.total_take_bd hg.long k)
  have HST := Lib.hid (fun k (hk : k < st.length) (h : ∀ q ∈ st.take k, q.2 < s) (hp : s ≤ st[k].2) => show Pl.lowR s st = Pl.total (st.take k) by
    have := Pl.lowR_stop (st.take k) (st.drop (k + 1)) st[k] h hp
    rwa [← List.drop_eq_getElem_cons hk, List.take_append_drop] at this)
  have HAL := Lib.hid (fun (h : ∀ p ∈ st, p.2 < s) => Pl.lowR_all h)
  unfold vCx
  obtain ⟨lo0, lo1⟩ := hlo
  generalize Pl.lowR s st = hc at *
  go_enter Try.func68, Try.ntmps68
  go_wp2_with fail
  go_loopw [5, 13] (fun x i wr => ∃ k : Nat, k ≤ n ∧ i = .int .i64 k ∧ (∀ q ∈ st.take k, q.2 < s) ∧ x = .int .i64 (lo + Pl.total (st.take k)) ∧ Below w.heap.size w wr) (fun _ i _ => n - (intOf i).toNat)
  case atStart => exact ⟨0, Nat.zero_le _, rfl, by simp, vint (by simp [Pl.total]), (Below.refl _ _).alloc (Nat.le_refl _) _⟩
  case round =>
    obtain ⟨k, hk, rfl, hall, rfl, hbel⟩ := hrel
    have HA := Lib.hid hall
    clear hall
    obtain ⟨q1, q2⟩ := HG.out k
    obtain ⟨r1, r2⟩ := HP.out
    have HB := Lib.hid hbel
    by_cases hlt : k < n
    · obtain ⟨b, o, rfl, hl1, d1, d2⟩ := (hr.go hbel).pair_at hlt
      obtain ⟨g1, g2, _, _⟩ := hg.step _ (List.getElem_mem hl1)
      have HS : Hid (Pl.total (st.take (k + 1)) = Pl.total (st.take k) + st[k].1) := by show _ = _; rw [List.take_succ_eq_append_getElem hl1, Pl.total_snoc]
      by_cases hs : s ≤ st[k].2
      · have HX := Lib.hid (HST.out k hl1 HA.out hs)
        clear HST HAL HA HS
        generalize Pl.total (st.take k) = sm at *
        generalize Pl.total st = tt at *
        generalize st[k] = p at *
        obtain ⟨x, y⟩ := p
        simp only at g1 g2 d1 d2 hs
        go_wp2_with fail
        go_ret
        exact ⟨ret_int (by rw [HX.out]), HB.out.alloc HB.out.size _⟩
      · have HA2 : Hid (∀ q ∈ st.take (k + 1), q.2 < s) := by
          intro q hq
          rw [List.take_succ_eq_append_getElem hl1] at hq
          rcases List.mem_append.1 hq with hq | hq
          · exact HA.out q hq
          · rw [List.mem_singleton.1 hq]; omega
        clear HST HAL HA
        generalize Pl.total (st.take k) = sm at *
        generalize Pl.total st = tt at *
        generalize st[k] = p at *
        obtain ⟨x, y⟩ := p
        simp only at g1 g2 d1 d2 hs
        go_wp2_with fail
        go_roundw
        case rel => exact ⟨k + 1, by omega, by go_num, HA2.out, vint (by rw [HS.out]; simp only; omega), HB.out.alloc HB.out.size _⟩
        case measure => simp [intOf]; omega
    · have : k = n := by omega
      subst this
      have HT : Hid (st.take k = st) := List.take_of_length_le (by have := L1.out; omega)
      have HX := Lib.hid (HAL.out (by rw [← HT.out]; exact HA.out))
      go_wp2_with fail
      go_ret
      exact ⟨ret_int (by rw [HT.out, HX.out]), HB.out⟩
end Go.Proofs.Ytchafkocobbndaa
