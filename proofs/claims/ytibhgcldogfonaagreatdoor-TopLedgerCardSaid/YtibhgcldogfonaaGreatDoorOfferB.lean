/- Contracts of offer.Sum, check, cost, Cost, Marginal: each returns what its plain function gives, and leaves old memory as it is. -/
import Derived.Test.YtibhgcldogfonaaGreatDoorOffer
import Derived.Test.YtibhgcldogfonaaGreatDoorPOfferB
namespace Go.Proofs.YtibhgcldogfonaaGreatDoor
open Go.RowKit
def vOff (nm : ByteArray) (A : Option Addr) (n c : Nat) : Value := .agg #[.string nm, .slice A n c]
set_option maxHeartbeats 800000 in
set_option maxRecDepth 100000 in
theorem osum_any (nm : ByteArray) (A : Option Addr) (n c : Nat) (st : List (Int × Int)) (w : World) (hr : Reads w w.heap.size 2 A n (pairs st)) (hg : Pl.Good st) (hn : n ≤ 12) :
    Calls Tryz.prog 49 #[vOff nm A n c] w fun e w' => e = .returned (.int .i64 (Pl.total st)) ∧ Below w.heap.size w w' := by
  have L1 := Lib.hid hr.pair_len
  have HG := Lib.hid (fun k => Pl.total_nonneg hg k)
  unfold vOff
  go_enter Tryz.func49, Tryz.ntmps49
  go_wp2_with fail
  go_loopw [3, 9] (fun x i wr => ∃ k : Nat, k ≤ n ∧ i = .int .i64 k ∧ x = .int .i64 (Pl.total (st.take k)) ∧ Below w.heap.size w wr) (fun _ i _ => n - (intOf i).toNat)
  case atStart => exact ⟨0, Nat.zero_le _, rfl, rfl, (Below.refl _ _).alloc (Nat.le_refl _) _⟩
  case round =>
    obtain ⟨k, hk, rfl, rfl, hbel⟩ := hrel
    obtain ⟨q1, q2⟩ := HG.out k
    have HB := Lib.hid hbel
    by_cases hlt : k < n
    · obtain ⟨b, o, rfl, hl1, d1, d2⟩ := (hr.go hbel).pair_at hlt
      obtain ⟨g1, g2, _, _⟩ := hg.step _ (List.getElem_mem hl1)
      have HS : Hid (Pl.total (st.take (k + 1)) = Pl.total (st.take k) + st[k].1) := by show _ = _; rw [List.take_succ_eq_append_getElem hl1, Pl.total_snoc]
      generalize Pl.total (st.take k) = sm at *
      generalize st[k] = p at *
      obtain ⟨x, y⟩ := p
      simp only at g1 g2 d1 d2
      go_wp2_with fail
      go_roundw
      case rel => exact ⟨k + 1, by omega, by go_num, by rw [HS.out], HB.out.alloc HB.out.size _⟩
      case measure => simp [intOf]; omega
    · have : k = n := by omega
      subst this
      have HT : Hid (st.take k = st) := List.take_of_length_le (by have := L1.out; omega)
      go_wp2_with fail
      go_ret
      exact ⟨ret_int (by rw [HT.out]), HB.out⟩
set_option maxHeartbeats 800000 in
set_option maxRecDepth 100000 in
theorem opcheck_any (nm : ByteArray) (A : Option Addr) (n c : Nat) (st : List (Int × Int)) (x : Int) (w : World) (hs : nm.size ≤ 9223372036854775807) (hr : Reads w w.heap.size 2 A n (pairs st)) :
    Calls Tryz.prog 35 #[vOff nm A n c, .int .i64 x] w fun e w' => e = .returned (.int .i64 (Pl.opcheck nm st x)) ∧ Below w.heap.size w w' := by
  have HC := Lib.hid (fun w h => ocheck_any nm A n c st w hs h)
  by_cases h1 : Pl.ocheck nm st = 0
  · obtain ⟨g, l, _⟩ := Pl.ocheck_ok h1
    have HS := Lib.hid (fun w h => osum_any nm A n c st w h g (by have := hr.pair_len; omega))
    have HF : Hid (Pl.opcheck nm st x = if x < 0 ∨ Pl.total st < x then 4 else 0) := by show _ = _; unfold Pl.opcheck; rw [if_neg (by simpa using h1)]
    rw [h1] at HC
    clear h1 g l
    generalize Pl.total st = t at *
    unfold vOff at *
    go_enter Tryz.func35, Tryz.ntmps35
    go_wp2_with fail
    refine (HC.out _ ?hr1).mono ?_
    case hr1 => exact hr.go ((Below.refl _ _).alloc (Nat.le_refl _) _)
    rintro e w1 ⟨rfl, hb⟩
    have HB := Lib.hid (((Below.refl w.heap.size w).alloc (Nat.le_refl _) _).trans (hb.mono (by simp)))
    have B1 : Hid (Blk w1 w.heap.size _ _) := (Blk.new_ _ _ _ _ rfl).go hb
    have c1 := B1.out.cell
    clear hb
    by_cases hx0 : x < 0
    · go_wp2_with fail
      go_ret
      exact ⟨by rw [HF.out, if_pos (.inl hx0)]; rfl, HB.out⟩
    · go_wp2_with fail
      refine (HS.out _ ?hr2).mono ?_
      case hr2 => exact hr.go HB.out
      rintro e w2 ⟨rfl, hb⟩
      have HB2 := Lib.hid (HB.out.trans (hb.mono HB.out.size))
      clear hb c1
      by_cases hxt : t < x
      · go_wp2_with fail
        go_ret
        exact ⟨by rw [HF.out, if_pos (.inr hxt)]; rfl, HB2.out⟩
      · have HV : Hid (Pl.opcheck nm st x = 0) := by show _ = _; rw [HF.out, if_neg (by omega)]
        go_wp2_with fail
        go_ret
        exact ⟨by rw [HV.out]; rfl, HB2.out⟩
  · have HF : Hid (Pl.opcheck nm st x = Pl.ocheck nm st) := by show _ = _; unfold Pl.opcheck; rw [if_pos h1]
    have h2 : (Pl.ocheck nm st != 0) = true := by simpa using h1
    clear h1
    generalize Pl.ocheck nm st = u at *
    unfold vOff at *
    go_enter Tryz.func35, Tryz.ntmps35
    go_wp2_with fail
    refine (HC.out _ ?hr3).mono ?_
    case hr3 => exact hr.go ((Below.refl _ _).alloc (Nat.le_refl _) _)
    rintro e w1 ⟨rfl, hb⟩
    go_wp2_with fail
    go_ret
    exact ⟨by rw [HF.out]; rfl, ((Below.refl w.heap.size w).alloc (Nat.le_refl _) _).trans (hb.mono (by simp))⟩
set_option maxHeartbeats 800000 in
set_option maxRecDepth 100000 in
theorem ocost_any (nm : ByteArray) (A : Option Addr) (n c : Nat) (st : List (Int × Int)) (x : Int) (w : World) (hr : Reads w w.heap.size 2 A n (pairs st)) (hg : Pl.Good st) (hn : n ≤ 12) (x0 : 0 ≤ x) (x1 : x ≤ 100000) :
    Calls Tryz.prog 36 #[vOff nm A n c, .int .i64 x] w fun e w' => e = .returned (.int .i64 (Pl.ocost st x)) ∧ Below w.heap.size w w' := by
  have L1 := Lib.hid hr.pair_len
  have HG := Lib.hid (fun k => Pl.cacc_bd hg x x0 x1 k)
  have HO : Hid (Pl.ocost st x = (Pl.cacc st x).1) := rfl
  unfold vOff
  generalize Pl.ocost st x = oc at *
  go_enter Tryz.func36, Tryz.ntmps36
  go_wp2_with fail
  go_loopw [1, 5, 12] (fun y x' i wr => ∃ k : Nat, k ≤ n ∧ i = .int .i64 k ∧ x' = .int .i64 (Pl.cacc (st.take k) x).1 ∧ y = .int .i64 (Pl.cacc (st.take k) x).2 ∧ Below w.heap.size w wr) (fun _ _ i _ => n - (intOf i).toNat)
  case atStart => exact ⟨0, Nat.zero_le _, rfl, rfl, rfl, (Below.refl _ _).alloc (Nat.le_refl _) _⟩
  case round =>
    obtain ⟨k, hk, rfl, rfl, rfl, hbel⟩ := hrel
    obtain ⟨q1, q2, q3, q4⟩ := HG.out k
    have HB := Lib.hid hbel
    by_cases hlt : k < n
    · obtain ⟨b, o, rfl, hl1, d1, d2⟩ := (hr.go hbel).pair_at hlt
      obtain ⟨g1, g2, g3, g4⟩ := hg.step _ (List.getElem_mem hl1)
      have HS : Hid (Pl.cacc (st.take (k + 1)) x = Pl.cstep (Pl.cacc (st.take k) x) st[k]) := by show _ = _; rw [List.take_succ_eq_append_getElem hl1, Pl.cacc_snoc]
      generalize Pl.cacc (st.take k) x = a at *
      obtain ⟨cc, yy⟩ := a
      generalize st[k] = p at *
      obtain ⟨px, py⟩ := p
      simp only at g1 g2 g3 g4 d1 d2 q1 q2 q3 q4
      by_cases hm : px < yy
      · have HM : Hid (min yy px = px) := by show _ = _; omega
        have hmb := Pl.mul_bd (m := px) (p := py) (by omega) (by omega) g3 g4
        obtain ⟨hm1, hm2⟩ := hmb
        go_wp2_with fail
        go_roundw
        case rel => exact ⟨k + 1, by omega, by go_num, by rw [HS.out]; simp only [Pl.cstep]; rw [HM.out], by rw [HS.out]; simp only [Pl.cstep]; rw [HM.out], HB.out.alloc HB.out.size _⟩
        case measure => simp [intOf]; omega
      · have HM : Hid (min yy px = yy) := by show _ = _; omega
        have hmb := Pl.mul_bd (m := yy) (p := py) (by omega) (by omega) g3 g4
        obtain ⟨hm1, hm2⟩ := hmb
        go_wp2_with fail
        go_roundw
        case rel => exact ⟨k + 1, by omega, by go_num, by rw [HS.out]; simp only [Pl.cstep]; rw [HM.out], by rw [HS.out]; simp only [Pl.cstep]; rw [HM.out]; exact vint (by omega), HB.out.alloc HB.out.size _⟩
        case measure => simp [intOf]; omega
    · have : k = n := by omega
      subst this
      have HT : Hid (st.take k = st) := List.take_of_length_le (by have := L1.out; omega)
      go_wp2_with fail
      go_ret
      exact ⟨ret_int (by rw [HT.out, ← HO.out]), HB.out⟩
end Go.Proofs.YtibhgcldogfonaaGreatDoor
