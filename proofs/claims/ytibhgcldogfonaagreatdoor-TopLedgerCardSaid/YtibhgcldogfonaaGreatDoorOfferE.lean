/- Contracts of offer.checkPrice and Supply: each returns what its plain function gives, and leaves old memory as it is. -/
import Derived.Test.YtibhgcldogfonaaGreatDoorOfferC
import Derived.Test.YtibhgcldogfonaaGreatDoorPOfferC
namespace Go.Proofs.YtibhgcldogfonaaGreatDoor
open Go.RowKit
set_option maxHeartbeats 800000 in
set_option maxRecDepth 100000 in
theorem opprice_any (nm : ByteArray) (A : Option Addr) (n c : Nat) (st : List (Int × Int)) (x : Int) (w : World) (hs : nm.size ≤ 9223372036854775807) (hr : Reads w w.heap.size 2 A n (pairs st)) :
    Calls Tryz.prog 50 #[vOff nm A n c, .int .i64 x] w fun e w' => e = .returned (.int .i64 (Pl.opprice nm st x)) ∧ Below w.heap.size w w' := by
  have HC := Lib.hid (fun w h => ocheck_any nm A n c st w hs h)
  by_cases h1 : Pl.ocheck nm st = 0
  · have HF : Hid (Pl.opprice nm st x = if x < -2000000 ∨ 2000000 < x then 4 else 0) := by show _ = _; unfold Pl.opprice; rw [if_neg (by simpa using h1)]
    rw [h1] at HC
    clear h1
    generalize Pl.opprice nm st x = y at *
    unfold vOff at *
    rcases (show x < -2000000 ∨ 2000000 < x ∨ (-2000000 ≤ x ∧ x ≤ 2000000) by omega) with hx | hx | ⟨hx, hx'⟩
    · have HV : Hid (y = 4) := by show _ = _; rw [HF.out, if_pos (.inl hx)]
      go_enter Tryz.func50, Tryz.ntmps50
      go_wp2_with fail
      refine (HC.out _ ?hr1).mono ?_
      case hr1 => exact hr.go ((Below.refl _ _).alloc (Nat.le_refl _) _)
      rintro e w1 ⟨rfl, hb⟩
      go_wp2_with fail
      go_ret
      exact ⟨by rw [HV.out]; rfl, ((Below.refl w.heap.size w).alloc (Nat.le_refl _) _).trans (hb.mono (by simp))⟩
    · have HV : Hid (y = 4) := by show _ = _; rw [HF.out, if_pos (.inr hx)]
      go_enter Tryz.func50, Tryz.ntmps50
      go_wp2_with fail
      refine (HC.out _ ?hr1).mono ?_
      case hr1 => exact hr.go ((Below.refl _ _).alloc (Nat.le_refl _) _)
      rintro e w1 ⟨rfl, hb⟩
      go_wp2_with fail
      go_ret
      exact ⟨by rw [HV.out]; rfl, ((Below.refl w.heap.size w).alloc (Nat.le_refl _) _).trans (hb.mono (by simp))⟩
    · have HV : Hid (y = 0) := by show _ = _; rw [HF.out, if_neg (by omega)]
      go_enter Tryz.func50, Tryz.ntmps50
      go_wp2_with fail
      refine (HC.out _ ?hr1).mono ?_
      case hr1 => exact hr.go ((Below.refl _ _).alloc (Nat.le_refl _) _)
      rintro e w1 ⟨rfl, hb⟩
      go_wp2_with fail
      go_ret
      exact ⟨by rw [HV.out]; rfl, ((Below.refl w.heap.size w).alloc (Nat.le_refl _) _).trans (hb.mono (by simp))⟩
  · have HF : Hid (Pl.opprice nm st x = Pl.ocheck nm st) := by show _ = _; unfold Pl.opprice; rw [if_pos h1]
    have h2 : (Pl.ocheck nm st != 0) = true := by simpa using h1
    clear h1
    generalize Pl.opprice nm st x = y at *
    generalize Pl.ocheck nm st = u at *
    unfold vOff at *
    go_enter Tryz.func50, Tryz.ntmps50
    go_wp2_with fail
    refine (HC.out _ ?hr3).mono ?_
    case hr3 => exact hr.go ((Below.refl _ _).alloc (Nat.le_refl _) _)
    rintro e w1 ⟨rfl, hb⟩
    go_wp2_with fail
    go_ret
    exact ⟨by rw [HF.out]; rfl, ((Below.refl w.heap.size w).alloc (Nat.le_refl _) _).trans (hb.mono (by simp))⟩
set_option maxHeartbeats 1600000 in
set_option maxRecDepth 100000 in
theorem oSupply_any (nm : ByteArray) (A : Option Addr) (n c : Nat) (st : List (Int × Int)) (x : Int) (w : World) (hs : nm.size ≤ 9223372036854775807) (hr : Reads w w.heap.size 2 A n (pairs st)) :
    Calls Tryz.prog 37 #[vOff nm A n c, .int .i64 x] w (ThreeSaid (Pl.oSupply nm st x) w) := by
  have HC := Lib.hid (fun w h => opprice_any nm A n c st x w hs h)
  by_cases h1 : Pl.opprice nm st x = 0
  · obtain ⟨hc0, x0, x1⟩ := Pl.opprice_ok h1
    obtain ⟨g, l, _⟩ := Pl.ocheck_ok hc0
    have HF : Hid (Pl.oSupply nm st x = ((Pl.sacc x st).1, (Pl.sacc x st).2, 0)) := by show _ = _; unfold Pl.oSupply; rw [if_neg (by simpa using h1), Pl.sacc_eq]
    have L1 := Lib.hid hr.pair_len
    have HG := Lib.hid (fun k => Pl.sacc_bd g x k)
    have hn : n ≤ 12 := by have := hr.pair_len; omega
    rw [h1] at HC
    clear h1 l hc0
    generalize Pl.oSupply nm st x = y at *
    unfold vOff at *
    go_enter Tryz.func37, Tryz.ntmps37
    go_wp2_with fail
    refine (HC.out _ ?hr1).mono ?_
    case hr1 => exact hr.go ((Below.refl _ _).alloc (Nat.le_refl _) _)
    rintro e w1 ⟨rfl, hb⟩
    have HB := Lib.hid (((Below.refl w.heap.size w).alloc (Nat.le_refl _) _).trans (hb.mono (by simp)))
    have B1 : Hid (Blk w1 w.heap.size _ _) := (Blk.new_ _ _ _ _ rfl).go hb
    have c1 := B1.out.cell
    clear hb
    go_wp2_with fail
    clear c1
    go_loopw [8, 9, 21] (fun la ne i wr => ∃ k : Nat, k ≤ n ∧ i = .int .i64 k ∧ la = .int .i64 (Pl.sacc x (st.take k)).1 ∧ ne = .int .i64 (Pl.sacc x (st.take k)).2 ∧ Below w.heap.size w wr) (fun _ _ i _ => n - (intOf i).toNat)
    case atStart => exact ⟨0, Nat.zero_le _, rfl, rfl, rfl, HB.out⟩
    case round =>
      obtain ⟨k, hk, rfl, rfl, rfl, hbel⟩ := hrel
      obtain ⟨q1, q2, q3, q4⟩ := HG.out k
      have HB2 := Lib.hid hbel
      by_cases hlt : k < n
      · obtain ⟨b, o, rfl, hl1, d1, d2⟩ := (hr.go hbel).pair_at hlt
        obtain ⟨g1, g2, g3, g4⟩ := g.step _ (List.getElem_mem hl1)
        have HS : Hid (Pl.sacc x (st.take (k + 1)) = Pl.sstep x (Pl.sacc x (st.take k)) st[k]) := by show _ = _; rw [List.take_succ_eq_append_getElem hl1, Pl.sacc_snoc]
        generalize Pl.sacc x (st.take k) = a at *
        obtain ⟨al, am⟩ := a
        generalize st[k] = p at *
        obtain ⟨px, py⟩ := p
        simp only at g1 g2 d1 d2 q1 q2 q3 q4
        rcases (show py < x ∨ py = x ∨ x < py by omega) with h | h | h
        · have HM : Hid (Pl.sstep x (al, am) (px, py) = (al + px, am + px)) := by show _ = _; simp only [Pl.sstep]; rw [if_pos h, if_pos (show py ≤ x by omega)]
          have h' : py ≤ x := by omega
          go_wp2_with fail
          go_roundw
          case rel => exact ⟨k + 1, by omega, by go_num, by rw [HS.out, HM.out], by rw [HS.out, HM.out], HB2.out.alloc HB2.out.size _⟩
          case measure => simp [intOf]; omega
        · have HM : Hid (Pl.sstep x (al, am) (px, py) = (al, am + px)) := by show _ = _; simp only [Pl.sstep]; rw [if_neg (show ¬ py < x by omega), if_pos (show py ≤ x by omega), Int.add_zero]
          have h' : py ≤ x := by omega
          have h'' : ¬ py < x := by omega
          clear h
          go_wp2_with fail
          go_roundw
          case rel => exact ⟨k + 1, by omega, by go_num, by rw [HS.out, HM.out], by rw [HS.out, HM.out], HB2.out.alloc HB2.out.size _⟩
          case measure => simp [intOf]; omega
        · have HM : Hid (Pl.sstep x (al, am) (px, py) = (al, am)) := by show _ = _; simp only [Pl.sstep]; rw [if_neg (show ¬ py < x by omega), if_neg (show ¬ py ≤ x by omega), Int.add_zero, Int.add_zero]
          have h' : ¬ py ≤ x := by omega
          have h'' : ¬ py < x := by omega
          go_wp2_with fail
          go_roundw
          case rel => exact ⟨k + 1, by omega, by go_num, by rw [HS.out, HM.out], by rw [HS.out, HM.out], HB2.out.alloc HB2.out.size _⟩
          case measure => simp [intOf]; omega
      · have : k = n := by omega
        subst this
        have HT : Hid (st.take k = st) := List.take_of_length_le (by have := L1.out; omega)
        go_wp2_with fail
        go_ret3
        exact ⟨by rw [HF.out, HT.out]; rfl, HB2.out⟩
  · have HF : Hid (Pl.oSupply nm st x = (0, 0, Pl.opprice nm st x)) := by show _ = _; unfold Pl.oSupply; rw [if_pos h1]
    have h2 : (Pl.opprice nm st x != 0) = true := by simpa using h1
    clear h1
    generalize Pl.oSupply nm st x = y at *
    generalize Pl.opprice nm st x = u at *
    unfold vOff at *
    go_enter Tryz.func37, Tryz.ntmps37
    go_wp2_with fail
    refine (HC.out _ ?hr3).mono ?_
    case hr3 => exact hr.go ((Below.refl _ _).alloc (Nat.le_refl _) _)
    rintro e w1 ⟨rfl, hb⟩
    go_wp2_with fail
    go_ret3
    exact ⟨by rw [HF.out]; rfl, ((Below.refl w.heap.size w).alloc (Nat.le_refl _) _).trans (hb.mono (by simp))⟩
end Go.Proofs.YtibhgcldogfonaaGreatDoor
