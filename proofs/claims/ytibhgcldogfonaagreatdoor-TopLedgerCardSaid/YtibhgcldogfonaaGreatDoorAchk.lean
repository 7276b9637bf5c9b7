/- auction.Check: the search for an order of the same name. No condition. -/
import Derived.Test.YtibhgcldogfonaaGreatDoorOrdB
namespace Go.Proofs.YtibhgcldogfonaaGreatDoor
open Go.RowKit
theorem lt_of_cell3 {w : World} {b o : Nat} {v : Value} (h : w.cell? ⟨b, o, none⟩ = some v) : b < w.heap.size := by
  rcases Nat.lt_or_ge b w.heap.size with hlt | hge
  · exact hlt
  · unfold World.cell? at h
    rw [Array.getElem?_eq_none hge] at h
    cases h
def vOrd (z : Pl.Ord) : Value := .agg #[.string z.name, .bool z.buy, .int .i64 z.pow, .int .i64 z.price]
theorem enters_achk1 : ∀ args w, Sem.run Tryz.prog (callFunc 29 args) w = .ok (.enter 29 args) w := by intro args w; go_simp
set_option maxRecDepth 100000 in
theorem achk1_any (nm : ByteArray) (bo : Nat) (z : Pl.Ord) (w : World) (hc : w.cell? ⟨bo, 0, none⟩ = some (.string nm)) :
    Calls Tryz.prog 29 #[vOrd z, .pointer (some ⟨bo, 0, none⟩)] w fun e w' => e = .returned (.bool (z.name.toList == nm.toList)) ∧ Below w.heap.size w w' := by
  obtain ⟨a, b, c, d⟩ := z
  unfold vOrd
  simp only
  have lt := lt_of_cell3 hc
  go_enter Tryz.func29, Tryz.ntmps29
  go_wp2_with fail
  all_goals
    go_ret
    exact ⟨rfl, (Below.refl _ _).alloc (Nat.le_refl _) _⟩
set_option maxHeartbeats 800000 in
set_option maxRecDepth 100000 in
theorem idxfn_ord (A : Option Addr) (n c : Nat) (l : List Pl.Ord) (nm : ByteArray) (bo : Nat) (w : World) (hn : n ≤ 1000000000000000) (hc : w.cell? ⟨bo, 0, none⟩ = some (.string nm)) (h : Reads w w.heap.size 4 A n (orders l)) :
    Calls Tryz.prog 43 #[.slice A n c, .func (.func 29) #[] #[.pointer (some ⟨bo, 0, none⟩)]] w fun e w' => e = .returned (.int .i64 (Pl.idxOf (fun z : Pl.Ord => z.name.toList == nm.toList) l)) ∧ Below w.heap.size w w' := by
  have HL := Lib.hid h.ord_len
  have lt := lt_of_cell3 hc
  go_enter Tryz.func43, Tryz.ntmps43
  go_wp2_with fail
  go_loopw [8] (fun i wr => ∃ k : Nat, k ≤ n ∧ i = .int .i64 k ∧ Hid (∀ j (hj : j < l.length), j < k → (l[j].name.toList == nm.toList) = false) ∧ Below w.heap.size w wr) (fun i _ => n - (intOf i).toNat)
  case atStart => exact ⟨0, Nat.zero_le _, rfl, fun j _ h => absurd h (by omega), Below.refl _ _⟩
  case round =>
    obtain ⟨k, hk, rfl, HN, hbel⟩ := hrel
    have HB := Lib.hid hbel
    clear hbel
    by_cases hlt : k < n
    · obtain ⟨b, o, rfl, hl, c1, c2, c3, c4⟩ := (h.below HB.out).ord_at hlt
      have HC := Lib.hid (achk1_any nm bo l[k] wr (by rw [HB.out.cell (p := ⟨bo, 0, none⟩) lt]; exact hc))
      have HK : Hid (∀ v, (l[k].name.toList == nm.toList) = v → (l[k].name.toList == nm.toList) = v) := fun _ h => h
      unfold vOrd at HC
      go_wp2_with fail
      refine HC.out.mono ?_
      rintro e w' ⟨rfl, hb⟩
      have HB2 := Lib.hid (HB.out.trans (hb.mono HB.out.size))
      clear hb
      cases hv : l[k].name.toList == nm.toList
      · have HV := Lib.hid hv
        clear hv HC
        go_wp2_with fail
        go_roundw
        case rel =>
          exact ⟨k + 1, by omega, by go_num, fun j hj hjk => by
            by_cases e : j = k
            · subst e; exact HV.out
            · exact HN.out j hj (by omega), HB2.out⟩
        case measure => simp [intOf]; omega
      · have HV := Lib.hid hv
        clear hv HC
        go_wp2_with fail
        go_ret
        exact ⟨ret_int (Pl.idxOf_hit (fun z : Pl.Ord => z.name.toList == nm.toList) l k hl HV.out HN.out).symm, HB2.out⟩
    · go_wp2_with fail
      go_ret
      exact ⟨ret_int (Pl.idxOf_miss (fun z : Pl.Ord => z.name.toList == nm.toList) l fun j hj => HN.out j hj (by have := HL.out; omega)).symm, HB.out⟩
theorem contains_ord (A : Option Addr) (n c : Nat) (l : List Pl.Ord) (nm : ByteArray) (bo : Nat) (w : World) (hn : n ≤ 1000000000000000) (hc : w.cell? ⟨bo, 0, none⟩ = some (.string nm)) (h : Reads w w.heap.size 4 A n (orders l)) :
    Calls Tryz.prog 28 #[.slice A n c, .func (.func 29) #[] #[.pointer (some ⟨bo, 0, none⟩)]] w fun e w' => e = .returned (.bool (Pl.has (fun z : Pl.Ord => z.name.toList == nm.toList) l)) ∧ Below w.heap.size w w' := by
  go_enter Tryz.func28, Tryz.ntmps28
  go_wp2_with fail
  refine (idxfn_ord A n c l nm bo _ hn hc h).mono ?_
  rintro e w' ⟨rfl, hb⟩
  go_wp2_with fail
  go_ret
  exact ⟨ret_bool (Pl.has_idx _ l), hb⟩
end Go.Proofs.YtibhgcldogfonaaGreatDoor
