/- auction.Check: it gives what its plain function gives. No condition. -/
import Derived.Test.YtibhgcldogfonaaGreatDoorAchk
import Derived.Test.YtibhgcldogfonaaGreatDoorName
namespace Go.Proofs.YtibhgcldogfonaaGreatDoor
open Go.RowKit
namespace Pl
def achk (prev : List Ord) (o : Ord) : Int := if nameB o.name = false then 6 else if (outB o.pow 1 100000 || outB o.price (-1000000) 1000000) = true then 4 else if has (fun z : Ord => z.name.toList == o.name.toList) prev = true then 7 else 0
def acheckK (l : List Ord) : Nat → Int
  | 0 => 0
  | k + 1 => if acheckK l k = 0 then achk (l.take k) (l.getD k default) else acheckK l k
def acheck (l : List Ord) : Int := if 32 < l.length then 2 else acheckK l l.length
theorem acheckK_stay {l : List Ord} {k m : Nat} (h : k ≤ m) (he : acheckK l k ≠ 0) : acheckK l m = acheckK l k := by
  induction m with
  | zero => rw [show k = 0 from by omega]
  | succ m ih =>
    by_cases e : k = m + 1
    · rw [e]
    · have := ih (by omega)
      rw [acheckK, if_neg (by rw [this]; exact he), this]
theorem acheckK_err {l : List Ord} {k : Nat} {e : Int} (hn : ¬ 32 < l.length) (hk : k < l.length) (h0 : acheckK l k = 0) (h : achk (l.take k) l[k] = e) (he : e ≠ 0) : acheck l = e := by
  have h1 : acheckK l (k + 1) = e := by
    rw [acheckK, if_pos h0, List.getD_eq_getElem?_getD, List.getElem?_eq_getElem hk]; exact h
  rw [acheck, if_neg hn, acheckK_stay (show k + 1 ≤ l.length by omega) (by rw [h1]; exact he), h1]
theorem acheckK_ok {l : List Ord} {k : Nat} (hk : k < l.length) (h0 : acheckK l k = 0) (h : achk (l.take k) l[k] = 0) : acheckK l (k + 1) = 0 := by
  rw [acheckK, if_pos h0, List.getD_eq_getElem?_getD, List.getElem?_eq_getElem hk]; exact h
end Pl
theorem orders_split (l : List Pl.Ord) (k : Nat) : orders l = orders (l.take k) ++ orders (l.drop k) := by
  unfold orders
  rw [← List.flatMap_append, List.take_append_drop]
theorem Reads.ord_take {w : World} {B n : Nat} {b o : Nat} {l : List Pl.Ord} (h : Reads w B 4 (some ⟨b, o, none⟩) n (orders l)) {k : Nat} (hk : k < n) : Reads w B 4 (some ⟨b, o, none⟩) k (orders (l.take k)) := by
  have hl := h.ord_len
  obtain ⟨ad, e, hb, hc⟩ := h.2 (by omega)
  refine ⟨by rw [orders_length, List.length_take]; omega, fun _ => ⟨ad, e, hb, fun j u hu => hc j u ?_⟩⟩
  rw [orders_split l k, List.getElem?_append_left (by
    rcases Nat.lt_or_ge j (orders (l.take k)).length with h | h
    · exact h
    · rw [List.getElem?_eq_none h] at hu; cases hu)]
  exact hu
set_option maxHeartbeats 3200000 in
set_option maxRecDepth 100000 in
theorem acheck_any (A : Option Addr) (n c : Nat) (l : List Pl.Ord) (w : World) (hcap : n ≤ c) (hs : ∀ z ∈ l, z.name.size ≤ 9223372036854775807) (hr : Reads w w.heap.size 4 A n (orders l)) :
    Calls Tryz.prog 12 #[.slice A n c] w fun e w' => e = .returned (.int .i64 (Pl.acheck l)) ∧ Below w.heap.size w w' := by
  have L1 := Lib.hid hr.ord_len
  have HS := Lib.hid hs
  clear hs
  by_cases h32 : n ≤ 32
  · go_enter Tryz.func12, Tryz.ntmps12
    go_wp2_with fail
    go_loopw [10] (fun i wr => ∃ k : Nat, k ≤ n ∧ i = .int .i64 k ∧ Hid (Pl.acheckK l k = 0) ∧ Below w.heap.size w wr) (fun i _ => n - (intOf i).toNat)
    case atStart => exact ⟨0, Nat.zero_le _, rfl, rfl, Below.refl _ _⟩
    case round =>
      obtain ⟨k, hk, rfl, HZ, hbel⟩ := hrel
      have HB := Lib.hid hbel
      clear hbel
      by_cases hlt : k < n
      · obtain ⟨b, o, rfl, hl1, c1, c2, c3, c4⟩ := (hr.below HB.out).ord_at hlt
        have hnm := HS.out _ (List.getElem_mem hl1)
        have HERR := fun e he h => Pl.acheckK_err (l := l) (k := k) (e := e) (by have := L1.out; omega) hl1 HZ.out h he
        have HOK := fun h => Pl.acheckK_ok (l := l) (k := k) hl1 HZ.out h
        have HTK := Lib.hid (fun wt h => (Reads.below (w' := wt) (hr.ord_take hlt) h))
        generalize l[k] = z at *
        obtain ⟨nm, bz, pw, pr⟩ := z
        simp only at c1 c2 c3 c4 hnm
        have BN := Lib.hid (Blk.new_ wr wr.heap.size 24 #[.string nm, .bool bz, .int .i64 pw, .int .i64 pr] rfl)
        have HBN := Lib.hid (HB.out.alloc HB.out.size (.cells #[.string nm, .bool bz, .int .i64 pw, .int .i64 pr] 24))
        have hsz := HB.out.size
        go_wp2_with fail
        refine (name_any nm _ hnm).mono ?_
        rintro e w3 ⟨rfl, hb⟩
        have BN3 := Lib.hid (BN.out.go hb)
        have HB3 := Lib.hid (HBN.out.trans (hb.mono HBN.out.size))
        clear hb BN HBN c1 c2 c3 c4
        generalize wr.heap.size = bn at *
        have q0 : w3.cell? ⟨bn, 0, none⟩ = some (.string nm) := BN3.out.cell 0
        have q1 : w3.cell? ⟨bn, 1, none⟩ = some (.bool bz) := BN3.out.cell 1
        have q2 : w3.cell? ⟨bn, 2, none⟩ = some (.int .i64 pw) := BN3.out.cell 2
        have q3 : w3.cell? ⟨bn, 3, none⟩ = some (.int .i64 pr) := BN3.out.cell 3
        cases hN : Pl.nameB nm
        · have HE : Hid (Pl.acheck l = 6) := HERR 6 (by decide) (by show Pl.achk _ ⟨nm, bz, pw, pr⟩ = 6; unfold Pl.achk; rw [if_pos hN])
          clear HERR HOK hN
          go_wp2_with fail
          go_ret
          exact ⟨by rw [HE.out]; rfl, HB3.out⟩
        · by_cases a1 : pw < 1
          · have HE : Hid (Pl.acheck l = 4) := HERR 4 (by decide) (by show Pl.achk _ ⟨nm, bz, pw, pr⟩ = 4; unfold Pl.achk; rw [if_neg (by simp [hN]), if_pos (by simp [Pl.outB]; omega)])
            clear HERR HOK hN
            go_wp2_with fail
            go_ret
            exact ⟨by rw [HE.out]; rfl, HB3.out⟩
          · by_cases a2 : 100000 < pw
            · have HE : Hid (Pl.acheck l = 4) := HERR 4 (by decide) (by show Pl.achk _ ⟨nm, bz, pw, pr⟩ = 4; unfold Pl.achk; rw [if_neg (by simp [hN]), if_pos (by simp [Pl.outB]; omega)])
              clear HERR HOK hN
              go_wp2_with fail
              go_ret
              exact ⟨by rw [HE.out]; rfl, HB3.out⟩
            · by_cases a3 : pr < -1000000
              · have HE : Hid (Pl.acheck l = 4) := HERR 4 (by decide) (by show Pl.achk _ ⟨nm, bz, pw, pr⟩ = 4; unfold Pl.achk; rw [if_neg (by simp [hN]), if_pos (by simp [Pl.outB]; omega)])
                clear HERR HOK hN
                go_wp2_with fail
                go_ret
                exact ⟨by rw [HE.out]; rfl, HB3.out⟩
              · by_cases a4 : 1000000 < pr
                · have HE : Hid (Pl.acheck l = 4) := HERR 4 (by decide) (by show Pl.achk _ ⟨nm, bz, pw, pr⟩ = 4; unfold Pl.achk; rw [if_neg (by simp [hN]), if_pos (by simp [Pl.outB]; omega)])
                  clear HERR HOK hN
                  go_wp2_with fail
                  go_ret
                  exact ⟨by rw [HE.out]; rfl, HB3.out⟩
                · have hk1 : (k : Int) ≤ (c : Int) := by omega
                  have hk2 : (0 : Int) ≤ (k : Int) := by omega
                  have HIN : Hid ((Pl.outB pw 1 100000 || Pl.outB pr (-1000000) 1000000) = false) := by show _ = _; simp [Pl.outB]; omega
                  cases h7 : Pl.has (fun z : Pl.Ord => z.name.toList == nm.toList) (l.take k)
                  · have HZ2 : Hid (Pl.acheckK l (k + 1) = 0) := HOK (by show Pl.achk _ ⟨nm, bz, pw, pr⟩ = 0; unfold Pl.achk; rw [if_neg (by simp [hN]), if_neg (by rw [HIN.out]; decide), if_neg (by rw [h7]; decide)])
                    have HC := Lib.hid (fun cc => contains_ord (some ⟨b, o, none⟩) k cc (l.take k) nm bn w3 (by omega) q0 ((HTK.out w3 HB3.out).more HB3.out.size))
                    rw [h7] at HC
                    clear HERR HOK hN h7
                    go_wp2_with fail
                    refine (HC.out _).mono ?_
                    rintro e w4 ⟨rfl, hb⟩
                    have HB4 := Lib.hid (HB3.out.trans (hb.mono HB3.out.size))
                    clear hb
                    go_wp2_with fail
                    go_roundw
                    case rel => exact ⟨k + 1, by omega, by go_num, HZ2, HB4.out⟩
                    case measure => simp [intOf]; omega
                  · have HE : Hid (Pl.acheck l = 7) := HERR 7 (by decide) (by show Pl.achk _ ⟨nm, bz, pw, pr⟩ = 7; unfold Pl.achk; rw [if_neg (by simp [hN]), if_neg (by rw [HIN.out]; decide), if_pos h7])
                    have HC := Lib.hid (fun cc => contains_ord (some ⟨b, o, none⟩) k cc (l.take k) nm bn w3 (by omega) q0 ((HTK.out w3 HB3.out).more HB3.out.size))
                    rw [h7] at HC
                    clear HERR HOK hN h7
                    go_wp2_with fail
                    refine (HC.out _).mono ?_
                    rintro e w4 ⟨rfl, hb⟩
                    have HB4 := Lib.hid (HB3.out.trans (hb.mono HB3.out.size))
                    clear hb
                    go_wp2_with fail
                    go_ret
                    exact ⟨by rw [HE.out]; rfl, HB4.out⟩
      · have : k = n := by omega
        subst this
        have HE : Hid (Pl.acheck l = 0) := by show _ = _; rw [Pl.acheck, if_neg (by have := L1.out; omega), L1.out]; exact HZ.out
        go_wp2_with fail
        go_ret
        exact ⟨by rw [HE.out]; rfl, HB.out⟩
  · have HE : Hid (Pl.acheck l = 2) := by show _ = _; rw [Pl.acheck, if_pos (by have := L1.out; omega)]
    go_enter Tryz.func12, Tryz.ntmps12
    go_wp2_with fail
    go_ret
    exact ⟨by rw [HE.out]; rfl, Below.refl _ _⟩
end Go.Proofs.YtibhgcldogfonaaGreatDoor
