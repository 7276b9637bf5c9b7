/- Slices of offers in memory; offer.CheckAll gives what its plain function gives. No condition. -/
import Derived.Test.YtjdagpmfnmodbaaPOffs
import Derived.Test.YtjdagpmfnmodbaaOfferB
import Derived.Test.YtjdagpmfnmodbaaOwn
namespace Go.Proofs.Ytjdagpmfnmodbaa
open Go.RowKit
/-- an offer as memory holds it -/
structure MOff where
  nm : ByteArray
  A : Option Addr
  n : Nat
  c : Nat
  st : List (Int × Int)
def offs (l : List MOff) : List Value := l.flatMap fun o => [.string o.nm, .slice o.A o.n o.c]
def plo (l : List MOff) : List Pl.Off := l.map fun o => (o.nm, o.st)
def OffIn (w : World) (o : MOff) : Prop := o.nm.size ≤ 9223372036854775807 ∧ o.n ≤ o.c ∧ Reads w w.heap.size 2 o.A o.n (pairs o.st)
/-- a slice of offers, their steps with them -/
def Offs (w : World) (A : Option Addr) (n : Nat) (l : List MOff) : Prop := Reads w w.heap.size 2 A n (offs l) ∧ ∀ o ∈ l, OffIn w o
theorem Offs.go {w w' : World} {A : Option Addr} {n : Nat} {l : List MOff} (h : Offs w A n l) (hb : Below w.heap.size w w') : Offs w' A n l :=
  ⟨h.1.go hb, fun o ho => ⟨(h.2 o ho).1, (h.2 o ho).2.1, (h.2 o ho).2.2.go hb⟩⟩
theorem offs_length (l : List MOff) : (offs l).length = l.length * 2 := by
  induction l with
  | nil => rfl
  | cons p l ih => simp [offs] at ih ⊢; omega
theorem offs_at (l : List MOff) (k : Nat) (hk : k < l.length) : (offs l)[k * 2]? = some (.string l[k].nm) ∧ (offs l)[k * 2 + 1]? = some (.slice l[k].A l[k].n l[k].c) := by
  induction l generalizing k with
  | nil => simp at hk
  | cons p l ih =>
    cases k with
    | zero => exact ⟨rfl, rfl⟩
    | succ k =>
      have := ih k (by simpa using hk)
      rw [show (k + 1) * 2 = k * 2 + 2 from by omega]
      simpa [offs] using this
theorem Offs.len {w : World} {A : Option Addr} {n : Nat} {l : List MOff} (h : Offs w A n l) : l.length = n := by
  have := h.1.1; rw [offs_length] at this; omega
theorem Offs.at_ {w : World} {A : Option Addr} {n : Nat} {l : List MOff} (h : Offs w A n l) {k : Nat} (hk : k < n) :
    ∃ b o, A = some ⟨b, o, none⟩ ∧ ∃ hl : k < l.length, w.cell? ⟨b, o + k * 2, none⟩ = some (.string (l[k]'hl).nm) ∧ w.cell? ⟨b, o + k * 2 + 1, none⟩ = some (.slice (l[k]'hl).A (l[k]'hl).n (l[k]'hl).c) ∧ OffIn w (l[k]'hl) := by
  obtain ⟨b, o, rfl, _, hc⟩ := h.1.where_ (by omega) (by omega)
  have hl : k < l.length := by have := h.len; omega
  obtain ⟨h1, h2⟩ := offs_at l k hl
  exact ⟨b, o, rfl, hl, hc _ _ h1, by rw [Nat.add_assoc]; exact hc _ _ h2, h.2 _ (List.getElem_mem hl)⟩
theorem offs_split (l : List MOff) (k : Nat) : offs l = offs (l.take k) ++ offs (l.drop k) := by
  unfold offs
  rw [← List.flatMap_append, List.take_append_drop]
theorem Offs.take {w : World} {A : Option Addr} {n : Nat} {l : List MOff} (h : Offs w A n l) {k : Nat} (hk : k < n) : Offs w A k (l.take k) := by
  have hl := h.len
  refine ⟨?_, fun o ho => h.2 o (List.mem_of_mem_take ho)⟩
  obtain ⟨ad, e, hb, hc⟩ := h.1.2 (by omega)
  refine ⟨by rw [offs_length, List.length_take]; omega, fun _ => ⟨ad, e, hb, fun j u hu => hc j u ?_⟩⟩
  rw [offs_split l k, List.getElem?_append_left (by
    rcases Nat.lt_or_ge j (offs (l.take k)).length with h | h
    · exact h
    · rw [List.getElem?_eq_none h] at hu; cases hu)]
  exact hu
theorem plo_len (l : List MOff) : (plo l).length = l.length := by unfold plo; simp
theorem plo_at {l : List MOff} {k : Nat} (hk : k < l.length) (h' : k < (plo l).length) : (plo l)[k] = (l[k].nm, l[k].st) := List.getElem_map _
theorem plo_take (l : List MOff) (k : Nat) : (plo l).take k = plo (l.take k) := by unfold plo; rw [List.map_take]
theorem plo_steps {l : List MOff} {k : Nat} (hk : k < l.length) : Pl.steps (plo l) k = l[k].st := by
  unfold Pl.steps
  rw [List.getD_eq_getElem?_getD, List.getElem?_eq_getElem (by rw [plo_len]; exact hk), plo_at hk]
  rfl
theorem plo_has (nm : ByteArray) (l : List MOff) : Pl.has (fun z : MOff => z.nm.toList == nm.toList) l = Pl.has (fun z : Pl.Off => z.1.toList == nm.toList) (plo l) := by
  unfold Pl.has plo
  rw [List.any_map]
  rfl
theorem lt_of_cello {w : World} {b o : Nat} {v : Value} (h : w.cell? ⟨b, o, none⟩ = some v) : b < w.heap.size := by
  rcases Nat.lt_or_ge b w.heap.size with hlt | hge
  · exact hlt
  · unfold World.cell? at h
    rw [Array.getElem?_eq_none hge] at h
    cases h
theorem enters_oall1 : ∀ args w, Sem.run Try.prog (callFunc 111 args) w = .ok (.enter 111 args) w := by intro args w; go_simp
set_option maxRecDepth 100000 in
theorem oall1_any (nm : ByteArray) (bo : Nat) (z : MOff) (w : World) (hc : w.cell? ⟨bo, 0, none⟩ = some (.string nm)) :
    Calls Try.prog 111 #[vOff z.nm z.A z.n z.c, .pointer (some ⟨bo, 0, none⟩)] w fun e w' => e = .returned (.bool (z.nm.toList == nm.toList)) ∧ Below w.heap.size w w' := by
  obtain ⟨a, b, c, d, st⟩ := z
  unfold vOff
  simp only
  have lt := lt_of_cello hc
  go_enter Try.func111, Try.ntmps111
  go_wp2_with fail
  all_goals
    go_ret
    exact ⟨rfl, (Below.refl _ _).alloc (Nat.le_refl _) _⟩
set_option maxHeartbeats 800000 in
set_option maxRecDepth 100000 in
theorem idxfn_off (A : Option Addr) (n c : Nat) (l : List MOff) (nm : ByteArray) (bo : Nat) (w : World) (hn : n ≤ 1000000000000000) (hc : w.cell? ⟨bo, 0, none⟩ = some (.string nm)) (h : Offs w A n l) :
    Calls Try.prog 132 #[.slice A n c, .func (.func 111) #[] #[.pointer (some ⟨bo, 0, none⟩)]] w fun e w' => e = .returned (.int .i64 (Pl.idxOf (fun z : MOff => z.nm.toList == nm.toList) l)) ∧ Below w.heap.size w w' := by
  have HL := Lib.hid h.len
  have H := Lib.hid h
  clear h
  have lt := lt_of_cello hc
  go_enter Try.func132, Try.ntmps132
  go_wp2_with fail
  go_loopw [8] (fun i wr => ∃ k : Nat, k ≤ n ∧ i = .int .i64 k ∧ Hid (∀ j (hj : j < l.length), j < k → (l[j].nm.toList == nm.toList) = false) ∧ Below w.heap.size w wr) (fun i _ => n - (intOf i).toNat)
  case atStart => exact ⟨0, Nat.zero_le _, rfl, fun j _ h => absurd h (by omega), Below.refl _ _⟩
  case round =>
    obtain ⟨k, hk, rfl, HN, hbel⟩ := hrel
    have HB := Lib.hid hbel
    clear hbel
    by_cases hlt : k < n
    · obtain ⟨b, o, rfl, hl, c1, c2, _⟩ := (H.out.go HB.out).at_ hlt
      have HC := Lib.hid (oall1_any nm bo l[k] wr (by rw [HB.out.cell (p := ⟨bo, 0, none⟩) lt]; exact hc))
      unfold vOff at HC
      go_wp2_with fail
      refine HC.out.mono ?_
      rintro e w' ⟨rfl, hb⟩
      have HB2 := Lib.hid (HB.out.trans (hb.mono HB.out.size))
      clear hb
      cases hv : l[k].nm.toList == nm.toList
      · have HV := Lib.hid hv
        clear hv HC
        go_wp2_with fail
        go_roundw
        case rel =>
          exact ⟨k + 1, by omega, by go_num, fun j hj hjk => by
            by_cases e : j = k
            · subst e; exact HV.out
            · exact HN.out j hj (by omega), HB2.out⟩
        case measure => simp [intOf]; omega
      · have HV := Lib.hid hv
        clear hv HC
        go_wp2_with fail
        go_ret
        exact ⟨ret_int (Pl.idxOf_hit (fun z : MOff => z.nm.toList == nm.toList) l k hl HV.out HN.out).symm, HB2.out⟩
    · go_wp2_with fail
      go_ret
      exact ⟨ret_int (Pl.idxOf_miss (fun z : MOff => z.nm.toList == nm.toList) l fun j hj => HN.out j hj (by have := HL.out; omega)).symm, HB.out⟩
theorem contains_off (A : Option Addr) (n c : Nat) (l : List MOff) (nm : ByteArray) (bo : Nat) (w : World) (hn : n ≤ 1000000000000000) (hc : w.cell? ⟨bo, 0, none⟩ = some (.string nm)) (h : Offs w A n l) :
    Calls Try.prog 110 #[.slice A n c, .func (.func 111) #[] #[.pointer (some ⟨bo, 0, none⟩)]] w fun e w' => e = .returned (.bool (Pl.has (fun z : MOff => z.nm.toList == nm.toList) l)) ∧ Below w.heap.size w w' := by
  go_enter Try.func110, Try.ntmps110
  go_wp2_with fail
  refine (idxfn_off A n c l nm bo _ hn hc h).mono ?_
  rintro e w' ⟨rfl, hb⟩
  go_wp2_with fail
  go_ret
  exact ⟨ret_bool (Pl.has_idx _ l), hb⟩
set_option maxHeartbeats 3200000 in
set_option maxRecDepth 100000 in
theorem oall_any (A : Option Addr) (n c : Nat) (l : List MOff) (w : World) (hcap : n ≤ c) (h : Offs w A n l) :
    Calls Try.prog 84 #[.slice A n c] w fun e w' => e = .returned (.int .i64 (Pl.oall (plo l))) ∧ Below w.heap.size w w' := by
  have L1 := Lib.hid h.len
  have H := Lib.hid h
  clear h
  by_cases h32 : n ≤ 10
  · have HNL : Hid (¬ 10 < (plo l).length) := by show ¬ _; rw [plo_len, L1.out]; omega
    go_enter Try.func84, Try.ntmps84
    go_wp2_with fail
    go_loopw [11] (fun i wr => ∃ k : Nat, k ≤ n ∧ i = .int .i64 k ∧ Hid (Pl.oallK (plo l) k = 0) ∧ Below w.heap.size w wr) (fun i _ => n - (intOf i).toNat)
    case atStart => exact ⟨0, Nat.zero_le _, rfl, rfl, Below.refl _ _⟩
    case round =>
      obtain ⟨k, hk, rfl, HZ, hbel⟩ := hrel
      have HB := Lib.hid hbel
      clear hbel
      by_cases hlt : k < n
      · have HTK := Lib.hid ((H.out.go HB.out).take hlt)
        obtain ⟨b, o, rfl, hl1, c1, c2, hin⟩ := (H.out.go HB.out).at_ hlt
        have hlp : k < (plo l).length := by rw [plo_len]; exact hl1
        have HERR := fun e he h => Pl.oallK_err (l := plo l) (k := k) (e := e) HNL.out hlp HZ.out h he
        have HOK := fun h => Pl.oallK_ok (l := plo l) (k := k) hlp HZ.out h
        rw [plo_at hl1, plo_take] at HERR HOK
        have HIN := Lib.hid hin
        have HOC := Lib.hid (fun (w : World) (hq : Reads w w.heap.size 2 l[k].A l[k].n (pairs l[k].st)) => ocheck_any l[k].nm l[k].A l[k].n l[k].c l[k].st w HIN.out.1 hq)
        have HCO := Lib.hid (fun (cc : Nat) (w : World) (bo : Nat) (hc : w.cell? ⟨bo, 0, none⟩ = some (.string l[k].nm)) (h : Offs w (some ⟨b, o, none⟩) k (l.take k)) => contains_off (some ⟨b, o, none⟩) k cc (l.take k) l[k].nm bo w (by omega) hc h)
        rw [plo_has] at HCO
        clear hin
        generalize l[k] = z at *
        obtain ⟨nm, Az, nz, cz, st⟩ := z
        simp only at c1 c2 HERR HOK HOC HCO
        have BN := Lib.hid (Blk.new_ wr wr.heap.size 33 #[.string nm, .slice Az nz cz] rfl)
        have HBN := Lib.hid (HB.out.alloc HB.out.size (.cells #[.string nm, .slice Az nz cz] 33))
        have hsz := HB.out.size
        go_wp2_with fail
        refine (HOC.out _ (HIN.out.2.2.go ((Below.refl _ _).alloc (Nat.le_refl _) _))).mono ?_
        rintro e w3 ⟨rfl, hb⟩
        have BN3 := Lib.hid (BN.out.go hb)
        have HB3 := Lib.hid (HBN.out.trans (hb.mono HBN.out.size))
        have HT3 := Lib.hid ((HTK.out.go ((Below.refl _ _).alloc (Nat.le_refl _) (.cells #[.string nm, .slice Az nz cz] 33))).go hb)
        clear hb BN HBN c1 c2 HIN HOC HTK
        generalize wr.heap.size = bn at *
        have q0 : w3.cell? ⟨bn, 0, none⟩ = some (.string nm) := BN3.out.cell 0
        by_cases h0 : Pl.ocheck nm st = 0
        · have hz0 : (Pl.ocheck nm st != 0) = false := by simpa using h0
          have hk1 : (k : Int) ≤ (c : Int) := by omega
          have hk2 : (0 : Int) ≤ (k : Int) := by omega
          have HC := Lib.hid (fun cc => HCO.out cc w3 bn q0 HT3.out)
          cases h7 : Pl.has (fun z : Pl.Off => z.1.toList == nm.toList) (plo (l.take k))
          · have HZ2 : Hid (Pl.oallK (plo l) (k + 1) = 0) := HOK (by unfold Pl.oallS; rw [if_neg (by simpa using h0), if_neg (by rw [h7]; decide)])
            rw [h7] at HC
            clear HERR HOK h7 HCO h0
            generalize Pl.ocheck nm st = oc at *
            go_wp2_with fail
            refine (HC.out _).mono ?_
            rintro e w4 ⟨rfl, hb⟩
            have HB4 := Lib.hid (HB3.out.trans (hb.mono HB3.out.size))
            clear hb
            go_wp2_with fail
            go_roundw
            case rel => exact ⟨k + 1, by omega, by go_num, HZ2, HB4.out⟩
            case measure => simp [intOf]; omega
          · have HE : Hid (Pl.oall (plo l) = 7) := HERR 7 (by decide) (by unfold Pl.oallS; rw [if_neg (by simpa using h0), if_pos h7])
            rw [h7] at HC
            clear HERR HOK h7 HCO h0
            generalize Pl.ocheck nm st = oc at *
            go_wp2_with fail
            refine (HC.out _).mono ?_
            rintro e w4 ⟨rfl, hb⟩
            have HB4 := Lib.hid (HB3.out.trans (hb.mono HB3.out.size))
            clear hb
            go_wp2_with fail
            go_ret
            exact ⟨by rw [HE.out]; rfl, HB4.out⟩
        · have hz0 : (Pl.ocheck nm st != 0) = true := by simpa using h0
          have HE : Hid (Pl.oall (plo l) = Pl.ocheck nm st) := HERR _ h0 (by unfold Pl.oallS; rw [if_pos h0])
          clear HERR HOK HCO h0
          generalize Pl.ocheck nm st = oc at *
          go_wp2_with fail
          go_ret
          exact ⟨by rw [HE.out]; rfl, HB3.out⟩
      · have : k = n := by omega
        subst this
        have HE : Hid (Pl.oall (plo l) = 0) := by show _ = _; rw [Pl.oall, if_neg HNL.out, plo_len, L1.out]; exact HZ.out
        go_wp2_with fail
        go_ret
        exact ⟨by rw [HE.out]; rfl, HB.out⟩
  · have HE : Hid (Pl.oall (plo l) = 2) := by show _ = _; rw [Pl.oall, if_pos (by rw [plo_len, L1.out]; omega)]
    go_enter Try.func84, Try.ntmps84
    go_wp2_with fail
    go_ret
    exact ⟨by rw [HE.out]; rfl, Below.refl _ _⟩
end Go.Proofs.Ytjdagpmfnmodbaa
