/- The law LedgerTorn, its walk: of a torn text all complete lines are recovered, and of a text of which one byte is changed the lines before it. Condition: the entries lie in memory as the words say; the library's tables lie as they are laid. -/
import Derived.Test.YtnnfkfimicmboaaDoorLawLedgerLimit
import Derived.Test.YtnnfkfimicmboaaDoorPLedC
import Derived.Test.YtnnfkfimicmboaaDoorWithin
import Derived.Shelf.Strings.LastIndex
import Derived.Lib.SlBytesRow
import Derived.Lib.AtoiErrMem
namespace Go.Proofs.YtnnfkfimicmboaaDoor
open Go.RowKit
theorem count_any (S : List UInt8) (c : UInt8) (w : World) : Calls Tryd.prog 14 #[.string ⟨S.toArray⟩, .string ⟨#[c]⟩] w fun e w' => e = .returned (.int .i64 (S.count c : Nat)) ∧ w' = w := by
  have h := Any.strings_Count_one countS ⟨S.toArray⟩ c w
  change Calls Tryd.prog 14 _ _ _ at h
  refine h.mono ?_
  rintro e w' ⟨rfl, hw⟩
  exact ⟨rfl, hw⟩
theorem last_any (S : List UInt8) (hs : S.length ≤ 1000000) (w : World) : Calls Tryd.prog 13 #[.string ⟨S.toArray⟩, .int .u8 10] w fun e w' => e = .returned (.int .i64 (Go.Lib.lastIndexByte ⟨S.toArray⟩ 10)) ∧ w' = w := by
  have h := Any.strings_LastIndexByte lastS ⟨S.toArray⟩ 10 (by show S.toArray.size < _; simp; omega) w
  change Calls Tryd.prog 13 _ _ _ at h
  exact h
theorem take_slice (S : List UInt8) (c : Nat) (hc : c ≤ S.length) (W : World) : (Instr.slice 9 (.string ⟨S.toArray⟩) none (some (.int .i64 (c : Nat))) none).run Tryd.prog W = .ok (.string ⟨(S.take c).toArray⟩) W := by
  have hsz : (⟨S.toArray⟩ : ByteArray).size = S.length := by rw [size_bl, Pl.bl_mk]
  rw [run_slice_string_h W 9 ⟨S.toArray⟩ Tryd.underlying9 .i64 _ (by omega) (by omega)]
  congr 2
  apply Pl.bl_inj
  unfold Pl.bl
  simp only [Int.toNat_natCast]
  rw [Go.Lib.extract_data]
  simp
theorem own_rows {w : World} {base : Nat} {A : Option Addr} {c : Nat} {l : List Pl.LE} (h : w.ownsRow base 31 3 (.slice A l.length c) l.length (ents l)) (hx : ∀ x ∈ l, EntIn x) : Ents w A l.length l := ⟨Reads.of_own h, hx⟩
theorem Ents.take {w : World} {A : Option Addr} {n : Nat} {l p m : List Pl.LE} (h : Ents w A n l) (hl : l = p ++ m) : Ents w A p.length p := by
  subst hl
  exact h.pre
set_option maxHeartbeats 3200000 in
set_option maxRecDepth 100000 in
theorem torn_any (A : Option Addr) (n c : Nat) (l : List Pl.LE) (cut pl tv : Int) (w : World) (hnc : n ≤ c) (h : Ents w A n l) (hto : 0 ≤ tv ∧ tv ≤ 255) (hl : LW w) :
    Calls Tryd.prog 4 #[.slice A n c, .int .i64 cut, .int .i64 pl, .int .u8 tv] w fun e w' => e = .returned (.bool true) ∧ Below w.heap.size w w' := by
  have L := Lib.hid h.len
  have H := Lib.hid h
  have HLW := Lib.hid hl
  have HTO := Lib.hid hto
  have HWR := Lib.hid (fun w h => written_any w h)
  have HREC := Lib.hid (fun S w h => recover_any S w h)
  unfold RecSaid at HREC
  have HTX := Lib.hid (fun w h => text_any A n c l w h)
  clear h hl hto
  unfold txt at HREC HTX
  go_enter Tryd.func4, Tryd.ntmps4
  go_wp2_with fail
  refine (HWR.out w HLW.out).mono ?_
  rintro e w1 ⟨rfl, hb⟩
  have HB1 := Lib.hid hb
  clear hb
  go_wp2_with fail
  refine (HTX.out w1 (H.out.go HB1.out) (HLW.out.go HB1.out)).mono ?_
  rintro e w2 ⟨rfl, hb⟩
  have HB2 := Lib.hid (HB1.out.trans (hb.mono HB1.out.size))
  clear hb HB1 HTX
  by_cases h0 : Pl.lcheck l = 0
  · have htx : Pl.lText l = (Pl.textS Pl.s0 l, 0) := by unfold Pl.lText; rw [if_neg (by rw [h0]; simp)]
    rw [htx]
    have hlen := Pl.text_short h0
    have HTORN := Lib.hid (fun c => Pl.torn h0 c)
    have hne0 : Pl.textS Pl.s0 l ≠ [] → 0 < n := fun h => by
      rw [← L.out]
      cases l with
      | nil => exact absurd rfl h
      | cons _ _ => simp
    have HNE := Lib.hid hne0
    have hn256 : n ≤ 256 := by rw [← L.out]; exact (Pl.lcheck_ok.1 h0).1
    simp only
    clear htx h0 hne0
    generalize Pl.textS Pl.s0 l = T at *
    by_cases hT : T = []
    · subst hT
      go_wp2_with fail
      go_ret
      exact ⟨rfl, HB2.out⟩
    · have s1 : T.isEmpty = false := by cases T with
        | nil => exact absurd rfl hT
        | cons _ _ => rfl
      have hn0 := HNE.out hT
      have HL0 : Hid (0 < T.length) := List.length_pos_iff.2 hT
      have HW1 := Lib.hid (fun w => within_any2 cut 0 (T.length : Nat) w (by omega) (by omega) (by omega))
      have hw1 := Pl.withinF_bd cut 0 (T.length : Nat) (by omega)
      clear hT HNE
      obtain ⟨b, o, rfl, _⟩ := H.out.1.where_ hn0 (by omega)
      go_wp2_with fail
      refine (HW1.out _).mono ?_
      rintro e w3 ⟨rfl, rfl⟩
      obtain ⟨c1, hc1⟩ : ∃ c1 : Nat, Pl.withinF cut 0 (T.length : Nat) = c1 := ⟨(Pl.withinF cut 0 (T.length : Nat)).toNat, by omega⟩
      rw [hc1] at hw1 ⊢
      have hc : c1 ≤ T.length := by omega
      have hs1 := take_slice T c1 hc
      obtain ⟨p, m, r, h1, h2, h3, h4, h5, h6⟩ := HTORN.out c1
      have HRC := Lib.hid (HREC.out (T.take c1) w2 (HLW.out.go HB2.out))
      have HLA := Lib.hid (fun w => last_any (T.take c1) (by rw [List.length_take]; omega) w)
      have HCO := Lib.hid (fun w => count_any (T.take c1) 10 w)
      have htl : (T.take c1).length ≤ 15360 := by rw [List.length_take]; omega
      rw [h3] at HCO
      have H5 := Lib.hid h5
      have HPM := Lib.hid h1
      have hpn : p.length ≤ n := by rw [← L.out, h1, List.length_append]; omega
      have H4 := Lib.hid h4
      have hpl : (Pl.textS Pl.s0 p).length ≤ 15360 := by
        have := congrArg List.length h2
        rw [List.length_append] at this
        omega
      clear h1 h2 h3 h4 h5 h6 HW1 hw1 hc1 s1 hn0
      generalize T.take c1 = S1 at *
      go_wp2_with fail
      refine HRC.out.mono ?_
      rintro e w3 ⟨out, A3, c3, k, er, rfl, _, g1, hown, g2, hb⟩
      obtain ⟨rfl, g3⟩ := g1 (by omega)
      obtain ⟨rfl, rfl⟩ := H5.out out k g3
      have HB3 := Lib.hid (HB2.out.trans (hb.mono HB2.out.size))
      have HE3 := Lib.hid (own_rows hown g2)
      have HQ := Lib.hid (fun w h1 h2 => eqle_any A3 (some ⟨b, o, none⟩) out.length out.length c3 c out out w (by omega) h1 h2 rfl)
      have HPR := Lib.hid (fun w (hw : Ents w (some ⟨b, o, none⟩) n l) => hw.take HPM.out)
      clear g1 g2 g3 hown hb HB2 HRC H5
      have k1 : ¬ (n : Int) < (out.length : Int) := by omega
      have k2 : (out.length : Int) ≤ (c : Int) := by omega
      have hlast : Go.Lib.lastIndexByte ⟨S1.toArray⟩ 10 = ((Pl.textS Pl.s0 out).length : Int) - 1 := by have := H4.out; omega
      rw [hlast] at HLA
      clear hlast H4
      generalize (Pl.textS Pl.s0 out).length = K at *
      go_wp2_with (first | (go_at_call 13; refine (HLA.out _).mono ?_; rintro e w4 ⟨rfl, hw4⟩; rw [hw4]) | (go_at_call 10; refine (HQ.out _ HE3.out (HPR.out _ (H.out.go HB3.out))).mono ?_; rintro e w5 ⟨rfl, hb⟩; have HB5 := Lib.hid (HB3.out.trans (hb.mono HB3.out.size)); clear hb) | (go_at_call 14; refine (HCO.out _).mono ?_; rintro e w6 ⟨rfl, hw6⟩; rw [hw6]))
      have hl0 := HL0.out
      have HW2 := Lib.hid (fun w => within_any2 pl 0 ((T.length : Nat) - 1 : Int) w (by omega) (by omega) (by omega))
      have hw2 := Pl.withinF_bd pl 0 ((T.length : Nat) - 1 : Int) (by omega)
      refine (HW2.out _).mono ?_
      rintro e w7 ⟨rfl, rfl⟩
      obtain ⟨a1, ha1⟩ : ∃ a1 : Nat, Pl.withinF pl 0 ((T.length : Nat) - 1 : Int) = a1 := ⟨(Pl.withinF pl 0 ((T.length : Nat) - 1 : Int)).toNat, by omega⟩
      rw [ha1] at hw2 ⊢
      have ha : a1 < T.length := by omega
      clear hl0 hw2 HW2 ha1 HLA HCO HQ HPR HE3 HB3 k1 k2 hs1 hc hpn htl hpl HPM
      obtain ⟨p, m, r, h1, h2, h3, _, _, h6⟩ := HTORN.out a1
      have hs2 := take_slice T a1 (Nat.le_of_lt ha)
      have hto := HTO.out
      generalize hv : UInt8.ofNat tv.toNat = v at *
      have hvt : (v.toNat : Int) = tv := by
        rw [← hv, UInt8.toNat_ofNat']
        omega
      have hset : T.set a1 v = T.take a1 ++ v :: T.drop (a1 + 1) := List.set_eq_take_append_cons_drop.trans (if_pos ha)
      have H6 : Hid (∀ out k, Pl.RecP (T.set a1 v) out k → ∃ q, out = p ++ q) := fun out k h => h6 _ out k (hset ▸ h)
      have HCO := Lib.hid (fun w => count_any (T.take a1) 10 w)
      rw [h3] at HCO
      have HPM := Lib.hid h1
      have hpn : p.length ≤ n := by rw [← L.out, h1, List.length_append]; omega
      have hsz : (⟨T.toArray⟩ : ByteArray).size = T.length := by rw [size_bl, Pl.bl_mk]
      have kc : ∀ w : World, (convert 9 38 (.string ⟨T.toArray⟩)).run Tryd.prog w = .ok (.slice (some ⟨w.heap.size, 0, none⟩) T.length (grownCap w T.length 0 5)) (Lib.bytesWorld w 5 ⟨T.toArray⟩) := fun w => by
        rw [Lib.run_convert_string_bytes w 9 38 5 ⟨T.toArray⟩ Tryd.underlying9 Tryd.underlying38 Tryd.underlying5, hsz]
      have HBW := Lib.hid (Lib.bytesWorld_below w5 5 ⟨T.toArray⟩)
      have hcel : ∀ j, j < T.length → (Lib.bytesWorld w5 5 ⟨T.toArray⟩).cell? ⟨w5.heap.size, j, none⟩ = some (.int .u8 (T.getD j 0).toNat) := fun j hj => Lib.bytesWorld_cell w5 5 ⟨T.toArray⟩ j (by rw [hsz]; exact hj)
      have hfz : (Lib.bytesWorld w5 5 ⟨T.toArray⟩).frozen? ⟨w5.heap.size, a1, none⟩ = false := by
        unfold World.frozen?
        rw [Lib.bytesWorld_at_new]
        have : T.length ≤ (Lib.bytesCells w5 5 ⟨T.toArray⟩).size := by
          unfold Lib.bytesCells
          rw [Array.size_append, Array.size_map]
          have : (⟨T.toArray⟩ : ByteArray).data.size = T.length := hsz
          omega
        simp
        omega
      have kd : ∀ cp, (convert 38 9 (.slice (some ⟨w5.heap.size, 0, none⟩) T.length cp)).run Tryd.prog ((Lib.bytesWorld w5 5 ⟨T.toArray⟩).setCell ⟨w5.heap.size, a1, none⟩ (.int .u8 tv)) = .ok (.string ⟨(T.set a1 v).toArray⟩) ((Lib.bytesWorld w5 5 ⟨T.toArray⟩).setCell ⟨w5.heap.size, a1, none⟩ (.int .u8 tv)) := fun cp => by
        have hl : (T.set a1 v).length = T.length := List.length_set
        have := run_convert_bytes_back (P := Tryd.prog) ((Lib.bytesWorld w5 5 ⟨T.toArray⟩).setCell ⟨w5.heap.size, a1, none⟩ (.int .u8 tv)) 38 9 5 ⟨w5.heap.size, 0, none⟩ cp (T.set a1 v) Tryd.underlying38 Tryd.underlying5 Tryd.underlying9 (fun j hj => by
          rw [hl] at hj
          have e0 : (⟨w5.heap.size, 0, none⟩ : Addr).add j = ⟨w5.heap.size, j, none⟩ := by rw [Srt.addr_add]
          rw [e0]
          by_cases hj1 : a1 = j
          · subst hj1
            rw [World.cell?_setCell_same _ _ _ (hcel a1 ha), List.getElem_set_self, hvt]
          · rw [World.cell?_setCell_other _ _ _ _ (fun e => hj1 (by injection e)), hcel j hj, List.getElem_set_ne hj1]
            simp [List.getD, hj])
        rwa [hl] at this
      have hca := hcel a1 ha
      have HB6 := Lib.hid (HB5.out.trans ((HBW.out.mono HB5.out.size).setCell (p := ⟨w5.heap.size, a1, none⟩) HB5.out.size (.int .u8 tv)))
      have hsl : (T.set a1 v).length ≤ 15360 := by rw [List.length_set]; exact hlen
      have HSE : Hid ((T.set a1 v).length = T.length) := List.length_set
      clear hcel h1 h2 h3 h6 hset hsz hvt hv hto HBW HTORN
      generalize T.take a1 = S2 at *
      generalize T.set a1 v = S3 at *
      have k1 : (a1 : Int) < (T.length : Int) := by omega
      go_wp2_with fail
      clear kc kd hfz hca
      generalize (Lib.bytesWorld w5 5 ⟨T.toArray⟩).setCell ⟨w5.heap.size, a1, none⟩ (.int .u8 tv) = w6 at *
      generalize grownCap w5 T.length 0 5 = gc at *
      refine (HREC.out S3 w6 (HLW.out.go HB6.out)).mono ?_
      rintro e w8 ⟨ox, Ax, cx, k, er, rfl, _, g1, hown, g2, hb⟩
      obtain ⟨rfl, g3⟩ := g1 (by omega)
      obtain ⟨q, rfl⟩ := H6.out ox k g3
      have hk : k ≤ (T.length : Int) := by have := Pl.rec_len g3; rw [HSE.out] at this; exact this
      have HB8 := Lib.hid (HB6.out.trans (hb.mono HB6.out.size))
      have HEX := Lib.hid ((own_rows hown g2).take rfl)
      have HPR := Lib.hid (fun w (hw : Ents w (some ⟨b, o, none⟩) n l) => hw.take HPM.out)
      have hcx := row_cap hown
      have hlx : (p ++ q).length = p.length + q.length := List.length_append
      have HNIL : Hid (Ax = none → p.length = 0 ∧ p.length + q.length = 0 ∧ cx = 0) := fun e => by
        subst e
        rcases hown.2 with ⟨hv, h0⟩ | ⟨g, cap, cur, hv, _⟩
        · injection hv with _ h1 h2
          exact ⟨by omega, by omega, h2⟩
        · injection hv with hv
          cases hv
      have HSOM : Hid (∀ a, Ax = some a → a.spot = none) := fun a e => by
        subst e
        rcases hown.2 with ⟨hv, h0⟩ | ⟨g, cap, cur, hv, _⟩
        · injection hv with hv
          cases hv
        · injection hv with hv
          injection hv with hv
          rw [hv]
      rw [hlx] at hcx ⊢
      clear g1 g2 g3 hown hb HB6 hlx
      have hcx1 := hcx.1
      cases Ax with
      | none =>
        obtain ⟨e1, e2, rfl⟩ := HNIL.out rfl
        have ep : p = [] := List.eq_nil_of_length_eq_zero e1
        have eq : q = [] := List.eq_nil_of_length_eq_zero (by omega)
        subst ep eq
        have HEQ := Lib.hid (fun w h1 h2 => eqle_any none (some ⟨b, o, none⟩) 0 0 0 c [] [] w (by omega) h1 h2 rfl)
        have HCX := Lib.hid hcx
        clear hcx hcx1 e1 e2 HNIL HSOM
        simp only [List.length_nil] at HEX HPR HCO ⊢
        go_wp2_with fail
        refine (HCO.out _).mono ?_
        rintro e w9 ⟨rfl, hw9⟩
        rw [hw9]
        clear hw9
        have hcur : Hid (Below w8.heap.size w8 w8.drew) := (Below.refl _ _).drew
        go_wp2_with fail
        go_region_held3 (fun _ => True)
          (exact True.intro)
          ((go_at_call 10; with_reducible refine (HEQ.out _ (HEX.out.go hcur.out) (HPR.out _ (H.out.go (HB8.out.trans (hcur.out.mono HB8.out.size))))).mono ?_; rintro e wz ⟨rfl, hbz⟩; have hcur := Lib.hid (hcur.out.trans (hbz.mono hcur.out.size)); clear hbz))
        all_goals
          go_wp2_with fail
          go_ret
          exact ⟨rfl, HB8.out.trans (hcur.out.mono HB8.out.size)⟩
      | some ad =>
        obtain ⟨bx, ox, sx⟩ := ad
        obtain rfl : sx = none := HSOM.out _ rfl
        have HEQ := Lib.hid (fun w h1 h2 => eqle_any (some ⟨bx, ox, none⟩) (some ⟨b, o, none⟩) p.length p.length cx c p p w (by omega) h1 h2 rfl)
        have hle2 : (p.length : Int) ≤ (cx : Int) := by omega
        have HCX := Lib.hid hcx
        clear hcx hcx1 HNIL HSOM
        go_wp2_with fail
        refine (HCO.out _).mono ?_
        rintro e w9 ⟨rfl, hw9⟩
        rw [hw9]
        clear hw9
        have hcur : Hid (Below w8.heap.size w8 w8.drew) := (Below.refl _ _).drew
        have hge : ¬ ((p.length : Int) + (q.length : Int) < (p.length : Int)) := by omega
        have hge2 : (p.length : Int) ≤ (p.length : Int) + (q.length : Int) := by omega
        have hle1 : (p.length : Int) ≤ (c : Int) := by omega
        go_wp2_with fail
        go_region_held3 (fun _ => True)
          (exact True.intro)
          ((go_at_call 10; with_reducible refine (HEQ.out _ (HEX.out.go hcur.out) (HPR.out _ (H.out.go (HB8.out.trans (hcur.out.mono HB8.out.size))))).mono ?_; rintro e wz ⟨rfl, hbz⟩; have hcur := Lib.hid (hcur.out.trans (hbz.mono hcur.out.size)); clear hbz))
        all_goals
          go_wp2_with fail
          go_ret
          exact ⟨rfl, HB8.out.trans (hcur.out.mono HB8.out.size)⟩
  · have he : ((Pl.lText l).2 != 0) = true := by
      unfold Pl.lText
      rw [if_pos h0]
      simpa using h0
    generalize Pl.lText l = R at *
    go_wp2_with fail
    go_ret
    exact ⟨rfl, HB2.out⟩
end Go.Proofs.YtnnfkfimicmboaaDoor
