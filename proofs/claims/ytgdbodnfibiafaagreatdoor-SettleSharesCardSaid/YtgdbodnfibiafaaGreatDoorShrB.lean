/- settle.Shares as the plain words say. Condition: the texts read; each is at most 2^63 - 1 bytes; the amount is a machine integer. -/
import Derived.Test.YtgdbodnfibiafaaGreatDoorShrA
import Derived.Test.YtgdbodnfibiafaaGreatDoorSetR
import Derived.Test.YtgdbodnfibiafaaGreatDoorPShares
namespace Go.Proofs.YtgdbodnfibiafaaGreatDoor
open Go.RowKit
set_option maxRecDepth 100000
theorem blk_readsS {w : World} {g : Nat} {t : TypeId} {cs : Array Value} {size : Nat} (h : Blk w g t cs) (hs : cs.size = size) : Reads w w.heap.size size (some ⟨g, 0, none⟩) 1 cs.toList := by
  refine ⟨by simp [hs], fun _ => ⟨_, rfl, Blk.lt h, fun j u hu => ?_⟩⟩
  rw [Srt.addr_add, Blk.cell h j]
  simpa using hu
theorem rts_one (L : List (Rat × Rt)) : ∀ u ∈ rts L, u.oneCell' = true := by
  intro u hu
  unfold rts at hu
  rw [List.mem_flatMap] at hu
  obtain ⟨x, _, hx⟩ := hu
  simp only [rtC, List.mem_cons, List.not_mem_nil, or_false] at hx
  rcases hx with rfl | rfl | rfl | rfl <;> rfl
theorem clone_ratsB (A : Option Addr) (n c : Nat) (xs : List Value) (w : World) (B : Nat) (hB : B ≤ w.heap.size) (hn : n ≤ 1000000) (hr : Reads w w.heap.size 4 A n xs) (h1 : ∀ u ∈ xs, u.oneCell' = true) :
    Calls Tryz.prog 33 #[.slice A n c] w fun e w' => ∃ A' c', e = .returned (.slice A' n c') ∧ w'.ownsRow B 47 4 (.slice A' n c') n xs ∧ Below w.heap.size w w' := by
  refine (clone_rats A n c xs w hn hr h1).mono ?_
  rintro e w' ⟨A', c', rfl, ⟨h2, h3⟩, hb⟩
  refine ⟨A', c', rfl, ⟨h2, ?_⟩, hb⟩
  rcases h3 with h3 | ⟨g, cap, cur, h4, h5, h6⟩
  · exact .inl h3
  · exact .inr ⟨g, cap, cur, h4, Nat.le_trans hB h5, h6⟩
theorem mix_set {α : Type} (a b : List α) {k : Nat} (ha : k < a.length) (hb : k < b.length) : (a.take k ++ b.drop k).set k a[k] = a.take (k + 1) ++ b.drop (k + 1) := by
  rw [List.set_append_right _ _ (by rw [List.length_take]; omega), List.length_take, Nat.min_eq_left (by omega), Nat.sub_self, List.drop_eq_getElem_cons hb, List.set_cons_zero, List.take_succ_eq_append_getElem ha, List.append_assoc]
  rfl
theorem Pl.txts_inj {a b : List Rat} (h : a.map Pl.ratTxt = b.map Pl.ratTxt) : a = b := by
  have h2 := congrArg (List.map Pl.ratOf) h
  rw [List.map_map, List.map_map] at h2
  have h3 : ∀ l : List Rat, l.map (Pl.ratOf ∘ Pl.ratTxt) = l := fun l => by
    conv => rhs; rw [← List.map_id l]
    exact List.map_congr_left fun q _ => Pl.ratOf_txt q
  rw [h3, h3] at h2
  exact h2
/-- amounts and weights that settle.Shares takes -/
structure Pl.ShGood (cents : Int) (ws : List Rat) : Prop where
  len : ws.length ≤ 256
  fits : ∀ w ∈ ws, Pl.Fits w
  lo : -1000000000000000 ≤ cents
  hi : cents ≤ 1000000000000000
  pos : ∀ w ∈ ws, 0 ≤ w
  sum : Pl.sumR ws ≠ 0
  efits : ∀ q ∈ Pl.exact_ cents ws ++ [Pl.sumR ws], Pl.Fits q
  rnd : Pl.RndOk (Pl.exact_ cents ws)
theorem Pl.hasNeg_false {rs : List Rat} : Pl.hasNeg rs = false ↔ ∀ q ∈ rs, 0 ≤ q := by
  unfold Pl.hasNeg Pl.has
  rw [List.any_eq_false]
  refine forall_congr' fun q => imp_congr_right fun _ => ?_
  rw [decide_eq_true_eq, ← Rat.num_nonneg]
  omega
/-- what settle.Shares returns -/
def SharesSaid (cents : Int) (ls : List (List UInt8)) (w : World) (e : Ending) (w' : World) : Prop :=
  (((¬ ∃ ws, ls = ws.map Pl.ratTxt ∧ Pl.ShGood cents ws) ∧ ∃ er, er ≠ 0 ∧ e = .returned (.tuple #[.slice none 0 0, .int .i64 er])) ∨
    (∃ ws, ls = ws.map Pl.ratTxt ∧ Pl.ShGood cents ws ∧ ∃ (os : List Int) (g : Nat), Pl.Desc (Pl.exact_ cents ws) os ∧ Pl.Stab (Pl.exact_ cents ws) os ∧ e = .returned (.tuple #[.slice (some ⟨g, 0, none⟩) ws.length ws.length, .int .i64 0]) ∧ Reads w' w'.heap.size 1 (some ⟨g, 0, none⟩) ws.length (ints (Pl.bal (Pl.exact_ cents ws) os)))) ∧ Below w.heap.size w w'
theorem sh_bad {cents : Int} {ws : List Rat} (h : ¬ Pl.ShGood cents ws) : ¬ ∃ ws', ws.map Pl.ratTxt = ws'.map Pl.ratTxt ∧ Pl.ShGood cents ws' := by
  rintro ⟨ws', h1, h2⟩
  rw [← Pl.txts_inj h1] at h2
  exact h h2
theorem whole_rsz {n : Int} (h0 : -1000000000000000 ≤ n) (h1 : n ≤ 1000000000000000) : Pl.rsz (n : Rat) ≤ 2 := by
  rw [Pl.rsz_int]
  have := small_nw (n := n) (by omega)
  omega
set_option maxHeartbeats 12800000 in
theorem shares_any (cents : Int) (A : Option Addr) (n c : Nat) (ls : List (List UInt8)) (w : World) (hc0 : -9223372036854775808 ≤ cents) (hc1 : cents ≤ 9223372036854775807) (hn : n ≤ 9223372036854775807) (hr : Reads w w.heap.size 1 A n (txs ls)) (hs : ∀ l ∈ ls, l.length ≤ 9223372036854775807) (hl : LV w) :
    Calls Tryz.prog 12 #[.int .i64 cents, .slice A n c] w (SharesSaid cents ls w) := by
  have HN := Lib.hid (txs_len hr)
  have HR := Lib.hid hr
  have HL := Lib.hid hl
  by_cases h1 : 256 < n
  · have h2 : (256 : Int) < (n : Int) := by omega
    clear hr hs hl
    go_enter Tryz.func12, Tryz.ntmps12
    go_wp2_with fail
    go_ret2
    refine ⟨.inl ⟨?_, 2, by decide, rfl⟩, Below.refl _ _⟩
    rintro ⟨ws, e, h⟩
    have := h.len
    have h9 := HN.out
    rw [e, List.length_map] at h9
    omega
  have h2 : ¬ (256 : Int) < (n : Int) := by omega
  have HC := Lib.hid (rcheckall_any A n c ls w hn hr hs hl)
  obtain ⟨E, hE⟩ : ∃ E, E = Pl.ratsE ls := ⟨_, rfl⟩
  rw [← hE] at HC
  have HE := Lib.hid hE
  clear hr hs hl hE
  go_enter Tryz.func12, Tryz.ntmps12
  go_wp2_with fail
  refine HC.out.mono ?_
  rintro e w2 ⟨rfl, hb5⟩
  have D := Lib.hid hb5
  clear hb5 HC
  by_cases h3 : E = 0
  · obtain ⟨ws, hrs, hf⟩ := Pl.rats_all (HE.out.symm.trans h3)
    subst hrs
    have HF := Lib.hid hf
    have HWN : Hid (ws.length = n) := by show _ = _; have h9 := HN.out; rw [List.length_map] at h9; exact h9
    have HP := Lib.hid (parseAll_any A n c ws w2 (by omega) (HR.out.go D.out) hf)
    subst h3
    clear hf HN HE
    by_cases g1 : cents < -1000000000000000
    · have BAD : ¬ ∃ ws', ws.map Pl.ratTxt = ws'.map Pl.ratTxt ∧ Pl.ShGood cents ws' := sh_bad fun h => by have := h.lo; omega
      go_wp2_with fail
      go_ret2
      exact ⟨.inl ⟨BAD, 4, by decide, rfl⟩, D.out⟩
    by_cases g2 : 1000000000000000 < cents
    · have BAD : ¬ ∃ ws', ws.map Pl.ratTxt = ws'.map Pl.ratTxt ∧ Pl.ShGood cents ws' := sh_bad fun h => by have := h.hi; omega
      go_wp2_with fail
      go_ret2
      exact ⟨.inl ⟨BAD, 4, by decide, rfl⟩, D.out⟩
    go_wp2_with fail
    refine HP.out.mono ?_
    rintro e w3 ⟨g, L, rfl, hg, hrl, hLm, hb5⟩
    have HLN : Hid (L.length = n) := by
      show _ = _
      have h8 := congrArg List.length hLm
      have h9 := HWN.out
      rw [List.length_map] at h8
      omega
    have RLR := Lib.hid hrl
    have HLM := Lib.hid hLm
    have hgw : w.heap.size ≤ g := Nat.le_trans D.out.size hg
    replace D := Lib.hid (D.out.trans (hb5.mono D.out.size))
    clear hb5 hrl hLm HP hg
    have HRT := Lib.hid RLR.out.rats
    rw [HLN.out] at HRT
    go_wp2_with fail
    refine (contains_neg (some ⟨g, 0, none⟩) n n L ws w3 (by omega) HRT.out HLM.out).mono ?_
    rintro e w4 ⟨rfl, hb5⟩
    replace RLR := Lib.hid (RLR.out.go hb5)
    replace HRT := Lib.hid (HRT.out.go hb5)
    replace D := Lib.hid (D.out.trans (hb5.mono D.out.size))
    clear hb5
    cases hng : Pl.hasNeg ws with
    | true =>
      have BAD : ¬ ∃ ws', ws.map Pl.ratTxt = ws'.map Pl.ratTxt ∧ Pl.ShGood cents ws' := sh_bad fun h => by
        have := Pl.hasNeg_false.2 h.pos
        rw [hng] at this
        cases this
      go_wp2_with fail
      go_ret2
      exact ⟨.inl ⟨BAD, 4, by decide, rfl⟩, D.out⟩
    | false =>
      have HPOS := Lib.hid (Pl.hasNeg_false.1 hng)
      clear hng
      go_wp2_with fail
      refine (lsum_any (some ⟨g, 0, none⟩) n n L ws w4 (by omega) HRT.out HLM.out (fun q hq => Pl.rsz_fits (HF.out q hq))).mono ?_
      rintro e w5 ⟨s, rfl, hs5, hb5⟩
      have HS := Lib.hid hs5
      have lg : g < w5.heap.size := (RLR.out.go hb5).lt
      replace RLR := Lib.hid (RLR.out.go hb5)
      replace D := Lib.hid (D.out.trans (hb5.mono D.out.size))
      clear hb5 hs5 HRT
      go_wp2_with fail
      have BS := Lib.hid (Blk.new_ w5 w5.heap.size 47 #[.bool s.N.b, .slice s.N.A s.N.n s.N.c, .bool s.D.b, .slice s.D.A s.D.n s.D.c] rfl)
      have hb5 := below_one w5 (.cells #[.bool s.N.b, .slice s.N.A s.N.n s.N.c, .bool s.D.b, .slice s.D.A s.D.n s.D.c] 47)
      replace RLR := Lib.hid (RLR.out.go hb5)
      replace HS := Lib.hid (HS.out.go hb5)
      replace D := Lib.hid (D.out.trans (hb5.mono D.out.size))
      clear hb5
      obtain ⟨bs, e1, h5⟩ : ∃ bs : Nat, bs = w5.heap.size ∧ g < bs := ⟨_, rfl, lg⟩
      rw [← e1] at BS
      rw [← e1]
      clear e1 lg
      generalize w5.alloc (.cells #[.bool s.N.b, .slice s.N.A s.N.n s.N.c, .bool s.D.b, .slice s.D.A s.D.n s.D.c] 47) = w6 at *
      refine (rsign_any HS.out).mono ?_
      rintro e w7 ⟨rfl, hb5⟩
      replace RLR := Lib.hid (RLR.out.go hb5)
      replace BS := Lib.hid (BS.out.go hb5)
      replace HS := Lib.hid (HS.out.go hb5)
      replace D := Lib.hid (D.out.trans (hb5.mono D.out.size))
      clear hb5
      by_cases hz : Pl.sumR ws = 0
      · have e0 : (Pl.sumR ws).num.sign = 0 := by rw [hz]; rfl
        have BAD : ¬ ∃ ws', ws.map Pl.ratTxt = ws'.map Pl.ratTxt ∧ Pl.ShGood cents ws' := sh_bad fun h => h.sum hz
        rw [e0]
        clear hz e0
        go_wp2_with fail
        go_ret2
        exact ⟨.inl ⟨BAD, 10, by decide, rfl⟩, D.out⟩
      have e0 : ((Pl.sumR ws).num.sign == 0) = false := by
        rw [beq_eq_false_iff_ne]
        intro h
        rw [Int.sign_eq_zero_iff_zero, Rat.num_eq_zero] at h
        exact hz h
      have HZ := Lib.hid hz
      clear hz
      have HSS : Hid (Pl.rsz (Pl.sumR ws) ≤ 400000) := by
        show _ ≤ _
        have h7 := sumR_rsz2 ws (fun q hq => Pl.rsz_fits (HF.out q hq))
        have := HWN.out
        omega
      obtain ⟨S, hS⟩ : ∃ S, S = Pl.sumR ws := ⟨_, rfl⟩
      have HSE := Lib.hid hS
      rw [← hS] at e0 HS HSS HZ ⊢
      clear hS
      generalize S.num.sign = sg at *
      have HEX : Hid (Pl.exact_ cents ws = ws.map fun w => (cents : Rat) * w / S) := by show _ = _; rw [HSE.out]; rfl
      have HEL : Hid ((Pl.exact_ cents ws).length = n) := by show _ = _; rw [Pl.exact_len]; exact HWN.out
      go_wp2_with fail
      go_loopw [37] (fun i wr => ∃ (k : Nat) (L : List (Rat × Rt)), k ≤ n ∧ i = .int .i64 k ∧ Hid (L.length = n) ∧ Hid (L.map (·.1) = (Pl.exact_ cents ws).take k ++ ws.drop k) ∧ RL wr g L 0 ∧ Blk wr bs 47 #[.bool s.N.b, .slice s.N.A s.N.n s.N.c, .bool s.D.b, .slice s.D.A s.D.n s.D.c] ∧ RatIs wr wr.heap.size S s ∧ Below w.heap.size w wr) (fun i _ => n - (intOf i).toNat)
      case atStart => exact ⟨0, L, Nat.zero_le _, rfl, HLN, by show _ = _; simpa using HLM.out, RLR.out, BS.out, HS.out, D.out⟩
      case round =>
        clear RLR BS HS D HLM HLN
        obtain ⟨k, L, hk, rfl, HLN, HLM, hrl, hbs, hss, hd⟩ := hrel
        have RLR := Lib.hid hrl
        have BS := Lib.hid hbs
        have HS := Lib.hid hss
        have D := Lib.hid hd
        clear hrl hbs hss hd
        by_cases hlt : k < n
        · have hkl : k < L.length := by rw [HLN.out]; exact hlt
          have hkw : k < ws.length := by rw [HWN.out]; exact hlt
          have hke : k < (Pl.exact_ cents ws).length := by rw [HEL.out]; exact hlt
          have ea : L[k].1 = ws[k] := by
            have h7 : (L.map (·.1))[k]'(by rw [List.length_map]; exact hkl) = ((Pl.exact_ cents ws).take k ++ ws.drop k)[k]'(by rw [List.length_append, List.length_take, List.length_drop]; omega) := by
              have := HLM.out
              congr 1
            rw [List.getElem_map, List.getElem_append_right (by rw [List.length_take]; omega)] at h7
            rw [h7]
            simp [List.length_take, Nat.min_eq_left (Nat.le_of_lt hke)]
          have HW : Hid (RatIs wr wr.heap.size ws[k] L[k].2) := by show RatIs _ _ _ _; rw [← ea]; exact RLR.out.each _ (List.getElem_mem hkl)
          have EE : Hid ((Pl.exact_ cents ws)[k] = (cents : Rat) * ws[k] / S) := by
            show _ = _
            have : ∀ l, l = Pl.exact_ cents ws → ∀ h : k < l.length, l[k] = (Pl.exact_ cents ws)[k] := fun l e h => by subst e; rfl
            rw [← this _ HEX.out.symm (by simpa using hkw)]
            simp
          have HMS : Hid (((Pl.exact_ cents ws).take k ++ ws.drop k).set k (Pl.exact_ cents ws)[k] = (Pl.exact_ cents ws).take (k + 1) ++ ws.drop (k + 1)) := mix_set _ _ hke hkw
          rw [EE.out] at HMS
          have HQS := Pl.rsz_fits (HF.out _ (List.getElem_mem hkw))
          have HCS := whole_rsz (n := cents) (by omega) (by omega)
          have HMSZ := Pl.rsz_mul (cents : Rat) ws[k]
          obtain ⟨q, hq⟩ : ∃ q, q = ws[k] := ⟨_, rfl⟩
          rw [← hq] at HW HMS HQS HMSZ
          clear hq EE ea hke hkw
          have SC : Pl.rsz (cents : Rat) ≤ 400000 := by omega
          have SW : Pl.rsz q ≤ 400000 := by omega
          have SM : Pl.rsz ((cents : Rat) * q) ≤ 400000 := by omega
          have SS := HSS.out
          have SNZ := HZ.out
          clear HQS HCS HMSZ
          go_upto_region 17 with fail
          have hb5 := (Below.refl wr.heap.size wr).drew
          replace BS := Lib.hid (BS.out.go hb5)
          replace RLR := Lib.hid (RLR.out.go hb5)
          replace HW := Lib.hid (HW.out.go hb5)
          replace HS := Lib.hid (HS.out.go hb5)
          replace D := Lib.hid (D.out.trans (hb5.mono D.out.size))
          clear hb5
          have HB0 := Lib.hid (Below.refl wr.drew.heap.size wr.drew)
          have hlt_BS := BS.out.lt
          have hlt_D := D.out.size
          generalize hw9 : wr.drew = w17 at *
          have hSw : (fun w' : World => Below w17.heap.size w17 w') w17 := HB0.out
          refine wp_region_mid (fun w' : World => Below w17.heap.size w17 w') 12 (by kernel_rfl) ?_
          rw [hw9]
          clear hw9
          refine wpAnyM_takeB 0 [11, 12] rfl (by kernel_rfl) (by kernel_rfl) (by kernel_rfl) (by kernel_rfl) (by kernel_rfl) (fun _ _ _ h => h) hSw (by kernel_rfl) (fun w' hSx => by have c0 := (BS.out.go hSx).cell; obtain ⟨c1, c2, c3, c4⟩ := (RLR.out.go hSx).at_ hkl; go_simp; first | done | with_reducible rfl) ?_
          simp only [Act.put, List.setIfInBounds_toArray]
          refine wpAnyM_takeB 1 [11, 12] rfl (by kernel_rfl) (by kernel_rfl) (by kernel_rfl) (by kernel_rfl) (by kernel_rfl) (fun _ _ _ h => h) hSw (by kernel_rfl) (fun w' hSx => by have c0 := (BS.out.go hSx).cell; obtain ⟨c1, c2, c3, c4⟩ := (RLR.out.go hSx).at_ hkl; go_simp; first | done | with_reducible rfl) ?_
          simp only [Act.put]
          refine wpAnyM_takeB 2 [3, 8, 10, 11, 12] rfl (by kernel_rfl) (by kernel_rfl) (by kernel_rfl) (by kernel_rfl) (by kernel_rfl) (fun _ _ _ h => h) hSw (by kernel_rfl) (fun w' hSx => by have c0 := (BS.out.go hSx).cell; obtain ⟨c1, c2, c3, c4⟩ := (RLR.out.go hSx).at_ hkl; go_simp; first | done | with_reducible rfl) ?_
          simp only [Act.put]
          refine wpAnyM_takeB 4 [6, 7, 8, 10, 11, 12] rfl (by kernel_rfl) (by kernel_rfl) (by kernel_rfl) (by kernel_rfl) (by kernel_rfl) (fun _ _ _ h => h) hSw (by kernel_rfl) (fun w' hSx => by have c0 := (BS.out.go hSx).cell; obtain ⟨c1, c2, c3, c4⟩ := (RLR.out.go hSx).at_ hkl; go_simp; first | done | with_reducible rfl) ?_
          simp only [Act.put]
          refine wpAnyM_takeB 5 [6, 7, 8, 10, 11, 12] rfl (by kernel_rfl) (by kernel_rfl) (by kernel_rfl) (by kernel_rfl) (by kernel_rfl) (fun _ _ _ h => h) hSw (by kernel_rfl) (fun w' hSx => by have c0 := (BS.out.go hSx).cell; obtain ⟨c1, c2, c3, c4⟩ := (RLR.out.go hSx).at_ hkl; go_simp; first | done | with_reducible rfl) ?_
          simp only [Act.put]
          refine wpAnyM_takeB 6 [7, 8, 10, 11, 12] rfl (by kernel_rfl) (by kernel_rfl) (by kernel_rfl) (by kernel_rfl) (by kernel_rfl) (fun _ _ _ h => h) hSw (by kernel_rfl) (fun w' hSx => by have c0 := (BS.out.go hSx).cell; obtain ⟨c1, c2, c3, c4⟩ := (RLR.out.go hSx).at_ hkl; go_simp; first | done | with_reducible rfl) ?_
          simp only [Act.put]
          refine wpAnyM_takeB 7 [8, 10, 11, 12] rfl (by kernel_rfl) (by kernel_rfl) (by kernel_rfl) (by kernel_rfl) (by kernel_rfl) (fun _ _ _ h => h) hSw (by kernel_rfl) (fun w' hSx => by have c0 := (BS.out.go hSx).cell; obtain ⟨c1, c2, c3, c4⟩ := (RLR.out.go hSx).at_ hkl; go_simp; first | done | with_reducible rfl) ?_
          simp only [Act.put]
          refine wpAnyM_takeB 9 [10, 11, 12] rfl (by kernel_rfl) (by kernel_rfl) (by kernel_rfl) (by kernel_rfl) (by kernel_rfl) (fun _ _ _ h => h) hSw (by kernel_rfl) (fun w' hSx => by have c0 := (BS.out.go hSx).cell; obtain ⟨c1, c2, c3, c4⟩ := (RLR.out.go hSx).at_ hkl; go_simp; first | done | with_reducible rfl) ?_
          simp only [Act.put]
          refine wpAnyM_ready [3] (by kernel_rfl) (by simp) ?_
          refine AllReadyM.cons (by rfl) (fun K hK => ?_) AllReadyM.nil
          go_simp
          refine (whole_any cents w17 hc0 hc1).mono ?_
          rintro e wq1 ⟨cc, rfl, hc9, hb5⟩
          replace HB0 := Lib.hid (Below.trans HB0.out (hb5.mono HB0.out.size))
          have HC := Lib.hid hc9
          clear hc9
          clear hb5
          clear hSw
          have hSw : (fun w' : World => Below w17.heap.size w17 w') wq1 := HB0.out
          refine hK.out _ _ hSw ?_
          clear hK K
          refine wpAnyM_ready [8] (by kernel_rfl) (by simp) ?_
          refine AllReadyM.cons (by rfl) (fun K hK => ?_) AllReadyM.nil
          go_simp
          refine (rmul_any HC.out (HW.out.go HB0.out) SC SW).mono ?_
          rintro e wq2 ⟨mm, rfl, hm9, hb5⟩
          clear HC HW
          replace HB0 := Lib.hid (Below.trans HB0.out (hb5.mono HB0.out.size))
          have HM := Lib.hid hm9
          clear hm9
          clear hb5
          clear hSw
          have hSw : (fun w' : World => Below w17.heap.size w17 w') wq2 := HB0.out
          refine hK.out _ _ hSw ?_
          clear hK K
          refine wpAnyM_ready [10] (by kernel_rfl) (by simp) ?_
          refine AllReadyM.cons (by rfl) (fun K hK => ?_) AllReadyM.nil
          go_simp
          refine (rdiv_any HM.out (HS.out.go HB0.out) SNZ SM SS).mono ?_
          rintro e wq3 ⟨y, rfl, hy9, hb5⟩
          clear HM
          replace HB0 := Lib.hid (Below.trans HB0.out (hb5.mono HB0.out.size))
          have HY := Lib.hid hy9
          clear hy9
          clear hb5
          clear hSw
          have hSw : (fun w' : World => Below w17.heap.size w17 w') wq3 := HB0.out
          refine hK.out _ _ hSw ?_
          clear hK K
          refine wpAnyM_takeB 11 [12] rfl (by kernel_rfl) (by kernel_rfl) (by kernel_rfl) (by kernel_rfl) (by kernel_rfl) (fun _ _ _ h => h) hSw (by kernel_rfl) (fun w' hSx => by have c0 := (BS.out.go hSx).cell; obtain ⟨c1, c2, c3, c4⟩ := (RLR.out.go hSx).at_ hkl; go_simp; first | done | with_reducible rfl) ?_
          simp only [Act.put]
          refine wpAnyM_ready [12] (by kernel_rfl) (by simp) ?_
          refine AllReadyM.last (by rfl) (by decide) (fun K hK => ?_)
          replace BS := Lib.hid (BS.out.go HB0.out)
          replace RLR := Lib.hid (RLR.out.go HB0.out)
          replace HS := Lib.hid (HS.out.go HB0.out)
          replace D := Lib.hid (D.out.trans (HB0.out.mono D.out.size))
          obtain ⟨c0, c1, c2, c3⟩ := RLR.out.at_ hkl
          have fz := RLR.out.frozen
          have lt9 := RLR.out.lt
          go_simp
          clear c0 c1 c2 c3 fz lt9
          replace BS := Lib.hid (Blk.rfar BS.out (by omega : bs ≠ g) k y)
          replace HS := Lib.hid (HS.out.putR RLR.out.blk k y)
          replace D := Lib.hid (below_rput (g := g) D.out (by omega) k y)
          replace RLR := Lib.hid (RL.set_ RLR.out HY.out hkl)
          obtain ⟨wq4, hw8⟩ : ∃ w', w' = rput wq3 g k y := ⟨_, rfl⟩
          rw [← hw8] at BS RLR HS D
          rw [show (((wq3.setCell ⟨g, k * 4, none⟩ (.bool y.N.b)).setCell ⟨g, k * 4 + 1, none⟩ (.slice y.N.A y.N.n y.N.c)).setCell ⟨g, k * 4 + 2, none⟩ (.bool y.D.b)).setCell ⟨g, k * 4 + 3, none⟩ (.slice y.D.A y.D.n y.D.c) = wq4 from hw8.symm]
          clear hw8
          replace HB0 := Lib.hid (Below.refl wq4.heap.size wq4)
          clear HY
          refine hK.out _ _ ?_
          clear hK K
          refine wpAnyM_done (by kernel_rfl) ?_ _
          clear HB0 hSw
          go_wp2_with fail
          go_roundw
          case rel =>
            refine ⟨k + 1, L.set k ((cents : Rat) * q / S, y), by omega, by go_num, ?_, ?_, RLR.out, BS.out, HS.out, D.out⟩
            · show _ = _; rw [List.length_set]; exact HLN.out
            · show _ = _; rw [← HMS.out, ← HLM.out, List.map_set]
          case measure => simp [intOf]; omega
        · have : k = n := by omega
          subst this
          have HLX : Hid (L.map (·.1) = Pl.exact_ cents ws) := by
            show _ = _
            rw [HLM.out, List.take_of_length_le (by rw [HEL.out]; exact Nat.le_refl _), List.drop_eq_nil_of_le (by rw [HWN.out]; exact Nat.le_refl _), List.append_nil]
          have HR0 := Lib.hid RLR.out.rats
          rw [HLN.out] at HR0
          have HS0 := HS
          have HRW := HR0
          have BSQ := BS
          have HL0 := Lib.hid (HL.out.go D.out)
          have D5 := Lib.hid (Below.refl wr.heap.size wr)
          obtain ⟨i0, hi0, hz0, hz1, hz2⟩ := info_parts info_rat
          go_upto_region 19 with fail
          have hb5 := (Below.refl wr.heap.size wr).drew
          replace BS := Lib.hid (BS.out.go hb5)
          replace HRW := Lib.hid (HRW.out.go hb5)
          replace D5 := Lib.hid (D5.out.trans (hb5.mono D5.out.size))
          clear hb5
          have HB0 := Lib.hid (Below.refl wr.drew.heap.size wr.drew)
          have hlt_BS := BS.out.lt
          have hlt_D5 := D5.out.size
          generalize hw9 : wr.drew = w19 at *
          have hSw : (fun w' : World => Blk w' (bs) 47 #[.bool s.N.b, .slice s.N.A s.N.n s.N.c, .bool s.D.b, .slice s.D.A s.D.n s.D.c] ∧ True) w19 := ⟨BS.out.go HB0.out, trivial⟩
          refine wp_region_mid (fun w' : World => Blk w' (bs) 47 #[.bool s.N.b, .slice s.N.A s.N.n s.N.c, .bool s.D.b, .slice s.D.A s.D.n s.D.c] ∧ True) 11 (by kernel_rfl) ?_
          rw [hw9]
          clear hw9
          refine wpAnyM_takeB 0 [1, 4, 5, 6, 7, 8, 9, 10] rfl (by kernel_rfl) (by kernel_rfl) (by kernel_rfl) (by kernel_rfl) (by kernel_rfl) (fun _ _ _ h => h) hSw (by kernel_rfl) (fun w' hSx => by have c0 := hSx.1.cell; have l0 := hSx.1.lt; go_simp; first | done | with_reducible rfl) ?_
          simp only [Act.put, List.setIfInBounds_toArray]
          refine wpAnyM_takeB 2 [3, 4, 5, 6, 7, 8, 9, 10] rfl (by kernel_rfl) (by kernel_rfl) (by kernel_rfl) (by kernel_rfl) (by kernel_rfl) (fun _ _ _ h => h) hSw (by kernel_rfl) (fun w' hSx => by have c0 := hSx.1.cell; have l0 := hSx.1.lt; go_simp; first | done | with_reducible rfl) ?_
          simp only [Act.put]
          refine wpAnyM_ready [1, 3] (by kernel_rfl) (by simp) ?_
          refine AllReadyM.cons (by rfl) (fun K hK => ?_) (AllReadyM.cons (by rfl) (fun K hK => ?_) AllReadyM.nil)
          · go_simp
            refine (clone_ratsB (some ⟨g, 0, none⟩) k k (rts L) w19 wr.heap.size (by have := HB0.out.size; omega) (by omega) (HRW.out.go HB0.out).row (rts_one L)).mono ?_
            rintro e wq1 ⟨Ac, cc, rfl, how, hb5⟩
            replace HB0 := Lib.hid (Below.trans HB0.out (hb5.mono HB0.out.size))
            have OC := Lib.hid how
            clear how
            clear hb5
            clear hSw
            have hSw : (fun w' : World => Blk w' (bs) 47 #[.bool s.N.b, .slice s.N.A s.N.n s.N.c, .bool s.D.b, .slice s.D.A s.D.n s.D.c] ∧ True) wq1 := ⟨BS.out.go HB0.out, trivial⟩
            refine hK.out _ _ hSw ?_
            clear hK K
            refine wpAnyM_ready [3] (by kernel_rfl) (by simp) ?_
            refine AllReadyM.cons (by rfl) (fun K hK => ?_) AllReadyM.nil
            go_simp
            have hb5 := below_one wq1 (.cells #[.bool s.N.b, .slice s.N.A s.N.n s.N.c, .bool s.D.b, .slice s.D.A s.D.n s.D.c] 47)
            obtain ⟨gb, hg2⟩ : ∃ g : Nat, g = wq1.heap.size := ⟨_, rfl⟩
            have BX := Lib.hid (Blk.new_ wq1 gb 47 #[.bool s.N.b, .slice s.N.A s.N.n s.N.c, .bool s.D.b, .slice s.D.A s.D.n s.D.c] hg2)
            have hS_BX : w19.heap.size ≤ gb := by have := HB0.out.size; omega
            rw [← hg2]
            replace OC := Lib.hid (own_go OC.out hb5)
            replace HB0 := Lib.hid (Below.trans HB0.out (hb5.mono HB0.out.size))
            clear hb5 hg2
            generalize wq1.alloc (.cells #[.bool s.N.b, .slice s.N.A s.N.n s.N.c, .bool s.D.b, .slice s.D.A s.D.n s.D.c] 47) = wq2 at *
            clear hSw
            have hSw : (fun w' : World => Blk w' (bs) 47 #[.bool s.N.b, .slice s.N.A s.N.n s.N.c, .bool s.D.b, .slice s.D.A s.D.n s.D.c] ∧ True) wq2 := ⟨BS.out.go HB0.out, trivial⟩
            refine hK.out _ _ hSw ?_
            clear hK K
            refine wpAnyM_ready [4] (by kernel_rfl) (by simp) ?_
            refine AllReadyM.cons (by rfl) (fun K hK => ?_) AllReadyM.nil
            replace BS := Lib.hid (BS.out.go HB0.out)
            replace HRW := Lib.hid (HRW.out.go HB0.out)
            replace D5 := Lib.hid (D5.out.trans (HB0.out.mono D5.out.size))
            refine step_append_any _ (by rfl) _ _ _ (by rfl) wr.heap.size 47 i0 _ 4 64 Tryz.underlying40 hi0 hz0 hz1 hz2 rfl (by decide) (.slice Ac k cc) k (rts L) (by rfl) OC.out wq2.heap.size (some ⟨gb, 0, none⟩) 1 1 [.bool s.N.b, .slice s.N.A s.N.n s.N.c, .bool s.D.b, .slice s.D.A s.D.n s.D.c] (by rfl) (by have := blk_readsS (size := 4) BX.out rfl; simpa using this) (by intro u hu; simp only [List.mem_cons, List.not_mem_nil, or_false] at hu; rcases hu with rfl | rfl | rfl | rfl <;> rfl) (by unfold maxLen; omega) (by omega) D5.out.size ?_
            intro v' wq3 hown3 hg3 _
            obtain ⟨A3, c3, rfl, hrd3⟩ := own_slice hown3
            have D6 := Lib.hid (below_grown D5.out hg3 OC.out (Nat.le_refl _) D5.out.size)
            have HRQ : Hid (RatsIs wq3 wq3.heap.size A3 (k + 1) (L ++ [(S, s)])) := by
              refine ⟨?_, fun x hx => ?_⟩
              · rw [← rts_snoc]; exact hrd3
              · rw [List.mem_append, List.mem_singleton] at hx
                rcases hx with hx | hx
                · exact (HR0.out.each x hx).go D6.out
                · subst hx; exact HS0.out.go D6.out
            have HLQ : Hid ((L ++ [(S, s)]).map (·.1) = Pl.exact_ cents ws ++ [S]) := by show _ = _; rw [List.map_append, HLX.out]; rfl
            clear hown3 hg3 hrd3 OC BX BS D5 HRW
            have BS := Lib.hid (BSQ.out.go D6.out)
            replace HB0 := Lib.hid (Below.refl wq3.heap.size wq3)
            clear hSw
            have hSw : (fun w' : World => Blk w' (bs) 47 #[.bool s.N.b, .slice s.N.A s.N.n s.N.c, .bool s.D.b, .slice s.D.A s.D.n s.D.c] ∧ True) wq3 := ⟨BS.out, trivial⟩
            refine hK.out _ _ hSw ?_
            clear hK K
            refine wpAnyM_ready [5] (by kernel_rfl) (by simp) ?_
            refine AllReadyM.cons (by rfl) (fun K hK => ?_) AllReadyM.nil
            go_simp
            refine (texts_any A3 (k + 1) c3 (L ++ [(S, s)]) (Pl.exact_ cents ws ++ [S]) wq3 (by omega) HRQ.out HLQ.out (HL0.out.go D6.out)).mono ?_
            rintro e wq4 ⟨tv, tb, rfl, htb, hb5⟩
            clear HRQ
            replace BS := Lib.hid (BS.out.go hb5)
            replace D6 := Lib.hid (D6.out.trans (hb5.mono D6.out.size))
            replace HB0 := Lib.hid (Below.trans HB0.out (hb5.mono HB0.out.size))
            have HTB := Lib.hid htb
            clear htb
            clear hb5
            clear hSw
            have hSw : (fun w' : World => Blk w' (bs) 47 #[.bool s.N.b, .slice s.N.A s.N.n s.N.c, .bool s.D.b, .slice s.D.A s.D.n s.D.c] ∧ True) wq4 := ⟨BS.out, trivial⟩
            refine hK.out _ _ hSw ?_
            clear hK K
            refine wpAnyM_takeB 6 [7, 8, 9, 10] rfl (by kernel_rfl) (by kernel_rfl) (by kernel_rfl) (by kernel_rfl) (by kernel_rfl) (fun _ _ _ h => h) hSw (by kernel_rfl) (fun w' hSx => by have c0 := hSx.1.cell; have l0 := hSx.1.lt; go_simp; first | done | with_reducible rfl) ?_
            simp only [Act.put]
            refine wpAnyM_takeB 7 [9, 10] rfl (by kernel_rfl) (by kernel_rfl) (by kernel_rfl) (by kernel_rfl) (by kernel_rfl) (fun _ _ _ h => h) hSw (by kernel_rfl) (fun w' hSx => by have c0 := hSx.1.cell; have l0 := hSx.1.lt; go_simp; first | done | with_reducible rfl) ?_
            simp only [Act.put]
            refine wpAnyM_takeB 8 [10] rfl (by kernel_rfl) (by kernel_rfl) (by kernel_rfl) (by kernel_rfl) (by kernel_rfl) (fun _ _ _ h => h) hSw (by kernel_rfl) (fun w' hSx => by have c0 := hSx.1.cell; have l0 := hSx.1.lt; go_simp; first | done | with_reducible rfl) ?_
            simp only [Act.put]
            refine wpAnyM_takeB 9 [10] rfl (by kernel_rfl) (by kernel_rfl) (by kernel_rfl) (by kernel_rfl) (by kernel_rfl) (fun _ _ _ h => h) hSw (by kernel_rfl) (fun w' hSx => by have c0 := hSx.1.cell; have l0 := hSx.1.lt; go_simp; first | done | with_reducible rfl) ?_
            simp only [Act.put]
            refine wpAnyM_takeB 10 [] rfl (by kernel_rfl) (by kernel_rfl) (by kernel_rfl) (by kernel_rfl) (by kernel_rfl) (fun _ _ _ h => h) hSw (by kernel_rfl) (fun w' hSx => by have c0 := hSx.1.cell; have l0 := hSx.1.lt; go_simp; first | done | with_reducible rfl) ?_
            simp only [Act.put]
            refine wpAnyM_done (by kernel_rfl) ?_ _
            simp only [List.getElem_toArray, List.getElem_cons_succ, List.getElem_cons_zero]
            clear HB0 hSw
            cases tb
            · have BAD : ¬ ∃ ws', ws.map Pl.ratTxt = ws'.map Pl.ratTxt ∧ Pl.ShGood cents ws' := sh_bad fun h => by
                have h7 := h.efits
                rw [← HSE.out] at h7
                have := HTB.out.2 h7
                cases this
              have D8 := Lib.hid (D.out.trans (D6.out.mono D.out.size))
              go_wp2_with fail
              go_ret2
              exact ⟨.inl ⟨BAD, 2, by decide, rfl⟩, D8.out⟩
            · have HEF := Lib.hid (HTB.out.1 rfl)
              have D8 := Lib.hid (D.out.trans (D6.out.mono D.out.size))
              clear HTB
              go_wp2_with fail
              refine (round_any (some ⟨g, 0, none⟩) k k L (Pl.exact_ cents ws) wq4 (by omega) (HR0.out.go D6.out) HLX.out (fun q hq => Pl.rsz_fits (HEF.out q (List.mem_append_left _ hq)))).mono ?_
              rintro e wz ⟨hc, hb5⟩
              have D9 := Lib.hid (D8.out.trans (hb5.mono D8.out.size))
              clear hb5
              rcases hc with ⟨nok, er, her, rfl⟩ | ⟨hok, os, go, hde, hst, rfl, hrd⟩
              · have BAD : ¬ ∃ ws', ws.map Pl.ratTxt = ws'.map Pl.ratTxt ∧ Pl.ShGood cents ws' := sh_bad fun h => nok h.rnd
                have HER := Lib.hid her
                clear nok her
                go_wp2_with fail
                go_ret2
                exact ⟨.inl ⟨BAD, er, HER.out, rfl⟩, D9.out⟩
              · have OK := Lib.hid (And.intro hok (And.intro hde (And.intro hst hrd)))
                clear hok hde hst hrd
                have GOOD : Pl.ShGood cents ws := ⟨by have := HWN.out; omega, HF.out, by omega, by omega, HPOS.out, by have h7 := HZ.out; rwa [HSE.out] at h7, by have h7 := HEF.out; rwa [HSE.out] at h7, OK.out.1⟩
                go_wp2_with fail
                go_ret2
                refine ⟨.inr ⟨ws, rfl, GOOD, os, go, OK.out.2.1, OK.out.2.2.1, by rw [Pl.exact_len]; rfl, ?_⟩, D9.out⟩
                have h7 := OK.out.2.2.2
                rw [Pl.exact_len] at h7
                exact h7
          · go_simp
            have hb5 := below_one w19 (.cells #[.bool s.N.b, .slice s.N.A s.N.n s.N.c, .bool s.D.b, .slice s.D.A s.D.n s.D.c] 47)
            obtain ⟨gb, hg2⟩ : ∃ g : Nat, g = w19.heap.size := ⟨_, rfl⟩
            have BX := Lib.hid (Blk.new_ w19 gb 47 #[.bool s.N.b, .slice s.N.A s.N.n s.N.c, .bool s.D.b, .slice s.D.A s.D.n s.D.c] hg2)
            have hS_BX : w19.heap.size ≤ gb := by have := HB0.out.size; omega
            rw [← hg2]
            replace HB0 := Lib.hid (Below.trans HB0.out (hb5.mono HB0.out.size))
            clear hb5 hg2
            generalize w19.alloc (.cells #[.bool s.N.b, .slice s.N.A s.N.n s.N.c, .bool s.D.b, .slice s.D.A s.D.n s.D.c] 47) = wq5 at *
            clear hSw
            have hSw : (fun w' : World => Blk w' (bs) 47 #[.bool s.N.b, .slice s.N.A s.N.n s.N.c, .bool s.D.b, .slice s.D.A s.D.n s.D.c] ∧ True) wq5 := ⟨BS.out.go HB0.out, trivial⟩
            refine hK.out _ _ hSw ?_
            clear hK K
            refine wpAnyM_ready [1] (by kernel_rfl) (by simp) ?_
            refine AllReadyM.cons (by rfl) (fun K hK => ?_) AllReadyM.nil
            go_simp
            refine (clone_ratsB (some ⟨g, 0, none⟩) k k (rts L) wq5 wr.heap.size (by have := HB0.out.size; omega) (by omega) (HRW.out.go HB0.out).row (rts_one L)).mono ?_
            rintro e wq6 ⟨Ac, cc, rfl, how, hb5⟩
            replace BX := Lib.hid (BX.out.go hb5)
            replace HB0 := Lib.hid (Below.trans HB0.out (hb5.mono HB0.out.size))
            have OC := Lib.hid how
            clear how
            clear hb5
            clear hSw
            have hSw : (fun w' : World => Blk w' (bs) 47 #[.bool s.N.b, .slice s.N.A s.N.n s.N.c, .bool s.D.b, .slice s.D.A s.D.n s.D.c] ∧ True) wq6 := ⟨BS.out.go HB0.out, trivial⟩
            refine hK.out _ _ hSw ?_
            clear hK K
            refine wpAnyM_ready [4] (by kernel_rfl) (by simp) ?_
            refine AllReadyM.cons (by rfl) (fun K hK => ?_) AllReadyM.nil
            replace BS := Lib.hid (BS.out.go HB0.out)
            replace HRW := Lib.hid (HRW.out.go HB0.out)
            replace D5 := Lib.hid (D5.out.trans (HB0.out.mono D5.out.size))
            refine step_append_any _ (by rfl) _ _ _ (by rfl) wr.heap.size 47 i0 _ 4 64 Tryz.underlying40 hi0 hz0 hz1 hz2 rfl (by decide) (.slice Ac k cc) k (rts L) (by rfl) OC.out wq6.heap.size (some ⟨gb, 0, none⟩) 1 1 [.bool s.N.b, .slice s.N.A s.N.n s.N.c, .bool s.D.b, .slice s.D.A s.D.n s.D.c] (by rfl) (by have := blk_readsS (size := 4) BX.out rfl; simpa using this) (by intro u hu; simp only [List.mem_cons, List.not_mem_nil, or_false] at hu; rcases hu with rfl | rfl | rfl | rfl <;> rfl) (by unfold maxLen; omega) (by omega) D5.out.size ?_
            intro v' wq7 hown3 hg3 _
            obtain ⟨A3, c3, rfl, hrd3⟩ := own_slice hown3
            have D6 := Lib.hid (below_grown D5.out hg3 OC.out (Nat.le_refl _) D5.out.size)
            have HRQ : Hid (RatsIs wq7 wq7.heap.size A3 (k + 1) (L ++ [(S, s)])) := by
              refine ⟨?_, fun x hx => ?_⟩
              · rw [← rts_snoc]; exact hrd3
              · rw [List.mem_append, List.mem_singleton] at hx
                rcases hx with hx | hx
                · exact (HR0.out.each x hx).go D6.out
                · subst hx; exact HS0.out.go D6.out
            have HLQ : Hid ((L ++ [(S, s)]).map (·.1) = Pl.exact_ cents ws ++ [S]) := by show _ = _; rw [List.map_append, HLX.out]; rfl
            clear hown3 hg3 hrd3 OC BX BS D5 HRW
            have BS := Lib.hid (BSQ.out.go D6.out)
            replace HB0 := Lib.hid (Below.refl wq7.heap.size wq7)
            clear hSw
            have hSw : (fun w' : World => Blk w' (bs) 47 #[.bool s.N.b, .slice s.N.A s.N.n s.N.c, .bool s.D.b, .slice s.D.A s.D.n s.D.c] ∧ True) wq7 := ⟨BS.out, trivial⟩
            refine hK.out _ _ hSw ?_
            clear hK K
            refine wpAnyM_ready [5] (by kernel_rfl) (by simp) ?_
            refine AllReadyM.cons (by rfl) (fun K hK => ?_) AllReadyM.nil
            go_simp
            refine (texts_any A3 (k + 1) c3 (L ++ [(S, s)]) (Pl.exact_ cents ws ++ [S]) wq7 (by omega) HRQ.out HLQ.out (HL0.out.go D6.out)).mono ?_
            rintro e wq8 ⟨tv, tb, rfl, htb, hb5⟩
            clear HRQ
            replace BS := Lib.hid (BS.out.go hb5)
            replace D6 := Lib.hid (D6.out.trans (hb5.mono D6.out.size))
            replace HB0 := Lib.hid (Below.trans HB0.out (hb5.mono HB0.out.size))
            have HTB := Lib.hid htb
            clear htb
            clear hb5
            clear hSw
            have hSw : (fun w' : World => Blk w' (bs) 47 #[.bool s.N.b, .slice s.N.A s.N.n s.N.c, .bool s.D.b, .slice s.D.A s.D.n s.D.c] ∧ True) wq8 := ⟨BS.out, trivial⟩
            refine hK.out _ _ hSw ?_
            clear hK K
            refine wpAnyM_takeB 6 [7, 8, 9, 10] rfl (by kernel_rfl) (by kernel_rfl) (by kernel_rfl) (by kernel_rfl) (by kernel_rfl) (fun _ _ _ h => h) hSw (by kernel_rfl) (fun w' hSx => by have c0 := hSx.1.cell; have l0 := hSx.1.lt; go_simp; first | done | with_reducible rfl) ?_
            simp only [Act.put]
            refine wpAnyM_takeB 7 [9, 10] rfl (by kernel_rfl) (by kernel_rfl) (by kernel_rfl) (by kernel_rfl) (by kernel_rfl) (fun _ _ _ h => h) hSw (by kernel_rfl) (fun w' hSx => by have c0 := hSx.1.cell; have l0 := hSx.1.lt; go_simp; first | done | with_reducible rfl) ?_
            simp only [Act.put]
            refine wpAnyM_takeB 8 [10] rfl (by kernel_rfl) (by kernel_rfl) (by kernel_rfl) (by kernel_rfl) (by kernel_rfl) (fun _ _ _ h => h) hSw (by kernel_rfl) (fun w' hSx => by have c0 := hSx.1.cell; have l0 := hSx.1.lt; go_simp; first | done | with_reducible rfl) ?_
            simp only [Act.put]
            refine wpAnyM_takeB 9 [10] rfl (by kernel_rfl) (by kernel_rfl) (by kernel_rfl) (by kernel_rfl) (by kernel_rfl) (fun _ _ _ h => h) hSw (by kernel_rfl) (fun w' hSx => by have c0 := hSx.1.cell; have l0 := hSx.1.lt; go_simp; first | done | with_reducible rfl) ?_
            simp only [Act.put]
            refine wpAnyM_takeB 10 [] rfl (by kernel_rfl) (by kernel_rfl) (by kernel_rfl) (by kernel_rfl) (by kernel_rfl) (fun _ _ _ h => h) hSw (by kernel_rfl) (fun w' hSx => by have c0 := hSx.1.cell; have l0 := hSx.1.lt; go_simp; first | done | with_reducible rfl) ?_
            simp only [Act.put]
            refine wpAnyM_done (by kernel_rfl) ?_ _
            simp only [List.getElem_toArray, List.getElem_cons_succ, List.getElem_cons_zero]
            clear HB0 hSw
            cases tb
            · have BAD : ¬ ∃ ws', ws.map Pl.ratTxt = ws'.map Pl.ratTxt ∧ Pl.ShGood cents ws' := sh_bad fun h => by
                have h7 := h.efits
                rw [← HSE.out] at h7
                have := HTB.out.2 h7
                cases this
              have D8 := Lib.hid (D.out.trans (D6.out.mono D.out.size))
              go_wp2_with fail
              go_ret2
              exact ⟨.inl ⟨BAD, 2, by decide, rfl⟩, D8.out⟩
            · have HEF := Lib.hid (HTB.out.1 rfl)
              have D8 := Lib.hid (D.out.trans (D6.out.mono D.out.size))
              clear HTB
              go_wp2_with fail
              refine (round_any (some ⟨g, 0, none⟩) k k L (Pl.exact_ cents ws) wq8 (by omega) (HR0.out.go D6.out) HLX.out (fun q hq => Pl.rsz_fits (HEF.out q (List.mem_append_left _ hq)))).mono ?_
              rintro e wz ⟨hc, hb5⟩
              have D9 := Lib.hid (D8.out.trans (hb5.mono D8.out.size))
              clear hb5
              rcases hc with ⟨nok, er, her, rfl⟩ | ⟨hok, os, go, hde, hst, rfl, hrd⟩
              · have BAD : ¬ ∃ ws', ws.map Pl.ratTxt = ws'.map Pl.ratTxt ∧ Pl.ShGood cents ws' := sh_bad fun h => nok h.rnd
                have HER := Lib.hid her
                clear nok her
                go_wp2_with fail
                go_ret2
                exact ⟨.inl ⟨BAD, er, HER.out, rfl⟩, D9.out⟩
              · have OK := Lib.hid (And.intro hok (And.intro hde (And.intro hst hrd)))
                clear hok hde hst hrd
                have GOOD : Pl.ShGood cents ws := ⟨by have := HWN.out; omega, HF.out, by omega, by omega, HPOS.out, by have h7 := HZ.out; rwa [HSE.out] at h7, by have h7 := HEF.out; rwa [HSE.out] at h7, OK.out.1⟩
                go_wp2_with fail
                go_ret2
                refine ⟨.inr ⟨ws, rfl, GOOD, os, go, OK.out.2.1, OK.out.2.2.1, by rw [Pl.exact_len]; rfl, ?_⟩, D9.out⟩
                have h7 := OK.out.2.2.2
                rw [Pl.exact_len] at h7
                exact h7
  · have h4 : (E != 0) = true := by simpa using h3
    have BAD : ¬ ∃ ws', ls = ws'.map Pl.ratTxt ∧ Pl.ShGood cents ws' := by
      rintro ⟨ws, e, h⟩
      refine h3 (HE.out.trans ?_)
      rw [e]
      exact Pl.rats_map h.fits
    have HE2 := Lib.hid h3
    clear h3
    go_wp2_with fail
    go_ret2
    exact ⟨.inl ⟨BAD, E, HE2.out, rfl⟩, D.out⟩
end Go.Proofs.YtgdbodnfibiafaaGreatDoor
