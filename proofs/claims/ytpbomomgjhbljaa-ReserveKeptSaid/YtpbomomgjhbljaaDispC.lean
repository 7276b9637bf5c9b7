/- dispatch.Cost gives what its plain function gives; the example served. No condition. -/
import Derived.Test.YtpbomomgjhbljaaDispB
import Derived.Test.YtpbomomgjhbljaaPDispC
import Derived.Test.YtpbomomgjhbljaaOfferC
namespace Go.Proofs.Ytpbomomgjhbljaa
open Go.RowKit
theorem Reads.drewS2 {w : World} {size n : Nat} {A : Option Addr} {xs : List Value} (h : Reads w w.heap.size size A n xs) : Reads w.drew w.drew.heap.size size A n xs := h
theorem plo_name {l : List MOff} {k : Nat} (hk : k < l.length) : Pl.nameK (plo l) k = l[k].nm := by
  unfold Pl.nameK
  rw [List.getD_eq_getElem?_getD, List.getElem?_eq_getElem (by rw [plo_len]; exact hk), plo_at hk]
  rfl
set_option maxHeartbeats 3200000 in
set_option maxRecDepth 100000 in
theorem dCost_any (A B : Option Addr) (n c m e' : Nat) (l : List MOff) (ps : List Int) (w : World) (hcap : n ≤ c) (h : Offs w A n l) (hp : Reads w w.heap.size 1 B m (ints ps)) :
    Calls Try.prog 29 #[.slice A n c, .slice B m e'] w (ThreeSaid (Pl.dCost (plo l) ps) w) := by
  have L1 := Lib.hid h.len
  have L2 := Lib.hid hp.int_len
  have H := Lib.hid h
  have HC := Lib.hid (oall_any A n c l w hcap h)
  clear h
  unfold ThreeSaid
  by_cases h0 : Pl.oall (plo l) = 0
  · have HG := Lib.hid (fun k hk => Pl.steps_good h0 k hk)
    rw [plo_len, L1.out] at HG
    have HBD := Lib.hid (fun k hk hj => Pl.costK_bd (ps := ps) h0 k hk hj)
    rw [plo_len, L1.out] at HBD
    have HOC := Lib.hid (fun k hk => Pl.check_at h0 (k := k) hk)
    rw [plo_len, L1.out] at HOC
    obtain ⟨g1, _⟩ := Pl.oall_good h0
    have hn10 : n ≤ 10 := by have := L1.out; rw [plo_len] at g1; omega
    by_cases hm : m = n
    · obtain rfl : n = m := hm.symm
      have HF : Hid (∀ k, k ≤ n → Pl.derrK (plo l) ps k ≠ 0 → Pl.dCost (plo l) ps = (0, 0, Pl.derrK (plo l) ps k)) := fun k hk he => by
        have e1 := Pl.derrK_stay hk he
        unfold Pl.dCost
        rw [if_neg (by simpa using h0), plo_len, L1.out, L2.out, if_neg (by simp), if_pos (by rw [e1]; exact he), e1]
      have HF2 : Hid (Pl.derrK (plo l) ps n = 0 → Pl.dCost (plo l) ps = (Pl.costK (plo l) ps n, Pl.powK ps n, 0)) := fun he => by
        unfold Pl.dCost
        rw [if_neg (by simpa using h0), plo_len, L1.out, L2.out, if_neg (by simp), if_neg (by simpa using he)]
      have hne : ((n : Int) != (n : Int)) = false := by simp
      rw [h0] at HC
      clear h0 g1
      generalize Pl.dCost (plo l) ps = R at *
      go_enter Try.func29, Try.ntmps29
      go_wp2_with fail
      refine HC.out.mono ?_
      rintro e w1 ⟨rfl, hb⟩
      have HB1 := Lib.hid hb
      clear hb
      go_wp2_with fail
      go_loopw [8, 9, 26] (fun v1 v2 i wr => ∃ k : Nat, k ≤ n ∧ i = .int .i64 k ∧ v1 = .int .i64 (Pl.costK (plo l) ps k) ∧ v2 = .int .i64 (Pl.powK ps k) ∧ Hid (Pl.derrK (plo l) ps k = 0) ∧ Hid (Below w.heap.size w wr)) (fun _ _ i _ => n - (intOf i).toNat)
      case atStart => exact ⟨0, Nat.zero_le _, rfl, rfl, rfl, rfl, HB1⟩
      case round =>
        clear HB1
        obtain ⟨k, hk, rfl, rfl, rfl, HZ, HB⟩ := hrel
        have HPRE : Hid (∀ j, j < k → 0 ≤ ps.getD j 0 ∧ ps.getD j 0 ≤ Pl.total (Pl.steps (plo l) j)) := fun j hj => by
          obtain ⟨_, _, h4, h5, _⟩ := Pl.opcheck_ok (Pl.derrK_pre HZ.out j hj)
          exact ⟨h4, h5⟩
        obtain ⟨b1, b2, b3, b4⟩ := HBD.out k hk HPRE.out
        by_cases hlt : k < n
        · obtain ⟨b, o, rfl, hl1, c1, c2, hin⟩ := (H.out.go HB.out).at_ hlt
          obtain ⟨b', o', rfl, hl2, q1⟩ := (hp.go HB.out).int_at hlt
          have HQ : Hid (∀ w', Below w.heap.size w w' → w'.cell? ⟨b', o' + k, none⟩ = some (.int .i64 ps[k])) := fun w' hb => by
            obtain ⟨b2, o2, e, hl, hc⟩ := (hp.go hb).int_at hlt
            injection e with e; injection e with e1 e2; subst e1 e2; exact hc
          have hxe : ps.getD k 0 = ps[k] := by rw [List.getD_eq_getElem?_getD, List.getElem?_eq_getElem hl2]; rfl
          obtain ⟨s1, s2⟩ := HG.out k hlt
          have HS1 : Hid (Pl.costK (plo l) ps (k + 1) = Pl.costK (plo l) ps k + Pl.costR (Pl.steps (plo l) k) (ps.getD k 0)) := rfl
          have HS2 : Hid (Pl.powK ps (k + 1) = Pl.powK ps k + ps.getD k 0) := rfl
          have HS3 : Hid (Pl.derrK (plo l) ps (k + 1) = Pl.opcheck (Pl.nameK (plo l) k) (Pl.steps (plo l) k) (ps.getD k 0)) := by show _ = _; rw [Pl.derrK, if_pos HZ.out]
          have hoc := HOC.out k hlt
          rw [hxe, plo_steps hl1] at HS1
          rw [hxe] at HS2
          rw [hxe, plo_steps hl1, plo_name hl1] at HS3
          rw [plo_steps hl1, plo_name hl1] at hoc
          rw [plo_steps hl1] at s1 s2
          have HFE : Hid (Pl.opcheck l[k].nm l[k].st ps[k] ≠ 0 → R = (0, 0, Pl.opcheck l[k].nm l[k].st ps[k])) := fun he => by
            have := HF.out (k + 1) hlt (by rw [HS3.out]; exact he)
            rw [HS3.out] at this
            exact this
          have HIN := Lib.hid hin
          have HGO := Lib.hid s1
          have HCST := Lib.hid (fun (w : World) (hq : Reads w w.heap.size 2 l[k].A l[k].n (pairs l[k].st)) => oCost_any l[k].nm l[k].A l[k].n l[k].c l[k].st ps[k] w HIN.out.1 hq)
          have HOK := Lib.hid hoc
          clear hin s1 s2 hxe hoc
          generalize ps[k] = x at *
          generalize l[k] = z at *
          obtain ⟨nm, Az, nz, cz, st⟩ := z
          unfold vOff TwoSaid at HCST
          simp only at c1 c2 HCST HS1 HS2 HS3 HGO HFE HOK
          have HBN := Lib.hid (HB.out.alloc HB.out.size (.cells #[.string nm, .slice Az nz cz] 57))
          have BN := Lib.hid (Blk.new_ wr wr.heap.size 57 #[.string nm, .slice Az nz cz] rfl)
          have q4 : (wr.alloc (.cells #[.string nm, .slice Az nz cz] 57)).cell? ⟨b', o' + k, none⟩ = some (.int .i64 x) := by rw [World.cell?_alloc_some _ _ _ (by rw [q1]; rfl)]; exact q1
          have HIN2 := Lib.hid (HIN.out.2.2.go ((Below.refl _ _).alloc (Nat.le_refl _) (.cells #[.string nm, .slice Az nz cz] 57)))
          have k1 : (0 : Int) ≤ (k : Int) := by omega
          have k2 : (k : Int) < (n : Int) := by omega
          go_wp2_with fail
          clear c1 c2 q1 HB HIN
          generalize wr.alloc (.cells #[.string nm, .slice Az nz cz] 57) = w2 at *
          generalize wr.heap.size = bn at *
          have p0 : w2.cell? ⟨bn, 0, none⟩ = some (.string nm) := BN.out.cell 0
          have p1 : w2.cell? ⟨bn, 1, none⟩ = some (.slice Az nz cz) := BN.out.cell 1
          by_cases ho : Pl.opcheck nm st x = 0
          · have HX : Hid (Pl.oCost nm st x = (Pl.costR st x, 0)) := by show _ = _; unfold Pl.oCost; rw [if_neg (by simpa using ho), Pl.ocost_eq]
            obtain ⟨_, _, x0, x1, _⟩ := Pl.opcheck_ok ho
            have xs := HGO.out.sum
            obtain ⟨y0, y1⟩ := Pl.costR_bd HGO.out x x0 x1
            have x2 : x ≤ 100000 := by omega
            rw [HX.out] at HCST
            rw [ho] at HS3
            clear ho x1 xs
            generalize Pl.costR st x = y at *
            generalize Pl.costK (plo l) ps k = ck at *
            generalize Pl.powK ps k = pk at *
            go_region_with (go_at_call 63; refine (HCST.out w2.drew (HIN2.out.drewS2)).mono ?_; rintro e w3 ⟨rfl, hb⟩; have HB3 := Lib.hid (HBN.out.drew.trans (hb.mono HBN.out.drew.size)); clear hb)
            all_goals
              have q5 := HQ.out w3 HB3.out
              go_wp2_with fail
              go_roundw
              case rel => exact ⟨k + 1, by omega, by go_num, by rw [HS1.out], by rw [HS2.out], HS3, HB3⟩
              case measure => simp [intOf]; omega
          · have HX : Hid (Pl.oCost nm st x = (0, Pl.opcheck nm st x)) := by show _ = _; unfold Pl.oCost; rw [if_pos ho]
            have HE := Lib.hid (HFE.out ho)
            have hu : (Pl.opcheck nm st x != 0) = true := by simpa using ho
            rw [HX.out] at HCST
            clear ho HFE
            generalize Pl.opcheck nm st x = u at *
            go_region_with (go_at_call 63; refine (HCST.out w2.drew (HIN2.out.drewS2)).mono ?_; rintro e w3 ⟨rfl, hb⟩; have HB3 := Lib.hid (HBN.out.drew.trans (hb.mono HBN.out.drew.size)); clear hb)
            all_goals
              go_wp2_with fail
              go_ret3
              exact ⟨by rw [HE.out]; rfl, HB3.out⟩
        · have : k = n := by omega
          subst this
          have HE := Lib.hid (HF2.out HZ.out)
          go_wp2_with fail
          go_ret3
          exact ⟨by rw [HE.out]; rfl, HB.out⟩
    · have HF : Hid (Pl.dCost (plo l) ps = (0, 0, 3)) := by show _ = _; unfold Pl.dCost; rw [if_neg (by simpa using h0), plo_len, L1.out, L2.out, if_pos hm]
      have hne : ((m : Int) != (n : Int)) = true := by simp; omega
      rw [h0] at HC
      clear h0 g1 hm
      go_enter Try.func29, Try.ntmps29
      go_wp2_with fail
      refine HC.out.mono ?_
      rintro e w1 ⟨rfl, hb⟩
      have HB1 := Lib.hid hb
      clear hb
      go_wp2_with fail
      go_ret3
      exact ⟨by rw [HF.out]; rfl, HB1.out⟩
  · have HF : Hid (Pl.dCost (plo l) ps = (0, 0, Pl.oall (plo l))) := by show _ = _; unfold Pl.dCost; rw [if_pos h0]
    have h2 : (Pl.oall (plo l) != 0) = true := by simpa using h0
    clear h0
    generalize Pl.oall (plo l) = u at *
    go_enter Try.func29, Try.ntmps29
    go_wp2_with fail
    refine HC.out.mono ?_
    rintro e w1 ⟨rfl, hb⟩
    have HB1 := Lib.hid hb
    clear hb
    go_wp2_with fail
    go_ret3
    exact ⟨by rw [HF.out]; rfl, HB1.out⟩
end Go.Proofs.Ytpbomomgjhbljaa
