/- The law DispatchPrices: for all valid lengths the call returns true, and old memory is left as it is. No condition. -/
import Derived.Test.YtpbomomgjhbljaaDispD
import Derived.Test.YtpbomomgjhbljaaServed
import Derived.Test.YtpbomomgjhbljaaWithin
import Derived.Test.YtpbomomgjhbljaaOfferE
namespace Go.Proofs.Ytpbomomgjhbljaa
open Go.RowKit
set_option maxHeartbeats 3200000 in
set_option maxRecDepth 100000 in
theorem dispatchPrices_walk (A : Option Addr) (n c : Nat) (l : List MOff) (d at0 : Int) (w : World) (hcap : n ≤ c) (h : Offs w A n l) :
    Calls Try.prog 8 #[.slice A n c, .int .i64 d, .int .i64 at0] w fun e w' => e = .returned (.bool true) ∧ Below w.heap.size w w' := by
  have L1 := Lib.hid h.len
  have H := Lib.hid h
  clear h
  go_enter Try.func8, Try.ntmps8
  go_wp2_with fail
  refine (served_any _).mono ?_
  rintro e w1 ⟨rfl, hb⟩
  have HB1 := Lib.hid hb
  clear hb
  go_wp2_with fail
  by_cases h0 : Pl.dcheck (plo l) d = 0
  · refine (best_good A n c l d w1 hcap (H.out.go HB1.out) h0).mono ?_
    rintro e w2 ⟨A2, ps, cost, p, rfl, hs, _, hc1, hc2, hr, hb⟩
    have HB2 := Lib.hid (HB1.out.trans (hb.mono HB1.out.size))
    have HR := Lib.hid hr
    have HS := Lib.hid hs
    have HP := Lib.hid (price_good A n c l d w2 hcap (H.out.go HB2.out) h0)
    obtain ⟨h1, _, _, _⟩ := Pl.dcheck_ok h0
    have HG := Lib.hid (fun k hk => (Pl.steps_good h1 k hk).1)
    have HOC := Lib.hid (fun k hk => Pl.check_at h1 (k := k) hk)
    rw [plo_len, L1.out] at HG HOC
    obtain ⟨g1, _⟩ := Pl.oall_good h1
    have hn10 : n ≤ 10 := by have := L1.out; rw [plo_len] at g1; omega
    clear h0 hs hb hr HB1 h1 g1
    go_wp2_with fail
    refine HP.out.mono ?_
    rintro e w3 ⟨lo, hi, qs, cost2, p2, rfl, hs2, hlo, hhi, hb⟩
    have HB3 := Lib.hid (HB2.out.trans (hb.mono HB2.out.size))
    have HR3 := Lib.hid (HR.out.go hb)
    have hle := Pl.prices_le HG.out hs2
    have hbd := Pl.plo_bd (plo l) qs n
    rw [← hlo, ← hhi] at hle
    rw [← hlo, ← hhi] at hbd
    have hPi := Pl.withinF_bd at0 lo hi hle
    have HAT : Hid (∀ P, lo ≤ P → P ≤ hi → ∀ k, k < n → Pl.leastR P (Pl.steps (plo l) k) ≤ ps.getD k 0 ∧ ps.getD k 0 ≤ Pl.mostR P (Pl.steps (plo l) k)) := fun P a b => by
      have := (Pl.prices_at HG.out hs2 P).1 ⟨by rw [← hlo]; exact a, by rw [← hhi]; exact b⟩
      exact Pl.served_same HG.out HS.out hs2 this.2.2
    have HW := Lib.hid (fun w => within_any2 at0 lo hi w hle (by omega) (by omega))
    generalize Pl.withinF at0 lo hi = P at *
    have HAT2 := Lib.hid (HAT.out P hPi.1 hPi.2)
    have HOK := Lib.hid (fun A c w h => fine_any A 2 c [0, 0] w.heap.size w (by omega) h)
    clear hlo hhi hs2 HS HAT HP hb HB2 HR
    go_wp2_with fail
    have HB4 := Lib.hid (HB3.out.alloc HB3.out.size (.cells #[.int .i64 0, .int .i64 0] 23))
    have HR4 := Lib.hid (HR3.out.go ((Below.refl w3.heap.size w3).alloc (Nat.le_refl _) (.cells #[.int .i64 0, .int .i64 0] 23)))
    refine (HOK.out _ _ _ (Reads.lit w3 #[.int .i64 0, .int .i64 0] 23 2 1 _ rfl rfl)).mono ?_
    rintro e w4 ⟨rfl, rfl⟩
    rw [show allOk [0, 0] = true from rfl]
    clear HB3 HR3 HOK
    generalize w3.alloc (.cells #[.int .i64 0, .int .i64 0] 23) = w4 at *
    go_wp2_with fail
    refine (HW.out _).mono ?_
    rintro e w5 ⟨rfl, rfl⟩
    go_wp2_with fail
    go_loopw [49] (fun i wr => ∃ k : Nat, k ≤ n ∧ i = .int .i64 k ∧ Hid (Below w4.heap.size w4 wr)) (fun i _ => n - (intOf i).toNat)
    case atStart => exact ⟨0, Nat.zero_le _, rfl, Below.refl _ _⟩
    case round =>
      obtain ⟨k, hk, rfl, HB⟩ := hrel
      have HBW := Lib.hid (HB4.out.trans (HB.out.mono HB4.out.size))
      by_cases hlt : k < n
      · obtain ⟨b, o, rfl, hl1, c1, c2, hin⟩ := (H.out.go HBW.out).at_ hlt
        obtain ⟨b', o', rfl, hl2, _⟩ := HR4.out.int_at hlt
        have HQ : Hid (∀ w', Below w4.heap.size w4 w' → w'.cell? ⟨b', o' + k, none⟩ = some (.int .i64 ps[k])) := fun w' hb => by
          obtain ⟨b2, o2, e, hl, hc⟩ := (HR4.out.go hb).int_at hlt
          injection e with e; injection e with e1 e2; subst e1 e2; exact hc
        have hxe : ps.getD k 0 = ps[k] := by rw [List.getD_eq_getElem?_getD, List.getElem?_eq_getElem hl2]; rfl
        obtain ⟨a1, a2⟩ := HAT2.out k hlt
        have hoc := HOC.out k hlt
        rw [plo_steps hl1, plo_name hl1] at hoc
        rw [hxe, plo_steps hl1] at a1 a2
        have HSU : Hid (Pl.oSupply l[k].nm l[k].st P = (Pl.leastR P l[k].st, Pl.mostR P l[k].st, 0)) := by
          show _ = _
          unfold Pl.oSupply
          have : Pl.opprice l[k].nm l[k].st P = 0 := by unfold Pl.opprice; rw [if_neg (by simpa using hoc), if_neg (by omega)]
          rw [if_neg (by simpa using this)]
        have HIN := Lib.hid hin
        have HMG := Lib.hid (fun (w : World) (hq : Reads w w.heap.size 2 l[k].A l[k].n (pairs l[k].st)) => oSupply_any l[k].nm l[k].A l[k].n l[k].c l[k].st P w HIN.out.1 hq)
        rw [HSU.out] at HMG
        clear hin hxe hoc HSU
        generalize Pl.leastR P l[k].st = ra at *
        generalize Pl.mostR P l[k].st = rb at *
        generalize ps[k] = x at *
        generalize l[k] = z at *
        obtain ⟨nm, Az, nz, cz, st⟩ := z
        unfold vOff ThreeSaid at HMG
        simp only at c1 c2 HMG
        have HBN := Lib.hid (HB.out.alloc HB.out.size (.cells #[.string nm, .slice Az nz cz] 57))
        have k1 : (0 : Int) ≤ (k : Int) := by omega
        have k2 : (k : Int) < (n : Int) := by omega
        go_wp2_with fail
        refine (HMG.out _ (HIN.out.2.2.go ((Below.refl _ _).alloc (Nat.le_refl _) _))).mono ?_
        rintro e w6 ⟨rfl, hb⟩
        have HB6 := Lib.hid (HBN.out.trans (hb.mono HBN.out.size))
        have q5 := HQ.out w6 HB6.out
        clear hb c1 c2 HMG HIN HB HBN HBW
        go_wp2_with fail
        go_roundw
        case rel => exact ⟨k + 1, by omega, by go_num, HB6⟩
        case measure => simp [intOf]; omega
      · have : k = n := by omega
        subst this
        go_wp2_with fail
        go_ret
        exact ⟨rfl, HBW.out⟩
  · have hne : (Pl.dcheck (plo l) d == Pl.dcheck (plo l) d) = true := by simp
    have HP := Lib.hid (fun w hh => price_bad A n c l d w hcap hh h0)
    refine (best_bad A n c l d w1 hcap (H.out.go HB1.out) h0).mono ?_
    rintro e w3 ⟨rfl, hb⟩
    have HB4 := Lib.hid (HB1.out.trans (hb.mono HB1.out.size))
    have hf : allOk [Pl.dcheck (plo l) d, Pl.dcheck (plo l) d] = false := by
      cases h : allOk [Pl.dcheck (plo l) d, Pl.dcheck (plo l) d]
      · rfl
      · rw [allOk_true] at h
        exact absurd (h _ (by simp)) h0
    have HOK := Lib.hid (fun A c w h => fine_any A 2 c [Pl.dcheck (plo l) d, Pl.dcheck (plo l) d] w.heap.size w (by omega) h)
    rw [hf] at HOK
    clear h0 hb hf
    generalize Pl.dcheck (plo l) d = u at *
    go_wp2_with fail
    refine (HP.out w3 (H.out.go HB4.out)).mono ?_
    rintro e w4 ⟨rfl, hb⟩
    have HB5 := Lib.hid (HB4.out.trans (hb.mono HB4.out.size))
    clear hb
    go_wp2_with fail
    refine (HOK.out _ _ _ (Reads.lit w4 #[.int .i64 u, .int .i64 u] 23 2 1 _ rfl rfl)).mono ?_
    rintro e w5 ⟨rfl, rfl⟩
    go_wp2_with fail
    go_ret
    exact ⟨rfl, HB5.out.alloc HB5.out.size _⟩
end Go.Proofs.Ytpbomomgjhbljaa
