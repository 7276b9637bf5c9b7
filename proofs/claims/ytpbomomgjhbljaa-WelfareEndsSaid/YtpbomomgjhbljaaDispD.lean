/- dispatch.Price: its prices are those at which the powers are best. No condition. -/
import Derived.Test.YtpbomomgjhbljaaDispC
import Derived.Test.YtpbomomgjhbljaaPDispD
namespace Go.Proofs.Ytpbomomgjhbljaa
open Go.RowKit
def PriceSaid (l : List Pl.Off) (n : Nat) (d : Int) (w : World) (e : Ending) (w' : World) : Prop :=
  ∃ lo hi ps cost p, e = .returned (.tuple #[.int .i64 lo, .int .i64 hi, .int .i64 0]) ∧ Pl.Served l n d ps cost p ∧ lo = Pl.plo_ l ps n ∧ hi = Pl.phi_ l ps n ∧ Below w.heap.size w w'
theorem price_bad (A : Option Addr) (n c : Nat) (l : List MOff) (d : Int) (w : World) (hcap : n ≤ c) (h : Offs w A n l) (h0 : Pl.dcheck (plo l) d ≠ 0) :
    Calls Try.prog 30 #[.slice A n c, .int .i64 d] w fun e w' => e = .returned (.tuple #[.int .i64 0, .int .i64 0, .int .i64 (Pl.dcheck (plo l) d)]) ∧ Below w.heap.size w w' := by
  have HC := Lib.hid (best_bad A n c l d w hcap h h0)
  have h2 : (Pl.dcheck (plo l) d != 0) = true := by simpa using h0
  clear h0 h
  generalize Pl.dcheck (plo l) d = u at *
  go_enter Try.func30, Try.ntmps30
  go_wp2_with fail
  refine HC.out.mono ?_
  rintro e w1 ⟨rfl, hb⟩
  have HB1 := Lib.hid hb
  clear hb
  go_wp2_with fail
  go_ret3
  exact ⟨rfl, HB1.out⟩
set_option maxHeartbeats 3200000 in
set_option maxRecDepth 100000 in
theorem price_good (A : Option Addr) (n c : Nat) (l : List MOff) (d : Int) (w : World) (hcap : n ≤ c) (h : Offs w A n l) (h0 : Pl.dcheck (plo l) d = 0) :
    Calls Try.prog 30 #[.slice A n c, .int .i64 d] w (PriceSaid (plo l) n d w) := by
  have HC := Lib.hid (best_good A n c l d w hcap h h0)
  obtain ⟨h1, _, _, _⟩ := Pl.dcheck_ok h0
  have L1 := Lib.hid h.len
  have H := Lib.hid h
  have HG := Lib.hid (fun k hk => (Pl.steps_good h1 k hk).1)
  have HOC := Lib.hid (fun k hk => Pl.check_at h1 (k := k) hk)
  rw [plo_len, L1.out] at HG HOC
  obtain ⟨g1, _⟩ := Pl.oall_good h1
  have hn10 : n ≤ 10 := by have := L1.out; rw [plo_len] at g1; omega
  clear h h0 h1 g1
  go_enter Try.func30, Try.ntmps30
  go_wp2_with fail
  refine HC.out.mono ?_
  rintro e w1 ⟨A2, ps, cost, p, rfl, hs, _, hc1, hc2, hr, hb⟩
  have HS := Lib.hid hs
  have HB1 := Lib.hid hb
  have HR := Lib.hid hr
  have HX : Hid (∀ k, k < n → 0 ≤ ps.getD k 0 ∧ ps.getD k 0 ≤ Pl.total (Pl.steps (plo l) k)) := fun k hk => by
    have := HS.out.at_ k hk
    have := Pl.least_most (P := p) (fun q hq => ((HG.out k hk).step q hq).1)
    omega
  clear hs hb hr HC
  go_wp2_with fail
  go_loopw [10, 11, 29] (fun v1 v2 i wr => ∃ (k : Nat) (lo hi : Int), k ≤ n ∧ i = .int .i64 k ∧ v1 = .int .i64 lo ∧ v2 = .int .i64 hi ∧ Hid (lo = Pl.plo_ (plo l) ps k) ∧ Hid (hi = Pl.phi_ (plo l) ps k) ∧ Hid (Below w1.heap.size w1 wr)) (fun _ _ i _ => n - (intOf i).toNat)
  case atStart => exact ⟨0, -2000000, 2000000, Nat.zero_le _, rfl, rfl, rfl, rfl, rfl, Below.refl _ _⟩
  case round =>
    obtain ⟨k, lo, hi, hk, rfl, rfl, rfl, HLO, HHI, HB⟩ := hrel
    have HBW := Lib.hid (HB1.out.trans (HB.out.mono HB1.out.size))
    by_cases hlt : k < n
    · obtain ⟨b, o, rfl, hl1, c1, c2, hin⟩ := (H.out.go HBW.out).at_ hlt
      obtain ⟨b', o', rfl, hl2, q1⟩ := (HR.out.go HB.out).int_at hlt
      have hxe : ps.getD k 0 = ps[k] := by rw [List.getD_eq_getElem?_getD, List.getElem?_eq_getElem hl2]; rfl
      have HL2 : Hid (Pl.plo_ (plo l) ps (k + 1) = max lo (Pl.marg ps[k] 0 (-2000000) l[k].st).1) := by show _ = _; rw [Pl.plo_, ← HLO.out, hxe, plo_steps hl1]
      have HH2 : Hid (Pl.phi_ (plo l) ps (k + 1) = min hi (Pl.marg ps[k] 0 (-2000000) l[k].st).2) := by show _ = _; rw [Pl.phi_, ← HHI.out, hxe, plo_steps hl1]
      have hoc := HOC.out k hlt
      obtain ⟨x0, x1⟩ := HX.out k hlt
      rw [plo_steps hl1, plo_name hl1] at hoc
      rw [hxe, plo_steps hl1] at x1
      rw [hxe] at x0
      have HOM : Hid (Pl.oMarg l[k].nm l[k].st ps[k] = ((Pl.marg ps[k] 0 (-2000000) l[k].st).1, (Pl.marg ps[k] 0 (-2000000) l[k].st).2, 0)) := by
        show _ = _
        unfold Pl.oMarg
        have : Pl.opcheck l[k].nm l[k].st ps[k] = 0 := by unfold Pl.opcheck; rw [if_neg (by simpa using hoc), if_neg (by omega)]
        rw [if_neg (by simpa using this)]
      have HIN := Lib.hid hin
      have HMG := Lib.hid (fun (w : World) (hq : Reads w w.heap.size 2 l[k].A l[k].n (pairs l[k].st)) => oMarg_any l[k].nm l[k].A l[k].n l[k].c l[k].st ps[k] w HIN.out.1 hq)
      rw [HOM.out] at HMG
      clear hin hxe hoc HOM x1 x0
      generalize (Pl.marg ps[k] 0 (-2000000) l[k].st).1 = ma at *
      generalize (Pl.marg ps[k] 0 (-2000000) l[k].st).2 = mb at *
      generalize ps[k] = x at *
      generalize l[k] = z at *
      obtain ⟨nm, Az, nz, cz, st⟩ := z
      unfold vOff ThreeSaid at HMG
      simp only at c1 c2 HMG
      have HBN := Lib.hid (HB.out.alloc HB.out.size (.cells #[.string nm, .slice Az nz cz] 57))
      have BN := Lib.hid (Blk.new_ wr wr.heap.size 57 #[.string nm, .slice Az nz cz] rfl)
      have q4 : (wr.alloc (.cells #[.string nm, .slice Az nz cz] 57)).cell? ⟨b', o' + k, none⟩ = some (.int .i64 x) := by rw [World.cell?_alloc_some _ _ _ (by rw [q1]; rfl)]; exact q1
      have HIN2 := Lib.hid (HIN.out.2.2.go ((Below.refl _ _).alloc (Nat.le_refl _) (.cells #[.string nm, .slice Az nz cz] 57)))
      have k1 : (0 : Int) ≤ (k : Int) := by omega
      have k2 : (k : Int) < (n : Int) := by omega
      go_wp2_with fail
      clear c1 c2 q1 HB HIN HBW
      generalize wr.alloc (.cells #[.string nm, .slice Az nz cz] 57) = w2 at *
      generalize wr.heap.size = bn at *
      have p0 : w2.cell? ⟨bn, 0, none⟩ = some (.string nm) := BN.out.cell 0
      have p1 : w2.cell? ⟨bn, 1, none⟩ = some (.slice Az nz cz) := BN.out.cell 1
      go_region_with (go_at_call 64; refine (HMG.out w2.drew (HIN2.out.drewS2)).mono ?_; rintro e w3 ⟨rfl, hb⟩; have HB3 := Lib.hid (HBN.out.drew.trans (hb.mono HBN.out.drew.size)); clear hb)
      all_goals
        go_wp2_with fail
        all_goals
          go_roundw
          case rel => refine ⟨k + 1, _, _, by omega, by go_num, rfl, rfl, ?_, ?_, HB3⟩ <;> (show _ = _) <;> first | (rw [HL2.out]; omega) | (rw [HH2.out]; omega)
          case measure => simp [intOf]; omega
    · have : k = n := by omega
      subst this
      go_wp2_with fail
      go_ret3
      exact ⟨lo, hi, ps, cost, p, rfl, HS.out, HLO.out, HHI.out, HBW.out⟩
end Go.Proofs.Ytpbomomgjhbljaa
