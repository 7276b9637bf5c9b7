/- welfare.Envy, Total, Waste and Least where they give no error. Conditions: the offers and powers are valid. -/
import Derived.Test.YtpbomomgjhbljaaDispD
import Derived.Test.YtpbomomgjhbljaaPWelf
import Derived.Test.YtpbomomgjhbljaaOfferE
namespace Go.Proofs.Ytpbomomgjhbljaa
open Go.RowKit
set_option maxRecDepth 100000 in
theorem envy_good (nm : ByteArray) (A : Option Addr) (n c : Nat) (st : List (Int × Int)) (x P : Int) (w : World) (hs : nm.size ≤ 9223372036854775807) (hr : Reads w w.heap.size 2 A n (pairs st)) (ho : Pl.opcheck nm st x = 0) (h0 : -2000000 ≤ P) (h1 : P ≤ 2000000) :
    Calls Try.prog 72 #[vOff nm A n c, .int .i64 x, .int .i64 P] w fun e w' => e = .returned (.tuple #[.int .i64 (Pl.envyV P st x), .int .i64 0]) ∧ Below w.heap.size w w' := by
  obtain ⟨hg, _, x0, x1, hoc⟩ := Pl.opcheck_ok ho
  have HC := Lib.hid (fun w h => oCost_any nm A n c st x w hs h)
  have HP := Lib.hid (fun w h => oProfit_any nm A n c st P w hs h)
  have HX : Hid (Pl.oCost nm st x = (Pl.costR st x, 0)) := by show _ = _; unfold Pl.oCost; rw [if_neg (by simpa using ho), Pl.ocost_eq]
  have HY : Hid (Pl.oProfit nm st P = (Pl.best P st, 0)) := by
    show _ = _
    unfold Pl.oProfit
    have : Pl.opprice nm st P = 0 := by unfold Pl.opprice; rw [if_neg (by simpa using hoc), if_neg (by omega)]
    rw [if_neg (by simpa using this), Pl.profit_eq hg]
  have hs2 := hg.sum
  obtain ⟨c0, c1⟩ := Pl.costR_bd hg x x0 x1
  obtain ⟨b0, b1⟩ := Pl.best_bd hg h1
  obtain ⟨m0, m1⟩ := Pl.mulP_bd h0 h1 x0 (show x ≤ 100000 by omega)
  have HE : Hid (Pl.envyV P st x = Pl.best P st - (P * x - Pl.costR st x)) := rfl
  rw [HX.out] at HC
  rw [HY.out] at HP
  unfold TwoSaid vOff at HC HP
  unfold vOff
  clear ho hoc hg
  rw [HE.out]
  generalize Pl.costR st x = cc at *
  generalize Pl.best P st = bb at *
  go_enter Try.func72, Try.ntmps72
  go_wp2_with fail
  have HB0 := Lib.hid ((Below.refl w.heap.size w).alloc (Nat.le_refl _) (.cells #[.string nm, .slice A n c] 57))
  have BN0 := Lib.hid (Blk.new_ w w.heap.size 57 #[.string nm, .slice A n c] rfl)
  refine (HC.out _ (hr.go HB0.out)).mono ?_
  rintro e w1 ⟨rfl, hb⟩
  have HB1 := Lib.hid (HB0.out.trans (hb.mono HB0.out.size))
  have BN1 := Lib.hid (BN0.out.go hb)
  have q := BN1.out.cell
  clear hb HB0 BN0
  go_wp2_with fail
  refine (HP.out _ (hr.go HB1.out)).mono ?_
  rintro e w2 ⟨rfl, hb⟩
  have HB2 := Lib.hid (HB1.out.trans (hb.mono HB1.out.size))
  clear hb q
  go_wp2_with fail
  go_ret2
  exact ⟨rfl, HB2.out⟩
set_option maxHeartbeats 3200000 in
set_option maxRecDepth 100000 in
theorem total_good (A B : Option Addr) (n c e' : Nat) (l : List MOff) (xs : List Int) (P : Int) (w : World) (hcap : n ≤ c) (h : Offs w A n l) (hp : Reads w w.heap.size 1 B n (ints xs)) (h0 : (Pl.dCost (plo l) xs).2.2 = 0) (p0 : -2000000 ≤ P) (p1 : P ≤ 2000000) :
    Calls Try.prog 40 #[.slice A n c, .slice B n e', .int .i64 P] w fun e w' => e = .returned (.tuple #[.int .i64 (Pl.envyK (plo l) xs P n), .int .i64 0]) ∧ Below w.heap.size w w' := by
  have L1 := Lib.hid h.len
  have H := Lib.hid h
  have HC := Lib.hid (dCost_any A B n c n e' l xs w hcap h hp)
  obtain ⟨h1, _, h3, h4⟩ := Pl.dCost_ok h0
  rw [h4] at HC
  have HG : Hid (∀ k, k < n → Pl.Good (Pl.steps (plo l) k)) := fun k hk => (Pl.steps_good h1 k (by rw [plo_len, L1.out]; exact hk)).1
  have HX : Hid (∀ k, k < n → 0 ≤ xs.getD k 0 ∧ xs.getD k 0 ≤ Pl.total (Pl.steps (plo l) k)) := fun k hk => h3 k (by rw [plo_len, L1.out]; exact hk)
  have HOC : Hid (∀ k, k < n → Pl.ocheck (Pl.nameK (plo l) k) (Pl.steps (plo l) k) = 0) := fun k hk => Pl.check_at h1 (by rw [plo_len, L1.out]; exact hk)
  obtain ⟨g1, _⟩ := Pl.oall_good h1
  have hn10 : n ≤ 10 := by have := L1.out; rw [plo_len] at g1; omega
  unfold ThreeSaid at HC
  clear h h0 h1 h3 h4 g1
  go_enter Try.func40, Try.ntmps40
  go_wp2_with fail
  refine HC.out.mono ?_
  rintro e w1 ⟨rfl, hb⟩
  have HB1 := Lib.hid hb
  clear hb HC
  go_wp2_with fail
  go_loopw [11, 28] (fun v1 i wr => ∃ k : Nat, k ≤ n ∧ i = .int .i64 k ∧ v1 = .int .i64 (Pl.envyK (plo l) xs P k) ∧ Hid (Below w.heap.size w wr)) (fun _ i _ => n - (intOf i).toNat)
  case atStart => exact ⟨0, Nat.zero_le _, rfl, rfl, HB1⟩
  case round =>
    clear HB1
    obtain ⟨k, hk, rfl, rfl, HB⟩ := hrel
    obtain ⟨b1, b2⟩ := Pl.envyK_bd HG.out HX.out p0 p1 k hk
    by_cases hlt : k < n
    · obtain ⟨b, o, rfl, hl1, c1, c2, hin⟩ := (H.out.go HB.out).at_ hlt
      obtain ⟨b', o', rfl, hl2, q1⟩ := (hp.go HB.out).int_at hlt
      have hxe : xs.getD k 0 = xs[k] := by rw [List.getD_eq_getElem?_getD, List.getElem?_eq_getElem hl2]; rfl
      have HS1 : Hid (Pl.envyK (plo l) xs P (k + 1) = Pl.envyK (plo l) xs P k + Pl.envyV P (Pl.steps (plo l) k) (xs.getD k 0)) := rfl
      obtain ⟨x0, x1⟩ := HX.out k hlt
      have hgk := HG.out k hlt
      have hoc := HOC.out k hlt
      obtain ⟨v0, v1⟩ := Pl.envy_bd hgk p0 p1 x0 x1
      rw [hxe, plo_steps hl1] at HS1 v0 v1 x1
      rw [hxe] at x0
      rw [plo_steps hl1, plo_name hl1] at hoc
      have hop : Pl.opcheck l[k].nm l[k].st xs[k] = 0 := by unfold Pl.opcheck; rw [if_neg (by simpa using hoc), if_neg (by omega)]
      have HIN := Lib.hid hin
      have HMG := Lib.hid (fun (w : World) (hq : Reads w w.heap.size 2 l[k].A l[k].n (pairs l[k].st)) => envy_good l[k].nm l[k].A l[k].n l[k].c l[k].st xs[k] P w HIN.out.1 hq hop p0 p1)
      clear hin hxe hoc hop hgk x1 x0
      generalize Pl.envyV P l[k].st xs[k] = y at *
      generalize Pl.envyK (plo l) xs P k = ek at *
      generalize xs[k] = x at *
      generalize l[k] = z at *
      obtain ⟨nm, Az, nz, cz, st⟩ := z
      unfold vOff at HMG
      simp only at c1 c2 HMG
      have HBN := Lib.hid (HB.out.alloc HB.out.size (.cells #[.string nm, .slice Az nz cz] 57))
      have BN := Lib.hid (Blk.new_ wr wr.heap.size 57 #[.string nm, .slice Az nz cz] rfl)
      have q4 : (wr.alloc (.cells #[.string nm, .slice Az nz cz] 57)).cell? ⟨b', o' + k, none⟩ = some (.int .i64 x) := by rw [World.cell?_alloc_some _ _ _ (by rw [q1]; rfl)]; exact q1
      have HIN2 := Lib.hid (HIN.out.2.2.go ((Below.refl _ _).alloc (Nat.le_refl _) (.cells #[.string nm, .slice Az nz cz] 57)))
      have k1 : (0 : Int) ≤ (k : Int) := by omega
      have k2 : (k : Int) < (n : Int) := by omega
      go_wp2_with fail
      clear c1 c2 q1 HB HIN
      generalize wr.alloc (.cells #[.string nm, .slice Az nz cz] 57) = w2 at *
      generalize wr.heap.size = bn at *
      have r0 : w2.cell? ⟨bn, 0, none⟩ = some (.string nm) := BN.out.cell 0
      have r1 : w2.cell? ⟨bn, 1, none⟩ = some (.slice Az nz cz) := BN.out.cell 1
      go_region_with (go_at_call 72; refine (HMG.out w2.drew (HIN2.out.drewS2)).mono ?_; rintro e w3 ⟨rfl, hb⟩; have HB3 := Lib.hid (HBN.out.drew.trans (hb.mono HBN.out.drew.size)); clear hb)
      all_goals
        go_wp2_with fail
        go_roundw
        case rel => exact ⟨k + 1, by omega, by go_num, by rw [HS1.out], HB3⟩
        case measure => simp [intOf]; omega
    · have : k = n := by omega
      subst this
      go_wp2_with fail
      go_ret2
      exact ⟨rfl, HB.out⟩
def WasteSaid (l : List Pl.Off) (n : Nat) (xs : List Int) (w : World) (e : Ending) (w' : World) : Prop :=
  ∃ ps cost p, e = .returned (.tuple #[.int .i64 (Pl.costK l xs n - cost), .int .i64 0]) ∧ Pl.Served l n (Pl.powK xs n) ps cost p ∧ ((Pl.blocksK l n).length < 20 → cost = (Pl.dfill n (Pl.powK xs n) (Pl.isortB (Pl.blocksK l n))).2.1) ∧ Below w.heap.size w w'
theorem waste_bad (A B : Option Addr) (n c m e' : Nat) (l : List MOff) (xs : List Int) (w : World) (hcap : n ≤ c) (h : Offs w A n l) (hp : Reads w w.heap.size 1 B m (ints xs)) (h0 : (Pl.dCost (plo l) xs).2.2 ≠ 0) :
    Calls Try.prog 38 #[.slice A n c, .slice B m e'] w fun e w' => e = .returned (.tuple #[.int .i64 0, .int .i64 (Pl.dCost (plo l) xs).2.2]) ∧ Below w.heap.size w w' := by
  have HC := Lib.hid (dCost_any A B n c m e' l xs w hcap h hp)
  have h2 : ((Pl.dCost (plo l) xs).2.2 != 0) = true := by simpa using h0
  unfold ThreeSaid at HC
  clear h0
  generalize (Pl.dCost (plo l) xs).2.2 = u at *
  go_enter Try.func38, Try.ntmps38
  go_wp2_with fail
  refine HC.out.mono ?_
  rintro e w1 ⟨rfl, hb⟩
  have HB1 := Lib.hid hb
  clear hb HC
  go_wp2_with fail
  go_ret2
  exact ⟨rfl, HB1.out⟩
theorem waste_good (A B : Option Addr) (n c e' : Nat) (l : List MOff) (xs : List Int) (w : World) (hcap : n ≤ c) (h : Offs w A n l) (hp : Reads w w.heap.size 1 B n (ints xs)) (h0 : (Pl.dCost (plo l) xs).2.2 = 0) :
    Calls Try.prog 38 #[.slice A n c, .slice B n e'] w (WasteSaid (plo l) n xs w) := by
  have L1 := Lib.hid h.len
  have H := Lib.hid h
  have HC := Lib.hid (dCost_any A B n c n e' l xs w hcap h hp)
  obtain ⟨h1, _, h3, h4⟩ := Pl.dCost_ok h0
  have hd := Pl.dcheck_pow h0
  rw [h4] at HC hd
  obtain ⟨k1, k2, k3, k4⟩ := Pl.costK_bd h1 (plo l).length (Nat.le_refl _) h3
  obtain ⟨g1, _⟩ := Pl.oall_good h1
  rw [plo_len, L1.out] at HC hd k1 k2 k3 k4 g1
  unfold ThreeSaid at HC
  have HBS := Lib.hid (fun w hh => best_good A n c l (Pl.powK xs n) w hcap hh hd)
  clear h h0 h1 h3 h4 hd
  unfold WasteSaid
  generalize Pl.costK (plo l) xs n = ck at *
  generalize Pl.powK xs n = pk at *
  go_enter Try.func38, Try.ntmps38
  go_wp2_with fail
  refine HC.out.mono ?_
  rintro e w1 ⟨rfl, hb⟩
  have HB1 := Lib.hid hb
  clear hb HC
  go_wp2_with fail
  refine (HBS.out w1 (H.out.go HB1.out)).mono ?_
  rintro e w2 ⟨A2, ps, cost, p, rfl, hs, hx, hc1, hc2, hr, hb⟩
  have HB2 := Lib.hid (HB1.out.trans (hb.mono HB1.out.size))
  have HS := Lib.hid hs
  have HXX := Lib.hid (fun hh => (hx hh).2)
  clear hb hr hs hx HBS
  go_wp2_with fail
  go_ret2
  exact ⟨ps, cost, p, rfl, HS.out, HXX.out, HB2.out⟩
def LeastSaid (l : List Pl.Off) (n : Nat) (xs : List Int) (w : World) (e : Ending) (w' : World) : Prop :=
  ∃ lo ps cost p, e = .returned (.tuple #[.int .i64 lo, .int .i64 (Pl.envyK l xs lo n), .int .i64 0]) ∧ lo = Pl.plo_ l ps n ∧ Pl.Served l n (Pl.powK xs n) ps cost p ∧ Below w.heap.size w w'
theorem least_good (A B : Option Addr) (n c e' : Nat) (l : List MOff) (xs : List Int) (w : World) (hcap : n ≤ c) (h : Offs w A n l) (hp : Reads w w.heap.size 1 B n (ints xs)) (h0 : (Pl.dCost (plo l) xs).2.2 = 0) :
    Calls Try.prog 41 #[.slice A n c, .slice B n e'] w (LeastSaid (plo l) n xs w) := by
  have L1 := Lib.hid h.len
  have H := Lib.hid h
  have HC := Lib.hid (dCost_any A B n c n e' l xs w hcap h hp)
  obtain ⟨h1, _, h3, h4⟩ := Pl.dCost_ok h0
  have hd := Pl.dcheck_pow h0
  have HG : Hid (∀ k, k < n → Pl.Good (Pl.steps (plo l) k)) := fun k hk => (Pl.steps_good h1 k (by rw [plo_len, L1.out]; exact hk)).1
  rw [h4] at HC hd
  rw [plo_len, L1.out] at HC hd
  unfold ThreeSaid at HC
  have HPR := Lib.hid (fun w hh => price_good A n c l (Pl.powK xs n) w hcap hh hd)
  have HTO := Lib.hid (fun P w ha hb a b => total_good A B n c e' l xs P w hcap ha hb h0 a b)
  clear h h0 h1 h3 h4 hd
  unfold LeastSaid
  generalize Pl.costK (plo l) xs n = ck at *
  generalize Pl.powK xs n = pk at *
  go_enter Try.func41, Try.ntmps41
  go_wp2_with fail
  refine HC.out.mono ?_
  rintro e w1 ⟨rfl, hb⟩
  have HB1 := Lib.hid hb
  clear hb HC
  go_wp2_with fail
  refine (HPR.out w1 (H.out.go HB1.out)).mono ?_
  rintro e w2 ⟨lo, hi, ps, cost, p, rfl, hs, hlo, hhi, hb⟩
  have HB2 := Lib.hid (HB1.out.trans (hb.mono HB1.out.size))
  have HS := Lib.hid hs
  have HLO := Lib.hid hlo
  have hbd := Pl.plo_bd (plo l) ps n
  have hle := Pl.prices_le HG.out hs
  rw [← hlo] at hbd hle
  have p1 : lo ≤ 2000000 := Int.le_trans hle hbd.2
  have p0 := hbd.1
  clear hb hs hlo hhi hbd hle HPR
  go_wp2_with fail
  refine (HTO.out lo w2 (H.out.go HB2.out) (hp.go HB2.out) p0 p1).mono ?_
  rintro e w3 ⟨rfl, hb⟩
  have HB3 := Lib.hid (HB2.out.trans (hb.mono HB2.out.size))
  clear hb HTO
  go_wp2_with fail
  go_ret3
  exact ⟨lo, ps, cost, p, rfl, HLO.out, HS.out, HB3.out⟩
end Go.Proofs.Ytpbomomgjhbljaa
