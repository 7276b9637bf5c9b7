/- The law RampKept: for all limits, ramps, targets and powers the call returns true, and old memory is left as it is. Condition: what the sort of pieces says. -/
import Derived.Test.YtchafkocobbndaaRampX
namespace Go.Proofs.Ytchafkocobbndaa
open Go.RowKit
theorem feas_call (A B : Option Addr) (w : World) (hr : Reads w w.heap.size 2 A 1 (pairs [(0, 9)])) (hq : Reads w w.heap.size 1 B 1 (ints [5])) :
    Calls Try.prog 16 #[.slice A 1 1, .int .i64 0, .int .i64 5, .int .i64 5, .slice B 1 1] w fun e w' => e = .returned (.tuple #[.bool true, .int .i64 0]) ∧ Below w.heap.size w w' := by
  have h1 := rFeas_any A B 1 1 1 1 [(0, 9)] [5] 0 5 5 w hr hq
  rw [Pl.feas_ex] at h1
  exact h1
set_option maxHeartbeats 6400000 in
set_option maxRecDepth 100000 in
theorem rampKept_go (hsort : SortPOk) (A B C : Option Addr) (n c m d q e : Nat) (ls : List (Int × Int)) (beg up down : Int) (ts ps : List Int) (w : World) (hr : Reads w w.heap.size 2 A n (pairs ls)) (hq : Reads w w.heap.size 1 B m (ints ts)) (hp : Reads w w.heap.size 1 C q (ints ps)) :
    Calls Try.prog 7 #[.slice A n c, .int .i64 beg, .int .i64 up, .int .i64 down, .slice B m d, .slice C q e] w fun e w' => e = .returned (.bool true) ∧ Below w.heap.size w w' := by
  have HNX := Lib.hid (near_any hsort)
  have HNE := Lib.hid (fun w h1 h2 => rNear_any hsort A B n m c d ls ts beg up down w h1 h2)
  have HFE := Lib.hid (fun (A2 : Option Addr) (m d : Nat) (qs : List Int) w h1 h2 => rFeas_any A A2 n m c d ls qs beg up down w h1 h2)
  have HFX := Lib.hid feas_call
  have HSU := Lib.hid (fun (bo : Nat) (Q : Option Addr) (c : Nat) (qs : List Int) w h1 h2 h3 h4 h5 h6 => rsum_any bo B Q m d c ts qs w h1 h2 h3 h4 h5 h6)
  have L0 := Lib.hid hr.pair_len
  have L1 := Lib.hid hq.int_len
  have L2 := Lib.hid hp.int_len
  have A0 := (Below.refl w.heap.size w).alloc (Nat.le_refl _) (.cells #[.slice B m d] 23)
  have BO0 := Lib.hid (Blk.new_ w w.heap.size 23 #[.slice B m d] rfl)
  have S0 : Hid ((w.alloc (.cells #[.slice B m d] 23)).heap.size = w.heap.size + 1) := by show _ = _; simp
  have HB0 := Lib.hid A0
  have HR0 := Lib.hid (hr.go A0)
  have HQ0 := Lib.hid (hq.go A0)
  have HP0 := Lib.hid (hp.go A0)
  unfold SchedSaid at HNE
  unfold FeasSaid at HFE
  clear hr hq hp A0
  go_enter Try.func7, Try.ntmps7
  go_wp2_with fail
  generalize w.alloc (.cells #[.slice B m d] 23) = wa at *
  have A1 := (Below.refl wa.heap.size wa).alloc (Nat.le_refl _) (.cells #[.int .i64 0, .int .i64 9] 56)
  have R1 := Lib.hid (Reads.lit wa #[.int .i64 0, .int .i64 9] 56 1 2 (w.heap.size + 1) S0.out.symm rfl)
  have BO1 := Lib.hid (BO0.out.go A1)
  have HB1 := Lib.hid (HB0.out.trans (A1.mono HB0.out.size))
  have HR1 := Lib.hid (HR0.out.go A1)
  have HQ1 := Lib.hid (HQ0.out.go A1)
  have HP1 := Lib.hid (HP0.out.go A1)
  have S1 : Hid ((wa.alloc (.cells #[.int .i64 0, .int .i64 9] 56)).heap.size = w.heap.size + 1 + 1) := by have e := S0.out; show _ = _; simp [e]
  clear A1
  generalize wa.alloc (.cells #[.int .i64 0, .int .i64 9] 56) = wb at *
  have A2 := (Below.refl wb.heap.size wb).alloc (Nat.le_refl _) (.cells #[.int .i64 5] 3)
  have R2 := Lib.hid (Reads.lit wb #[.int .i64 5] 3 1 1 (w.heap.size + 1 + 1) S1.out.symm rfl)
  have R12 := Lib.hid (R1.out.go A2)
  have BO2 := Lib.hid (BO1.out.go A2)
  have HB2 := Lib.hid (HB1.out.trans (A2.mono HB1.out.size))
  have HR2 := Lib.hid (HR1.out.go A2)
  have HQ2 := Lib.hid (HQ1.out.go A2)
  have HP2 := Lib.hid (HP1.out.go A2)
  clear A2 HB0 HR0 HQ0 HP0 HB1 HR1 HQ1 HP1 BO0 BO1 R1
  generalize wb.alloc (.cells #[.int .i64 5] 3) = wc at *
  refine (HFX.out _ _ wc R12.out R2.out).mono ?_
  rintro e1 w1 ⟨rfl, hb⟩
  have BO3 := Lib.hid (BO2.out.go hb)
  have HB3 := Lib.hid (HB2.out.trans (hb.mono HB2.out.size))
  have HR3 := Lib.hid (HR2.out.go hb)
  have HQ3 := Lib.hid (HQ2.out.go hb)
  have HP3 := Lib.hid (HP2.out.go hb)
  clear hb HB2 HR2 HQ2 HP2 BO2 R12 R2 S1
  go_wp2_with fail
  refine (HNX.out w1).mono ?_
  rintro e1 w2 ⟨rfl, hb⟩
  have BO4 := Lib.hid (BO3.out.go hb)
  have HB4 := Lib.hid (HB3.out.trans (hb.mono HB3.out.size))
  have HR4 := Lib.hid (HR3.out.go hb)
  have HQ4 := Lib.hid (HQ3.out.go hb)
  have HP4 := Lib.hid (HP3.out.go hb)
  clear hb HB3 HR3 HQ3 HP3 BO3
  have bc := BO4.out.cell
  go_wp2_with fail
  refine (HNE.out w2 HR4.out HQ4.out).mono ?_
  rintro e1 w3 ⟨Ap, cp, rfl, hop, hb⟩
  have BO5 := Lib.hid (BO4.out.go hb)
  have HB5 := Lib.hid (HB4.out.trans (hb.mono HB4.out.size))
  have HR5 := Lib.hid (HR4.out.go hb)
  have HQ5 := Lib.hid (HQ4.out.go hb)
  have HP5 := Lib.hid (HP4.out.go hb)
  have RP := Lib.hid (Reads.of_own hop)
  clear hb hop HB4 HR4 HQ4 HP4 BO4 bc HNE
  by_cases h0 : (Pl.rNear beg up down ls ts).2.2 = 0
  · obtain ⟨ok, hlen, hpl, hpb, hfe, hdi, hbe⟩ := Pl.rNear_good h0
    have hmn : m = n := by rw [← L1.out, ← L0.out]; exact hlen
    subst hmn
    have hm24 : m ≤ 24 := by rw [← L0.out]; exact ok.hn
    have HTB : Hid (∀ i, i < m → 0 ≤ ts.getD i 0 ∧ ts.getD i 0 ≤ 100000) := fun i hi => ok.ht i (by rw [L0.out]; exact hi)
    have HPB : Hid (∀ i, i < m → 0 ≤ (Pl.rNear beg up down ls ts).1.getD i 0 ∧ (Pl.rNear beg up down ls ts).1.getD i 0 ≤ 100000) := fun i hi => hpb i (by rw [L0.out]; exact hi)
    have HFEP := Lib.hid (fun w h1 h2 => HFE.out Ap m cp (Pl.rNear beg up down ls ts).1 w h1 h2)
    rw [hfe] at HFEP
    have HPLN : Hid ((Pl.rNear beg up down ls ts).1.length = m) := hpl.trans L0.out
    have HDI : Hid (Pl.distP ts (Pl.rNear beg up down ls ts).1 m = (Pl.rNear beg up down ls ts).2.1) := by rw [L0.out] at hdi; exact hdi
    have HBE : Hid (Pl.rFeas beg up down ls ps = (true, 0) → q = m ∧ (∀ i, i < m → 0 ≤ ps.getD i 0 ∧ ps.getD i 0 ≤ 100000) ∧ (Pl.rNear beg up down ls ts).2.1 ≤ Pl.distP ts ps m) := fun h => by
      obtain ⟨_, f2, f3⟩ := Pl.rFeas_true h
      refine ⟨by rw [← L2.out, f2, L0.out], fun i hi => Pl.feas_bd ok f3 i (by rw [L0.out]; exact hi), ?_⟩
      have := hbe ps h
      rw [L0.out] at this
      exact this
    have HFEO := Lib.hid (fun w h1 h2 => HFE.out C q e ps w h1 h2)
    clear ok hlen hpl hpb hfe hdi hbe HFE
    generalize Pl.rNear beg up down ls ts = RN at *
    obtain ⟨pl, dn, er⟩ := RN
    simp only at h0 HPB HFEP HPLN HDI HBE RP ⊢
    subst h0
    rw [HPLN.out] at RP ⊢
    generalize Pl.rFeas beg up down ls ps = RF at *
    obtain ⟨also, g⟩ := RF
    simp only at HFEO
    go_wp2_with fail
    refine (HFEP.out w3 HR5.out RP.out).mono ?_
    rintro e1 w4 ⟨rfl, hb⟩
    have BO6 := Lib.hid (BO5.out.go hb)
    have HB6 := Lib.hid (HB5.out.trans (hb.mono HB5.out.size))
    have HR6 := Lib.hid (HR5.out.go hb)
    have HQ6 := Lib.hid (HQ5.out.go hb)
    have HP6 := Lib.hid (HP5.out.go hb)
    have RP6 := Lib.hid (RP.out.go hb)
    clear hb HB5 HR5 HQ5 HP5 BO5 RP HFEP
    go_wp2_with fail
    refine (HFEO.out w4 HR6.out HP6.out).mono ?_
    rintro e1 w5 ⟨rfl, hb⟩
    have BO7 := Lib.hid (BO6.out.go hb)
    have HB7 := Lib.hid (HB6.out.trans (hb.mono HB6.out.size))
    have HQ7 := Lib.hid (HQ6.out.go hb)
    have HP7 := Lib.hid (HP6.out.go hb)
    have RP7 := Lib.hid (RP6.out.go hb)
    clear hb HB6 HR6 HQ6 HP6 BO6 RP6 HFEO
    have hcb : w5.cell? ⟨w.heap.size, 0, none⟩ = some (.slice B m d) := BO7.out.cell 0
    go_wp2_with fail
    refine (HSU.out w.heap.size Ap cp pl w5 hcb HQ7.out RP7.out hm24 HTB.out HPB.out).mono ?_
    rintro e1 w6 ⟨rfl, hb⟩
    have BO8 := Lib.hid (BO7.out.go hb)
    have HB8 := Lib.hid (HB7.out.trans (hb.mono HB7.out.size))
    have HQ8 := Lib.hid (HQ7.out.go hb)
    have HP8 := Lib.hid (HP7.out.go hb)
    clear hb HB7 HQ7 HP7 BO7 RP7 hcb
    rw [HDI.out]
    by_cases hg : g = 0
    · have hg2 : (g != 0) = false := by simpa using hg
      cases also with
      | false =>
        clear hg HBE
        go_wp2_with fail
        go_ret
        exact ⟨rfl, HB8.out⟩
      | true =>
        obtain ⟨hqm, hob, hdo⟩ := HBE.out (by rw [hg])
        subst hqm
        have HOB := Lib.hid hob
        have hcb : w6.cell? ⟨w.heap.size, 0, none⟩ = some (.slice B q d) := BO8.out.cell 0
        have dd : decide (Pl.distP ts ps q ≥ dn) = true := decide_eq_true hdo
        have dd2 : decide (dn ≤ Pl.distP ts ps q) = true := decide_eq_true hdo
        clear hg HBE hob hdo
        go_wp2_with fail
        refine (HSU.out w.heap.size C e ps w6 hcb HQ8.out HP8.out hm24 HTB.out HOB.out).mono ?_
        rintro e1 w7 ⟨rfl, hb⟩
        have HB9 := Lib.hid (HB8.out.trans (hb.mono HB8.out.size))
        clear hb
        go_wp2_with fail
        go_ret
        exact ⟨rfl, HB9.out⟩
    · have hg2 : (g != 0) = true := by simpa using hg
      clear hg HBE
      go_wp2_with fail
      go_ret
      exact ⟨rfl, HB8.out⟩
  · have h2 : ((Pl.rNear beg up down ls ts).2.2 != 0) = true := by simpa using h0
    obtain ⟨b1, b2⟩ := Pl.rNear_bad h0
    rw [b1, b2] 
    simp only [List.length_nil]
    clear h0 b1 b2 RP
    generalize (Pl.rNear beg up down ls ts).2.2 = er at *
    go_wp2_with fail
    go_ret
    exact ⟨rfl, HB5.out⟩
theorem rampKept_walk (hsort : SortPOk) (A : Option Addr) (n c : Nat) (ls : List (Int × Int)) (beg up down : Int) (B : Option Addr) (m d : Nat) (ts : List Int) (C : Option Addr) (q e : Nat) (ps : List Int) (w : World) (hr : Reads w w.heap.size 2 A n (pairs ls)) (hq : Reads w w.heap.size 1 B m (ints ts)) (hp : Reads w w.heap.size 1 C q (ints ps)) :
    Calls Try.prog 7 #[.slice A n c, .int .i64 beg, .int .i64 up, .int .i64 down, .slice B m d, .slice C q e] w fun e w' => e = .returned (.bool true) ∧ Below w.heap.size w w' :=
  rampKept_go hsort A B C n c m d q e ls beg up down ts ps w hr hq hp
end Go.Proofs.Ytchafkocobbndaa
