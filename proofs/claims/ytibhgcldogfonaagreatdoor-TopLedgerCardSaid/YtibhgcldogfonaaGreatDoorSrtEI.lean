/- The walk of slices.symMerge at int: what it leaves in memory. No condition. The walk of slices.SortStableFunc at int: what it leaves in memory. No condition. -/
import Derived.Test.YtibhgcldogfonaaGreatDoorSrtI
namespace Go.Proofs.YtibhgcldogfonaaGreatDoor.Srt
open Go.RowKit Go.Sort
set_option maxHeartbeats 6400000 in
set_option maxRecDepth 100000 in
theorem symCI (base g n cap : Nat) (F : FuncId) (cb : Array Value) (cf : (Int) → (Int) → Int) (Q : (Int) → Prop) (w0 : World) (eg : ∀ args w, Sem.run Tryz.prog (callFunc F args) w = .ok (.enter F args) w) (hc : CmpOk F cb valI cf Q g w0) (hS : SWO (ltOf cf)) (hn : n ≤ 1000000) (N : Nat)
    (HIH : Hid (∀ (a m b : Nat) (d : Array (Int)) (w : World), b - a ≤ N → Kp g w0 w → Row encI 1 base 3 g n cap w d → (∀ i, i < n → Q d[i]!) → a < m → m < b → b ≤ n → SortedIn (ltOf cf) a m d → SortedIn (ltOf cf) m b d →
      Calls Tryz.prog 56 #[.slice (some ⟨g, 0, none⟩) n cap, .int .i64 a, .int .i64 m, .int .i64 b, .func (.func F) #[] cb] w (SymSaidI base g n cap cf d a b w)))
    (a m b : Nat) (d : Array (Int)) (w : World) (h0 : Kp g w0 w) (h : Row encI 1 base 3 g n cap w d) (hQ : ∀ i, i < n → Q d[i]!) (h1 : a < m) (h2 : m < b) (h3 : b ≤ n) (hs1 : SortedIn (ltOf cf) a m d) (hs2 : SortedIn (ltOf cf) m b d) (hN : b - a ≤ N + 1) (hne : m ≠ a + 1) (hne2 : b ≠ m + 1) :
    Calls Tryz.prog 56 #[.slice (some ⟨g, 0, none⟩) n cap, .int .i64 a, .int .i64 m, .int .i64 b, .func (.func F) #[] cb] w (SymSaidI base g n cap cf d a b w) := by
  have HC : Hid (∀ wt x0 y0, Kp g w0 wt → Q x0 → Q y0 → Calls Tryz.prog F (#[.int .i64 x0, .int .i64 y0] ++ cb) wt fun e w' => e = .returned (.int .i64 (cf x0 y0)) ∧ Below wt.heap.size wt w') := fun wt x0 y0 q1 q2 q3 => hc wt x0 y0 q1 q2 q3
  have H0 := Lib.hid h0
  have HQ := Lib.hid hQ
  have S1 := Lib.hid hs1
  have S2 := Lib.hid hs2
  have HZ := Lib.hid h.size
  have t1 : ((m : Int) - (a : Int) == 1) = false := by rw [beq_eq_false_iff_ne]; omega
  have t2 : ((b : Int) - (m : Int) == 1) = false := by rw [beq_eq_false_iff_ne]; omega
  clear hc h0 hQ hs1 hs2
  obtain ⟨mid, hmid⟩ : ∃ mid : Nat, ((a : Int) + (b : Int)) / 2 = (mid : Int) := ⟨(a + b) / 2, by omega⟩
  have m1 : a < mid := by omega
  have m2 : mid < b := by omega
  have m3 : 2 * mid ≤ a + b := by omega
  have m4 : a + b ≤ 2 * mid + 1 := by omega
  obtain ⟨pp, hpp⟩ : ∃ pp : Nat, (mid : Int) + (m : Int) - 1 = (pp : Int) := ⟨mid + m - 1, by omega⟩
  have p1 : pp + 1 = mid + m := by omega
  obtain ⟨s0, r0, hs0, hr0, G1, G2, hcase⟩ : ∃ s0 r0 : Nat, s0 ≤ r0 ∧ r0 ≤ mid + m ∧ Hid (∀ c, s0 ≤ c → c < r0 → pp - c < b ∧ c < b ∧ c ≤ pp) ∧
      Hid (∀ s, s0 ≤ s → s ≤ r0 → a ≤ s ∧ s ≤ m ∧ s ≤ mid ∧ m ≤ mid + m - s ∧ mid + m - s ≤ b ∧ (s = s0 → s = a ∨ mid + m - s = b) ∧ (s = r0 → s = m ∨ mid + m - s = m)) ∧
      (mid < m ∧ s0 = mid + m - b ∧ r0 = mid ∨ m ≤ mid ∧ s0 = a ∧ r0 = m) := by
    by_cases hm : mid < m
    · exact ⟨mid + m - b, mid, by omega, by omega, fun c _ _ => by omega, fun s _ _ => by omega, .inl ⟨hm, rfl, rfl⟩⟩
    · exact ⟨a, m, by omega, by omega, fun c _ _ => by omega, fun s _ _ => by omega, .inr ⟨by omega, rfl, rfl⟩⟩
  have HROW := Lib.hid h
  have L0 : Hid ((mid : Int) + (m : Int) - (b : Int) = (s0 : Int) ∨ s0 = a) := by show _ ∨ _; omega
  clear h
  rcases hcase with ⟨k1, k2, k3⟩ | ⟨k1, k2, k3⟩
  · have k5 : (mid : Int) < (m : Int) := by omega
    have k6 : (mid : Int) + (m : Int) - (b : Int) = (s0 : Int) := by omega
    have k7 : mid + m ≤ s0 + b := by omega
    obtain rfl : mid = r0 := k3.symm
    clear k2 L0
    go_enter Tryz.func56, Tryz.ntmps56
    go_wp2_with fail
    clear k5 k6
    go_loopw [20, 21] (fun vi vj wr => ∃ (i j : Nat), vi = .int .i64 i ∧ vj = .int .i64 j ∧ s0 ≤ i ∧ i ≤ j ∧ j ≤ mid ∧ Row encI 1 base 3 g n cap wr d ∧ Kp g w wr ∧ Hid (i = s0 ∨ ltOf cf d[mid + m - i]! d[i - 1]! = false) ∧ Hid (j = mid ∨ ltOf cf d[mid + m - j - 1]! d[j]! = true)) (fun vi vj _ => (intOf vj).toNat - (intOf vi).toNat)
    case atStart => exact ⟨s0, mid, rfl, rfl, Nat.le_refl _, by omega, Nat.le_refl _, HROW.out, Kp.refl _ _, .inl rfl, .inl rfl⟩
    case round =>
      obtain ⟨i, j, rfl, rfl, hmi, hij, hjb, hrow, hkp, HI, HJ⟩ := hrel
      have HR := Lib.hid hrow
      have HK := Lib.hid hkp
      clear hrow hkp
      by_cases hlt : i < j
      · obtain ⟨hh, hhe⟩ : ∃ hh : Nat, ((i : Int) + (j : Int)) / 2 = (hh : Int) := ⟨(i + j) / 2, by omega⟩
        have u1 : i ≤ hh := by omega
        have u2 : hh < j := by omega
        obtain ⟨v1, v2, v3⟩ := G1.out hh (by omega) (by omega)
        obtain ⟨pc, hpc⟩ : ∃ pc : Nat, (pp : Int) - (hh : Int) = (pc : Int) := ⟨pp - hh, by omega⟩
        have v4 : pc + hh = pp := by omega
        have v5 : pc < b := by omega
        have u3 : (hh : Int) < (n : Int) := by omega
        have u4 : (pc : Int) < (n : Int) := by omega
        have u5 : (0 : Int) ≤ (hh : Int) := by omega
        have u6 : (0 : Int) ≤ (pc : Int) := by omega
        have u7 : IntKind.i64.wrap (pc : Int) = (pc : Int) := IntWalk.i64_in _ (by omega)
        have HPP := Lib.hid p1
        have HV4 := Lib.hid v4
        clear p1 v4
        obtain ⟨x0, hx⟩ : ∃ x, d[pc]! = x := ⟨_, rfl⟩
        obtain ⟨y0, hy⟩ : ∃ x, d[hh]! = x := ⟨_, rfl⟩
        have HX := Lib.hid hx
        have HY := Lib.hid hy
        have qx : Hid (Q x0) := by show Q _; rw [← hx]; exact HQ.out _ (by omega)
        have qy : Hid (Q y0) := by show Q _; rw [← hy]; exact HQ.out _ (by omega)
        clear hx hy
        go_wp2_with fail
        have rcur := Lib.hid HR.out.drew
        have kcur := Lib.hid HK.out.drew
        by_cases hlv : cf x0 y0 < 0
        · have LV : Hid (ltOf cf d[pc]! d[hh]! = true) := by show _ = _; rw [HX.out, HY.out]; exact decide_eq_true hlv
          have nd1 : decide (cf x0 y0 < 0) = true := decide_eq_true hlv
          have nd2 : (!decide (cf x0 y0 < 0)) = false := by rw [nd1]; rfl
          go_region_held3 (fun w' => w'.cell? ⟨g, pc, none⟩ = some (.int .i64 x0) ∧ w'.cell? ⟨g, hh, none⟩ = some (.int .i64 y0))
            (exact ⟨(by have := rcur.out.cell (pc) 0 (by omega) (.int .i64 x0) (by rw [HX.out]; rfl); simpa using this), (by have := rcur.out.cell (hh) 0 (by omega) (.int .i64 y0) (by rw [HY.out]; rfl); simpa using this)⟩)
            (first
              | (refine (HC.out _ x0 y0 (H0.out.trans kcur.out) qx.out qy.out).mono ?_; rintro e wz ⟨rfl, hbz⟩; have rcur := Lib.hid (rcur.out.go hbz); have kcur := Lib.hid (kcur.out.below hbz); clear hbz))
          all_goals go_wp2_with fail
          all_goals
            go_roundw
            case rel => exact ⟨i, hh, rfl, rfl, by omega, by omega, by omega, rcur.out, kcur.out, HI, .inr (by rw [show mid + m - hh - 1 = pc from by have := HPP.out; have := HV4.out; omega]; exact LV.out)⟩
            case measure => simp [intOf]; omega
        · have LV : Hid (ltOf cf d[pc]! d[hh]! = false) := by show _ = _; rw [HX.out, HY.out]; exact decide_eq_false (by omega)
          have nd1 : decide (cf x0 y0 < 0) = false := decide_eq_false hlv
          have nd2 : (!decide (cf x0 y0 < 0)) = true := by rw [nd1]; rfl
          go_region_held3 (fun w' => w'.cell? ⟨g, pc, none⟩ = some (.int .i64 x0) ∧ w'.cell? ⟨g, hh, none⟩ = some (.int .i64 y0))
            (exact ⟨(by have := rcur.out.cell (pc) 0 (by omega) (.int .i64 x0) (by rw [HX.out]; rfl); simpa using this), (by have := rcur.out.cell (hh) 0 (by omega) (.int .i64 y0) (by rw [HY.out]; rfl); simpa using this)⟩)
            (first
              | (refine (HC.out _ x0 y0 (H0.out.trans kcur.out) qx.out qy.out).mono ?_; rintro e wz ⟨rfl, hbz⟩; have rcur := Lib.hid (rcur.out.go hbz); have kcur := Lib.hid (kcur.out.below hbz); clear hbz))
          all_goals go_wp2_with fail
          all_goals
            go_roundw
            case rel => exact ⟨hh + 1, j, by go_num, rfl, by omega, by omega, by omega, rcur.out, kcur.out, .inr (by rw [show mid + m - (hh + 1) = pc from by have := HPP.out; have := HV4.out; omega, Nat.add_sub_cancel]; exact LV.out), HJ⟩
            case measure => simp [intOf]; omega
      · have hji : j = i := by omega
        subst hji
        obtain ⟨q1, q2, q3, q4, q5, q6, q7⟩ := G2.out j hmi hjb
        obtain ⟨s, hs⟩ : ∃ s, s = j := ⟨_, rfl⟩
        obtain rfl : s = j := hs
        obtain ⟨e, he⟩ : ∃ e : Nat, (mid : Int) + (m : Int) - (s : Int) = (e : Int) := ⟨mid + m - s, by omega⟩
        have e1 : mid + m - s = e := by omega
        rw [e1] at q4 q5 q6 q7
        have HI2 : Hid (s = s0 ∨ ltOf cf d[e]! d[s - 1]! = false) := by show _ ∨ _; rw [← e1]; exact HI.out
        have HJ2 : Hid (s = mid ∨ ltOf cf d[e - 1]! d[s]! = true) := by show _ ∨ _; rw [← e1]; exact HJ.out
        have e2 : mid + m = s + e := by omega
        clear HI HJ e1
        have HI := HI2
        have HJ := HJ2
        have Q6 := Lib.hid q6
        have Q7 := Lib.hid q7
        have E2 := Lib.hid e2
        have hcs : (s < m ∧ m < e ∧ (a < s ∧ s < mid ∨ s ≤ a) ∧ (mid < e ∧ e < b ∨ b ≤ e)) ∨ (m ≤ s ∧ e ≤ mid ∧ (s < mid ∨ mid ≤ s)) ∨ (e ≤ m ∧ mid ≤ s ∧ s < m) := by omega
        have e3 : mid + m ≤ s + e := by omega
        have e4 : s + e ≤ mid + m := by omega
        clear q6 q7 G1 G2 HI2 HJ2 e2 p1
        rcases hcs with ⟨x1, x2, x3, x4⟩ | ⟨x1, x2, x3⟩ | ⟨x1, x2, x3⟩
        · rcases x3 with ⟨x3, x5⟩ | x3
          · rcases x4 with ⟨x4, x6⟩ | x4
            · have f1 : (s : Int) < (m : Int) := by omega
              have f2 : (m : Int) < (e : Int) := by omega
              have f3 : (a : Int) < (s : Int) := by omega
              have f4 : (s : Int) < (mid : Int) := by omega
              have f5 : (mid : Int) < (e : Int) := by omega
              have f6 : (e : Int) < (b : Int) := by omega
              go_wp2_with fail
              refine (rotateI base g n cap s m e d _ _ HR.out (by omega) (by omega) (by omega) hn).mono ?_
              rintro _ w1 ⟨rfl, d1, hrow1, hrot, hkp1⟩
              have HR1 := Lib.hid hrow1
              have HK1 := Lib.hid (HK.out.trans hkp1)
              have HROT := Lib.hid hrot
              clear hrow1 hkp1 hrot
              have HM := Lib.hid (mid_of hS (b := b) S1.out S2.out q1 q2 q4 q5 E2.out q3 HI.out HJ.out Q6.out Q7.out HROT.out)
              have HQ1 : Hid (∀ i, i < n → Q d1[i]!) := Qperm HZ.out HROT.out.perm (by omega) HQ.out
              have HZ1 := Lib.hid HR1.out.size
              go_wp2_with fail
              refine (HIH.out a s mid d1 _ (by omega) (H0.out.trans HK1.out) HR1.out HQ1.out (by omega) (by omega) (by omega) HM.out.s1 HM.out.s2).mono ?_
              rintro _ w2 ⟨rfl, d2, hrow2, hp2, hs2', hkp2⟩
              have HR2 := Lib.hid hrow2
              have HK2 := Lib.hid (HK1.out.trans hkp2)
              have HP2 := Lib.hid hp2
              have HS2 := Lib.hid hs2'
              clear hrow2 hkp2 hp2 hs2'
              have HQ2 : Hid (∀ i, i < n → Q d2[i]!) := Qperm HZ1.out HP2.out (by omega) HQ1.out
              have HZ2 := Lib.hid HR2.out.size
              have HM2 := Lib.hid (HM.out.right_ (by omega) HP2.out)
              go_wp2_with fail
              refine (HIH.out mid e b d2 _ (by omega) (H0.out.trans HK2.out) HR2.out HQ2.out (by omega) (by omega) (by omega) HM2.out.1 HM2.out.2).mono ?_
              rintro _ w3 ⟨rfl, d3, hrow3, hp3, hs3, hkp3⟩
              have HR3 := Lib.hid hrow3
              have HK3 := Lib.hid (HK2.out.trans hkp3)
              have HP3 := Lib.hid hp3
              have HS3 := Lib.hid hs3
              clear hrow3 hkp3 hp3 hs3
              go_wp2_with fail
              go_end0
              refine ⟨rfl, d3, HR3.out, ?_, HM.out.whole (by rw [HZ1.out]; exact h3) (by omega) HP2.out HS2.out HP3.out HS3.out, HK3.out⟩
              exact permIn_trans _ _ _ _ _ (permIn_mono _ _ _ _ _ _ q1 q5 (by rw [HZ.out]; exact h3) HROT.out.perm) (permIn_trans _ _ _ _ _ (permIn_mono _ _ _ _ _ _ (Nat.le_refl _) (by omega) (by rw [HZ1.out]; exact h3) HP2.out) (permIn_mono _ _ _ _ _ _ (by omega) (Nat.le_refl _) (by rw [HZ2.out]; exact h3) HP3.out))
            · have f1 : (s : Int) < (m : Int) := by omega
              have f2 : (m : Int) < (e : Int) := by omega
              have f3 : (a : Int) < (s : Int) := by omega
              have f4 : (s : Int) < (mid : Int) := by omega
              have f5 : (mid : Int) < (e : Int) := by omega
              have f6 : decide ((e : Int) < (b : Int)) = false := decide_eq_false (by omega)
              go_wp2_with fail
              refine (rotateI base g n cap s m e d _ _ HR.out (by omega) (by omega) (by omega) hn).mono ?_
              rintro _ w1 ⟨rfl, d1, hrow1, hrot, hkp1⟩
              have HR1 := Lib.hid hrow1
              have HK1 := Lib.hid (HK.out.trans hkp1)
              have HROT := Lib.hid hrot
              clear hrow1 hkp1 hrot
              have HM := Lib.hid (mid_of hS (b := b) S1.out S2.out q1 q2 q4 q5 E2.out q3 HI.out HJ.out Q6.out Q7.out HROT.out)
              have HQ1 : Hid (∀ i, i < n → Q d1[i]!) := Qperm HZ.out HROT.out.perm (by omega) HQ.out
              have HZ1 := Lib.hid HR1.out.size
              go_wp2_with fail
              refine (HIH.out a s mid d1 _ (by omega) (H0.out.trans HK1.out) HR1.out HQ1.out (by omega) (by omega) (by omega) HM.out.s1 HM.out.s2).mono ?_
              rintro _ w2 ⟨rfl, d2, hrow2, hp2, hs2', hkp2⟩
              have HR2 := Lib.hid hrow2
              have HK2 := Lib.hid (HK1.out.trans hkp2)
              have HP2 := Lib.hid hp2
              have HS2 := Lib.hid hs2'
              clear hrow2 hkp2 hp2 hs2'
              have HQ2 : Hid (∀ i, i < n → Q d2[i]!) := Qperm HZ1.out HP2.out (by omega) HQ1.out
              have HZ2 := Lib.hid HR2.out.size
              have HM2 := Lib.hid (HM.out.right_ (by omega) HP2.out)
              go_wp2_with fail
              obtain ⟨d3, hd3⟩ : ∃ d3, d3 = d2 := ⟨_, rfl⟩
              have HD3 := Lib.hid hd3
              clear hd3
              have HR3 : Hid (Row encI 1 base 3 g n cap w2 d3) := by show Row _ _ _ _ _ _ _ _ _; rw [HD3.out]; exact HR2.out
              have HK3 := HK2
              have HP3 : Hid (PermIn mid b d2 d3) := by show PermIn _ _ _ _; rw [HD3.out]; exact permIn_refl _ _ _
              have HS3 : Hid (SortedIn (ltOf cf) mid b d3) := by show SortedIn _ _ _ _; rw [HD3.out]; exact sorted_join HM2.out.1 HM2.out.2 (by omega)
              go_end0
              refine ⟨rfl, d3, HR3.out, ?_, HM.out.whole (by rw [HZ1.out]; exact h3) (by omega) HP2.out HS2.out HP3.out HS3.out, HK3.out⟩
              exact permIn_trans _ _ _ _ _ (permIn_mono _ _ _ _ _ _ q1 q5 (by rw [HZ.out]; exact h3) HROT.out.perm) (permIn_trans _ _ _ _ _ (permIn_mono _ _ _ _ _ _ (Nat.le_refl _) (by omega) (by rw [HZ1.out]; exact h3) HP2.out) (permIn_mono _ _ _ _ _ _ (by omega) (Nat.le_refl _) (by rw [HZ2.out]; exact h3) HP3.out))
          · rcases x4 with ⟨x4, x6⟩ | x4
            · exfalso; omega
            · have f1 : (s : Int) < (m : Int) := by omega
              have f2 : (m : Int) < (e : Int) := by omega
              have f3 : decide ((a : Int) < (s : Int)) = false := decide_eq_false (by omega)
              have f5 : (mid : Int) < (e : Int) := by omega
              have f6 : decide ((e : Int) < (b : Int)) = false := decide_eq_false (by omega)
              go_wp2_with fail
              refine (rotateI base g n cap s m e d _ _ HR.out (by omega) (by omega) (by omega) hn).mono ?_
              rintro _ w1 ⟨rfl, d1, hrow1, hrot, hkp1⟩
              have HR1 := Lib.hid hrow1
              have HK1 := Lib.hid (HK.out.trans hkp1)
              have HROT := Lib.hid hrot
              clear hrow1 hkp1 hrot
              have HM := Lib.hid (mid_of hS (b := b) S1.out S2.out q1 q2 q4 q5 E2.out q3 HI.out HJ.out Q6.out Q7.out HROT.out)
              have HQ1 : Hid (∀ i, i < n → Q d1[i]!) := Qperm HZ.out HROT.out.perm (by omega) HQ.out
              have HZ1 := Lib.hid HR1.out.size
              obtain ⟨d2, hd2⟩ : ∃ d2, d2 = d1 := ⟨_, rfl⟩
              have HD2 := Lib.hid hd2
              clear hd2
              have HR2 : Hid (Row encI 1 base 3 g n cap w1 d2) := by show Row _ _ _ _ _ _ _ _ _; rw [HD2.out]; exact HR1.out
              have HK2 := HK1
              have HP2 : Hid (PermIn a mid d1 d2) := by show PermIn _ _ _ _; rw [HD2.out]; exact permIn_refl _ _ _
              have HS2 : Hid (SortedIn (ltOf cf) a mid d2) := by show SortedIn _ _ _ _; rw [HD2.out]; exact sorted_join HM.out.s1 HM.out.s2 (by omega)
              have HQ2 : Hid (∀ i, i < n → Q d2[i]!) := Qperm HZ1.out HP2.out (by omega) HQ1.out
              have HZ2 := Lib.hid HR2.out.size
              have HM2 := Lib.hid (HM.out.right_ (by omega) HP2.out)
              go_wp2_with fail
              obtain ⟨d3, hd3⟩ : ∃ d3, d3 = d2 := ⟨_, rfl⟩
              have HD3 := Lib.hid hd3
              clear hd3
              have HR3 : Hid (Row encI 1 base 3 g n cap w1 d3) := by show Row _ _ _ _ _ _ _ _ _; rw [HD3.out]; exact HR2.out
              have HK3 := HK2
              have HP3 : Hid (PermIn mid b d2 d3) := by show PermIn _ _ _ _; rw [HD3.out]; exact permIn_refl _ _ _
              have HS3 : Hid (SortedIn (ltOf cf) mid b d3) := by show SortedIn _ _ _ _; rw [HD3.out]; exact sorted_join HM2.out.1 HM2.out.2 (by omega)
              go_end0
              refine ⟨rfl, d3, HR3.out, ?_, HM.out.whole (by rw [HZ1.out]; exact h3) (by omega) HP2.out HS2.out HP3.out HS3.out, HK3.out⟩
              exact permIn_trans _ _ _ _ _ (permIn_mono _ _ _ _ _ _ q1 q5 (by rw [HZ.out]; exact h3) HROT.out.perm) (permIn_trans _ _ _ _ _ (permIn_mono _ _ _ _ _ _ (Nat.le_refl _) (by omega) (by rw [HZ1.out]; exact h3) HP2.out) (permIn_mono _ _ _ _ _ _ (by omega) (Nat.le_refl _) (by rw [HZ2.out]; exact h3) HP3.out))
        · rcases x3 with x3 | x3
          · exfalso; omega
          · exfalso; omega
        · have f1 : (s : Int) < (m : Int) := by omega
          have f2 : decide ((m : Int) < (e : Int)) = false := decide_eq_false (by omega)
          have f3 : (a : Int) < (s : Int) := by omega
          have f4 : decide ((s : Int) < (mid : Int)) = false := decide_eq_false (by omega)
          have f5 : (mid : Int) < (e : Int) := by omega
          have f6 : (e : Int) < (b : Int) := by omega
          go_wp2_with fail
          obtain ⟨d1, hd1⟩ : ∃ d1, d1 = d := ⟨_, rfl⟩
          have HD1 := Lib.hid hd1
          clear hd1
          have HROT : Hid (Rot d s m e d1) := by show Rot _ _ _ _ _; rw [HD1.out]; exact Rot.none_ (by omega) (by omega) (by omega)
          have HR1 : Hid (Row encI 1 base 3 g n cap wr d1) := by show Row _ _ _ _ _ _ _ _ _; rw [HD1.out]; exact HR.out
          have HK1 := HK
          have HM := Lib.hid (mid_of hS (b := b) S1.out S2.out q1 q2 q4 q5 E2.out q3 HI.out HJ.out Q6.out Q7.out HROT.out)
          have HQ1 : Hid (∀ i, i < n → Q d1[i]!) := Qperm HZ.out HROT.out.perm (by omega) HQ.out
          have HZ1 := Lib.hid HR1.out.size
          obtain ⟨d2, hd2⟩ : ∃ d2, d2 = d1 := ⟨_, rfl⟩
          have HD2 := Lib.hid hd2
          clear hd2
          have HR2 : Hid (Row encI 1 base 3 g n cap wr d2) := by show Row _ _ _ _ _ _ _ _ _; rw [HD2.out]; exact HR1.out
          have HK2 := HK1
          have HP2 : Hid (PermIn a mid d1 d2) := by show PermIn _ _ _ _; rw [HD2.out]; exact permIn_refl _ _ _
          have HS2 : Hid (SortedIn (ltOf cf) a mid d2) := by show SortedIn _ _ _ _; rw [HD2.out]; exact sorted_join HM.out.s1 HM.out.s2 (by omega)
          have HQ2 : Hid (∀ i, i < n → Q d2[i]!) := Qperm HZ1.out HP2.out (by omega) HQ1.out
          have HZ2 := Lib.hid HR2.out.size
          have HM2 := Lib.hid (HM.out.right_ (by omega) HP2.out)
          refine (HIH.out mid e b d2 _ (by omega) (H0.out.trans HK2.out) HR2.out HQ2.out (by omega) (by omega) (by omega) HM2.out.1 HM2.out.2).mono ?_
          rintro _ w3 ⟨rfl, d3, hrow3, hp3, hs3, hkp3⟩
          have HR3 := Lib.hid hrow3
          have HK3 := Lib.hid (HK2.out.trans hkp3)
          have HP3 := Lib.hid hp3
          have HS3 := Lib.hid hs3
          clear hrow3 hkp3 hp3 hs3
          go_wp2_with fail
          go_end0
          refine ⟨rfl, d3, HR3.out, ?_, HM.out.whole (by rw [HZ1.out]; exact h3) (by omega) HP2.out HS2.out HP3.out HS3.out, HK3.out⟩
          exact permIn_trans _ _ _ _ _ (permIn_mono _ _ _ _ _ _ q1 q5 (by rw [HZ.out]; exact h3) HROT.out.perm) (permIn_trans _ _ _ _ _ (permIn_mono _ _ _ _ _ _ (Nat.le_refl _) (by omega) (by rw [HZ1.out]; exact h3) HP2.out) (permIn_mono _ _ _ _ _ _ (by omega) (Nat.le_refl _) (by rw [HZ2.out]; exact h3) HP3.out))
  · have k5 : decide ((mid : Int) < (m : Int)) = false := decide_eq_false (by omega)
    obtain rfl : a = s0 := k2.symm
    obtain rfl : m = r0 := k3.symm
    clear L0
    go_enter Tryz.func56, Tryz.ntmps56
    go_wp2_with fail
    clear k5
    go_loopw [20, 21] (fun vi vj wr => ∃ (i j : Nat), vi = .int .i64 i ∧ vj = .int .i64 j ∧ a ≤ i ∧ i ≤ j ∧ j ≤ m ∧ Row encI 1 base 3 g n cap wr d ∧ Kp g w wr ∧ Hid (i = a ∨ ltOf cf d[mid + m - i]! d[i - 1]! = false) ∧ Hid (j = m ∨ ltOf cf d[mid + m - j - 1]! d[j]! = true)) (fun vi vj _ => (intOf vj).toNat - (intOf vi).toNat)
    case atStart => exact ⟨a, m, rfl, rfl, Nat.le_refl _, by omega, Nat.le_refl _, HROW.out, Kp.refl _ _, .inl rfl, .inl rfl⟩
    case round =>
      obtain ⟨i, j, rfl, rfl, hmi, hij, hjb, hrow, hkp, HI, HJ⟩ := hrel
      have HR := Lib.hid hrow
      have HK := Lib.hid hkp
      clear hrow hkp
      by_cases hlt : i < j
      · obtain ⟨hh, hhe⟩ : ∃ hh : Nat, ((i : Int) + (j : Int)) / 2 = (hh : Int) := ⟨(i + j) / 2, by omega⟩
        have u1 : i ≤ hh := by omega
        have u2 : hh < j := by omega
        obtain ⟨v1, v2, v3⟩ := G1.out hh (by omega) (by omega)
        obtain ⟨pc, hpc⟩ : ∃ pc : Nat, (pp : Int) - (hh : Int) = (pc : Int) := ⟨pp - hh, by omega⟩
        have v4 : pc + hh = pp := by omega
        have v5 : pc < b := by omega
        have u3 : (hh : Int) < (n : Int) := by omega
        have u4 : (pc : Int) < (n : Int) := by omega
        have u5 : (0 : Int) ≤ (hh : Int) := by omega
        have u6 : (0 : Int) ≤ (pc : Int) := by omega
        have u7 : IntKind.i64.wrap (pc : Int) = (pc : Int) := IntWalk.i64_in _ (by omega)
        have HPP := Lib.hid p1
        have HV4 := Lib.hid v4
        clear p1 v4
        obtain ⟨x0, hx⟩ : ∃ x, d[pc]! = x := ⟨_, rfl⟩
        obtain ⟨y0, hy⟩ : ∃ x, d[hh]! = x := ⟨_, rfl⟩
        have HX := Lib.hid hx
        have HY := Lib.hid hy
        have qx : Hid (Q x0) := by show Q _; rw [← hx]; exact HQ.out _ (by omega)
        have qy : Hid (Q y0) := by show Q _; rw [← hy]; exact HQ.out _ (by omega)
        clear hx hy
        go_wp2_with fail
        have rcur := Lib.hid HR.out.drew
        have kcur := Lib.hid HK.out.drew
        by_cases hlv : cf x0 y0 < 0
        · have LV : Hid (ltOf cf d[pc]! d[hh]! = true) := by show _ = _; rw [HX.out, HY.out]; exact decide_eq_true hlv
          have nd1 : decide (cf x0 y0 < 0) = true := decide_eq_true hlv
          have nd2 : (!decide (cf x0 y0 < 0)) = false := by rw [nd1]; rfl
          go_region_held3 (fun w' => w'.cell? ⟨g, pc, none⟩ = some (.int .i64 x0) ∧ w'.cell? ⟨g, hh, none⟩ = some (.int .i64 y0))
            (exact ⟨(by have := rcur.out.cell (pc) 0 (by omega) (.int .i64 x0) (by rw [HX.out]; rfl); simpa using this), (by have := rcur.out.cell (hh) 0 (by omega) (.int .i64 y0) (by rw [HY.out]; rfl); simpa using this)⟩)
            (first
              | (refine (HC.out _ x0 y0 (H0.out.trans kcur.out) qx.out qy.out).mono ?_; rintro e wz ⟨rfl, hbz⟩; have rcur := Lib.hid (rcur.out.go hbz); have kcur := Lib.hid (kcur.out.below hbz); clear hbz))
          all_goals go_wp2_with fail
          all_goals
            go_roundw
            case rel => exact ⟨i, hh, rfl, rfl, by omega, by omega, by omega, rcur.out, kcur.out, HI, .inr (by rw [show mid + m - hh - 1 = pc from by have := HPP.out; have := HV4.out; omega]; exact LV.out)⟩
            case measure => simp [intOf]; omega
        · have LV : Hid (ltOf cf d[pc]! d[hh]! = false) := by show _ = _; rw [HX.out, HY.out]; exact decide_eq_false (by omega)
          have nd1 : decide (cf x0 y0 < 0) = false := decide_eq_false hlv
          have nd2 : (!decide (cf x0 y0 < 0)) = true := by rw [nd1]; rfl
          go_region_held3 (fun w' => w'.cell? ⟨g, pc, none⟩ = some (.int .i64 x0) ∧ w'.cell? ⟨g, hh, none⟩ = some (.int .i64 y0))
            (exact ⟨(by have := rcur.out.cell (pc) 0 (by omega) (.int .i64 x0) (by rw [HX.out]; rfl); simpa using this), (by have := rcur.out.cell (hh) 0 (by omega) (.int .i64 y0) (by rw [HY.out]; rfl); simpa using this)⟩)
            (first
              | (refine (HC.out _ x0 y0 (H0.out.trans kcur.out) qx.out qy.out).mono ?_; rintro e wz ⟨rfl, hbz⟩; have rcur := Lib.hid (rcur.out.go hbz); have kcur := Lib.hid (kcur.out.below hbz); clear hbz))
          all_goals go_wp2_with fail
          all_goals
            go_roundw
            case rel => exact ⟨hh + 1, j, by go_num, rfl, by omega, by omega, by omega, rcur.out, kcur.out, .inr (by rw [show mid + m - (hh + 1) = pc from by have := HPP.out; have := HV4.out; omega, Nat.add_sub_cancel]; exact LV.out), HJ⟩
            case measure => simp [intOf]; omega
      · have hji : j = i := by omega
        subst hji
        obtain ⟨q1, q2, q3, q4, q5, q6, q7⟩ := G2.out j hmi hjb
        obtain ⟨s, hs⟩ : ∃ s, s = j := ⟨_, rfl⟩
        obtain rfl : s = j := hs
        obtain ⟨e, he⟩ : ∃ e : Nat, (mid : Int) + (m : Int) - (s : Int) = (e : Int) := ⟨mid + m - s, by omega⟩
        have e1 : mid + m - s = e := by omega
        rw [e1] at q4 q5 q6 q7
        have HI2 : Hid (s = a ∨ ltOf cf d[e]! d[s - 1]! = false) := by show _ ∨ _; rw [← e1]; exact HI.out
        have HJ2 : Hid (s = m ∨ ltOf cf d[e - 1]! d[s]! = true) := by show _ ∨ _; rw [← e1]; exact HJ.out
        have e2 : mid + m = s + e := by omega
        clear HI HJ e1
        have HI := HI2
        have HJ := HJ2
        have Q6 := Lib.hid q6
        have Q7 := Lib.hid q7
        have E2 := Lib.hid e2
        have hcs : (s < m ∧ m < e ∧ (a < s ∧ s < mid ∨ s ≤ a) ∧ (mid < e ∧ e < b ∨ b ≤ e)) ∨ (m ≤ s ∧ e ≤ mid ∧ (s < mid ∨ mid ≤ s)) ∨ (e ≤ m ∧ mid ≤ s ∧ s < m) := by omega
        have e3 : mid + m ≤ s + e := by omega
        have e4 : s + e ≤ mid + m := by omega
        clear q6 q7 G1 G2 HI2 HJ2 e2 p1
        rcases hcs with ⟨x1, x2, x3, x4⟩ | ⟨x1, x2, x3⟩ | ⟨x1, x2, x3⟩
        · rcases x3 with ⟨x3, x5⟩ | x3
          · rcases x4 with ⟨x4, x6⟩ | x4
            · have f1 : (s : Int) < (m : Int) := by omega
              have f2 : (m : Int) < (e : Int) := by omega
              have f3 : (a : Int) < (s : Int) := by omega
              have f4 : (s : Int) < (mid : Int) := by omega
              have f5 : (mid : Int) < (e : Int) := by omega
              have f6 : (e : Int) < (b : Int) := by omega
              go_wp2_with fail
              refine (rotateI base g n cap s m e d _ _ HR.out (by omega) (by omega) (by omega) hn).mono ?_
              rintro _ w1 ⟨rfl, d1, hrow1, hrot, hkp1⟩
              have HR1 := Lib.hid hrow1
              have HK1 := Lib.hid (HK.out.trans hkp1)
              have HROT := Lib.hid hrot
              clear hrow1 hkp1 hrot
              have HM := Lib.hid (mid_of hS (b := b) S1.out S2.out q1 q2 q4 q5 E2.out q3 HI.out HJ.out Q6.out Q7.out HROT.out)
              have HQ1 : Hid (∀ i, i < n → Q d1[i]!) := Qperm HZ.out HROT.out.perm (by omega) HQ.out
              have HZ1 := Lib.hid HR1.out.size
              go_wp2_with fail
              refine (HIH.out a s mid d1 _ (by omega) (H0.out.trans HK1.out) HR1.out HQ1.out (by omega) (by omega) (by omega) HM.out.s1 HM.out.s2).mono ?_
              rintro _ w2 ⟨rfl, d2, hrow2, hp2, hs2', hkp2⟩
              have HR2 := Lib.hid hrow2
              have HK2 := Lib.hid (HK1.out.trans hkp2)
              have HP2 := Lib.hid hp2
              have HS2 := Lib.hid hs2'
              clear hrow2 hkp2 hp2 hs2'
              have HQ2 : Hid (∀ i, i < n → Q d2[i]!) := Qperm HZ1.out HP2.out (by omega) HQ1.out
              have HZ2 := Lib.hid HR2.out.size
              have HM2 := Lib.hid (HM.out.right_ (by omega) HP2.out)
              go_wp2_with fail
              refine (HIH.out mid e b d2 _ (by omega) (H0.out.trans HK2.out) HR2.out HQ2.out (by omega) (by omega) (by omega) HM2.out.1 HM2.out.2).mono ?_
              rintro _ w3 ⟨rfl, d3, hrow3, hp3, hs3, hkp3⟩
              have HR3 := Lib.hid hrow3
              have HK3 := Lib.hid (HK2.out.trans hkp3)
              have HP3 := Lib.hid hp3
              have HS3 := Lib.hid hs3
              clear hrow3 hkp3 hp3 hs3
              go_wp2_with fail
              go_end0
              refine ⟨rfl, d3, HR3.out, ?_, HM.out.whole (by rw [HZ1.out]; exact h3) (by omega) HP2.out HS2.out HP3.out HS3.out, HK3.out⟩
              exact permIn_trans _ _ _ _ _ (permIn_mono _ _ _ _ _ _ q1 q5 (by rw [HZ.out]; exact h3) HROT.out.perm) (permIn_trans _ _ _ _ _ (permIn_mono _ _ _ _ _ _ (Nat.le_refl _) (by omega) (by rw [HZ1.out]; exact h3) HP2.out) (permIn_mono _ _ _ _ _ _ (by omega) (Nat.le_refl _) (by rw [HZ2.out]; exact h3) HP3.out))
            · exfalso; omega
          · rcases x4 with ⟨x4, x6⟩ | x4
            · have f1 : (s : Int) < (m : Int) := by omega
              have f2 : (m : Int) < (e : Int) := by omega
              have f3 : decide ((a : Int) < (s : Int)) = false := decide_eq_false (by omega)
              have f5 : (mid : Int) < (e : Int) := by omega
              have f6 : (e : Int) < (b : Int) := by omega
              go_wp2_with fail
              refine (rotateI base g n cap s m e d _ _ HR.out (by omega) (by omega) (by omega) hn).mono ?_
              rintro _ w1 ⟨rfl, d1, hrow1, hrot, hkp1⟩
              have HR1 := Lib.hid hrow1
              have HK1 := Lib.hid (HK.out.trans hkp1)
              have HROT := Lib.hid hrot
              clear hrow1 hkp1 hrot
              have HM := Lib.hid (mid_of hS (b := b) S1.out S2.out q1 q2 q4 q5 E2.out q3 HI.out HJ.out Q6.out Q7.out HROT.out)
              have HQ1 : Hid (∀ i, i < n → Q d1[i]!) := Qperm HZ.out HROT.out.perm (by omega) HQ.out
              have HZ1 := Lib.hid HR1.out.size
              obtain ⟨d2, hd2⟩ : ∃ d2, d2 = d1 := ⟨_, rfl⟩
              have HD2 := Lib.hid hd2
              clear hd2
              have HR2 : Hid (Row encI 1 base 3 g n cap w1 d2) := by show Row _ _ _ _ _ _ _ _ _; rw [HD2.out]; exact HR1.out
              have HK2 := HK1
              have HP2 : Hid (PermIn a mid d1 d2) := by show PermIn _ _ _ _; rw [HD2.out]; exact permIn_refl _ _ _
              have HS2 : Hid (SortedIn (ltOf cf) a mid d2) := by show SortedIn _ _ _ _; rw [HD2.out]; exact sorted_join HM.out.s1 HM.out.s2 (by omega)
              have HQ2 : Hid (∀ i, i < n → Q d2[i]!) := Qperm HZ1.out HP2.out (by omega) HQ1.out
              have HZ2 := Lib.hid HR2.out.size
              have HM2 := Lib.hid (HM.out.right_ (by omega) HP2.out)
              go_wp2_with fail
              refine (HIH.out mid e b d2 _ (by omega) (H0.out.trans HK2.out) HR2.out HQ2.out (by omega) (by omega) (by omega) HM2.out.1 HM2.out.2).mono ?_
              rintro _ w3 ⟨rfl, d3, hrow3, hp3, hs3, hkp3⟩
              have HR3 := Lib.hid hrow3
              have HK3 := Lib.hid (HK2.out.trans hkp3)
              have HP3 := Lib.hid hp3
              have HS3 := Lib.hid hs3
              clear hrow3 hkp3 hp3 hs3
              go_wp2_with fail
              go_end0
              refine ⟨rfl, d3, HR3.out, ?_, HM.out.whole (by rw [HZ1.out]; exact h3) (by omega) HP2.out HS2.out HP3.out HS3.out, HK3.out⟩
              exact permIn_trans _ _ _ _ _ (permIn_mono _ _ _ _ _ _ q1 q5 (by rw [HZ.out]; exact h3) HROT.out.perm) (permIn_trans _ _ _ _ _ (permIn_mono _ _ _ _ _ _ (Nat.le_refl _) (by omega) (by rw [HZ1.out]; exact h3) HP2.out) (permIn_mono _ _ _ _ _ _ (by omega) (Nat.le_refl _) (by rw [HZ2.out]; exact h3) HP3.out))
            · have f1 : (s : Int) < (m : Int) := by omega
              have f2 : (m : Int) < (e : Int) := by omega
              have f3 : decide ((a : Int) < (s : Int)) = false := decide_eq_false (by omega)
              have f5 : (mid : Int) < (e : Int) := by omega
              have f6 : decide ((e : Int) < (b : Int)) = false := decide_eq_false (by omega)
              go_wp2_with fail
              refine (rotateI base g n cap s m e d _ _ HR.out (by omega) (by omega) (by omega) hn).mono ?_
              rintro _ w1 ⟨rfl, d1, hrow1, hrot, hkp1⟩
              have HR1 := Lib.hid hrow1
              have HK1 := Lib.hid (HK.out.trans hkp1)
              have HROT := Lib.hid hrot
              clear hrow1 hkp1 hrot
              have HM := Lib.hid (mid_of hS (b := b) S1.out S2.out q1 q2 q4 q5 E2.out q3 HI.out HJ.out Q6.out Q7.out HROT.out)
              have HQ1 : Hid (∀ i, i < n → Q d1[i]!) := Qperm HZ.out HROT.out.perm (by omega) HQ.out
              have HZ1 := Lib.hid HR1.out.size
              obtain ⟨d2, hd2⟩ : ∃ d2, d2 = d1 := ⟨_, rfl⟩
              have HD2 := Lib.hid hd2
              clear hd2
              have HR2 : Hid (Row encI 1 base 3 g n cap w1 d2) := by show Row _ _ _ _ _ _ _ _ _; rw [HD2.out]; exact HR1.out
              have HK2 := HK1
              have HP2 : Hid (PermIn a mid d1 d2) := by show PermIn _ _ _ _; rw [HD2.out]; exact permIn_refl _ _ _
              have HS2 : Hid (SortedIn (ltOf cf) a mid d2) := by show SortedIn _ _ _ _; rw [HD2.out]; exact sorted_join HM.out.s1 HM.out.s2 (by omega)
              have HQ2 : Hid (∀ i, i < n → Q d2[i]!) := Qperm HZ1.out HP2.out (by omega) HQ1.out
              have HZ2 := Lib.hid HR2.out.size
              have HM2 := Lib.hid (HM.out.right_ (by omega) HP2.out)
              go_wp2_with fail
              obtain ⟨d3, hd3⟩ : ∃ d3, d3 = d2 := ⟨_, rfl⟩
              have HD3 := Lib.hid hd3
              clear hd3
              have HR3 : Hid (Row encI 1 base 3 g n cap w1 d3) := by show Row _ _ _ _ _ _ _ _ _; rw [HD3.out]; exact HR2.out
              have HK3 := HK2
              have HP3 : Hid (PermIn mid b d2 d3) := by show PermIn _ _ _ _; rw [HD3.out]; exact permIn_refl _ _ _
              have HS3 : Hid (SortedIn (ltOf cf) mid b d3) := by show SortedIn _ _ _ _; rw [HD3.out]; exact sorted_join HM2.out.1 HM2.out.2 (by omega)
              go_end0
              refine ⟨rfl, d3, HR3.out, ?_, HM.out.whole (by rw [HZ1.out]; exact h3) (by omega) HP2.out HS2.out HP3.out HS3.out, HK3.out⟩
              exact permIn_trans _ _ _ _ _ (permIn_mono _ _ _ _ _ _ q1 q5 (by rw [HZ.out]; exact h3) HROT.out.perm) (permIn_trans _ _ _ _ _ (permIn_mono _ _ _ _ _ _ (Nat.le_refl _) (by omega) (by rw [HZ1.out]; exact h3) HP2.out) (permIn_mono _ _ _ _ _ _ (by omega) (Nat.le_refl _) (by rw [HZ2.out]; exact h3) HP3.out))
        · rcases x3 with x3 | x3
          · have f1 : decide ((s : Int) < (m : Int)) = false := decide_eq_false (by omega)
            have f3 : (a : Int) < (s : Int) := by omega
            have f4 : (s : Int) < (mid : Int) := by omega
            have f5 : decide ((mid : Int) < (e : Int)) = false := decide_eq_false (by omega)
            go_wp2_with fail
            obtain ⟨d1, hd1⟩ : ∃ d1, d1 = d := ⟨_, rfl⟩
            have HD1 := Lib.hid hd1
            clear hd1
            have HROT : Hid (Rot d s m e d1) := by show Rot _ _ _ _ _; rw [HD1.out]; exact Rot.none_ (by omega) (by omega) (by omega)
            have HR1 : Hid (Row encI 1 base 3 g n cap wr d1) := by show Row _ _ _ _ _ _ _ _ _; rw [HD1.out]; exact HR.out
            have HK1 := HK
            have HM := Lib.hid (mid_of hS (b := b) S1.out S2.out q1 q2 q4 q5 E2.out q3 HI.out HJ.out Q6.out Q7.out HROT.out)
            have HQ1 : Hid (∀ i, i < n → Q d1[i]!) := Qperm HZ.out HROT.out.perm (by omega) HQ.out
            have HZ1 := Lib.hid HR1.out.size
            refine (HIH.out a s mid d1 _ (by omega) (H0.out.trans HK1.out) HR1.out HQ1.out (by omega) (by omega) (by omega) HM.out.s1 HM.out.s2).mono ?_
            rintro _ w2 ⟨rfl, d2, hrow2, hp2, hs2', hkp2⟩
            have HR2 := Lib.hid hrow2
            have HK2 := Lib.hid (HK1.out.trans hkp2)
            have HP2 := Lib.hid hp2
            have HS2 := Lib.hid hs2'
            clear hrow2 hkp2 hp2 hs2'
            have HQ2 : Hid (∀ i, i < n → Q d2[i]!) := Qperm HZ1.out HP2.out (by omega) HQ1.out
            have HZ2 := Lib.hid HR2.out.size
            have HM2 := Lib.hid (HM.out.right_ (by omega) HP2.out)
            go_wp2_with fail
            obtain ⟨d3, hd3⟩ : ∃ d3, d3 = d2 := ⟨_, rfl⟩
            have HD3 := Lib.hid hd3
            clear hd3
            have HR3 : Hid (Row encI 1 base 3 g n cap w2 d3) := by show Row _ _ _ _ _ _ _ _ _; rw [HD3.out]; exact HR2.out
            have HK3 := HK2
            have HP3 : Hid (PermIn mid b d2 d3) := by show PermIn _ _ _ _; rw [HD3.out]; exact permIn_refl _ _ _
            have HS3 : Hid (SortedIn (ltOf cf) mid b d3) := by show SortedIn _ _ _ _; rw [HD3.out]; exact sorted_join HM2.out.1 HM2.out.2 (by omega)
            go_end0
            refine ⟨rfl, d3, HR3.out, ?_, HM.out.whole (by rw [HZ1.out]; exact h3) (by omega) HP2.out HS2.out HP3.out HS3.out, HK3.out⟩
            exact permIn_trans _ _ _ _ _ (permIn_mono _ _ _ _ _ _ q1 q5 (by rw [HZ.out]; exact h3) HROT.out.perm) (permIn_trans _ _ _ _ _ (permIn_mono _ _ _ _ _ _ (Nat.le_refl _) (by omega) (by rw [HZ1.out]; exact h3) HP2.out) (permIn_mono _ _ _ _ _ _ (by omega) (Nat.le_refl _) (by rw [HZ2.out]; exact h3) HP3.out))
          · have f1 : decide ((s : Int) < (m : Int)) = false := decide_eq_false (by omega)
            have f3 : (a : Int) < (s : Int) := by omega
            have f4 : decide ((s : Int) < (mid : Int)) = false := decide_eq_false (by omega)
            have f5 : decide ((mid : Int) < (e : Int)) = false := decide_eq_false (by omega)
            go_wp2_with fail
            obtain ⟨d1, hd1⟩ : ∃ d1, d1 = d := ⟨_, rfl⟩
            have HD1 := Lib.hid hd1
            clear hd1
            have HROT : Hid (Rot d s m e d1) := by show Rot _ _ _ _ _; rw [HD1.out]; exact Rot.none_ (by omega) (by omega) (by omega)
            have HR1 : Hid (Row encI 1 base 3 g n cap wr d1) := by show Row _ _ _ _ _ _ _ _ _; rw [HD1.out]; exact HR.out
            have HK1 := HK
            have HM := Lib.hid (mid_of hS (b := b) S1.out S2.out q1 q2 q4 q5 E2.out q3 HI.out HJ.out Q6.out Q7.out HROT.out)
            have HQ1 : Hid (∀ i, i < n → Q d1[i]!) := Qperm HZ.out HROT.out.perm (by omega) HQ.out
            have HZ1 := Lib.hid HR1.out.size
            obtain ⟨d2, hd2⟩ : ∃ d2, d2 = d1 := ⟨_, rfl⟩
            have HD2 := Lib.hid hd2
            clear hd2
            have HR2 : Hid (Row encI 1 base 3 g n cap wr d2) := by show Row _ _ _ _ _ _ _ _ _; rw [HD2.out]; exact HR1.out
            have HK2 := HK1
            have HP2 : Hid (PermIn a mid d1 d2) := by show PermIn _ _ _ _; rw [HD2.out]; exact permIn_refl _ _ _
            have HS2 : Hid (SortedIn (ltOf cf) a mid d2) := by show SortedIn _ _ _ _; rw [HD2.out]; exact sorted_join HM.out.s1 HM.out.s2 (by omega)
            have HQ2 : Hid (∀ i, i < n → Q d2[i]!) := Qperm HZ1.out HP2.out (by omega) HQ1.out
            have HZ2 := Lib.hid HR2.out.size
            have HM2 := Lib.hid (HM.out.right_ (by omega) HP2.out)
            obtain ⟨d3, hd3⟩ : ∃ d3, d3 = d2 := ⟨_, rfl⟩
            have HD3 := Lib.hid hd3
            clear hd3
            have HR3 : Hid (Row encI 1 base 3 g n cap wr d3) := by show Row _ _ _ _ _ _ _ _ _; rw [HD3.out]; exact HR2.out
            have HK3 := HK2
            have HP3 : Hid (PermIn mid b d2 d3) := by show PermIn _ _ _ _; rw [HD3.out]; exact permIn_refl _ _ _
            have HS3 : Hid (SortedIn (ltOf cf) mid b d3) := by show SortedIn _ _ _ _; rw [HD3.out]; exact sorted_join HM2.out.1 HM2.out.2 (by omega)
            go_end0
            refine ⟨rfl, d3, HR3.out, ?_, HM.out.whole (by rw [HZ1.out]; exact h3) (by omega) HP2.out HS2.out HP3.out HS3.out, HK3.out⟩
            exact permIn_trans _ _ _ _ _ (permIn_mono _ _ _ _ _ _ q1 q5 (by rw [HZ.out]; exact h3) HROT.out.perm) (permIn_trans _ _ _ _ _ (permIn_mono _ _ _ _ _ _ (Nat.le_refl _) (by omega) (by rw [HZ1.out]; exact h3) HP2.out) (permIn_mono _ _ _ _ _ _ (by omega) (Nat.le_refl _) (by rw [HZ2.out]; exact h3) HP3.out))
        · exfalso; omega
end Go.Proofs.YtibhgcldogfonaaGreatDoor.Srt
namespace Go.Proofs.YtibhgcldogfonaaGreatDoor.Srt
open Go.RowKit Go.Sort
/-- symMerge at all lengths -/
theorem symI (base g n cap : Nat) (F : FuncId) (cb : Array Value) (cf : (Int) → (Int) → Int) (Q : (Int) → Prop) (w0 : World) (eg : ∀ args w, Sem.run Tryz.prog (callFunc F args) w = .ok (.enter F args) w) (hc : CmpOk F cb valI cf Q g w0) (hS : SWO (ltOf cf)) (hn : n ≤ 1000000) (N : Nat) :
    ∀ (a m b : Nat) (d : Array (Int)) (w : World), b - a ≤ N → Kp g w0 w → Row encI 1 base 3 g n cap w d → (∀ i, i < n → Q d[i]!) → a < m → m < b → b ≤ n → SortedIn (ltOf cf) a m d → SortedIn (ltOf cf) m b d →
      Calls Tryz.prog 56 #[.slice (some ⟨g, 0, none⟩) n cap, .int .i64 a, .int .i64 m, .int .i64 b, .func (.func F) #[] cb] w (SymSaidI base g n cap cf d a b w) := by
  induction N with
  | zero => intro a m b d w h1 _ _ _ h2 h3; exfalso; omega
  | succ N ih =>
    intro a m b d w hN h0 h hQ h1 h2 h3 hs1 hs2
    by_cases e1 : m = a + 1
    · exact symAI base g n cap F cb cf Q w0 eg hc hS hn a m b d w h0 h hQ h1 h2 h3 hs1 hs2 e1
    · by_cases e2 : b = m + 1
      · exact symBI base g n cap F cb cf Q w0 eg hc hS hn a m b d w h0 h hQ h1 h2 h3 hs1 hs2 e1 e2
      · exact symCI base g n cap F cb cf Q w0 eg hc hS hn N ih a m b d w h0 h hQ h1 h2 h3 hs1 hs2 hN e1 e2
/-- a sorted permutation; below 20 entries it is what the plain insertion sort gives -/
def StblSaidI (base g n cap : Nat) (cf : (Int) → (Int) → Int) (d : Array (Int)) (w : World) (e : Ending) (w' : World) : Prop := e = .returned (.tuple #[]) ∧ ∃ d', Row encI 1 base 3 g n cap w' d' ∧ PermIn 0 n d d' ∧ SortedIn (ltOf cf) 0 n d' ∧ (n < 20 → d' = insertionSort (ltOf cf) d 0 n) ∧ Kp g w w'
set_option maxHeartbeats 3200000 in
set_option maxRecDepth 100000 in
theorem stableI (base g n cap : Nat) (F : FuncId) (cb : Array Value) (cf : (Int) → (Int) → Int) (Q : (Int) → Prop) (w0 : World) (eg : ∀ args w, Sem.run Tryz.prog (callFunc F args) w = .ok (.enter F args) w) (hc : CmpOk F cb valI cf Q g w0) (hS : SWO (ltOf cf)) (hn : n ≤ 1000000)
    (d : Array (Int)) (w : World) (h0 : Kp g w0 w) (h : Row encI 1 base 3 g n cap w d) (hQ : ∀ i, i < n → Q d[i]!) :
    Calls Tryz.prog 44 #[.slice (some ⟨g, 0, none⟩) n cap, .int .i64 n, .func (.func F) #[] cb] w (StblSaidI base g n cap cf d w) := by
  have HIN := Lib.hid (fun a b d w h0 h hQ hab hb => insertionI base g n cap a b F cb cf Q w0 eg hc d w h0 h hQ hab hb hn)
  have HSY := Lib.hid (fun a m b d w h0 h hQ h1 h2 h3 s1 s2 => symI base g n cap F cb cf Q w0 eg hc hS hn (b - a) a m b d w (Nat.le_refl _) h0 h hQ h1 h2 h3 s1 s2)
  have HPI := Lib.hid (fun (d : Array (Int)) a b h1 h2 => insertionSort_holds (lt := ltOf cf) hS d a b h1 h2)
  have H0 := Lib.hid h0
  have HQ := Lib.hid hQ
  clear hc h0 hQ eg
  go_enter Tryz.func44, Tryz.ntmps44
  go_wp2_with fail
  go_loopw [7, 8] (fun va vb wr => ∃ (a b t0 : Nat) (dk : Array (Int)), va = .int .i64 a ∧ vb = .int .i64 b ∧ b ≤ a + 20 ∧ a + 20 ≤ b ∧ a ≤ n ∧ Hid (a = t0 * 20) ∧ Row encI 1 base 3 g n cap wr dk ∧ Kp g w wr ∧ Hid (∀ i, i < n → Q dk[i]!) ∧ Hid (PermIn 0 n d dk) ∧ Hid (Blocks (ltOf cf) 20 a dk) ∧ Hid (n < 20 → a = 0 ∧ dk = d)) (fun va _ _ => n - (intOf va).toNat)
  case atStart => exact ⟨0, 20, 0, d, rfl, rfl, by omega, by omega, Nat.zero_le _, rfl, h, Kp.refl _ _, HQ, permIn_refl _ _ _, blocks_zero _ _, fun _ => ⟨rfl, rfl⟩⟩
  case round =>
    obtain ⟨a, b, t0, dk, rfl, rfl, b1, b2, han, HT, hrow, hkp, HQk, HP, HBL, HX⟩ := hrel
    have HR := Lib.hid hrow
    have HK := Lib.hid hkp
    clear hrow hkp
    by_cases hlt : b ≤ n
    · have hlt2 : (b : Int) ≤ (n : Int) := by omega
      go_wp2_with fail
      refine (HIN.out a b dk _ (H0.out.trans HK.out) HR.out HQk.out (by omega) hlt).mono ?_
      rintro e w1 ⟨rfl, hrow, hkp⟩
      have HI := Lib.hid (HPI.out dk a b (by omega) (by rw [HR.out.size]; exact hlt))
      generalize insertionSort (ltOf cf) dk a b = d1 at *
      have HR1 := Lib.hid hrow
      have HK1 := Lib.hid (HK.out.trans hkp)
      have HQ1 : Hid (∀ i, i < n → Q d1[i]!) := Qperm HR.out.size HI.out.1 hlt HQk.out
      have HP1 : Hid (PermIn 0 n d d1) := permIn_trans _ _ _ _ _ HP.out (permIn_mono _ _ _ _ _ _ (Nat.zero_le _) hlt (by rw [HR.out.size]; exact Nat.le_refl _) HI.out.1)
      have HBL1 : Hid (Blocks (ltOf cf) 20 b d1) := blocks_next HBL.out HT.out HI.out.1 HI.out.2 b1
      have HT1 : Hid (b = (t0 + 1) * 20) := by show _ = _; have := HT.out; omega
      clear hrow hkp
      go_wp2_with fail
      go_roundw
      case rel => exact ⟨b, b + 20, t0 + 1, d1, rfl, by go_num, by omega, by omega, hlt, HT1, HR1.out, HK1.out, HQ1, HP1, HBL1, fun hh => absurd hh (by omega)⟩
      case measure => simp [intOf]; omega
    · have hlt2 : ¬ (b : Int) ≤ (n : Int) := by omega
      go_wp2_with fail
      refine (HIN.out a n dk _ (H0.out.trans HK.out) HR.out HQk.out han (Nat.le_refl _)).mono ?_
      rintro e w1 ⟨rfl, hrow, hkp⟩
      have HI := Lib.hid (HPI.out dk a n han (by rw [HR.out.size]; exact Nat.le_refl _))
      have HX1 : Hid (n < 20 → insertionSort (ltOf cf) dk a n = insertionSort (ltOf cf) d 0 n) := fun hh => by
        obtain ⟨h1, h2⟩ := HX.out hh
        rw [h1, h2]
      generalize insertionSort (ltOf cf) dk a n = d1 at *
      have HR1 := Lib.hid hrow
      have HK1 := Lib.hid (HK.out.trans hkp)
      have HQ1 : Hid (∀ i, i < n → Q d1[i]!) := Qperm HR.out.size HI.out.1 (Nat.le_refl _) HQk.out
      have HP1 : Hid (PermIn 0 n d d1) := permIn_trans _ _ _ _ _ HP.out (permIn_mono _ _ _ _ _ _ (Nat.zero_le _) (Nat.le_refl _) (by rw [HR.out.size]; exact Nat.le_refl _) HI.out.1)
      have HBL1 : Hid (Blocks (ltOf cf) 20 n d1) := blocks_next HBL.out HT.out HI.out.1 HI.out.2 (by omega)
      clear hrow hkp HBL HP HQk HI HT HX hlt hlt2 b1 b2 han HR HK
      obtain ⟨wo, rfl⟩ : ∃ wo : World, wo = w1 := ⟨_, rfl⟩
      go_wp2_with fail
      go_loopw [6] (fun vs wr => ∃ (bs : Nat) (dk : Array (Int)), vs = .int .i64 bs ∧ 0 < bs ∧ 20 ≤ bs ∧ bs ≤ 2000020 ∧ Row encI 1 base 3 g n cap wr dk ∧ Kp g w wr ∧ Hid (∀ i, i < n → Q dk[i]!) ∧ Hid (PermIn 0 n d dk) ∧ Hid (Blocks (ltOf cf) bs n dk) ∧ Hid (n < 20 → dk = insertionSort (ltOf cf) d 0 n)) (fun vs _ => n - (intOf vs).toNat)
      case atStart => exact ⟨20, d1, rfl, by omega, by omega, by omega, HR1.out, HK1.out, HQ1, HP1, HBL1, HX1⟩
      case round =>
        clear HR1 HK1 HQ1 HP1 HBL1 HX1
        obtain ⟨bs, dk, rfl, hbs0, hbs20, hbs1, hrow, hkp, HQk, HP, HBL, HX⟩ := hrel
        have HR := Lib.hid hrow
        have HK := Lib.hid hkp
        clear hrow hkp
        by_cases hlt : bs < n
        · obtain ⟨wo2, rfl⟩ : ∃ wo2 : World, wo2 = wr := ⟨_, rfl⟩
          go_wp2_with fail
          go_loopw [7, 8] (fun va vb wr => ∃ (a b t0 : Nat) (dk : Array (Int)), va = .int .i64 a ∧ vb = .int .i64 b ∧ b ≤ a + 2 * bs ∧ a + 2 * bs ≤ b ∧ a ≤ n ∧ Hid (a = t0 * (2 * bs)) ∧ Row encI 1 base 3 g n cap wr dk ∧ Kp g w wr ∧ Hid (∀ i, i < n → Q dk[i]!) ∧ Hid (PermIn 0 n d dk) ∧ Hid (Mix (ltOf cf) bs a n dk)) (fun va _ _ => n - (intOf va).toNat)
          case atStart => exact ⟨0, 2 * bs, 0, dk, rfl, vint (by omega), by omega, by omega, Nat.zero_le _, by show _ = _; omega, HR.out, HK.out, HQk, HP, mix_zero HBL.out⟩
          case round =>
            clear HR HK HQk HP HBL HX
            obtain ⟨a, b, t0, dk, rfl, rfl, b1, b2, han, HT, hrow, hkp, HQk, HP, HM⟩ := hrel
            have HR := Lib.hid hrow
            have HK := Lib.hid hkp
            clear hrow hkp
            obtain ⟨mm, hmm⟩ : ∃ mm : Nat, (a : Int) + (bs : Int) = (mm : Int) := ⟨a + bs, by omega⟩
            have m1 : mm ≤ a + bs := by omega
            have m2 : a + bs ≤ mm := by omega
            have HMM : Hid (a + bs = mm) := by show _ = _; omega
            have HBB : Hid (a + 2 * bs = b) := by show _ = _; omega
            by_cases hl2 : b ≤ n
            · have hl3 : (b : Int) ≤ (n : Int) := by omega
              have sl := Lib.hid (HM.out.left_ HT.out mm m1 (by omega))
              have sr : Hid (SortedIn (ltOf cf) mm b dk) := by show SortedIn _ _ _ _; rw [← HMM.out]; exact HM.out.right_ HT.out b b1 hl2
              go_wp2_with fail
              refine (HSY.out a mm b dk _ (H0.out.trans HK.out) HR.out HQk.out (by omega) (by omega) hl2 sl.out sr.out).mono ?_
              rintro e w2 ⟨rfl, d2, hrow, hp, hs, hkp⟩
              have HR1 := Lib.hid hrow
              have HK1 := Lib.hid (HK.out.trans hkp)
              have HQ1 : Hid (∀ i, i < n → Q d2[i]!) := Qperm HR.out.size hp hl2 HQk.out
              have HP1 : Hid (PermIn 0 n d d2) := permIn_trans _ _ _ _ _ HP.out (permIn_mono _ _ _ _ _ _ (Nat.zero_le _) hl2 (by rw [HR.out.size]; exact Nat.le_refl _) hp)
              have HM1 : Hid (Mix (ltOf cf) bs b n d2) := by
                show Mix _ _ _ _ _
                rw [← HBB.out] at hp hs ⊢
                exact HM.out.next HT.out hp hs
              have HT1 : Hid (b = (t0 + 1) * (2 * bs)) := by show _ = _; rw [Nat.add_mul, ← HT.out, Nat.one_mul]; exact HBB.out.symm
              clear hrow hkp hp hs
              go_wp2_with fail
              go_roundw
              case rel => exact ⟨b, b + 2 * bs, t0 + 1, d2, rfl, vint (by omega), by omega, by omega, hl2, HT1, HR1.out, HK1.out, HQ1, HP1, HM1⟩
              case measure => simp [intOf]; omega
            · have hl3 : ¬ (b : Int) ≤ (n : Int) := by omega
              by_cases hm : mm < n
              · have hm2 : (mm : Int) < (n : Int) := by omega
                have sl := Lib.hid (HM.out.left_ HT.out mm m1 (by omega))
                have sr : Hid (SortedIn (ltOf cf) mm n dk) := by show SortedIn _ _ _ _; rw [← HMM.out]; exact HM.out.right_ HT.out n (by omega) (Nat.le_refl _)
                go_wp2_with fail
                refine (HSY.out a mm n dk _ (H0.out.trans HK.out) HR.out HQk.out (by omega) hm (Nat.le_refl _) sl.out sr.out).mono ?_
                rintro e w2 ⟨rfl, d2, hrow, hp, hs, hkp⟩
                have HR1 := Lib.hid hrow
                have HK1 := Lib.hid (HK.out.trans hkp)
                have HQ1 : Hid (∀ i, i < n → Q d2[i]!) := Qperm HR.out.size hp (Nat.le_refl _) HQk.out
                have HP1 : Hid (PermIn 0 n d d2) := permIn_trans _ _ _ _ _ HP.out (permIn_mono _ _ _ _ _ _ (Nat.zero_le _) (Nat.le_refl _) (by rw [HR.out.size]; exact Nat.le_refl _) hp)
                have HB1 : Hid (Blocks (ltOf cf) (2 * bs) n d2) := HM.out.last HT.out (by omega) hp hs
                clear hrow hkp hp hs
                go_wp2_with fail
                go_roundw
                case rel => exact ⟨2 * bs, d2, vint (by omega), by omega, by omega, by omega, HR1.out, HK1.out, HQ1, HP1, HB1, fun hh => absurd hh (by omega)⟩
                case measure => simp [intOf]; omega
              · have hm2 : ¬ (mm : Int) < (n : Int) := by omega
                have HB1 : Hid (Blocks (ltOf cf) (2 * bs) n dk) := HM.out.last HT.out (by omega) (permIn_refl _ _ _) (HM.out.left_ HT.out n (by omega) (Nat.le_refl _))
                go_wp2_with fail
                go_roundw
                case rel => exact ⟨2 * bs, dk, vint (by omega), by omega, by omega, by omega, HR.out, HK.out, HQk, HP, HB1, fun hh => absurd hh (by omega)⟩
                case measure => simp [intOf]; omega
        · have hl3 : ¬ (bs : Int) < (n : Int) := by omega
          go_wp2_with fail
          go_end0
          exact ⟨rfl, dk, HR.out, HP.out, blocks_all HBL.out (by omega), HX.out, HK.out⟩
/-- slices.SortStableFunc on a row that the call owns -/
theorem sortI (base g n cap : Nat) (F : FuncId) (cb : Array Value) (cf : (Int) → (Int) → Int) (Q : (Int) → Prop) (w0 : World) (eg : ∀ args w, Sem.run Tryz.prog (callFunc F args) w = .ok (.enter F args) w) (hc : CmpOk F cb valI cf Q g w0) (hS : SWO (ltOf cf)) (hn : n ≤ 1000000)
    (d : Array (Int)) (w : World) (h0 : Kp g w0 w) (h : Row encI 1 base 3 g n cap w d) (hQ : ∀ i, i < n → Q d[i]!) :
    Calls Tryz.prog 30 #[.slice (some ⟨g, 0, none⟩) n cap, .func (.func F) #[] cb] w (StblSaidI base g n cap cf d w) := by
  have HC := Lib.hid (stableI base g n cap F cb cf Q w0 eg hc hS hn d w h0 h hQ)
  clear eg hc
  unfold StblSaidI at *
  go_enter Tryz.func30, Tryz.ntmps30
  go_wp2_with fail
  refine HC.out.mono ?_
  rintro e w1 ⟨rfl, hx⟩
  have HX := Lib.hid hx
  clear hx
  go_wp2_with fail
  go_end0
  exact ⟨rfl, HX.out⟩
end Go.Proofs.YtibhgcldogfonaaGreatDoor.Srt
namespace Go.Proofs.YtibhgcldogfonaaGreatDoor
open Go.RowKit
theorem flat_ints (l : List Int) : l.flatMap Srt.encI = ints l := by
  unfold ints
  induction l with
  | nil => rfl
  | cons x l ih => rw [List.flatMap_cons, ih]; rfl
end Go.Proofs.YtibhgcldogfonaaGreatDoor
