/- Contracts of curve.time, curve.Time, and of the reference Slow: each returns what its plain function gives, and leaves old memory as it is. -/
import Derived.Test.YtoagepmbekkmdaaCurve
namespace Go.Proofs.Ytoagepmbekkmdaa
open Go.RowKit
theorem mulbd {a p : Int} (a0 : 0 ≤ a) (a1 : a ≤ 10000) (p0 : 0 ≤ p) (p1 : p ≤ 1000000) : 0 ≤ a * p ∧ a * p ≤ 10000000000 := by
  refine ⟨Int.mul_nonneg a0 p0, ?_⟩
  have h1 : a * p ≤ 10000 * p := Int.mul_le_mul_of_nonneg_right a1 p0
  omega
theorem mulbd2 {a x : Int} (a0 : 0 ≤ a) (a1 : a ≤ 3600000) (x0 : 0 ≤ x) (x1 : x ≤ 10000000000) : 0 ≤ a * x ∧ a * x ≤ 36000000000000000 := by
  refine ⟨Int.mul_nonneg a0 x0, ?_⟩
  have h1 : a * x ≤ 3600000 * x := Int.mul_le_mul_of_nonneg_right a1 x0
  omega
theorem ret2b {e : Ending} {a a' : Int} {b b' : Bool} (h : e = .returned (.tuple #[.int .i64 a, .bool b])) (h1 : a = a') (h2 : b = b') : e = .returned (.tuple #[.int .i64 a', .bool b']) := by subst h1 h2; exact h
set_option maxHeartbeats 1600000 in
set_option maxRecDepth 100000 in
theorem vtime_any (A : Option Addr) (n c : Nat) (st : List (Int × Int)) (p cur : Int) (w : World) (hr : Reads w w.heap.size 2 A n (pairs st)) (hg : Pl.GoodV st) (hn : 2 ≤ n) (hn2 : n ≤ 32) (p0 : 1 ≤ p) (p1 : p ≤ 1000000) (c0 : 0 ≤ cur) (c1 : cur ≤ 1000000) :
    Calls Try.prog 32 #[.slice A n c, .int .i64 p, .int .i64 cur] w fun e w' => e = .returned (.tuple #[.int .i64 (Pl.vtime st p cur).1, .bool (Pl.vtime st p cur).2]) ∧ Below w.heap.size w w' := by
  have L1 := Lib.hid hr.pair_len
  have HG := Lib.hid hg
  clear hg
  obtain ⟨b, o, rfl, hl0, d1, d2⟩ := hr.pair_at (k := 0) (by omega)
  simp only [Nat.zero_mul, Nat.add_zero] at d1 d2
  obtain ⟨e1, e2, e3, e4⟩ := HG.out.at_ 0 hl0
  obtain ⟨m1, m2⟩ := mulbd (a := st[0].1) (p := p) (by omega) e2 (by omega) p1
  have HV : Hid (Pl.vtime st p cur = if 100 * cur < st[0].1 * p then (0, false) else (Pl.vtimeR p (100 * cur) st[0] (st.drop 1), true)) := by
    show _ = _
    cases st with
    | nil => simp at hl0
    | cons a r => rfl
  have HR := Lib.hid hr
  clear hr
  generalize Pl.vtime st p cur = R at *
  by_cases h0 : 100 * cur < st[0].1 * p
  · have HX : Hid (R = (0, false)) := by show _ = _; rw [HV.out, if_pos h0]
    clear HV
    generalize st[0] = q at *
    obtain ⟨x, y⟩ := q
    simp only at d1 d2 e1 e2 e3 e4 m1 m2 h0
    go_enter Try.func32, Try.ntmps32
    go_wp2_with fail
    go_ret2
    exact ⟨by rw [HX.out]; rfl, Below.refl _ _⟩
  · have HX : Hid (R = (Pl.vtimeR p (100 * cur) st[0] (st.drop 1), true)) := by show _ = _; rw [HV.out, if_neg h0]
    have H0 := Lib.hid h0
    clear HV
    generalize hq : st[0] = q at *
    have HQ := Lib.hid hq
    clear hq
    obtain ⟨x, y⟩ := q
    simp only at d1 d2 e1 e2 e3 e4 m1 m2 h0
    go_enter Try.func32, Try.ntmps32
    go_wp2_with fail
    clear h0 d1 d2 e1 e2 e3 e4 m1 m2
    go_loopw [8] (fun i wr => ∃ k : Nat, k + 1 ≤ n ∧ i = .int .i64 (k + 1 : Nat) ∧ (∃ hk : k < st.length, Hid (R = (Pl.vtimeR p (100 * cur) st[k] (st.drop (k + 1)), true) ∧ st[k].1 * p ≤ 100 * cur)) ∧ Below w.heap.size w wr) (fun i _ => n - (intOf i).toNat)
    case atStart => exact ⟨0, by omega, rfl, ⟨hl0, ⟨by rw [HQ.out]; exact HX.out, by have := H0.out; rw [HQ.out]; simp only; omega⟩⟩, Below.refl _ _⟩
    case round =>
      obtain ⟨k, hk, rfl, ⟨hks, HK⟩, hbel⟩ := hrel
      have HB := Lib.hid hbel
      have HRW := Lib.hid (HR.out.go hbel)
      clear hbel
      by_cases hlt : k + 1 < n
      · obtain ⟨_, _, e, hl1, d1, d2⟩ := HRW.out.pair_at (k := k) (by omega)
        injection e with e; injection e with e1 e2; subst e1 e2
        obtain ⟨_, _, e, hl2, d3, d4⟩ := HRW.out.pair_at (k := k + 1) (by omega)
        injection e with e; injection e with e1 e2; subst e1 e2
        have hbl : b < wr.heap.size := vcell2_lt d1
        obtain ⟨e1, e2, e3, e4⟩ := HG.out.at_ k hl1
        obtain ⟨f1, f2, f3, f4⟩ := HG.out.at_ (k + 1) hl2
        obtain ⟨n1, n2⟩ := HG.out.next k hl2
        have HS : Hid (R = (if 100 * cur ≤ st[k + 1].1 * p then Pl.vstep p (100 * cur) st[k] st[k + 1] else Pl.vtimeR p (100 * cur) st[k + 1] (st.drop (k + 1 + 1)), true)) := by
          show _ = _
          rw [HK.out.1, List.drop_eq_getElem_cons hl2, Pl.vtimeR]
        have HK2 := Lib.hid HK.out.2
        obtain ⟨m1, m2⟩ := mulbd (a := st[k].1) (p := p) (by omega) e2 (by omega) p1
        obtain ⟨m3, m4⟩ := mulbd (a := st[k + 1].1) (p := p) (by omega) f2 (by omega) p1
        have k0 : (0 : Int) ≤ ↑k := by omega
        have wk : IntKind.i64.wrap (k : Int) = (k : Int) := IntWalk.i64_in _ (by omega)
        have kn : (k : Int) < (n : Int) := by omega
        have kn2 : (k : Int) + 1 < (n : Int) := by omega
        have hk3 : st[k].1 * p ≤ 100 * cur := HK2.out
        by_cases hle : 100 * cur ≤ st[k + 1].1 * p
        · have HX : Hid (R = (Pl.vstep p (100 * cur) st[k] st[k + 1], true)) := by show _ = _; rw [HS.out, if_pos hle]
          clear HS HK HK2
          generalize st[k] = q at *
          generalize st[k + 1] = q' at *
          obtain ⟨x, y⟩ := q
          obtain ⟨x', y'⟩ := q'
          simp only at d1 d2 d3 d4 e1 e2 e3 e4 f1 f2 f3 f4 n1 n2 m1 m2 m3 m4 hle hk3
          go_wp2_with fail
          go_region
          all_goals go_wp2_with fail
          all_goals
            have z1 := mulbd2 (a := y - y') (x := 100 * cur - x * p) (by omega) (by omega) (by omega) (by omega)
            obtain ⟨z1, z2⟩ := z1
            have z3 : 0 < p * (x' - x) := Int.mul_pos (by omega) (by omega)
            have z4 : p * (x' - x) ≤ 10000000000 := by rw [Int.mul_comm]; exact (mulbd (by omega) (by omega) (by omega) p1).2
            have z5 : (y - y') * (100 * cur - x * p) / (p * (x' - x)) ≤ (y - y') * (100 * cur - x * p) := Int.ediv_le_self _ z1
            have z6 : 0 ≤ (y - y') * (100 * cur - x * p) / (p * (x' - x)) := Int.ediv_nonneg z1 (by omega)
            go_quiet (fail)
            go_wp2_with fail
            go_ret2
            exact ⟨ret2b rfl (by rw [HX.out]; rfl) (by rw [HX.out]), below_drewN' (((HB.out.alloc HB.out.size _).alloc (by have := HB.out.size; simp; omega) _).drew) _⟩
        · have HX : Hid (R = (Pl.vtimeR p (100 * cur) st[k + 1] (st.drop (k + 1 + 1)), true) ∧ st[k + 1].1 * p ≤ 100 * cur) := ⟨by rw [HS.out, if_neg hle], by omega⟩
          clear HS HK HK2
          generalize st[k] = q at *
          generalize hq' : st[k + 1] = q' at *
          have HQ' := Lib.hid hq'
          clear hq'
          obtain ⟨x, y⟩ := q
          obtain ⟨x', y'⟩ := q'
          simp only at d1 d2 d3 d4 e1 e2 e3 e4 f1 f2 f3 f4 n1 n2 m1 m2 m3 m4 hle hk3
          go_wp2_with fail
          go_region
          all_goals go_wp2_with fail
          all_goals
            go_roundw
            case rel => exact ⟨k + 1, by omega, by go_num, ⟨hl2, by rw [HQ'.out]; exact HX⟩, ((HB.out.alloc HB.out.size _).alloc (by have := HB.out.size; simp; omega) _).drew⟩
            case measure => simp [intOf]; omega
      · have : k + 1 = n := by omega
        subst this
        have kk : k = st.length - 1 := by have := L1.out; omega
        have HX : Hid (R = (st[k].2, true)) := by show _ = _; rw [HK.out.1, List.drop_eq_nil_of_le (by have := L1.out; omega)]; rfl
        obtain ⟨_, _, e, hl1, d1, d2⟩ := HRW.out.pair_at (k := k) (by omega)
        injection e with e; injection e with e1 e2; subst e1 e2
        have k0 : (0 : Int) ≤ ↑k := by omega
        have wk : IntKind.i64.wrap (k : Int) = (k : Int) := IntWalk.i64_in _ (by omega)
        clear kk HK
        generalize st[k] = q at *
        obtain ⟨x, y⟩ := q
        simp only at d1 d2
        go_wp2_with fail
        go_ret2
        exact ⟨by rw [HX.out]; rfl, HB.out⟩
set_option maxHeartbeats 800000 in
set_option maxRecDepth 100000 in
theorem cTime_any (A : Option Addr) (n c : Nat) (st : List (Int × Int)) (p cur : Int) (w : World) (hr : Reads w w.heap.size 2 A n (pairs st)) :
    Calls Try.prog 9 #[.slice A n c, .int .i64 p, .int .i64 cur] w fun e w' => e = .returned (.tuple #[.int .i64 (Pl.cTime st p cur).1, .int .i64 (Pl.cTime st p cur).2]) ∧ Below w.heap.size w w' := by
  have L1 := Lib.hid hr.pair_len
  have HC := Lib.hid (cvcheck_any A n c st w hr)
  by_cases h1 : Pl.cvcheck st = 0
  · obtain ⟨g, n1, n2⟩ := Pl.cvcheck_ok h1
    rw [h1] at HC
    have HF : Hid (Pl.cTime st p cur = if (Pl.outB p 1 1000000 || Pl.outB cur 0 1000000) = true then (0, 4) else if (Pl.vtime st p cur).2 = true then ((Pl.vtime st p cur).1, 0) else (0, 8)) := by
      show _ = _; unfold Pl.cTime; rw [if_neg (by simpa using h1)]
    have HT := Lib.hid (fun w h a b c' d => vtime_any A n c st p cur w h g (by have := L1.out; omega) (by have := L1.out; omega) a b c' d)
    clear h1 g n1 n2
    generalize Pl.cTime st p cur = R at *
    cases ho1 : Pl.outB p 1 1000000
    · cases ho2 : Pl.outB cur 0 1000000
      · obtain ⟨p0, p1⟩ := Pl.outB_false.1 ho1
        obtain ⟨c0, c1⟩ := Pl.outB_false.1 ho2
        have HO1 := Lib.hid ho1
        have HO2 := Lib.hid ho2
        have HX : Hid (R = if (Pl.vtime st p cur).2 = true then ((Pl.vtime st p cur).1, 0) else (0, 8)) := by show _ = _; rw [HF.out, ho1, ho2]; rfl
        clear ho1 ho2 HF
        generalize Pl.vtime st p cur = V at *
        obtain ⟨t, is⟩ := V
        simp only at HX HT
        cases is
        all_goals
          go_enter Try.func9, Try.ntmps9
          go_wp2_with fail
          refine HC.out.mono ?_; rintro e w1 ⟨rfl, hb⟩
          have HB := Lib.hid hb
          clear hb
          go_wp2_with fail
          refine (vout_any _ _ _ _).mono ?_; rintro e w' ⟨rfl, rfl⟩
          rw [HO1.out]
          go_wp2_with fail
          refine (vout_any _ _ _ _).mono ?_; rintro e w' ⟨rfl, rfl⟩
          rw [HO2.out]
          go_wp2_with fail
          refine (HT.out _ (hr.go HB.out) p0 p1 c0 c1).mono ?_; rintro e w2 ⟨rfl, hb⟩
          have HB2 := Lib.hid (HB.out.trans (hb.mono HB.out.size))
          clear hb
          go_wp2_with fail
          go_ret2
          exact ⟨by rw [HX.out]; rfl, HB2.out⟩
      · have HO1 := Lib.hid ho1
        have HO2 := Lib.hid ho2
        have HX : Hid (R = (0, 4)) := by show _ = _; rw [HF.out, ho1, ho2]; rfl
        clear ho1 ho2 HF
        go_enter Try.func9, Try.ntmps9
        go_wp2_with fail
        refine HC.out.mono ?_; rintro e w1 ⟨rfl, hb⟩
        have HB := Lib.hid hb
        clear hb
        go_wp2_with fail
        refine (vout_any _ _ _ _).mono ?_; rintro e w' ⟨rfl, rfl⟩
        rw [HO1.out]
        go_wp2_with fail
        refine (vout_any _ _ _ _).mono ?_; rintro e w' ⟨rfl, rfl⟩
        rw [HO2.out]
        go_wp2_with fail
        go_ret2
        exact ⟨by rw [HX.out]; rfl, HB.out⟩
    · have HO1 := Lib.hid ho1
      have HX : Hid (R = (0, 4)) := by show _ = _; rw [HF.out, ho1]; rfl
      clear ho1 HF
      go_enter Try.func9, Try.ntmps9
      go_wp2_with fail
      refine HC.out.mono ?_; rintro e w1 ⟨rfl, hb⟩
      have HB := Lib.hid hb
      clear hb
      go_wp2_with fail
      refine (vout_any _ _ _ _).mono ?_; rintro e w' ⟨rfl, rfl⟩
      rw [HO1.out]
      go_wp2_with fail
      go_ret2
      exact ⟨by rw [HX.out]; rfl, HB.out⟩
  · have HF : Hid (Pl.cTime st p cur = (0, Pl.cvcheck st)) := by show _ = _; unfold Pl.cTime; rw [if_pos h1]
    have h2 : (Pl.cvcheck st != 0) = true := by simpa using h1
    clear h1
    generalize Pl.cTime st p cur = R at *
    generalize Pl.cvcheck st = u at *
    go_enter Try.func9, Try.ntmps9
    go_wp2_with fail
    refine HC.out.mono ?_; rintro e w1 ⟨rfl, hb⟩
    have HB := Lib.hid hb
    clear hb
    go_wp2_with fail
    go_ret2
    exact ⟨by rw [HF.out]; rfl, HB.out⟩
end Go.Proofs.Ytoagepmbekkmdaa
