/- The contract of the reference Slow at a valid characteristic: it returns what the plain function vtime gives, and leaves old memory as it is. -/
import Derived.Test.YtoagepmbekkmdaaCurveB
import Derived.Outline
namespace Go.Proofs.Ytoagepmbekkmdaa
open Go.RowKit
namespace Pl
def vslow (st : List (Int × Int)) (p cur : Int) : Int := if (vtime st p cur).2 = true then (vtime st p cur).1 else -1
theorem vslow_low (st : List (Int × Int)) (p cur : Int) (h0 : 0 < st.length) (h : 100 * cur < st[0].1 * p) : vslow st p cur = -1 := by
  cases st with
  | nil => simp at h0
  | cons a r =>
    have h' : 100 * cur < a.1 * p := h
    have e : vtime (a :: r) p cur = (0, false) := if_pos h'
    unfold vslow; rw [e]; rfl
theorem vslow_go (a : Int × Int) (r : List (Int × Int)) (p cur : Int) (h : ¬ 100 * cur < a.1 * p) : vslow (a :: r) p cur = vtimeR p (100 * cur) a r := by
  have e : vtime (a :: r) p cur = (vtimeR p (100 * cur) a r, true) := if_neg h
  unfold vslow; rw [e]; rfl
theorem vslow_end (st : List (Int × Int)) (p cur : Int) (hg : GoodV st) (hp : 0 < p) (k : Nat) (hk : k + 1 = st.length) (h0 : ¬ 100 * cur < (st[0]'(by omega)).1 * p) (h : (st[k]'(by omega)).1 * p ≤ 100 * cur) : vslow st p cur = (st[k]'(by omega)).2 := by
  cases st with
  | nil => simp at hk
  | cons a r =>
    have : k = r.length := by simpa using hk
    subst this
    rw [vslow_go a r p cur h0]
    exact vtimeR_end p _ hp a r hg (by simp) h
theorem vslow_mid (st : List (Int × Int)) (p cur : Int) (hg : GoodV st) (hp : 0 < p) (k : Nat) (hk : k + 1 < st.length) (h0 : ¬ 100 * cur < (st[0]'(by omega)).1 * p) (h1 : (st[k]'(by omega)).1 * p ≤ 100 * cur) (h2 : 100 * cur < (st[k + 1]'hk).1 * p) :
    vslow st p cur = slowAt p (100 * cur) (st[k]'(by omega)) (st[k + 1]'hk) := by
  rw [slow_step p _ _ _ hp (hg.next k hk).1]
  cases st with
  | nil => simp at hk
  | cons a r =>
    rw [vslow_go a r p cur h0]
    exact vtimeR_mid p _ hp a r hg k hk h1 h2
end Pl
set_option maxHeartbeats 1600000 in
set_option maxRecDepth 100000 in
theorem slow_any (A : Option Addr) (n c : Nat) (st : List (Int × Int)) (p cur : Int) (w : World) (hr : Reads w w.heap.size 2 A n (pairs st)) (hg : Pl.GoodV st) (hn : 2 ≤ n) (hn2 : n ≤ 32) (p0 : 1 ≤ p) (p1 : p ≤ 1000000) (c0 : 0 ≤ cur) (c1 : cur ≤ 1000000) :
    Calls Try.prog 11 #[.slice A n c, .int .i64 p, .int .i64 cur] w fun e w' => e = .returned (.int .i64 (Pl.vslow st p cur)) ∧ Below w.heap.size w w' := by
  have L1 := Lib.hid hr.pair_len
  have HG := Lib.hid hg
  clear hg
  obtain ⟨l, rfl⟩ : ∃ l, n = l + 1 := ⟨n - 1, by omega⟩
  obtain ⟨b, o, rfl, hl0, d1, d2⟩ := hr.pair_at (k := 0) (by omega)
  obtain ⟨_, _, e, hll, d3, d4⟩ := hr.pair_at (k := l) (by omega)
  injection e with e; injection e with e1 e2; subst e1 e2
  simp only [Nat.zero_mul, Nat.add_zero] at d1 d2
  obtain ⟨e1, e2, e3, e4⟩ := HG.out.at_ 0 hl0
  obtain ⟨f1, f2, f3, f4⟩ := HG.out.at_ l hll
  obtain ⟨m1, m2⟩ := mulbd (a := st[0].1) (p := p) (by omega) e2 (by omega) p1
  obtain ⟨m3, m4⟩ := mulbd (a := st[l].1) (p := p) (by omega) f2 (by omega) p1
  have l0 : (0 : Int) ≤ (l : Int) := by omega
  have wl : IntKind.i64.wrap (l : Int) = (l : Int) := IntWalk.i64_in _ (by omega)
  have ll : (l : Int) < (l : Int) + 1 := by omega
  by_cases h0 : 100 * cur < st[0].1 * p
  · have HX := Lib.hid (Pl.vslow_low st p cur hl0 h0)
    generalize Pl.vslow st p cur = R at *
    generalize st[0] = q at *
    obtain ⟨x, y⟩ := q
    simp only at d1 d2 e1 e2 e3 e4 m1 m2 h0
    go_enter Try.func11, Try.ntmps11
    go_wp2_with fail
    go_ret
    exact ⟨by rw [HX.out]; rfl, Below.refl _ _⟩
  · by_cases h1 : st[l].1 * p ≤ 100 * cur
    · have HX := Lib.hid (Pl.vslow_end st p cur HG.out (by omega) l (by have := L1.out; omega) h0 h1)
      generalize Pl.vslow st p cur = R at *
      generalize st[0] = q at *
      generalize st[l] = q' at *
      obtain ⟨x, y⟩ := q
      obtain ⟨x', y'⟩ := q'
      simp only at d1 d2 d3 d4 e1 e2 e3 e4 f1 f2 f3 f4 m1 m2 m3 m4 h0 h1
      go_enter Try.func11, Try.ntmps11
      go_wp2_with fail
      go_ret
      exact ⟨by rw [HX.out]; rfl, Below.refl _ _⟩
    · have H0 := Lib.hid h0
      have H1 := Lib.hid h1
      have HM := Lib.hid (fun k hk a b => Pl.vslow_mid st p cur HG.out (by omega) k hk h0 a b)
      generalize Pl.vslow st p cur = R at *
      generalize hq : st[0] = q at *
      have HQ := Lib.hid hq
      clear hq
      generalize hq : st[l] = q' at *
      have HQL := Lib.hid hq
      clear hq
      obtain ⟨x, y⟩ := q
      obtain ⟨x', y'⟩ := q'
      simp only at d1 d2 d3 d4 e1 e2 e3 e4 f1 f2 f3 f4 m1 m2 m3 m4 h0 h1
      go_enter Try.func11, Try.ntmps11
      go_wp2_with fail
      clear h0 h1 d1 d2 d3 d4 e1 e2 e3 e4 f1 f2 f3 f4 m1 m2 m3 m4 wl
      go_loop [9] (fun i => ∃ k : Nat, k ≤ l ∧ i = .int .i64 k ∧ Hid (∀ hk : k + 1 < st.length, 100 * cur < st[k + 1].1 * p)) (fun i => (intOf i).toNat)
      case atStart => exact ⟨l, Nat.le_refl _, rfl, fun hk => absurd hk (by have := L1.out; omega)⟩
      case round =>
        obtain ⟨k, hk, rfl, HK⟩ := hrel
        obtain ⟨_, _, e, hl1, d1, d2⟩ := hr.pair_at (k := k) (by omega)
        injection e with e; injection e with e1 e2; subst e1 e2
        obtain ⟨e1, e2, e3, e4⟩ := HG.out.at_ k hl1
        obtain ⟨m1, m2⟩ := mulbd (a := st[k].1) (p := p) (by omega) e2 (by omega) p1
        have k0 : (0 : Int) ≤ ↑k := by omega
        have kn : (k : Int) < (l : Int) + 1 := by omega
        by_cases hm : 100 * cur < st[k].1 * p
        · have hk0 : k ≠ 0 := by
            intro hk0
            subst hk0
            have := H0.out
            rw [HQ.out] at hm
            simp only at hm
            omega
          obtain ⟨j, rfl⟩ : ∃ j, k = j + 1 := ⟨k - 1, by omega⟩
          have HN : Hid (∀ hk : j + 1 < st.length, 100 * cur < st[j + 1].1 * p) := fun _ => hm
          have wj : IntKind.i64.wrap (j : Int) = (j : Int) := IntWalk.i64_in _ (by omega)
          clear HK
          generalize st[j + 1] = q at *
          obtain ⟨x1, y1⟩ := q
          simp only at d1 d2 e1 e2 e3 e4 m1 m2 hm
          go_wp2_with fail
          go_round
          case rel => exact ⟨j, by omega, by go_num, HN⟩
          case measure => simp [intOf]
        · have hkl : k ≠ l := by
            intro h
            subst h
            have := H1.out
            rw [HQL.out] at hm
            simp only at hm
            omega
          have hl2 : k + 1 < st.length := by have := L1.out; omega
          obtain ⟨_, _, e, _, d3, d4⟩ := hr.pair_at (k := k + 1) (by omega)
          injection e with e; injection e with e1 e2; subst e1 e2
          obtain ⟨f1, f2, f3, f4⟩ := HG.out.at_ (k + 1) hl2
          obtain ⟨n1, n2⟩ := HG.out.next k hl2
          obtain ⟨m3, m4⟩ := mulbd (a := st[k + 1].1) (p := p) (by omega) f2 (by omega) p1
          have hk1 := HK.out hl2
          have HX := Lib.hid (HM.out k hl2 (by omega) hk1)
          clear HK HM
          have wk : IntKind.i64.wrap (k : Int) = (k : Int) := IntWalk.i64_in _ (by omega)
          have wk1 : IntKind.i64.wrap ((k : Int) + 1) = (k : Int) + 1 := IntWalk.i64_in _ (by omega)
          have kn1 : (k : Int) + 1 < (l : Int) + 1 := by omega
          have k01 : (0 : Int) ≤ ↑k + 1 := by omega
          have hbl : b < w.heap.size := vcell2_lt d1
          generalize st[k] = q at *
          generalize st[k + 1] = q' at *
          obtain ⟨x1, y1⟩ := q
          obtain ⟨x2, y2⟩ := q'
          simp only at d1 d2 d3 d4 e1 e2 e3 e4 f1 f2 f3 f4 n1 n2 m1 m2 m3 m4 hm hk1
          obtain ⟨z1, z2⟩ := mulbd2 (a := y1) (x := x2 * p - 100 * cur) e3 e4 (by omega) (by omega)
          obtain ⟨z3, z4⟩ := mulbd2 (a := y2) (x := 100 * cur - x1 * p) f3 f4 (by omega) (by omega)
          have D0 : 0 < 100 * cur - x1 * p + (x2 * p - 100 * cur) := by omega
          have z5 := Int.ediv_mul_le (y1 * (x2 * p - 100 * cur) + y2 * (100 * cur - x1 * p)) (show 100 * cur - x1 * p + (x2 * p - 100 * cur) ≠ 0 by omega)
          have z6 : 0 ≤ (y1 * (x2 * p - 100 * cur) + y2 * (100 * cur - x1 * p)) / (100 * cur - x1 * p + (x2 * p - 100 * cur)) := Int.ediv_nonneg (by omega) (by omega)
          have z7 := Int.ediv_le_self (100 * cur - x1 * p + (x2 * p - 100 * cur)) (show 0 ≤ y1 * (x2 * p - 100 * cur) + y2 * (100 * cur - x1 * p) by omega)
          have z8 := Int.mul_nonneg z6 (show 0 ≤ 100 * cur - x1 * p + (x2 * p - 100 * cur) by omega)
          go_wp2_with fail
          go_region
          all_goals go_wp2_with fail
          all_goals go_quiet (fail)
          all_goals go_wp2_with fail
          all_goals
            go_ret
            refine ⟨ret_int ?_, below_drewN' (((Below.refl _ _).alloc (Nat.le_refl _) _).alloc (by simp) _) _⟩
            rw [HX.out]
            unfold Pl.slowAt Pl.slowN Pl.slowD
            simp only
            first | rw [if_pos (by assumption)] | rw [if_neg (by omega)]
end Go.Proofs.Ytoagepmbekkmdaa
