/- The law HoursSums: for every total, weights and size the call returns true, and old memory is left as it is. No condition. -/
import Derived.Test.YtpbomomgjhbljaaSpreadC
namespace Go.Proofs.Ytpbomomgjhbljaa
open Go.RowKit
theorem hs_fit : SpreadFit 10 [1, 1, 1] := ⟨by decide, by decide, by decide, by decide, by decide⟩
theorem sums_ex : Pl.sums_ 2 [1, 2, 3] 0 [] = [3, 3] := by decide
theorem spread_lit (A : Option Addr) (c : Nat) (w : World) (hr : Reads w w.heap.size 1 A 3 (ints [1, 1, 1])) :
    Calls Try.prog 15 #[.int .i64 10, .slice A 3 c] w fun e w' => ∃ B d, e = .returned (.tuple #[.slice B 3 d, .int .i64 0]) ∧ Reads w' w'.heap.size 1 B 3 (ints [4, 3, 3]) ∧ Below w.heap.size w w' := by
  obtain ⟨h1, h2, h3, h4, h5⟩ := hs_fit
  refine (spread_good A 3 c [1, 1, 1] 10 w hr h1 h2 h3 h4 h5).mono ?_
  rintro e w' ⟨g, d, l, rfl, hl, _, _, _, hx, hb⟩
  have := hx (by decide)
  rw [spreadS_lit] at this
  subst this
  exact ⟨_, d, rfl, hl, hb⟩
theorem sums_lit (A : Option Addr) (c : Nat) (w : World) (hr : Reads w w.heap.size 1 A 3 (ints [1, 2, 3])) :
    Calls Try.prog 17 #[.slice A 3 c, .int .i64 2] w fun e w' => ∃ B d, e = .returned (.tuple #[.slice B 2 d, .int .i64 0]) ∧ Reads w' w'.heap.size 1 B 2 (ints [3, 3]) ∧ Below w.heap.size w w' := by
  refine (sums_any A 3 c [1, 2, 3] 2 w hr).mono ?_
  rintro e w' ⟨B, d, er, l, rfl, hl, _, hx, hb⟩
  obtain ⟨h1, h2⟩ := hx (by decide) (by decide)
  rw [sums_ex] at h2
  subst h1 h2
  exact ⟨B, d, rfl, hl, hb⟩
def SpreadSaid (total : Int) (ws : List Int) (w : World) (e : Ending) (w' : World) : Prop := ∃ B m d er l, e = .returned (.tuple #[.slice B m d, .int .i64 er]) ∧ Reads w' w'.heap.size 1 B m (ints l) ∧ Below w.heap.size w w' ∧ (er ≠ 0 → m = 0) ∧
  (er = 0 → SpreadFit total ws ∧ m = ws.length ∧ Pl.sumI l = total ∧ (∀ (k : Nat), k < ws.length → 0 ≤ l.getD k 0 ∧ l.getD k 0 ≤ 240000000001) ∧
    (∀ (k : Nat), k < ws.length → -(Pl.sumI ws) < l.getD k 0 * Pl.sumI ws - total * ws.getD k 0 ∧ l.getD k 0 * Pl.sumI ws - total * ws.getD k 0 < Pl.sumI ws))
theorem spread_any (A : Option Addr) (n c : Nat) (ws : List Int) (total : Int) (w : World) (hr : Reads w w.heap.size 1 A n (ints ws)) :
    Calls Try.prog 15 #[.int .i64 total, .slice A n c] w (SpreadSaid total ws w) := by
  by_cases hf : SpreadFit total ws
  · obtain ⟨h1, h2, h3, h4, h5⟩ := hf
    refine (spread_good A n c ws total w hr h1 h2 h3 h4 h5).mono ?_
    rintro e w' ⟨g, d, l, rfl, hl, h6, h7, h8, _, hb⟩
    exact ⟨_, _, d, 0, l, rfl, hl, hb, fun h => absurd rfl h, fun _ => ⟨⟨h1, h2, h3, h4, h5⟩, rfl, h6, h7, h8⟩⟩
  · refine (spread_bad A n c ws total w hr hf).mono ?_
    rintro e w' ⟨er, h, rfl, hb⟩
    exact ⟨none, 0, 0, er, [], rfl, Reads.none_, hb, fun _ => rfl, fun h2 => absurd h2 h⟩
set_option maxHeartbeats 9600000 in
set_option maxRecDepth 100000 in
theorem hoursSums_walk (total : Int) (A : Option Addr) (n c : Nat) (ws : List Int) (size : Int) (w : World) (hr : Reads w w.heap.size 1 A n (ints ws)) :
    Calls Try.prog 3 #[.int .i64 total, .slice A n c, .int .i64 size] w fun e w' => e = .returned (.bool true) ∧ Below w.heap.size w w' := by
  have L1 := Lib.hid hr.int_len
  have HSP := Lib.hid (fun w h => spread_any A n c ws total w h)
  have HSU := Lib.hid (fun w h => sums_any A n c ws size w h)
  go_enter Try.func3, Try.ntmps3
  go_wp2_with fail
  have HB0 := Lib.hid ((Below.refl w.heap.size w).alloc (Nat.le_refl _) (.cells #[.int .i64 1, .int .i64 1, .int .i64 1] 3))
  refine (spread_lit _ _ _ (Reads.lit w #[.int .i64 1, .int .i64 1, .int .i64 1] 3 3 1 _ rfl rfl)).mono ?_
  rintro e w1 ⟨B1, d1, rfl, hl1, hb1⟩
  have HB1 := Lib.hid (HB0.out.trans (hb1.mono HB0.out.size))
  have HL1 := Lib.hid hl1
  clear hb1 hl1
  go_wp2_with fail
  have HBA := Lib.hid ((Below.refl w1.heap.size w1).alloc (Nat.le_refl _) (.cells #[.int .i64 4, .int .i64 3, .int .i64 3] 3))
  refine (eqint_any _ _ _ _ _ _ [4, 3, 3] [4, 3, 3] _ (by omega) (HL1.out.go HBA.out) (Reads.lit w1 #[.int .i64 4, .int .i64 3, .int .i64 3] 3 3 1 _ rfl rfl) rfl).mono ?_
  rintro e w2 ⟨rfl, hb2⟩
  have HB2 := Lib.hid (HB1.out.trans ((HBA.out.trans (hb2.mono HBA.out.size)).mono HB1.out.size))
  clear hb2 HBA HL1
  go_wp2_with fail
  have HBC := Lib.hid ((Below.refl w2.heap.size w2).alloc (Nat.le_refl _) (.cells #[.int .i64 1, .int .i64 2, .int .i64 3] 3))
  refine (sums_lit _ _ _ (Reads.lit w2 #[.int .i64 1, .int .i64 2, .int .i64 3] 3 3 1 _ rfl rfl)).mono ?_
  rintro e w3 ⟨B3, d3, rfl, hl3, hb3⟩
  have HB3 := Lib.hid (HB2.out.trans ((HBC.out.trans (hb3.mono HBC.out.size)).mono HB2.out.size))
  have HL3 := Lib.hid hl3
  clear hb3 hl3 HBC
  go_wp2_with fail
  have HBD := Lib.hid ((Below.refl w3.heap.size w3).alloc (Nat.le_refl _) (.cells #[.int .i64 3, .int .i64 3] 3))
  refine (eqint_any _ _ _ _ _ _ [3, 3] [3, 3] _ (by omega) (HL3.out.go HBD.out) (Reads.lit w3 #[.int .i64 3, .int .i64 3] 3 2 1 _ rfl rfl) rfl).mono ?_
  rintro e w4 ⟨rfl, hb4⟩
  have HB4 := Lib.hid (HB3.out.trans ((HBD.out.trans (hb4.mono HBD.out.size)).mono HB3.out.size))
  clear hb4 HBD HL3
  go_wp2_with fail
  refine (HSP.out _ (hr.go HB4.out)).mono ?_
  rintro e w5 ⟨B5, m, d5, er, l, rfl, hl5, hb5, hbad, hgood⟩
  have HB5 := Lib.hid (HB4.out.trans (hb5.mono HB4.out.size))
  have HL5 := Lib.hid hl5
  have HBAD := Lib.hid hbad
  have HGOOD := Lib.hid hgood
  clear hb5 hl5 hbad hgood
  go_wp2_with fail
  refine (HSU.out _ (hr.go HB5.out)).mono ?_
  rintro e w6 ⟨B6, d6, er2, l2, rfl, hl6, hok, _, hb6⟩
  have HB6 := Lib.hid (HB5.out.trans (hb6.mono HB5.out.size))
  have HL6 := Lib.hid hl6
  have HL5' := Lib.hid (HL5.out.go hb6)
  have HR6 := Lib.hid (hr.go HB6.out)
  have HOK := Lib.hid hok
  clear hb6 hl6 hok HL5
  have HWS : Hid (Pl.hcheck ws = 0 → ∀ w, Reads w w.heap.size 1 A n (ints ws) → Calls Try.prog 18 #[.slice A n c] w fun e w' => e = .returned (.int .i64 (Pl.sumI ws)) ∧ w = w') := fun h w hr => by
    obtain ⟨h1, h2⟩ := Pl.hcheck_ok h
    exact lsum_any A n c ws w (by have := L1.out; omega) hr fun x hx => by
      obtain ⟨j, hj, rfl⟩ := List.getElem_of_mem hx
      have := h2 j hj
      omega
  by_cases e1 : er = 0
  · subst e1
    obtain ⟨⟨f1, t0, t1, f4, f5⟩, hm, hsum, hbd, hpr⟩ := HGOOD.out rfl
    obtain rfl : n = m := by have := L1.out; omega
    have HSW := Lib.hid (HWS.out f1)
    have LL := Lib.hid HL5'.out.int_len
    obtain ⟨hn0, hw1⟩ := Pl.hcheck_ok f1
    have HWB : Hid (∀ z ∈ ws, 0 ≤ z ∧ z ≤ 100000) := fun z hz => by
      obtain ⟨j, hj, rfl⟩ := List.getElem_of_mem hz
      exact ⟨f4 _ hz, (hw1 j hj).2⟩
    have s1 : Pl.sumI ws ≤ 2400000 := by
      have := Pl.sumI_bd (l := ws) (lo := 0) (hi := 100000) fun x hx => HWB.out x hx
      omega
    have HPR : Hid (∀ (k : Nat), k < n → ∀ (a : k < l.length) (b : k < ws.length), 0 ≤ l[k] ∧ l[k] ≤ 240000000001 ∧ -(Pl.sumI ws) < l[k] * Pl.sumI ws - total * ws[k] ∧ l[k] * Pl.sumI ws - total * ws[k] < Pl.sumI ws) := fun k hk a b => by
      have u := hbd k b
      have v := hpr k b
      rw [List.getD_eq_getElem?_getD, List.getElem?_eq_getElem a, Option.getD_some] at u v
      rw [List.getD_eq_getElem?_getD, List.getElem?_eq_getElem b, Option.getD_some] at v
      exact ⟨u.1, u.2, v.1, v.2⟩
    have HSL : Hid (∀ w, Reads w w.heap.size 1 B5 n (ints l) → Calls Try.prog 18 #[.slice B5 n d5] w fun e w' => e = .returned (.int .i64 total) ∧ w = w') := fun w hr => by
      have := lsum_any B5 n d5 l w (by omega) hr fun x hx => by
        obtain ⟨j, hj, rfl⟩ := List.getElem_of_mem hx
        obtain ⟨u1, u2, _⟩ := HPR.out j (by have := LL.out; omega) hj (by have := LL.out; omega)
        omega
      rw [hsum] at this
      exact this
    have s0 := f5
    clear HWS HGOOD HBAD hm hbd hpr hsum f1 f4 f5 hw1
    by_cases e2 : er2 = 0
    · subst e2
      obtain ⟨_, k2, k3, k4⟩ := HOK.out rfl
      have HS2 : Hid (∀ w, Reads w w.heap.size 1 B6 l2.length (ints l2) → Calls Try.prog 18 #[.slice B6 l2.length d6] w fun e w' => e = .returned (.int .i64 (Pl.sumI ws)) ∧ w = w') := fun w hr => by
        have := lsum_any B6 l2.length d6 l2 w k3 hr fun x hx => by have := k4 x hx; omega
        rw [k2] at this
        exact this
      clear HOK k2 k4
      generalize Pl.sumI ws = S at *
      go_wp2_with fail
      refine (HS2.out _ HL6.out).mono ?_
      rintro e w7 ⟨rfl, rfl⟩
      go_wp2_with fail
      refine (HSW.out _ HR6.out).mono ?_
      rintro e w8 ⟨rfl, rfl⟩
      have es : (S != S) = false := by simp
      go_wp2_with fail
      refine (HSW.out _ HR6.out).mono ?_
      rintro e w7 ⟨rfl, rfl⟩
      go_wp2_with fail
      go_loopw [79] (fun i wr => ∃ k : Nat, k ≤ n ∧ i = .int .i64 k ∧ w6 = wr) (fun i _ => n - (intOf i).toNat)
      case atStart => exact ⟨0, Nat.zero_le _, rfl, rfl⟩
      case round =>
        obtain ⟨k, hk, rfl, rfl⟩ := hrel
        by_cases hlt : k < n
        · obtain ⟨b, o, rfl, hl1, c1⟩ := HL5'.out.int_at hlt
          obtain ⟨b', o', rfl, hl2, c2⟩ := HR6.out.int_at hlt
          obtain ⟨z0, z1, p1, p2⟩ := HPR.out k hlt hl1 hl2
          obtain ⟨x0, x1⟩ := HWB.out _ (List.getElem_mem hl2)
          have m1 := Int.mul_nonneg z0 (Int.le_of_lt s0)
          have m2 : l[k] * S ≤ 240000000001 * 2400000 := Int.mul_le_mul z1 s1 (Int.le_of_lt s0) (by decide)
          have m3 := Int.mul_nonneg t0 x0
          have m4 : total * ws[k] ≤ 2400000 * 100000 := Int.mul_le_mul t1 x1 x0 (by decide)
          generalize l[k] = z at *
          generalize ws[k] = x at *
          go_wp2_with fail
          go_roundw
          case rel => exact ⟨k + 1, by omega, by go_num, trivial⟩
          case measure => simp [intOf]; omega
        · have : k = n := by omega
          subst this
          go_wp2_with fail
          refine (HSL.out _ HL5'.out).mono ?_
          rintro e w9 ⟨rfl, rfl⟩
          have et : (total == total) = true := by simp
          go_wp2_with fail
          go_ret
          exact ⟨rfl, HB6.out⟩
    · have e3 : (er2 == 0) = false := by simpa using e2
      clear HOK e2
      generalize Pl.sumI ws = S at *
      go_wp2_with fail
      refine (HSW.out _ HR6.out).mono ?_
      rintro e w8 ⟨rfl, rfl⟩
      go_wp2_with fail
      go_loopw [79] (fun i wr => ∃ k : Nat, k ≤ n ∧ i = .int .i64 k ∧ w6 = wr) (fun i _ => n - (intOf i).toNat)
      case atStart => exact ⟨0, Nat.zero_le _, rfl, rfl⟩
      case round =>
        obtain ⟨k, hk, rfl, rfl⟩ := hrel
        by_cases hlt : k < n
        · obtain ⟨b, o, rfl, hl1, c1⟩ := HL5'.out.int_at hlt
          obtain ⟨b', o', rfl, hl2, c2⟩ := HR6.out.int_at hlt
          obtain ⟨z0, z1, p1, p2⟩ := HPR.out k hlt hl1 hl2
          obtain ⟨x0, x1⟩ := HWB.out _ (List.getElem_mem hl2)
          have m1 := Int.mul_nonneg z0 (Int.le_of_lt s0)
          have m2 : l[k] * S ≤ 240000000001 * 2400000 := Int.mul_le_mul z1 s1 (Int.le_of_lt s0) (by decide)
          have m3 := Int.mul_nonneg t0 x0
          have m4 : total * ws[k] ≤ 2400000 * 100000 := Int.mul_le_mul t1 x1 x0 (by decide)
          generalize l[k] = z at *
          generalize ws[k] = x at *
          go_wp2_with fail
          go_roundw
          case rel => exact ⟨k + 1, by omega, by go_num, trivial⟩
          case measure => simp [intOf]; omega
        · have : k = n := by omega
          subst this
          go_wp2_with fail
          refine (HSL.out _ HL5'.out).mono ?_
          rintro e w9 ⟨rfl, rfl⟩
          have et : (total == total) = true := by simp
          go_wp2_with fail
          go_ret
          exact ⟨rfl, HB6.out⟩
  · have e4 : (er != 0) = true := by simpa using e1
    obtain rfl : m = 0 := HBAD.out e1
    clear HGOOD HBAD
    by_cases e2 : er2 = 0
    · subst e2
      obtain ⟨f1, k2, k3, k4⟩ := HOK.out rfl
      have HSW := Lib.hid (HWS.out f1)
      have HS2 : Hid (∀ w, Reads w w.heap.size 1 B6 l2.length (ints l2) → Calls Try.prog 18 #[.slice B6 l2.length d6] w fun e w' => e = .returned (.int .i64 (Pl.sumI ws)) ∧ w = w') := fun w hr => by
        have := lsum_any B6 l2.length d6 l2 w k3 hr fun x hx => by have := k4 x hx; omega
        rw [k2] at this
        exact this
      clear HOK HWS k2 k4 f1 e1
      generalize Pl.sumI ws = S at *
      go_wp2_with fail
      refine (HS2.out _ HL6.out).mono ?_
      rintro e w7 ⟨rfl, rfl⟩
      go_wp2_with fail
      refine (HSW.out _ HR6.out).mono ?_
      rintro e w8 ⟨rfl, rfl⟩
      have es : (S != S) = false := by simp
      go_wp2_with fail
      go_ret
      exact ⟨rfl, HB6.out⟩
    · have e3 : (er2 == 0) = false := by simpa using e2
      clear HOK e2 e1 HWS
      go_wp2_with fail
      go_ret
      exact ⟨rfl, HB6.out⟩
end Go.Proofs.Ytpbomomgjhbljaa
