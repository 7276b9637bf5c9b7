/- The law ConvexFenchel: for all functions, slopes and arguments the call returns true, and old memory is left as it is. Condition: what the sort of pieces says. -/
import Derived.Test.YtjdagpmfnmodbaaConj
import Derived.Test.YtjdagpmfnmodbaaConvA
import Derived.Test.YtjdagpmfnmodbaaFine
namespace Go.Proofs.Ytjdagpmfnmodbaa
open Go.RowKit
theorem cConj_ex : Pl.cConj 0 0 risesSt 6 = (10, 0) := by rfl
theorem conj_lit (w : World) (A : Option Addr) (h : Reads w w.heap.size 2 A 2 (pairs risesSt)) : Calls Try.prog 28 #[vCx 0 0 A 2 2, .int .i64 6] w fun e w' => e = .returned (.tuple #[.int .i64 10, .int .i64 0]) ∧ Below w.heap.size w w' := by
  have h := cConj_any 0 0 A 2 2 risesSt 6 w h
  rw [cConj_ex] at h
  exact h
set_option maxRecDepth 100000 in
set_option maxHeartbeats 6400000 in
theorem convexFenchel_core (lo1 va1 lo2 va2 : Int) (A B : Option Addr) (n m c1 c2 : Nat) (ps qs : List (Int × Int)) (s x : Int) (w : World) (hr : Reads w w.heap.size 2 A n (pairs ps)) (hq : Reads w w.heap.size 2 B m (pairs qs))
    (cl cv : Int) (H : List (Int × Int)) (ce a h b i sv j v k : Int)
    (H1 : Hid (∀ w, Reads w w.heap.size 2 A n (pairs ps) → Reads w w.heap.size 2 B m (pairs qs) → Calls Try.prog 19 #[vCx lo1 va1 A n c1, vCx lo2 va2 B m c2] w (MadeSaid ((cl, cv, H), ce) w)))
    (H2 : Hid (∀ w, Reads w w.heap.size 2 A n (pairs ps) → Calls Try.prog 28 #[vCx lo1 va1 A n c1, .int .i64 s] w (TwoSaid (a, h) w)))
    (H3 : Hid (∀ w, Reads w w.heap.size 2 B m (pairs qs) → Calls Try.prog 28 #[vCx lo2 va2 B m c2, .int .i64 s] w (TwoSaid (b, i) w)))
    (H4 : Hid (∀ A c w, Reads w w.heap.size 2 A H.length (pairs H) → Calls Try.prog 28 #[vCx cl cv A H.length c, .int .i64 s] w (TwoSaid (sv, j) w)))
    (H5 : Hid (∀ w, Reads w w.heap.size 2 A n (pairs ps) → Calls Try.prog 20 #[vCx lo1 va1 A n c1, .int .i64 x] w (TwoSaid (v, k) w)))
    (hab : allOk [h, k] = true → s * x - v ≤ a ∧ -4000000000000000 ≤ s * x ∧ s * x ≤ 4000000000000000 ∧ -4000000000000000 ≤ v ∧ v ≤ 4000000000000000)
    (hsm : allOk [ce, h, i, j] = true → sv = a + b ∧ -4000000000000000 ≤ a ∧ a ≤ 4000000000000000 ∧ -4000000000000000 ≤ b ∧ b ≤ 4000000000000000) :
    Calls Try.prog 8 #[vCx lo1 va1 A n c1, vCx lo2 va2 B m c2, .int .i64 s, .int .i64 x] w fun e w' => e = .returned (.bool true) ∧ Below w.heap.size w w' := by
  have HL := Lib.hid conj_lit
  have HOK := Lib.hid (fun A es w (h : Reads w w.heap.size 1 A es.length (ints es)) (hl : es.length ≤ 1000) => fine_any A es.length es.length es _ w hl h)
  have HAB := Lib.hid hab
  have HSM := Lib.hid hsm
  have HA := Lib.hid hr
  have HB := Lib.hid hq
  clear hab hsm hr hq
  unfold MadeSaid TwoSaid at *
  unfold vCx at *
  obtain ⟨wd, hwd, B1, B2, HBD⟩ : ∃ wd, wd = (w.alloc (.cells #[.int .i64 lo1, .int .i64 va1, .slice A n c1] 30)).alloc (.cells #[.int .i64 lo2, .int .i64 va2, .slice B m c2] 30) ∧ Hid (Blk wd w.heap.size 30 #[.int .i64 lo1, .int .i64 va1, .slice A n c1]) ∧ Hid (Blk wd (w.heap.size + 1) 30 #[.int .i64 lo2, .int .i64 va2, .slice B m c2]) ∧ Hid (Below w.heap.size w wd) := by
    refine ⟨_, rfl, ?_, ?_, ?_⟩
    · exact (Blk.new_ w w.heap.size _ _ rfl).alloc _
    · exact Blk.new_ _ (w.heap.size + 1) _ _ (by simp)
    · exact ((Below.refl w.heap.size w).alloc (Nat.le_refl _) _).alloc (by simp) _
  go_enter Try.func8, Try.ntmps8
  go_wp2_with fail
  rw [← hwd]
  clear hwd
  refine (rises_any _).mono ?_
  rintro e w0 ⟨A0, rfl, hr0, hb0⟩
  have hb0' := hb0
  have HB0 := Lib.hid (HBD.out.trans (hb0.mono HBD.out.size))
  have P0 := Lib.hid (B1.out.go hb0)
  have Q0 := Lib.hid (B2.out.go hb0)
  clear hb0 hb0' HBD B1 B2
  unfold vCx
  go_wp2_with fail
  refine (HL.out _ _ hr0).mono ?_
  rintro e w1 ⟨rfl, hb⟩
  have HB1 := Lib.hid (HB0.out.trans (hb.mono HB0.out.size))
  have P1 := Lib.hid (P0.out.go hb)
  have Q1 := Lib.hid (Q0.out.go hb)
  clear hb hr0 HB0 P0 Q0
  go_wp2_with fail
  refine (slopes_any _).mono ?_
  rintro e w2 ⟨rfl, hb⟩
  have HB2 := Lib.hid (HB1.out.trans (hb.mono HB1.out.size))
  have P2 := Lib.hid (P1.out.go hb)
  have Q2 := Lib.hid (Q1.out.go hb)
  clear hb HB1 P1 Q1
  have cp := P2.out.cell
  have cq := Q2.out.cell
  go_wp2_with fail
  refine (H1.out _ (HA.out.go HB2.out) (HB.out.go HB2.out)).mono ?_
  rintro e w3 ⟨A3, d3, rfl, hown, hb⟩
  have HB3 := Lib.hid (HB2.out.trans (hb.mono HB2.out.size))
  have P3 := Lib.hid (P2.out.go hb)
  have Q3 := Lib.hid (Q2.out.go hb)
  have R3 := Lib.hid (Reads.of_own hown)
  clear hb hown HB2 P2 Q2 cp cq
  have al := (Below.refl w3.heap.size w3).alloc (Nat.le_refl _) (.cells #[.int .i64 cl, .int .i64 cv, .slice A3 H.length d3] 30)
  have HB4 := Lib.hid (HB3.out.alloc HB3.out.size (.cells #[.int .i64 cl, .int .i64 cv, .slice A3 H.length d3] 30))
  have P4 := Lib.hid (P3.out.go al)
  have Q4 := Lib.hid (Q3.out.go al)
  have R4 := Lib.hid (R3.out.go al)
  have S4 := Lib.hid (Blk.new_ w3 w3.heap.size 30 #[.int .i64 cl, .int .i64 cv, .slice A3 H.length d3] rfl)
  have cp := P4.out.cell
  have cq := Q4.out.cell
  have lp := P4.out.lt
  have lq := Q4.out.lt
  have lp3 := P3.out.lt
  have lq3 := Q3.out.lt
  clear al
  go_wp2_with fail
  refine (H2.out _ (HA.out.go HB4.out)).mono ?_
  rintro e w5 ⟨rfl, hb⟩
  have HB5 := Lib.hid (HB4.out.trans (hb.mono HB4.out.size))
  have P5 := Lib.hid (P4.out.go hb)
  have Q5 := Lib.hid (Q4.out.go hb)
  have R5 := Lib.hid (R4.out.go hb)
  have S5 := Lib.hid (S4.out.go hb)
  clear hb HB3 HB4 P3 Q3 R3 P4 Q4 R4 S4 cp cq lp lq lp3 lq3
  have cq := Q5.out.cell
  go_wp2_with fail
  refine (H3.out _ (HB.out.go HB5.out)).mono ?_
  rintro e w6 ⟨rfl, hb⟩
  have HB6 := Lib.hid (HB5.out.trans (hb.mono HB5.out.size))
  have P6 := Lib.hid (P5.out.go hb)
  have R6 := Lib.hid (R5.out.go hb)
  have S6 := Lib.hid (S5.out.go hb)
  clear hb HB5 P5 Q5 R5 S5 cq
  have cs := S6.out.cell
  go_wp2_with fail
  refine (H4.out _ _ _ R6.out).mono ?_
  rintro e w7 ⟨rfl, hb⟩
  have HB7 := Lib.hid (HB6.out.trans (hb.mono HB6.out.size))
  have P7 := Lib.hid (P6.out.go hb)
  clear hb HB6 P6 R6 S6 cs
  have cp := P7.out.cell
  go_wp2_with fail
  refine (H5.out _ (HA.out.go HB7.out)).mono ?_
  rintro e w8 ⟨rfl, hb⟩
  have HB8 := Lib.hid (HB7.out.trans (hb.mono HB7.out.size))
  clear hb HB7 P7 cp
  cases ho : allOk [h, k]
  · go_wp2_with fail
    refine (HOK.out _ [h, k] _ (Reads.lit w8 #[.int .i64 h, .int .i64 k] 25 2 1 _ rfl rfl) (by simp)).mono ?_
    rintro e w9 ⟨rfl, rfl⟩
    rw [ho]
    have HB9 := Lib.hid (HB8.out.alloc HB8.out.size (.cells #[.int .i64 h, .int .i64 k] 25))
    generalize w8.alloc (.cells #[.int .i64 h, .int .i64 k] 25) = w9 at *
    clear ho HAB
    cases ho2 : allOk [ce, h, i, j]
    · go_wp2_with fail
      refine (HOK.out _ [ce, h, i, j] _ (Reads.lit w9 #[.int .i64 ce, .int .i64 h, .int .i64 i, .int .i64 j] 25 4 1 _ rfl rfl) (by simp)).mono ?_
      rintro e w10 ⟨rfl, rfl⟩
      rw [ho2]
      clear HSM ho2
      go_wp2_with fail
      go_ret
      exact ⟨rfl, HB9.out.alloc HB9.out.size _⟩
    · obtain ⟨e1, a1, a2, a3, a4⟩ := HSM.out ho2
      have e2 : (sv == a + b) = true := by simpa using e1
      subst e1
      clear HSM
      go_wp2_with fail
      refine (HOK.out _ [ce, h, i, j] _ (Reads.lit w9 #[.int .i64 ce, .int .i64 h, .int .i64 i, .int .i64 j] 25 4 1 _ rfl rfl) (by simp)).mono ?_
      rintro e w10 ⟨rfl, rfl⟩
      rw [ho2]
      clear ho2
      go_wp2_with fail
      go_ret
      exact ⟨rfl, HB9.out.alloc HB9.out.size _⟩
  · obtain ⟨e0, z1, z2, z3, z4⟩ := HAB.out ho
    have e3 : decide (a < s * x - v) = false := decide_eq_false (by omega)
    go_wp2_with fail
    refine (HOK.out _ [h, k] _ (Reads.lit w8 #[.int .i64 h, .int .i64 k] 25 2 1 _ rfl rfl) (by simp)).mono ?_
    rintro e w9 ⟨rfl, rfl⟩
    rw [ho]
    have HB9 := Lib.hid (HB8.out.alloc HB8.out.size (.cells #[.int .i64 h, .int .i64 k] 25))
    generalize w8.alloc (.cells #[.int .i64 h, .int .i64 k] 25) = w9 at *
    clear ho HAB
    go_wp2_with fail
    clear e0 z1 z2 z3 z4 e3
    cases ho2 : allOk [ce, h, i, j]
    · refine (HOK.out _ [ce, h, i, j] _ (Reads.lit w9 #[.int .i64 ce, .int .i64 h, .int .i64 i, .int .i64 j] 25 4 1 _ rfl rfl) (by simp)).mono ?_
      rintro e w10 ⟨rfl, rfl⟩
      rw [ho2]
      clear HSM ho2
      go_wp2_with fail
      go_ret
      exact ⟨rfl, HB9.out.alloc HB9.out.size _⟩
    · obtain ⟨e1, a1, a2, a3, a4⟩ := HSM.out ho2
      have e2 : (sv == a + b) = true := by simpa using e1
      subst e1
      clear HSM
      refine (HOK.out _ [ce, h, i, j] _ (Reads.lit w9 #[.int .i64 ce, .int .i64 h, .int .i64 i, .int .i64 j] 25 4 1 _ rfl rfl) (by simp)).mono ?_
      rintro e w10 ⟨rfl, rfl⟩
      rw [ho2]
      clear ho2
      go_wp2_with fail
      go_ret
      exact ⟨rfl, HB9.out.alloc HB9.out.size _⟩
theorem conj_bd {lo va : Int} {st : List (Int × Int)} {s : Int} (h : (Pl.cConj lo va st s).2 = 0) : -4000000000000000 ≤ (Pl.cConj lo va st s).1 ∧ (Pl.cConj lo va st s).1 ≤ 4000000000000000 := by
  obtain ⟨h0, e, s0, s1⟩ := Pl.conj_good h
  obtain ⟨g, _, hlo, hva⟩ := Pl.ccheck_ok h0
  have hb := Pl.lowR_bd (s := s) g.long
  have hp := g.place
  have hv := Pl.cvat_bd g (lo + Pl.lowR s st) (by omega) (by unfold Pl.chigh; omega)
  have hm := Pl.mulC_bd (s := s) (x := lo + Pl.lowR s st) s0 s1 (by omega) (by omega)
  have e2 : (Pl.cConj lo va st s).1 = s * (lo + Pl.lowR s st) - Pl.cvat lo va st (lo + Pl.lowR s st) := by rw [e, Pl.conj_eq g]
  rw [e2]
  omega
theorem convexFenchel_walk (hsort : SortPOk) (lo1 va1 lo2 va2 : Int) (A B : Option Addr) (n m c1 c2 : Nat) (ps qs : List (Int × Int)) (s x : Int) (w : World) (hr : Reads w w.heap.size 2 A n (pairs ps)) (hq : Reads w w.heap.size 2 B m (pairs qs)) :
    Calls Try.prog 8 #[vCx lo1 va1 A n c1, vCx lo2 va2 B m c2, .int .i64 s, .int .i64 x] w fun e w' => e = .returned (.bool true) ∧ Below w.heap.size w w' := by
  refine convexFenchel_core lo1 va1 lo2 va2 A B n m c1 c2 ps qs s x w hr hq (Pl.cConv lo1 va1 ps lo2 va2 qs).1.1 (Pl.cConv lo1 va1 ps lo2 va2 qs).1.2.1 (Pl.cConv lo1 va1 ps lo2 va2 qs).1.2.2 (Pl.cConv lo1 va1 ps lo2 va2 qs).2
    (Pl.cConj lo1 va1 ps s).1 (Pl.cConj lo1 va1 ps s).2 (Pl.cConj lo2 va2 qs s).1 (Pl.cConj lo2 va2 qs s).2
    (Pl.cConj (Pl.cConv lo1 va1 ps lo2 va2 qs).1.1 (Pl.cConv lo1 va1 ps lo2 va2 qs).1.2.1 (Pl.cConv lo1 va1 ps lo2 va2 qs).1.2.2 s).1
    (Pl.cConj (Pl.cConv lo1 va1 ps lo2 va2 qs).1.1 (Pl.cConv lo1 va1 ps lo2 va2 qs).1.2.1 (Pl.cConv lo1 va1 ps lo2 va2 qs).1.2.2 s).2
    (Pl.cAt lo1 va1 ps x).1 (Pl.cAt lo1 va1 ps x).2
    (fun w h1 h2 => cConv_any hsort lo1 va1 lo2 va2 A B n m c1 c2 ps qs w h1 h2) (fun w h => cConj_any lo1 va1 A n c1 ps s w h) (fun w h => cConj_any lo2 va2 B m c2 qs s w h) (fun A c w h => cConj_any _ _ A _ c _ s w h) (fun w h => cAt_any lo1 va1 A n c1 ps x w h) ?_ ?_
  · intro hok
    rw [allOk_true] at hok
    have k1 := hok _ (List.mem_cons_self)
    have k2 := hok (Pl.cAt lo1 va1 ps x).2 (by simp)
    obtain ⟨h0, e, s0, s1⟩ := Pl.conj_good k1
    obtain ⟨g, _, hlo, hva⟩ := Pl.ccheck_ok h0
    refine ⟨Pl.conj_above k1 k2, ?_⟩
    unfold Pl.cAt at k2 ⊢
    rw [if_neg (by simpa using h0)] at k2 ⊢
    by_cases hx : x < lo1 ∨ Pl.chigh lo1 ps < x
    · rw [if_pos hx] at k2; cases k2
    · rw [if_neg hx]
      have hp := g.place
      have hc : Pl.chigh lo1 ps = lo1 + Pl.total ps := rfl
      have hv := Pl.cvat_bd g x (by omega) (by omega)
      have hm := Pl.mulC_bd (s := s) (x := x) s0 s1 (by omega) (by omega)
      omega
  · intro hok
    rw [allOk_true] at hok
    have k1 := hok (Pl.cConv lo1 va1 ps lo2 va2 qs).2 (by simp)
    have k2 := hok (Pl.cConj lo1 va1 ps s).2 (by simp)
    have k3 := hok (Pl.cConj lo2 va2 qs s).2 (by simp)
    have k4 := hok (Pl.cConj (Pl.cConv lo1 va1 ps lo2 va2 qs).1.1 (Pl.cConv lo1 va1 ps lo2 va2 qs).1.2.1 (Pl.cConv lo1 va1 ps lo2 va2 qs).1.2.2 s).2 (by simp)
    refine ⟨Pl.fenchel_law k1 k2 k3 k4, ?_⟩
    have := conj_bd k2
    have := conj_bd k3
    omega
end Go.Proofs.Ytjdagpmfnmodbaa
