/- The law ConvexTurns: for every function and move the call returns true, and old memory is left as it is. No condition. -/
import Derived.Test.YthodaikggpbiiaaSame
namespace Go.Proofs.Ythodaikggpbiiaa
open Go.RowKit
theorem cTurn_ex : Pl.cTurn 0 0 risesSt = ((-20, 130, [(10, -8), (10, -5)]), 0) := by decide
theorem turn_lit (w : World) (A : Option Addr) (h : Reads w w.heap.size 2 A 2 (pairs risesSt)) : Calls Try.prog 35 #[vCx 0 0 A 2 2] w fun e w' => ∃ A' c, e = .returned (.tuple #[.agg #[.int .i64 (-20), .int .i64 130, .slice A' 2 c], .int .i64 0]) ∧ Below w.heap.size w w' := by
  have h := cTurn_any 0 0 A 2 2 risesSt w h
  rw [cTurn_ex] at h
  exact h.mono fun e w' ⟨A', c, he, _, hb⟩ => ⟨A', c, he, hb⟩
set_option maxRecDepth 100000 in
set_option maxHeartbeats 3200000 in
theorem convexTurns_core (lo va : Int) (A : Option Addr) (n c : Nat) (st : List (Int × Int)) (x y x' y' : Int) (w : World) (hr : Reads w w.heap.size 2 A n (pairs st)) (hn : n ≤ 1000)
    (l1 v1 : Int) (s1 : List (Int × Int)) (l3 v3 : Int) (s3 : List (Int × Int)) (e3 : Int) (l4 v4 : Int) (s4 : List (Int × Int)) (e4 : Int) (hx' : wrap64 (-x) = x') (hy' : wrap64 (-y) = y')
    (H1 : Hid (∀ w, Reads w w.heap.size 2 A n (pairs st) → Calls Try.prog 35 #[vCx lo va A n c] w (MadeSaid ((l1, v1, s1), 0) w)))
    (H2 : Hid (∀ A c w, Reads w w.heap.size 2 A s1.length (pairs s1) → Calls Try.prog 35 #[vCx l1 v1 A s1.length c] w (MadeSaid ((lo, va, st), 0) w)))
    (H3 : Hid (∀ w, Reads w w.heap.size 2 A n (pairs st) → Calls Try.prog 36 #[vCx lo va A n c, .int .i64 x, .int .i64 y] w (MadeSaid ((l3, v3, s3), e3) w)))
    (H4 : Hid (∀ A c w, Reads w w.heap.size 2 A s3.length (pairs s3) → Calls Try.prog 36 #[vCx l3 v3 A s3.length c, .int .i64 x', .int .i64 y'] w (MadeSaid ((l4, v4, s4), e4) w)))
    (hfin : allOk [e3, e4] = true → lo = l4 ∧ va = v4 ∧ st = s4) :
    Calls Try.prog 11 #[vCx lo va A n c, .int .i64 x, .int .i64 y] w fun e w' => e = .returned (.bool true) ∧ Below w.heap.size w w' := by
  have HOK := Lib.hid (fun A c w h => fine_any A 2 c [e3, e4] w.heap.size w (by omega) h)
  obtain rfl : st.length = n := hr.pair_len
  have HS := Lib.hid (fun B d w h1 h2 => same_any lo va B A st.length d c st w (by omega) h1 h2)
  have HXP := Lib.hid hx'
  have HYP := Lib.hid hy'
  have HL := Lib.hid turn_lit
  clear hx' hy'
  cases hok : allOk [e3, e4]
  · rw [hok] at HOK
    clear hfin hok
    unfold MadeSaid at *
    unfold vCx at *
    go_enter Try.func11, Try.ntmps11
    go_wp2_with fail
    refine (rises_any _).mono ?_
    rintro e w0 ⟨A0, rfl, hr0, hb0⟩
    unfold vCx
    go_wp2_with fail
    refine (HL.out _ _ hr0).mono ?_
    rintro e w1 ⟨A1, d1, rfl, hb1⟩
    have hb := hb0.trans (hb1.mono hb0.size)
    have HB1 := Lib.hid (((Below.refl w.heap.size w).alloc (Nat.le_refl _) _).trans (hb.mono (by simp)))
    have B1 : Hid (Blk w1 w.heap.size _ _) := (Blk.new_ _ _ _ _ rfl).go hb
    clear hb hb0 hb1 hr0
    have c1 := B1.out.cell
    have l1' := B1.out.lt
    go_wp2_with fail
    have C1 := Lib.hid (HB1.out.alloc HB1.out.size (.cells #[.int .i64 (-20), .int .i64 130, .slice A1 2 d1] 34))
    refine (H1.out _ (hr.go C1.out)).mono ?_
    rintro e w2 ⟨A2, d2, rfl, hown2, hb⟩
    have HB2 := Lib.hid (C1.out.trans (hb.mono C1.out.size))
    have B2 := Lib.hid ((B1.out.alloc _).go hb)
    have R2 := Lib.hid (Reads.of_own hown2)
    clear c1 l1' hb hown2
    have c2 := B2.out.cell
    have l2 := B2.out.lt
    go_wp2_with fail
    have C2 := Lib.hid (HB2.out.alloc HB2.out.size (.cells #[.int .i64 l1, .int .i64 v1, .slice A2 s1.length d2] 34))
    have D2 := Lib.hid (Blk.new_ w2 w2.heap.size 34 #[.int .i64 l1, .int .i64 v1, .slice A2 s1.length d2] rfl)
    have S2 := Lib.hid (R2.out.go ((Below.refl _ _).alloc (Nat.le_refl _) (.cells #[.int .i64 l1, .int .i64 v1, .slice A2 s1.length d2] 34)))
    refine (H2.out _ _ _ S2.out).mono ?_
    rintro e w3 ⟨A3, d3, rfl, hown3, hb⟩
    have HB3 := Lib.hid (C2.out.trans (hb.mono C2.out.size))
    have B3 := Lib.hid ((B2.out.alloc _).go hb)
    have R3 := Lib.hid (Reads.of_own hown3)
    clear c2 l2 hb hown3
    have c3 := B3.out.cell
    have l3' := B3.out.lt
    go_wp2_with fail
    have C3 := Lib.hid (HB3.out.alloc HB3.out.size (.cells #[.int .i64 lo, .int .i64 va, .slice A3 st.length d3] 34))
    have E3 := Lib.hid (Blk.new_ w3 w3.heap.size 34 #[.int .i64 lo, .int .i64 va, .slice A3 st.length d3] rfl)
    have S3 := Lib.hid (R3.out.go ((Below.refl _ _).alloc (Nat.le_refl _) (.cells #[.int .i64 lo, .int .i64 va, .slice A3 st.length d3] 34)))
    refine (H3.out _ (hr.go C3.out)).mono ?_
    rintro e w4 ⟨A4, d4, rfl, hown4, hb⟩
    have HB4 := Lib.hid (C3.out.trans (hb.mono C3.out.size))
    have B4 := Lib.hid ((B3.out.alloc _).go hb)
    have E4 := Lib.hid (E3.out.go hb)
    have T4 := Lib.hid (S3.out.go hb)
    have R4 := Lib.hid (Reads.of_own hown4)
    clear c3 l3' hb hown4
    have c4 := B4.out.cell
    have l4' := B4.out.lt
    have k4 := E4.out.cell
    have m4 := E4.out.lt
    go_wp2_with fail
    rw [HXP.out, HYP.out]
    have C4 := Lib.hid (HB4.out.alloc HB4.out.size (.cells #[.int .i64 l3, .int .i64 v3, .slice A4 s3.length d4] 34))
    have S4 := Lib.hid (R4.out.go ((Below.refl _ _).alloc (Nat.le_refl _) (.cells #[.int .i64 l3, .int .i64 v3, .slice A4 s3.length d4] 34)))
    refine (H4.out _ _ _ S4.out).mono ?_
    rintro e w5 ⟨A5, d5, rfl, hown5, hb⟩
    have HB5 := Lib.hid (C4.out.trans (hb.mono C4.out.size))
    have B5 := Lib.hid ((B4.out.alloc _).go hb)
    have E5 := Lib.hid ((E4.out.alloc _).go hb)
    have T5 := Lib.hid ((T4.out.go ((Below.refl _ _).alloc (Nat.le_refl _) _)).go hb)
    have R5 := Lib.hid (Reads.of_own hown5)
    clear c4 l4' k4 m4 hb hown5
    have c5 := B5.out.cell
    have l5' := B5.out.lt
    have k5 := E5.out.cell
    have m5 := E5.out.lt
    go_wp2_with fail
    have C5 := Lib.hid (HB5.out.alloc HB5.out.size (.cells #[.int .i64 l4, .int .i64 v4, .slice A5 s4.length d5] 34))
    refine (HS.out _ _ _ (T5.out.go ((Below.refl _ _).alloc (Nat.le_refl _) _)) (hr.go C5.out)).mono ?_
    rintro e w6 ⟨rfl, hb⟩
    have HB6 := Lib.hid (C5.out.trans (hb.mono C5.out.size))
    clear hb c5 l5' k5 m5
    go_wp2_with fail
    refine (HOK.out _ _ _ ?_).mono ?_
    · exact Reads.lit w6 #[.int .i64 e3, .int .i64 e4] 23 2 1 _ rfl rfl
    rintro e w' ⟨rfl, rfl⟩
    go_wp2_with fail
    go_ret
    exact ⟨rfl, HB6.out.alloc HB6.out.size _⟩
  · rw [hok] at HOK
    obtain ⟨q1, q2, q3⟩ := hfin hok
    subst q1 q2 q3
    clear hfin hok
    unfold MadeSaid at *
    unfold vCx at *
    go_enter Try.func11, Try.ntmps11
    go_wp2_with fail
    refine (rises_any _).mono ?_
    rintro e w0 ⟨A0, rfl, hr0, hb0⟩
    unfold vCx
    go_wp2_with fail
    refine (HL.out _ _ hr0).mono ?_
    rintro e w1 ⟨A1, d1, rfl, hb1⟩
    have hb := hb0.trans (hb1.mono hb0.size)
    have HB1 := Lib.hid (((Below.refl w.heap.size w).alloc (Nat.le_refl _) _).trans (hb.mono (by simp)))
    have B1 : Hid (Blk w1 w.heap.size _ _) := (Blk.new_ _ _ _ _ rfl).go hb
    clear hb hb0 hb1 hr0
    have c1 := B1.out.cell
    have l1' := B1.out.lt
    go_wp2_with fail
    have C1 := Lib.hid (HB1.out.alloc HB1.out.size (.cells #[.int .i64 (-20), .int .i64 130, .slice A1 2 d1] 34))
    refine (H1.out _ (hr.go C1.out)).mono ?_
    rintro e w2 ⟨A2, d2, rfl, hown2, hb⟩
    have HB2 := Lib.hid (C1.out.trans (hb.mono C1.out.size))
    have B2 := Lib.hid ((B1.out.alloc _).go hb)
    have R2 := Lib.hid (Reads.of_own hown2)
    clear c1 l1' hb hown2
    have c2 := B2.out.cell
    have l2 := B2.out.lt
    go_wp2_with fail
    have C2 := Lib.hid (HB2.out.alloc HB2.out.size (.cells #[.int .i64 l1, .int .i64 v1, .slice A2 s1.length d2] 34))
    have D2 := Lib.hid (Blk.new_ w2 w2.heap.size 34 #[.int .i64 l1, .int .i64 v1, .slice A2 s1.length d2] rfl)
    have S2 := Lib.hid (R2.out.go ((Below.refl _ _).alloc (Nat.le_refl _) (.cells #[.int .i64 l1, .int .i64 v1, .slice A2 s1.length d2] 34)))
    refine (H2.out _ _ _ S2.out).mono ?_
    rintro e w3 ⟨A3, d3, rfl, hown3, hb⟩
    have HB3 := Lib.hid (C2.out.trans (hb.mono C2.out.size))
    have B3 := Lib.hid ((B2.out.alloc _).go hb)
    have R3 := Lib.hid (Reads.of_own hown3)
    clear c2 l2 hb hown3
    have c3 := B3.out.cell
    have l3' := B3.out.lt
    go_wp2_with fail
    have C3 := Lib.hid (HB3.out.alloc HB3.out.size (.cells #[.int .i64 lo, .int .i64 va, .slice A3 st.length d3] 34))
    have E3 := Lib.hid (Blk.new_ w3 w3.heap.size 34 #[.int .i64 lo, .int .i64 va, .slice A3 st.length d3] rfl)
    have S3 := Lib.hid (R3.out.go ((Below.refl _ _).alloc (Nat.le_refl _) (.cells #[.int .i64 lo, .int .i64 va, .slice A3 st.length d3] 34)))
    refine (H3.out _ (hr.go C3.out)).mono ?_
    rintro e w4 ⟨A4, d4, rfl, hown4, hb⟩
    have HB4 := Lib.hid (C3.out.trans (hb.mono C3.out.size))
    have B4 := Lib.hid ((B3.out.alloc _).go hb)
    have E4 := Lib.hid (E3.out.go hb)
    have T4 := Lib.hid (S3.out.go hb)
    have R4 := Lib.hid (Reads.of_own hown4)
    clear c3 l3' hb hown4
    have c4 := B4.out.cell
    have l4' := B4.out.lt
    have k4 := E4.out.cell
    have m4 := E4.out.lt
    go_wp2_with fail
    rw [HXP.out, HYP.out]
    have C4 := Lib.hid (HB4.out.alloc HB4.out.size (.cells #[.int .i64 l3, .int .i64 v3, .slice A4 s3.length d4] 34))
    have S4 := Lib.hid (R4.out.go ((Below.refl _ _).alloc (Nat.le_refl _) (.cells #[.int .i64 l3, .int .i64 v3, .slice A4 s3.length d4] 34)))
    refine (H4.out _ _ _ S4.out).mono ?_
    rintro e w5 ⟨A5, d5, rfl, hown5, hb⟩
    have HB5 := Lib.hid (C4.out.trans (hb.mono C4.out.size))
    have B5 := Lib.hid ((B4.out.alloc _).go hb)
    have E5 := Lib.hid ((E4.out.alloc _).go hb)
    have T5 := Lib.hid ((T4.out.go ((Below.refl _ _).alloc (Nat.le_refl _) _)).go hb)
    have R5 := Lib.hid (Reads.of_own hown5)
    clear c4 l4' k4 m4 hb hown5
    have c5 := B5.out.cell
    have l5' := B5.out.lt
    have k5 := E5.out.cell
    have m5 := E5.out.lt
    go_wp2_with fail
    have C5 := Lib.hid (HB5.out.alloc HB5.out.size (.cells #[.int .i64 lo, .int .i64 va, .slice A5 st.length d5] 34))
    refine (HS.out _ _ _ (T5.out.go ((Below.refl _ _).alloc (Nat.le_refl _) _)) (hr.go C5.out)).mono ?_
    rintro e w6 ⟨rfl, hb⟩
    have HB6 := Lib.hid (C5.out.trans (hb.mono C5.out.size))
    have B6 := Lib.hid ((B5.out.alloc (.cells #[.int .i64 lo, .int .i64 va, .slice A5 st.length d5] 34)).go hb)
    have F6 := Lib.hid ((Blk.new_ w5 w5.heap.size 34 #[.int .i64 lo, .int .i64 va, .slice A5 st.length d5] rfl).go hb)
    have R6 := Lib.hid ((R5.out.go ((Below.refl _ _).alloc (Nat.le_refl _) (.cells #[.int .i64 lo, .int .i64 va, .slice A5 st.length d5] 34))).go hb)
    clear hb c5 l5' k5 m5
    have c6 := B6.out.cell
    have l6 := B6.out.lt
    have k6 := F6.out.cell
    have m6 := F6.out.lt
    go_wp2_with fail
    refine (HOK.out _ _ _ ?_).mono ?_
    · exact Reads.lit w6 #[.int .i64 e3, .int .i64 e4] 23 2 1 _ rfl rfl
    rintro e w' ⟨rfl, rfl⟩
    go_wp2_with fail
    have C6 := Lib.hid (HB6.out.alloc HB6.out.size (.cells #[.int .i64 e3, .int .i64 e4] 23))
    refine (HS.out _ _ _ (R6.out.go ((Below.refl _ _).alloc (Nat.le_refl _) _)) (hr.go C6.out)).mono ?_
    rintro e w7 ⟨rfl, hb⟩
    have HB7 := Lib.hid (C6.out.trans (hb.mono C6.out.size))
    clear hb c6 l6 k6 m6
    go_wp2_with fail
    go_ret
    exact ⟨rfl, HB7.out⟩
set_option maxRecDepth 100000 in
set_option maxHeartbeats 800000 in
theorem convexTurns_bad (lo va : Int) (A : Option Addr) (n c : Nat) (st : List (Int × Int)) (x y : Int) (w : World) (hr : Reads w w.heap.size 2 A n (pairs st)) (l1 v1 e1 : Int) (he : e1 ≠ 0)
    (H1 : Hid (∀ w, Reads w w.heap.size 2 A n (pairs st) → Calls Try.prog 35 #[vCx lo va A n c] w (MadeSaid ((l1, v1, []), e1) w))) :
    Calls Try.prog 11 #[vCx lo va A n c, .int .i64 x, .int .i64 y] w fun e w' => e = .returned (.bool true) ∧ Below w.heap.size w w' := by
  have HL := Lib.hid turn_lit
  have h2 : (e1 != 0) = true := by simpa using he
  clear he
  unfold MadeSaid at *
  unfold vCx at *
  go_enter Try.func11, Try.ntmps11
  go_wp2_with fail
  refine (rises_any _).mono ?_
  rintro e w0 ⟨A0, rfl, hr0, hb0⟩
  unfold vCx
  go_wp2_with fail
  refine (HL.out _ _ hr0).mono ?_
  rintro e w1 ⟨A1, d1, rfl, hb1⟩
  have hb := hb0.trans (hb1.mono hb0.size)
  have HB1 := Lib.hid (((Below.refl w.heap.size w).alloc (Nat.le_refl _) _).trans (hb.mono (by simp)))
  have B1 : Hid (Blk w1 w.heap.size _ _) := (Blk.new_ _ _ _ _ rfl).go hb
  clear hb hb0 hb1 hr0
  have c1 := B1.out.cell
  have l1' := B1.out.lt
  go_wp2_with fail
  have C1 := Lib.hid (HB1.out.alloc HB1.out.size (.cells #[.int .i64 (-20), .int .i64 130, .slice A1 2 d1] 34))
  refine (H1.out _ (hr.go C1.out)).mono ?_
  rintro e w2 ⟨A2, d2, rfl, hown2, hb⟩
  have HB2 := Lib.hid (C1.out.trans (hb.mono C1.out.size))
  clear c1 l1' hb hown2
  go_wp2_with fail
  go_ret
  exact ⟨by simp, HB2.out.alloc HB2.out.size _⟩
theorem convexTurns_walk (lo va : Int) (A : Option Addr) (n c : Nat) (st : List (Int × Int)) (x y : Int) (w : World) (hr : Reads w w.heap.size 2 A n (pairs st)) :
    Calls Try.prog 11 #[vCx lo va A n c, .int .i64 x, .int .i64 y] w fun e w' => e = .returned (.bool true) ∧ Below w.heap.size w w' := by
  have hT := fun w h => cTurn_any lo va A n c st w h
  by_cases h0 : (Pl.cTurn lo va st).2 = 0
  · have hc : Pl.ccheck lo va st = 0 := by
      by_cases h : Pl.ccheck lo va st = 0
      · exact h
      · unfold Pl.cTurn at h0; rw [if_pos h] at h0; exact absurd h0 h
    obtain ⟨l1, v1, e1, e2⟩ := Pl.turn_back h0
    obtain ⟨_, hl, _, _⟩ := Pl.ccheck_ok hc
    rw [e1] at hT
    refine convexTurns_core lo va A n c st x y (wrap64 (-x)) (wrap64 (-y)) w hr (by have := hr.pair_len; omega) l1 v1 (Pl.turnP st) (Pl.cMove lo va st x y).1.1 (Pl.cMove lo va st x y).1.2.1 (Pl.cMove lo va st x y).1.2.2 (Pl.cMove lo va st x y).2
      (Pl.cMove (Pl.cMove lo va st x y).1.1 (Pl.cMove lo va st x y).1.2.1 (Pl.cMove lo va st x y).1.2.2 (wrap64 (-x)) (wrap64 (-y))).1.1
      (Pl.cMove (Pl.cMove lo va st x y).1.1 (Pl.cMove lo va st x y).1.2.1 (Pl.cMove lo va st x y).1.2.2 (wrap64 (-x)) (wrap64 (-y))).1.2.1
      (Pl.cMove (Pl.cMove lo va st x y).1.1 (Pl.cMove lo va st x y).1.2.1 (Pl.cMove lo va st x y).1.2.2 (wrap64 (-x)) (wrap64 (-y))).1.2.2
      (Pl.cMove (Pl.cMove lo va st x y).1.1 (Pl.cMove lo va st x y).1.2.1 (Pl.cMove lo va st x y).1.2.2 (wrap64 (-x)) (wrap64 (-y))).2 rfl rfl hT ?_ (fun w h => cMove_any lo va A n c st x y w h) (fun A c w h => cMove_any _ _ A _ c _ _ _ w h) ?_
    · intro A c w h
      have := cTurn_any l1 v1 A _ c (Pl.turnP st) w h
      rw [e2] at this
      exact this
    · intro hok
      rw [allOk_true] at hok
      have k1 := hok _ (List.mem_cons_self)
      have k2 := hok (Pl.cMove (Pl.cMove lo va st x y).1.1 (Pl.cMove lo va st x y).1.2.1 (Pl.cMove lo va st x y).1.2.2 (wrap64 (-x)) (wrap64 (-y))).2 (by simp)
      obtain ⟨m1, m2, m3, m4⟩ := Pl.move_back hc k1
      have wx : wrap64 (-x) = -x := IntWalk.wrap64_in _ ⟨by omega, by omega⟩
      have wy : wrap64 (-y) = -y := IntWalk.wrap64_in _ ⟨by omega, by omega⟩
      rw [wx, wy, m1] at k2 ⊢
      rw [m2 _ _ k2 rfl rfl]
      exact ⟨rfl, rfl, rfl⟩
  · have hb := Pl.cTurn_bad h0
    refine convexTurns_bad lo va A n c st x y w hr (Pl.cTurn lo va st).1.1 (Pl.cTurn lo va st).1.2.1 (Pl.cTurn lo va st).2 h0 ?_
    intro w h
    have := hT w h
    rw [show Pl.cTurn lo va st = (((Pl.cTurn lo va st).1.1, (Pl.cTurn lo va st).1.2.1, []), (Pl.cTurn lo va st).2) from by rw [← hb]] at this
    exact this
end Go.Proofs.Ythodaikggpbiiaa
