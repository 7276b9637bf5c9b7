/- The law StorageValue: for all storages, prices and charges the call returns true, and old memory is left as it is. Condition: what the sort of pieces says. -/
import Derived.Test.YtjdagpmfnmodbaaSVal
import Derived.Test.YtjdagpmfnmodbaaSRun
import Derived.Test.YtjdagpmfnmodbaaPStorC
import Derived.Deep.QuietTactic
namespace Go.Proofs.Ytjdagpmfnmodbaa
open Go.RowKit
theorem value_lit (hsort : SortPOk) (w : World) (A : Option Addr) (h : Reads w w.heap.size 1 A 1 (ints [4])) : Calls Try.prog 33 #[vSt 2 0 5 0 0, .slice A 1 1] w (CxSaid ((0, 0, [(2, 4)]), 0) w) := by
  have h := sValue_any hsort 2 0 5 0 0 A 1 1 [4] w h
  rw [Pl.sValue_ex] at h
  exact h
theorem run_lit (w : World) (A B : Option Addr) (h : Reads w w.heap.size 1 A 1 (ints [4])) (h2 : Reads w w.heap.size 1 B 1 (ints [1])) : Calls Try.prog 34 #[vSt 1 0 1 0 0, .slice A 1 1, .slice B 1 1] w (SchedSaid ([1], 4, 0) w) := by
  have h := sRun_any 1 0 1 0 0 A B 1 1 1 1 [4] [1] w h h2
  rw [Pl.sRun_ex] at h
  exact h
set_option maxRecDepth 100000 in
set_option maxHeartbeats 6400000 in
theorem storageValue_core (hsort : SortPOk) (ch dis cap beg en : Int) (A B : Option Addr) (n m c d : Nat) (ps cs : List Int) (w : World) (hr : Reads w w.heap.size 1 A n (ints ps)) (hq : Reads w w.heap.size 1 B m (ints cs))
    (lo va : Int) (st : List (Int × Int)) (ev : Int) (l : List Int) (co er : Int)
    (H1 : Hid (∀ w, Reads w w.heap.size 1 A n (ints ps) → Calls Try.prog 33 #[vSt ch dis cap beg en, .slice A n c] w (CxSaid ((lo, va, st), ev) w)))
    (H2 : Hid (∀ w, Reads w w.heap.size 1 A n (ints ps) → Reads w w.heap.size 1 B m (ints cs) → Calls Try.prog 34 #[vSt ch dis cap beg en, .slice A n c, .slice B m d] w (SchedSaid (l, co, er) w)))
    (hbad : ev ≠ 0 → st = []) (hgood : ev = 0 → er = 0 → 0 < l.length → ∃ last, l.length ≤ 24 ∧ l.getD (l.length - 1) 0 = last ∧ Pl.GoodC lo va st ∧ st.length ≤ 64 ∧ (-1000000 ≤ lo ∧ lo ≤ 1000000) ∧ (-1000000000000000 ≤ va ∧ va ≤ 1000000000000000) ∧ lo ≤ last ∧ last ≤ Pl.chigh lo st ∧ Pl.cvat lo va st last ≤ co) :
    Calls Try.prog 10 #[vSt ch dis cap beg en, .slice A n c, .slice B m d] w fun e w' => e = .returned (.bool true) ∧ Below w.heap.size w w' := by
  have HR := Lib.hid hr
  have HQ := Lib.hid hq
  have HL1 := Lib.hid (fun w A h => value_lit hsort w A h)
  have HL2 := Lib.hid run_lit
  have HBAD := Lib.hid hbad
  have HGOOD := Lib.hid hgood
  clear hr hq hbad hgood hsort
  unfold CxSaid at HL1 H1
  unfold SchedSaid at HL2 H2
  unfold vSt vCx at *
  have HB0 : Hid (Below w.heap.size w (w.alloc (.cells #[.int .i64 ch, .int .i64 dis, .int .i64 cap, .int .i64 beg, .int .i64 en] 70))) := (Below.refl _ _).alloc (Nat.le_refl _) _
  have HS0 : Hid (Blk (w.alloc (.cells #[.int .i64 ch, .int .i64 dis, .int .i64 cap, .int .i64 beg, .int .i64 en] 70)) w.heap.size 70 #[.int .i64 ch, .int .i64 dis, .int .i64 cap, .int .i64 beg, .int .i64 en]) := Blk.new_ _ _ _ _ rfl
  go_enter Try.func10, Try.ntmps10
  have e1 : Hid (w.heap.size + 1 = (w.alloc (.cells #[.int .i64 ch, .int .i64 dis, .int .i64 cap, .int .i64 beg, .int .i64 en] 70)).heap.size) := by show _ = _; simp
  go_wp2_with fail
  generalize w.alloc (.cells #[.int .i64 ch, .int .i64 dis, .int .i64 cap, .int .i64 beg, .int .i64 en] 70) = wa at *
  have AL := (Below.refl wa.heap.size wa).alloc (Nat.le_refl _) (.cells #[.int .i64 4] 3)
  have HB1 := Lib.hid (HB0.out.alloc HB0.out.size (.cells #[.int .i64 4] 3))
  have HS1 := Lib.hid (HS0.out.go AL)
  refine (HL1.out _ _ (Reads.lit wa #[.int .i64 4] 3 1 1 _ e1.out rfl)).mono ?_
  rintro e w1 ⟨A1, d1, rfl, hrd, hb⟩
  have HB2 := Lib.hid (HB1.out.trans (hb.mono HB1.out.size))
  have HS2 := Lib.hid (HS1.out.go hb)
  have RD := Lib.hid hrd
  clear hb hrd HB0 HB1 HS0 HS1 AL e1 HL1
  have AL := (Below.refl w1.heap.size w1).alloc (Nat.le_refl _) (.cells #[.int .i64 0, .int .i64 0, .slice A1 1 d1] 30)
  have HB3 := Lib.hid (HB2.out.alloc HB2.out.size (.cells #[.int .i64 0, .int .i64 0, .slice A1 1 d1] 30))
  have HS3 := Lib.hid (HS2.out.go AL)
  obtain ⟨b1, o1, rfl, hl1, p1, p2⟩ := (RD.out.go AL).pair_at (k := 0) (by simp)
  simp only [Nat.zero_mul, Nat.add_zero, List.getElem_cons_zero] at p1 p2
  clear AL
  go_wp2_with fail
  have e2 : Hid (w1.heap.size + 1 = (w1.alloc (.cells #[.int .i64 0, .int .i64 0, .slice (some ⟨b1, o1, none⟩) 1 d1] 30)).heap.size) := by show _ = _; simp
  generalize w1.alloc (.cells #[.int .i64 0, .int .i64 0, .slice (some ⟨b1, o1, none⟩) 1 d1] 30) = wc at *
  have hz : Hid (w1.heap.size + 1 + 1 = (wc.alloc (.cells #[.int .i64 4] 3)).heap.size) := by have := e2.out; show _ = _; simp; omega
  have AL1 := (Below.refl wc.heap.size wc).alloc (Nat.le_refl _) (.cells #[.int .i64 4] 3)
  have AL2 := (Below.refl (wc.alloc (.cells #[.int .i64 4] 3)).heap.size (wc.alloc (.cells #[.int .i64 4] 3))).alloc (Nat.le_refl _) (.cells #[.int .i64 1] 3)
  have HB4 := Lib.hid ((HB3.out.alloc HB3.out.size (.cells #[.int .i64 4] 3)).alloc (HB3.out.alloc HB3.out.size (.cells #[.int .i64 4] 3)).size (.cells #[.int .i64 1] 3))
  have HS4 := Lib.hid ((HS3.out.go AL1).go AL2)
  refine (HL2.out _ _ _ ((Reads.lit wc #[.int .i64 4] 3 1 1 _ e2.out rfl).go AL2) (Reads.lit (wc.alloc (.cells #[.int .i64 4] 3)) #[.int .i64 1] 3 1 1 _ hz.out rfl)).mono ?_
  rintro e w2 ⟨A2, d2, rfl, own2, hb⟩
  have HB5 := Lib.hid (HB4.out.trans (hb.mono HB4.out.size))
  have HS5 := Lib.hid (HS4.out.go hb)
  clear hb own2 HB3 HS3 HB4 HS4 AL1 AL2 e2 hz HL2 p1 p2 hl1 RD HB2 HS2
  have s5 := HS5.out.cell
  go_wp2_with fail
  refine (H1.out _ (HR.out.go HB5.out)).mono ?_
  rintro e w3 ⟨A3, d3, rfl, hrd, hb⟩
  have HB6 := Lib.hid (HB5.out.trans (hb.mono HB5.out.size))
  have HS6 := Lib.hid (HS5.out.go hb)
  have RD6 := Lib.hid hrd
  clear hb hrd HB5 HS5 s5
  (try simp only at RD6)
  have AL := (Below.refl w3.heap.size w3).alloc (Nat.le_refl _) (.cells #[.int .i64 lo, .int .i64 va, .slice A3 st.length d3] 30)
  have HB7 := Lib.hid (HB6.out.alloc HB6.out.size (.cells #[.int .i64 lo, .int .i64 va, .slice A3 st.length d3] 30))
  have HS7 := Lib.hid (HS6.out.go AL)
  have RD7 := Lib.hid (RD6.out.go AL)
  have X7 := Lib.hid (Blk.new_ w3 w3.heap.size 30 #[.int .i64 lo, .int .i64 va, .slice A3 st.length d3] rfl)
  have s7 := HS7.out.cell
  have ls := HS6.out.lt
  clear AL
  go_wp2_with fail
  refine (H2.out _ (HR.out.go HB7.out) (HQ.out.go HB7.out)).mono ?_
  rintro e w4 ⟨A4, d4, rfl, own4, hb⟩
  have HB8 := Lib.hid (HB7.out.trans (hb.mono HB7.out.size))
  have RD8 := Lib.hid (RD7.out.go hb)
  have X8 := Lib.hid (X7.out.go hb)
  have RL8 := Lib.hid (Reads.of_own own4)
  clear hb own4 HB6 HS6 RD6 HB7 HS7 RD7 X7 s7 ls
  generalize w3.heap.size = bx at *
  have x8 := X8.out.cell
  (try simp only at RL8)
  by_cases hev : ev = 0
  · subst hev
    by_cases her : er = 0
    · subst her
      by_cases hl0 : l.length = 0
      · have hl0' : ((l.length : Int) == 0) = true := by simp; exact List.eq_nil_of_length_eq_zero hl0
        go_wp2_with fail
        go_ret
        exact ⟨rfl, HB8.out⟩
      · have hl0' : ((l.length : Int) == 0) = false := by simp; intro h; exact hl0 (by rw [h]; rfl)
        obtain ⟨last, hl24, hlast, g, hst, hlo, hva, h1, h2, h3⟩ := HGOOD.out rfl rfl (by omega)
        obtain ⟨q, hq⟩ : ∃ q, l.length = q + 1 := ⟨l.length - 1, by omega⟩
        rw [hq] at RL8
        have hq24 : (q : Int) ≤ 24 := by omega
        have hgl : Pl.chigh lo st = lo + Pl.total st := rfl
        have HACC := Lib.hid (fun k => Pl.vacc_bd g hva (last - lo) (by omega) (by have := g.place; omega) k)
        have HV : Hid ((Pl.vacc va (last - lo) st).1 = Pl.cvat lo va st last) := Pl.vacc_at lo va st last
        have HZ : Hid ((Pl.vacc va (last - lo) st).2 = 0) := by show _ = _; rw [Pl.vacc_left g.long va _ (by omega)]; omega
        have HG := Lib.hid g
        have hlt64 : st.length ≤ 64 := hst
        have hplace := g.place
        have hlast0 : -1000000 ≤ last := by omega
        have hlast1 : last ≤ 1000000 := by omega
        have HLQ : Hid (∀ w', Below w4.heap.size w4 w' → ∃ b o, A4 = some ⟨b, o, none⟩ ∧ w'.cell? ⟨b, o + q, none⟩ = some (.int .i64 last)) := fun w' hb => by
          obtain ⟨b, o, e, hl, hc⟩ := (RL8.out.go hb).int_at (k := q) (by omega)
          refine ⟨b, o, e, ?_⟩
          rw [hc, ← hlast, hq]
          congr 2
          rw [show q + 1 - 1 = q by omega, List.getD_eq_getElem?_getD, List.getElem?_eq_getElem hl]
          rfl
        obtain ⟨b4, o4, e4, hc4⟩ := HLQ.out _ (Below.refl _ _)
        subst e4
        have HCQ : Hid (∀ w', Below w4.heap.size w4 w' → w'.cell? ⟨b4, o4 + q, none⟩ = some (.int .i64 last)) := fun w' hb => by
          obtain ⟨b, o, e, hc⟩ := HLQ.out w' hb
          injection e with e
          injection e with e1 e2 _
          subst e1 e2
          exact hc
        have H3 := Lib.hid h3
        have hln : (l.length : Int) = (q : Int) + 1 := by omega
        clear HGOOD HBAD hl24 hlast g hst hlo hva h1 h2 h3 hgl HLQ hl0 hc4 hl0' hplace
        generalize l.length = N at *
        subst hq
        go_wp2_with fail
        go_quiet (fail)
        go_wp2_with fail
        have HW0 : Hid (Below w4.heap.size w4 (w4.drewN nq)) := below_drewN (Below.refl _ _) nq
        generalize w4.drewN nq = w5 at *
        go_loopw [17, 18, 103] (fun a v i wr => ∃ k : Nat, k ≤ st.length ∧ i = .int .i64 k ∧ a = .int .i64 (last - (Pl.vacc va (last - lo) (st.take k)).2) ∧ v = .int .i64 (Pl.vacc va (last - lo) (st.take k)).1 ∧ Hid (Below w4.heap.size w4 wr)) (fun _ _ i _ => st.length - (intOf i).toNat)
        case atStart =>
          refine ⟨0, Nat.zero_le _, rfl, vint ?_, rfl, HW0⟩
          show lo = last - (last - lo)
          omega
        case round =>
          obtain ⟨k, hk, rfl, rfl, rfl, HBW⟩ := hrel
          obtain ⟨f0, f1, f2, f3⟩ := HACC.out k
          have hcq := HCQ.out _ HBW.out
          by_cases hlt : k < st.length
          · obtain ⟨b, o, rfl, hl, c1, c2⟩ := (RD8.out.go HBW.out).pair_at hlt
            obtain ⟨g1, g2, g3, g4⟩ := HG.out.step _ (List.getElem_mem hl)
            have HSTEP : Hid (Pl.vacc va (last - lo) (st.take (k + 1)) = Pl.cstep (Pl.vacc va (last - lo) (st.take k)) st[k]) := by show _ = _; rw [List.take_succ_eq_append_getElem hl, Pl.vacc_snoc]
            generalize Pl.vacc va (last - lo) (st.take k) = acc at *
            generalize st[k] = p at *
            obtain ⟨vk, lf⟩ := acc
            obtain ⟨x, y⟩ := p
            simp only at f0 f1 f2 f3 c1 c2 g1 g2 g3 g4
            obtain ⟨nn, hnn⟩ : ∃ nn, nn = min lf x := ⟨_, rfl⟩
            have hmm := Pl.piece_bd (m := nn) (p := y) (by omega) (by omega) g3 g4
            obtain ⟨hm0, hm1⟩ := hmm
            have HS2 : Hid (Pl.vacc va (last - lo) (st.take (k + 1)) = (vk + nn * y, lf - nn)) := by show _ = _; rw [HSTEP.out, hnn]; rfl
            have hmn : (if lf < x then lf else x) = nn := by rw [hnn]; split <;> omega
            have hmx : (if (0 : Int) < lf then lf else 0) = lf := by split <;> omega
            have hsub : last - (last - lf) = lf := by omega
            have n0 : 0 ≤ nn := by omega
            have n1 : nn ≤ 2000000 := by omega
            have q0 : (0 : Int) ≤ (q : Int) := by omega
            have q1 : (q : Int) < (q : Int) + 1 := by omega
            have hq5 : (wr.alloc (.cells #[.int .i64 x, .int .i64 y] 73)).cell? ⟨b4, o4 + q, none⟩ = some (.int .i64 last) := HCQ.out _ (HBW.out.alloc HBW.out.size _)
            have BN := Lib.hid (Blk.new_ wr wr.heap.size 73 #[.int .i64 x, .int .i64 y] rfl)
            have HBN := Lib.hid (HBW.out.alloc HBW.out.size (.cells #[.int .i64 x, .int .i64 y] 73))
            clear hnn HSTEP
            go_wp2_with fail
            have bn := BN.out.cell
            clear c1 c2 hcq
            generalize wr.alloc (.cells #[.int .i64 x, .int .i64 y] 73) = w6 at *
            generalize wr.heap.size = bnn at *
            go_quiet (fail)
            go_wp2_with fail
            have HBN2 := Lib.hid (below_drewN HBN.out nq)
            have BN2 := Lib.hid (BN.out.drewN nq)
            clear bn hq5
            have bn := BN2.out.cell
            generalize w6.drewN nq = w7 at *
            clear hsub hmx hmn
            go_quiet (fail)
            go_wp2_with fail
            have HBN3 := Lib.hid (below_drewN HBN2.out nq)
            go_roundw
            case rel =>
              refine ⟨k + 1, by omega, by go_num, vint ?_, vint ?_, HBN3⟩
              · rw [HS2.out]; simp only; omega
              · rw [HS2.out]
            case measure => simp [intOf]; omega
          · have hkn : k = st.length := by omega
            subst hkn
            rw [List.take_length] at f0 f1 f2 f3 ⊢
            rw [HZ.out, HV.out]
            have h3 := H3.out
            have hbd := HV.out
            rw [HV.out] at f2 f3
            generalize Pl.cvat lo va st last = cv at *
            have hee : ((last - 0 : Int) == last) = true := by simp
            have q0 : (0 : Int) ≤ (q : Int) := by omega
            have q1 : (q : Int) < (q : Int) + 1 := by omega
            go_wp2_with fail
            go_ret
            exact ⟨rfl, HB8.out.trans (HBW.out.mono HB8.out.size)⟩
    · have her' : (er != 0) = true := by simpa using her
      go_wp2_with fail
      go_ret
      exact ⟨rfl, HB8.out⟩
  · have hev' : (ev != 0) = true := by simpa using hev
    have hev2 : (ev == 0) = false := by simpa using hev
    have hst := HBAD.out hev
    subst hst
    go_wp2_with fail
    go_ret
    exact ⟨rfl, HB8.out⟩
theorem storageValue_walk (hsort : SortPOk) (ch dis cap beg en : Int) (A : Option Addr) (n c : Nat) (ps : List Int) (B : Option Addr) (m d : Nat) (cs : List Int) (w : World) (hr : Reads w w.heap.size 1 A n (ints ps)) (hq : Reads w w.heap.size 1 B m (ints cs)) :
    Calls Try.prog 10 #[vSt ch dis cap beg en, .slice A n c, .slice B m d] w fun e w' => e = .returned (.bool true) ∧ Below w.heap.size w w' := by
  refine storageValue_core hsort ch dis cap beg en A B n m c d ps cs w hr hq (Pl.sValue ch dis cap beg en ps).1.1 (Pl.sValue ch dis cap beg en ps).1.2.1 (Pl.sValue ch dis cap beg en ps).1.2.2 (Pl.sValue ch dis cap beg en ps).2 (Pl.sRun ch dis cap beg en ps cs).1 (Pl.sRun ch dis cap beg en ps cs).2.1 (Pl.sRun ch dis cap beg en ps cs).2.2
    (fun w h => sValue_any hsort ch dis cap beg en A n c ps w h) (fun w h1 h2 => sRun_any ch dis cap beg en A B n m c d ps cs w h1 h2) (fun h => Pl.sValue_bad h) ?_
  intro h1 h2 h3
  obtain ⟨_, _, _, _, r2⟩ := Pl.sRun_ok h2
  have hl0 : (Pl.sRun ch dis cap beg en ps cs).1.length = ps.length := by rw [r2]; simp
  obtain ⟨hok, hl, a, b, e⟩ := Pl.storage_value h1 h2 (by omega)
  have h24 := (Pl.sCheckP_ok (Pl.sRun_ok h2).1).2.1
  obtain ⟨g, l64, hlo, hva⟩ := Pl.ccheck_ok hok
  rw [hl]
  exact ⟨_, h24, rfl, g, l64, hlo, hva, a, b, e⟩
end Go.Proofs.Ytjdagpmfnmodbaa
