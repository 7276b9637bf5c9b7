/- ramp.Check: it returns what its plain function gives, and leaves old memory as it is. No condition. -/
import Derived.Test.YtchafkocobbndaaPRampC
import Derived.Test.YtchafkocobbndaaBase
import Derived.Test.YtchafkocobbndaaConvexC
namespace Go.Proofs.Ytchafkocobbndaa
open Go.RowKit
theorem rout_any (n hi : Int) (w : World) : Calls Try.prog 36 #[.int .i64 n, .int .i64 hi] w fun e w' => e = .returned (.bool (Pl.rOut n hi)) ∧ w = w' := by
  unfold Pl.rOut
  go_enter Try.func36, Try.ntmps36
  go_wp2
  all_goals (go_ret; exact ⟨by simp_all, rfl⟩)
theorem enters_rchk1 : ∀ args w, Sem.run Try.prog (callFunc 58 args) w = .ok (.enter 58 args) w := by intro args w; go_simp
set_option maxRecDepth 100000 in
theorem rchk1_any (p : Int × Int) (w : World) : Calls Try.prog 58 #[.agg #[.int .i64 p.1, .int .i64 p.2]] w fun e w' => e = .returned (.bool (Pl.badLim p)) ∧ Below w.heap.size w w' := by
  have HO := Lib.hid (fun w => rout_any p.1 p.2 w)
  have HB : Hid (Below w.heap.size w (w.alloc (.cells #[.int .i64 p.1, .int .i64 p.2] 56))) := (Below.refl _ _).alloc (Nat.le_refl _) _
  unfold Pl.badLim
  obtain ⟨x, y⟩ := p
  simp only at HO HB
  cases h : Pl.rOut x y
  · rw [h] at HO
    by_cases hy : 100000 < y
    · go_enter Try.func58, Try.ntmps58
      go_wp2_with fail
      refine (HO.out _).mono ?_
      rintro e w2 ⟨rfl, rfl⟩
      go_wp2_with fail
      go_ret
      exact ⟨by simp [hy], HB.out⟩
    · go_enter Try.func58, Try.ntmps58
      go_wp2_with fail
      refine (HO.out _).mono ?_
      rintro e w2 ⟨rfl, rfl⟩
      go_wp2_with fail
      go_ret
      exact ⟨by simp, HB.out⟩
  · rw [h] at HO
    go_enter Try.func58, Try.ntmps58
    go_wp2_with fail
    refine (HO.out _).mono ?_
    rintro e w2 ⟨rfl, rfl⟩
    go_wp2_with fail
    go_ret
    exact ⟨by simp, HB.out⟩
set_option maxHeartbeats 800000 in
set_option maxRecDepth 100000 in
theorem idxfn_lim (A : Option Addr) (n c : Nat) (ls : List (Int × Int)) (w : World) (hn : n ≤ 1000000000000000) (h : Reads w w.heap.size 2 A n (pairs ls)) :
    Calls Try.prog 77 #[.slice A n c, .func (.func 58) #[] #[]] w fun e w' => e = .returned (.int .i64 (Pl.idxOf Pl.badLim ls)) ∧ Below w.heap.size w w' := by
  have HL := Lib.hid h.pair_len
  have H := Lib.hid h
  clear h
  go_enter Try.func77, Try.ntmps77
  go_wp2_with fail
  go_loopw [8] (fun i wr => ∃ k : Nat, k ≤ n ∧ i = .int .i64 k ∧ Hid (∀ j (hj : j < ls.length), j < k → Pl.badLim ls[j] = false) ∧ Below w.heap.size w wr) (fun i _ => n - (intOf i).toNat)
  case atStart => exact ⟨0, Nat.zero_le _, rfl, fun j _ h => absurd h (by omega), Below.refl _ _⟩
  case round =>
    obtain ⟨k, hk, rfl, HN, hbel⟩ := hrel
    have HB := Lib.hid hbel
    clear hbel
    by_cases hlt : k < n
    · obtain ⟨b, o, rfl, hl, c1, c2⟩ := (H.out.go HB.out).pair_at hlt
      have HC := Lib.hid (rchk1_any ls[k] wr)
      go_wp2_with fail
      refine HC.out.mono ?_
      rintro e w' ⟨rfl, hb⟩
      have HB2 := Lib.hid (HB.out.trans (hb.mono HB.out.size))
      clear hb
      cases hv : Pl.badLim ls[k]
      · have HV := Lib.hid hv
        clear hv HC
        go_wp2_with fail
        go_roundw
        case rel =>
          exact ⟨k + 1, by omega, by go_num, fun j hj hjk => by
            by_cases e : j = k
            · subst e; exact HV.out
            · exact HN.out j hj (by omega), HB2.out⟩
        case measure => simp [intOf]; omega
      · have HV := Lib.hid hv
        clear hv HC
        go_wp2_with fail
        go_ret
        exact ⟨ret_int (Pl.idxOf_hit Pl.badLim ls k hl HV.out HN.out).symm, HB2.out⟩
    · go_wp2_with fail
      go_ret
      exact ⟨ret_int (Pl.idxOf_miss Pl.badLim ls fun j hj => HN.out j hj (by have := HL.out; omega)).symm, HB.out⟩
theorem contains_lim (A : Option Addr) (n c : Nat) (ls : List (Int × Int)) (w : World) (hn : n ≤ 1000000000000000) (h : Reads w w.heap.size 2 A n (pairs ls)) :
    Calls Try.prog 57 #[.slice A n c, .func (.func 58) #[] #[]] w fun e w' => e = .returned (.bool (Pl.has Pl.badLim ls)) ∧ Below w.heap.size w w' := by
  go_enter Try.func57, Try.ntmps57
  go_wp2_with fail
  refine (idxfn_lim A n c ls _ hn h).mono ?_
  rintro e w' ⟨rfl, hb⟩
  go_wp2_with fail
  go_ret
  exact ⟨ret_bool (Pl.has_idx _ ls), hb⟩
set_option maxHeartbeats 1600000 in
set_option maxRecDepth 100000 in
theorem rCheckP_any (A : Option Addr) (n c : Nat) (ls : List (Int × Int)) (beg up down : Int) (w : World) (h : Reads w w.heap.size 2 A n (pairs ls)) :
    Calls Try.prog 34 #[.slice A n c, .int .i64 beg, .int .i64 up, .int .i64 down] w fun e w' => e = .returned (.int .i64 (Pl.rCheckP ls beg up down)) ∧ Below w.heap.size w w' := by
  have HL := Lib.hid h.pair_len
  have HR := Lib.hid h
  have HS_beg := Lib.hid (fun w => rout_any beg 100000 w)
  have HS_up := Lib.hid (fun w => rout_any up 100000 w)
  have HS_down := Lib.hid (fun w => rout_any down 100000 w)
  have HCO := Lib.hid (fun (w : World) (hn : n ≤ 1000000000000000) (h : Reads w w.heap.size 2 A n (pairs ls)) => contains_lim A n c ls w hn h)
  have HX : Hid (Pl.rCheckP ls beg up down = if 24 < n then 2 else if (Pl.has Pl.badLim ls || Pl.rOut beg 100000 || Pl.rOut up 100000 || Pl.rOut down 100000) = true then 4 else 0) := by show _ = _; rw [← HL.out]; rfl
  clear h
  by_cases hn : n ≤ 24
  · go_enter Try.func34, Try.ntmps34
    cases h0 : Pl.has Pl.badLim ls
    · rw [h0] at HCO
      cases h1 : Pl.rOut beg 100000
      · rw [h1] at HS_beg
        cases h2 : Pl.rOut up 100000
        · rw [h2] at HS_up
          cases h3 : Pl.rOut down 100000
          · rw [h3] at HS_down
            go_wp2_with fail
            refine (HCO.out _ (by omega) HR.out).mono ?_
            rintro e w2 ⟨rfl, hb⟩
            have HB2 := Lib.hid hb
            clear hb
            go_wp2_with fail
            refine (HS_beg.out _).mono ?_
            rintro e w3 ⟨rfl, rfl⟩
            go_wp2_with fail
            refine (HS_up.out _).mono ?_
            rintro e w3 ⟨rfl, rfl⟩
            go_wp2_with fail
            refine (HS_down.out _).mono ?_
            rintro e w3 ⟨rfl, rfl⟩
            go_wp2_with fail
            go_ret
            exact ⟨ret_int (by rw [HX.out, if_neg (by omega)]; simp [*]), HB2.out⟩
          · rw [h3] at HS_down
            go_wp2_with fail
            refine (HCO.out _ (by omega) HR.out).mono ?_
            rintro e w2 ⟨rfl, hb⟩
            have HB2 := Lib.hid hb
            clear hb
            go_wp2_with fail
            refine (HS_beg.out _).mono ?_
            rintro e w3 ⟨rfl, rfl⟩
            go_wp2_with fail
            refine (HS_up.out _).mono ?_
            rintro e w3 ⟨rfl, rfl⟩
            go_wp2_with fail
            refine (HS_down.out _).mono ?_
            rintro e w3 ⟨rfl, rfl⟩
            go_wp2_with fail
            go_ret
            exact ⟨ret_int (by rw [HX.out, if_neg (by omega)]; simp [*]), HB2.out⟩
        · rw [h2] at HS_up
          go_wp2_with fail
          refine (HCO.out _ (by omega) HR.out).mono ?_
          rintro e w2 ⟨rfl, hb⟩
          have HB2 := Lib.hid hb
          clear hb
          go_wp2_with fail
          refine (HS_beg.out _).mono ?_
          rintro e w3 ⟨rfl, rfl⟩
          go_wp2_with fail
          refine (HS_up.out _).mono ?_
          rintro e w3 ⟨rfl, rfl⟩
          go_wp2_with fail
          go_ret
          exact ⟨ret_int (by rw [HX.out, if_neg (by omega)]; simp [*]), HB2.out⟩
      · rw [h1] at HS_beg
        go_wp2_with fail
        refine (HCO.out _ (by omega) HR.out).mono ?_
        rintro e w2 ⟨rfl, hb⟩
        have HB2 := Lib.hid hb
        clear hb
        go_wp2_with fail
        refine (HS_beg.out _).mono ?_
        rintro e w3 ⟨rfl, rfl⟩
        go_wp2_with fail
        go_ret
        exact ⟨ret_int (by rw [HX.out, if_neg (by omega)]; simp [*]), HB2.out⟩
    · rw [h0] at HCO
      go_wp2_with fail
      refine (HCO.out _ (by omega) HR.out).mono ?_
      rintro e w2 ⟨rfl, hb⟩
      have HB2 := Lib.hid hb
      clear hb
      go_wp2_with fail
      go_ret
      exact ⟨ret_int (by rw [HX.out, if_neg (by omega)]; simp [*]), HB2.out⟩
  · go_enter Try.func34, Try.ntmps34
    go_wp2_with fail
    go_ret
    exact ⟨ret_int (by rw [HX.out, if_pos (by omega)]), Below.refl _ _⟩
end Go.Proofs.Ytchafkocobbndaa
