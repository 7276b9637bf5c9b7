/- storage.Check, check and line: each returns what its plain function gives, and leaves old memory as it is. Condition on line: small numbers. -/
import Derived.Test.YtjdagpmfnmodbaaIdxInt
import Derived.Test.YtjdagpmfnmodbaaConvexC
import Derived.Test.YtjdagpmfnmodbaaMade
import Derived.Test.YtjdagpmfnmodbaaPStor
namespace Go.Proofs.Ytjdagpmfnmodbaa
open Go.RowKit
def vSt (ch dis cap beg en : Int) : Value := .agg #[.int .i64 ch, .int .i64 dis, .int .i64 cap, .int .i64 beg, .int .i64 en]
theorem sout_any (n hi : Int) (w : World) : Calls Try.prog 130 #[.int .i64 n, .int .i64 hi] w fun e w' => e = .returned (.bool (Pl.sout n hi)) ∧ w = w' := by
  unfold Pl.sout
  go_enter Try.func130, Try.ntmps130
  go_wp2
  all_goals (go_ret; exact ⟨by simp_all, rfl⟩)
set_option maxHeartbeats 1600000 in
set_option maxRecDepth 100000 in
theorem sCheck_any (ch dis cap beg en : Int) (w : World) : Calls Try.prog 104 #[vSt ch dis cap beg en] w fun e w' => e = .returned (.int .i64 (Pl.sCheck ch dis cap beg en)) ∧ Below w.heap.size w w' := by
  have HS_ch := Lib.hid (fun w => sout_any ch 100000 w)
  have HS_dis := Lib.hid (fun w => sout_any dis 100000 w)
  have HS_cap := Lib.hid (fun w => sout_any cap 100000 w)
  have HS_beg := Lib.hid (fun w => sout_any beg cap w)
  have HS_en := Lib.hid (fun w => sout_any en cap w)
  have HB : Hid (Below w.heap.size w (w.alloc (.cells #[.int .i64 ch, .int .i64 dis, .int .i64 cap, .int .i64 beg, .int .i64 en] 70))) := (Below.refl _ _).alloc (Nat.le_refl _) _
  unfold vSt
  go_enter Try.func104, Try.ntmps104
  cases h0 : Pl.sout ch 100000
  · rw [h0] at HS_ch
    cases h1 : Pl.sout dis 100000
    · rw [h1] at HS_dis
      cases h2 : Pl.sout cap 100000
      · rw [h2] at HS_cap
        cases h3 : Pl.sout beg cap
        · rw [h3] at HS_beg
          cases h4 : Pl.sout en cap
          · rw [h4] at HS_en
            go_wp2_with fail
            refine (HS_ch.out _).mono ?_
            rintro e w1 ⟨rfl, rfl⟩
            go_wp2_with fail
            refine (HS_dis.out _).mono ?_
            rintro e w1 ⟨rfl, rfl⟩
            go_wp2_with fail
            refine (HS_cap.out _).mono ?_
            rintro e w1 ⟨rfl, rfl⟩
            go_wp2_with fail
            refine (HS_beg.out _).mono ?_
            rintro e w1 ⟨rfl, rfl⟩
            go_wp2_with fail
            refine (HS_en.out _).mono ?_
            rintro e w1 ⟨rfl, rfl⟩
            go_wp2_with fail
            go_ret
            exact ⟨by simp [Pl.sCheck, *], HB.out⟩
          · rw [h4] at HS_en
            go_wp2_with fail
            refine (HS_ch.out _).mono ?_
            rintro e w1 ⟨rfl, rfl⟩
            go_wp2_with fail
            refine (HS_dis.out _).mono ?_
            rintro e w1 ⟨rfl, rfl⟩
            go_wp2_with fail
            refine (HS_cap.out _).mono ?_
            rintro e w1 ⟨rfl, rfl⟩
            go_wp2_with fail
            refine (HS_beg.out _).mono ?_
            rintro e w1 ⟨rfl, rfl⟩
            go_wp2_with fail
            refine (HS_en.out _).mono ?_
            rintro e w1 ⟨rfl, rfl⟩
            go_wp2_with fail
            go_ret
            exact ⟨by simp [Pl.sCheck, *], HB.out⟩
        · rw [h3] at HS_beg
          go_wp2_with fail
          refine (HS_ch.out _).mono ?_
          rintro e w1 ⟨rfl, rfl⟩
          go_wp2_with fail
          refine (HS_dis.out _).mono ?_
          rintro e w1 ⟨rfl, rfl⟩
          go_wp2_with fail
          refine (HS_cap.out _).mono ?_
          rintro e w1 ⟨rfl, rfl⟩
          go_wp2_with fail
          refine (HS_beg.out _).mono ?_
          rintro e w1 ⟨rfl, rfl⟩
          go_wp2_with fail
          go_ret
          exact ⟨by simp [Pl.sCheck, *], HB.out⟩
      · rw [h2] at HS_cap
        go_wp2_with fail
        refine (HS_ch.out _).mono ?_
        rintro e w1 ⟨rfl, rfl⟩
        go_wp2_with fail
        refine (HS_dis.out _).mono ?_
        rintro e w1 ⟨rfl, rfl⟩
        go_wp2_with fail
        refine (HS_cap.out _).mono ?_
        rintro e w1 ⟨rfl, rfl⟩
        go_wp2_with fail
        go_ret
        exact ⟨by simp [Pl.sCheck, *], HB.out⟩
    · rw [h1] at HS_dis
      go_wp2_with fail
      refine (HS_ch.out _).mono ?_
      rintro e w1 ⟨rfl, rfl⟩
      go_wp2_with fail
      refine (HS_dis.out _).mono ?_
      rintro e w1 ⟨rfl, rfl⟩
      go_wp2_with fail
      go_ret
      exact ⟨by simp [Pl.sCheck, *], HB.out⟩
  · rw [h0] at HS_ch
    go_wp2_with fail
    refine (HS_ch.out _).mono ?_
    rintro e w1 ⟨rfl, rfl⟩
    go_wp2_with fail
    go_ret
    exact ⟨by simp [Pl.sCheck, *], HB.out⟩
theorem enters_schk1 : ∀ args w, Sem.run Try.prog (callFunc 105 args) w = .ok (.enter 105 args) w := by intro args w; go_simp
theorem schk1_any (z : Int) (w : World) : Calls Try.prog 105 #[.int .i64 z] w fun e w' => e = .returned (.bool (Pl.badPr z)) ∧ w = w' := by
  unfold Pl.badPr
  go_enter Try.func105, Try.ntmps105
  go_wp2
  all_goals (go_ret; exact ⟨by simp_all, rfl⟩)
set_option maxHeartbeats 1600000 in
set_option maxRecDepth 100000 in
theorem sCheckP_any (ch dis cap beg en : Int) (A : Option Addr) (n c : Nat) (ps : List Int) (w : World) (h : Reads w w.heap.size 1 A n (ints ps)) :
    Calls Try.prog 74 #[vSt ch dis cap beg en, .slice A n c] w fun e w' => e = .returned (.int .i64 (Pl.sCheckP ch dis cap beg en ps)) ∧ Below w.heap.size w w' := by
  have HL := Lib.hid h.int_len
  have HR := Lib.hid h
  have HC := Lib.hid (fun w => sCheck_any ch dis cap beg en w)
  have HB : Hid (Below w.heap.size w (w.alloc (.cells #[.int .i64 ch, .int .i64 dis, .int .i64 cap, .int .i64 beg, .int .i64 en] 70))) := (Below.refl _ _).alloc (Nat.le_refl _) _
  have HCO := Lib.hid (fun (w : World) (hn : n ≤ 24) (h : Reads w w.heap.size 1 A n (ints ps)) => contains_int A n c ps 105 Pl.badPr w.heap.size w (by omega) enters_schk1 (Lib.hid schk1_any) h)
  have HX : Hid (Pl.sCheckP ch dis cap beg en ps = if Pl.sCheck ch dis cap beg en ≠ 0 then Pl.sCheck ch dis cap beg en else if 24 < ps.length then 2 else if Pl.has Pl.badPr ps = true then 4 else 0) := rfl
  rw [HL.out] at HX
  clear h
  unfold vSt at *
  generalize Pl.sCheckP ch dis cap beg en ps = R at *
  generalize Pl.sCheck ch dis cap beg en = ce at *
  by_cases h0 : ce = 0
  · subst h0
    by_cases h1 : n ≤ 24
    · cases h2 : Pl.has Pl.badPr ps
      all_goals
        rw [h2] at HX HCO
        have HX2 := Lib.hid (HX.out.trans (by rw [if_neg (by simp), if_neg (by omega)]))
        clear HX h2
        go_enter Try.func74, Try.ntmps74
        go_wp2_with fail
        refine (HC.out _).mono ?_
        rintro e w1 ⟨rfl, hb⟩
        have HB1 := Lib.hid (HB.out.trans (hb.mono HB.out.size))
        clear hb
        go_wp2_with fail
        refine (HCO.out _ h1 (HR.out.go HB1.out)).mono ?_
        rintro e w2 ⟨rfl, rfl⟩
        go_wp2_with fail
        go_ret
        exact ⟨ret_int (by rw [HX2.out]; rfl), HB1.out⟩
    · have HX2 := Lib.hid (HX.out.trans (by rw [if_neg (by simp), if_pos (by omega)]))
      clear HX
      go_enter Try.func74, Try.ntmps74
      go_wp2_with fail
      refine (HC.out _).mono ?_
      rintro e w1 ⟨rfl, hb⟩
      have HB1 := Lib.hid (HB.out.trans (hb.mono HB.out.size))
      clear hb
      go_wp2_with fail
      go_ret
      exact ⟨ret_int (by rw [HX2.out]), HB1.out⟩
  · have HX2 := Lib.hid (HX.out.trans (by rw [if_pos h0]))
    have h2 : (ce != 0) = true := by simpa using h0
    clear HX h0
    go_enter Try.func74, Try.ntmps74
    go_wp2_with fail
    refine (HC.out _).mono ?_
    rintro e w1 ⟨rfl, hb⟩
    have HB1 := Lib.hid (HB.out.trans (hb.mono HB.out.size))
    clear hb
    go_wp2_with fail
    go_ret
    exact ⟨ret_int (by rw [HX2.out]), HB1.out⟩
def LineSaid (lo hi p : Int) (w : World) (e : Ending) (w' : World) : Prop :=
  ∃ A c, e = .returned (.agg #[.int .i64 lo, .int .i64 (lo * p), .slice A (Pl.sline lo hi p).length c]) ∧ Reads w' w'.heap.size 2 A (Pl.sline lo hi p).length (pairs (Pl.sline lo hi p)) ∧ Below w.heap.size w w'
set_option maxHeartbeats 1600000 in
set_option maxRecDepth 100000 in
theorem line_any (lo hi p : Int) (w : World) (h0 : -100000 ≤ lo) (h1 : hi ≤ 100000) (hlh : lo ≤ hi) (p0 : -1000000 ≤ p) (p1 : p ≤ 1000000) : Calls Try.prog 106 #[.int .i64 lo, .int .i64 hi, .int .i64 p] w (LineSaid lo hi p w) := by
  have hm : -100000000000 ≤ lo * p ∧ lo * p ≤ 100000000000 := by
    have k1 := Int.mul_le_mul_of_nonneg_left p1 (show 0 ≤ lo + 100000 by omega)
    have k2 := Int.mul_le_mul_of_nonneg_left p0 (show 0 ≤ lo + 100000 by omega)
    have k3 := Int.mul_le_mul_of_nonneg_left p1 (show 0 ≤ 100000 - lo by omega)
    have k4 := Int.mul_le_mul_of_nonneg_left p0 (show 0 ≤ 100000 - lo by omega)
    rw [Int.add_mul, Int.add_mul] at k1 k2
    rw [Int.sub_mul, Int.sub_mul] at k3 k4
    omega
  obtain ⟨m0, m1⟩ := hm
  by_cases hl : lo < hi
  · have e : Pl.sline lo hi p = [(hi - lo, p)] := by unfold Pl.sline; rw [if_pos hl]
    have HE := Lib.hid e
    clear e
    go_enter Try.func106, Try.ntmps106
    go_wp2_with fail
    refine bodyPost_ret (v := .agg #[.int .i64 lo, .int .i64 (lo * p), .slice (some ⟨w.heap.size + 1 + 1, 0, none⟩) 1 1]) (by simp [results, Try.results106, go_sem]) rfl ⟨some ⟨w.heap.size + 1 + 1, 0, none⟩, 1, by rw [HE.out]; rfl, ?_, ?_⟩
    · rw [HE.out]
      exact Reads.lit _ #[.int .i64 (hi - lo), .int .i64 p] 73 1 2 _ (by simp) rfl
    · exact (((Below.refl w.heap.size w).alloc (Nat.le_refl _) _).alloc (by simp) _).alloc (by simp; omega) _
  · have e : Pl.sline lo hi p = [] := by unfold Pl.sline; rw [if_neg hl]
    have HE := Lib.hid e
    clear e
    go_enter Try.func106, Try.ntmps106
    go_wp2_with fail
    refine bodyPost_ret (v := .agg #[.int .i64 lo, .int .i64 (lo * p), .slice none 0 0]) (by simp [results, Try.results106, go_sem]) rfl ⟨none, 0, by rw [HE.out]; rfl, ?_, ?_⟩
    · rw [HE.out]
      exact Reads.none_
    · exact ((Below.refl w.heap.size w).alloc (Nat.le_refl _) _).alloc (by simp) _
end Go.Proofs.Ytjdagpmfnmodbaa
