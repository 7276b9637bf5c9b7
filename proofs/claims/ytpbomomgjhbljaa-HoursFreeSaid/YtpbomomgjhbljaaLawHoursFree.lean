/- The law HoursFree: for all valid lengths the call returns true, and old memory is left as it is. No condition. -/
import Derived.Test.YtpbomomgjhbljaaPHrsB
import Derived.Test.YtpbomomgjhbljaaFine
namespace Go.Proofs.Ytpbomomgjhbljaa
open Go.RowKit
theorem change_ex (A A1 A2 B : Option Addr) (c e' : Nat) (w : World) (hc : 2 ≤ c) (h : Offs w A 2 [⟨⟨#[65]⟩, A1, 2, 2, twoSt⟩, ⟨⟨#[66]⟩, A2, 2, 2, twoSt⟩]) (hp : Reads w w.heap.size 1 B 2 (ints [10, 10])) :
    Calls Try.prog 42 #[.slice A 2 c, .slice B 2 e', .int .i64 22, .int .i64 2] w fun e w' => (∃ A' c', e = .returned (.tuple #[.agg #[.slice A' 2 c', .int .i64 16], .int .i64 0])) ∧ Below w.heap.size w w' := by
  obtain ⟨x0, x1, x2, x3, x4⟩ := Pl.hfreeEx
  refine (hchange_good A 2 c _ B e' [10, 10] 22 2 w hc h hp x0 (by omega) (by omega) (by omega) (by omega)).mono ?_
  rintro e w' ⟨hb, ⟨h1, _⟩ | ⟨_, bs, _, _, hx, hh⟩⟩
  · have : (6 : Int) < 0 := by rw [← x1]; exact h1
    omega
  · have hbs : bs = Pl.isortH (Pl.hblocks Pl.servedL [10, 10] 2 2) := hx (by show (Pl.hblocks Pl.servedL [10, 10] 2 2).length < 20; rw [x2]; omega)
    subst hbs
    have y1 : (Pl.hfill (Pl.hlows [10, 10] 2 2) (Pl.hleft [10, 10] 2 22 2) (Pl.isortH (Pl.hblocks Pl.servedL [10, 10] 2 2))).2.2 = 0 := by rw [x1]; exact x3
    have y2 : Pl.hcostK Pl.servedL (Pl.hfill (Pl.hlows [10, 10] 2 2) (Pl.hleft [10, 10] 2 22 2) (Pl.isortH (Pl.hblocks Pl.servedL [10, 10] 2 2))).1 [10, 10] 2 = 16 := by rw [x1]; exact x4
    rcases hh with ⟨h, _⟩ | ⟨_, A', c', he⟩
    · exfalso
      have h' : 0 < (Pl.hfill (Pl.hlows [10, 10] 2 2) (Pl.hleft [10, 10] 2 22 2) (Pl.isortH (Pl.hblocks Pl.servedL [10, 10] 2 2))).2.2 := h
      omega
    · refine ⟨⟨A', c', ?_⟩, hb⟩
      rw [he]
      have he2 : Pl.hcostK (plo [⟨⟨#[65]⟩, A1, 2, 2, twoSt⟩, ⟨⟨#[66]⟩, A2, 2, 2, twoSt⟩]) (Pl.hfill (Pl.hlows [10, 10] 2 2) (Pl.hleft [10, 10] 2 22 2) (Pl.isortH (Pl.hblocks Pl.servedL [10, 10] 2 2))).1 [10, 10] 2 = 16 := y2
      exact congrArg (fun z : Int => Ending.returned (.tuple #[.agg #[.slice A' 2 c', .int .i64 z], .int .i64 0])) he2
theorem best_ex (A A1 : Option Addr) (c : Nat) (w : World) (hc : 1 ≤ c) (h : Offs w A 1 [⟨⟨#[65]⟩, A1, 2, 2, twoSt⟩]) :
    Calls Try.prog 28 #[.slice A 1 c, .int .i64 12] w fun e w' => (∃ A', e = .returned (.tuple #[.slice A' 1 1, .int .i64 66, .int .i64 0])) ∧ Below w.heap.size w w' := by
  obtain ⟨x0, x1, x2⟩ := Pl.twoEx
  refine (best_good A 1 c _ 12 w hc h x0).mono ?_
  rintro e w' ⟨A', ps, cost, p, rfl, _, hx, _, _, _, hb⟩
  have := (hx x1).2
  have e2 : cost = 66 := this.trans x2
  subst e2
  exact ⟨⟨A', rfl⟩, hb⟩
theorem one_offs {w1 : World} {A1 : Option Addr} (h1 : Reads w1 w1.heap.size 2 A1 2 (pairs twoSt)) (s1 : ByteArray) (z1 : s1.size ≤ 9223372036854775807) (g : Nat) (hg : g = w1.heap.size) :
    Offs (w1.alloc (.cells #[.string s1, .slice A1 2 2] 57)) (some ⟨g, 0, none⟩) 1 [⟨s1, A1, 2, 2, twoSt⟩] := by
  refine ⟨Reads.lit w1 #[.string s1, .slice A1 2 2] 57 1 2 g hg rfl, fun o ho => ?_⟩
  simp only [List.mem_singleton] at ho
  subst ho
  exact ⟨z1, Nat.le_refl _, h1.go ((Below.refl _ _).alloc (Nat.le_refl _) _)⟩
set_option maxHeartbeats 6400000 in
set_option maxRecDepth 100000 in
theorem hoursFree_walk (A : Option Addr) (n c : Nat) (l : List MOff) (B : Option Addr) (m e' : Nat) (xs : List Int) (d : Int) (w : World) (hcap : n ≤ c) (h : Offs w A n l) (hx : Reads w w.heap.size 1 B m (ints xs)) :
    Calls Try.prog 13 #[.slice A n c, .slice B m e', .int .i64 d] w fun e w' => e = .returned (.bool true) ∧ Below w.heap.size w w' := by
  have L1 := Lib.hid h.len
  have L2 := Lib.hid hx.int_len
  have H := Lib.hid h
  clear h
  go_enter Try.func13, Try.ntmps13
  go_wp2_with fail
  refine (two_any _ _).mono ?_
  rintro e w1 ⟨A1, rfl, h1, hb1⟩
  unfold vOff
  go_wp2_with fail
  refine (two_any _ _).mono ?_
  rintro e w2 ⟨A2, rfl, h2, hb2⟩
  have HB2 := Lib.hid (hb1.trans (hb2.mono hb1.size))
  have H1 := Lib.hid (h1.go hb2)
  have H2 := Lib.hid h2
  clear h1 h2 hb1 hb2
  unfold vOff
  go_wp2_with fail
  have AL := (Below.refl (w2.alloc (.cells #[.string ⟨#[65]⟩, .slice A1 2 2, .string ⟨#[66]⟩, .slice A2 2 2] 57)).heap.size (w2.alloc (.cells #[.string ⟨#[65]⟩, .slice A1 2 2, .string ⟨#[66]⟩, .slice A2 2 2] 57))).alloc (Nat.le_refl _) (.cells #[.int .i64 10, .int .i64 10] 3)
  have HO := Lib.hid ((two_offs H1.out H2.out ⟨#[65]⟩ ⟨#[66]⟩ (by decide) (by decide) _ rfl).go AL)
  have HI := Lib.hid (Reads.lit (w2.alloc (.cells #[.string ⟨#[65]⟩, .slice A1 2 2, .string ⟨#[66]⟩, .slice A2 2 2] 57)) #[.int .i64 10, .int .i64 10] 3 2 1 (w2.heap.size + 1) (by simp) rfl)
  have HB3 := Lib.hid ((HB2.out.alloc HB2.out.size (.cells #[.string ⟨#[65]⟩, .slice A1 2 2, .string ⟨#[66]⟩, .slice A2 2 2] 57)).alloc (by have := HB2.out.size; simp; omega) (.cells #[.int .i64 10, .int .i64 10] 3))
  refine (change_ex _ _ _ _ _ _ _ (by decide) HO.out HI.out).mono ?_
  rintro e w3 ⟨⟨A3, c3, rfl⟩, hb⟩
  have HB4 := Lib.hid (HB3.out.trans (hb.mono HB3.out.size))
  have HB4b := Lib.hid (HB4.out.alloc HB4.out.size (.cells #[.slice A3 2 c3, .int .i64 16] 79))
  clear hb HO HI HB3 HB2 H1 H2 AL
  go_wp2_with fail
  refine (two_any _ _).mono ?_
  rintro e w4 ⟨A4, rfl, h4, hb4⟩
  have HB5 := Lib.hid (HB4b.out.trans (hb4.mono HB4b.out.size))
  have H4 := Lib.hid h4
  clear h4 hb4 HB4b HB4
  unfold vOff
  go_wp2_with fail
  have HO := Lib.hid (one_offs H4.out ⟨#[65]⟩ (by decide) _ rfl)
  have HB6 := Lib.hid (HB5.out.alloc HB5.out.size (.cells #[.string ⟨#[65]⟩, .slice A4 2 2] 57))
  refine (best_ex _ _ _ _ (by decide) HO.out).mono ?_
  rintro e w5 ⟨⟨A5, rfl⟩, hb⟩
  have HB7 := Lib.hid (HB6.out.trans (hb.mono HB6.out.size))
  clear hb HO HB6 HB5 H4
  go_wp2_with fail
  have HOK := Lib.hid (fun A c w h => fine_any A 2 c [0, 0] w.heap.size w (by omega) h)
  have HC := Lib.hid (fun w a b => dCost_any A B n c m e' l xs w hcap a b)
  unfold ThreeSaid at HC
  have HBB := Lib.hid (fun w a b => best_bad A n c l d w hcap a b)
  by_cases hbad : (Pl.dCost (plo l) xs).2.2 ≠ 0 ∨ d < 0 ∨ 1000000 < d
  · refine (hchange_bad A n c l B m e' xs d 100000 w5 hcap (H.out.go HB7.out) (hx.go HB7.out) hbad).mono ?_
    rintro e w6 ⟨u, hu, rfl, hb⟩
    have HB8 := Lib.hid (HB7.out.trans (hb.mono HB7.out.size))
    have hu2 : (u != 0) = true := by simpa using hu
    clear hb hu
    go_wp2_with fail
    have HB8b := Lib.hid (HB8.out.alloc HB8.out.size (.cells #[.slice none 0 0, .int .i64 0] 79))
    have BX := Lib.hid (Blk.new_ w6 w6.heap.size 79 #[.slice none 0 0, .int .i64 0] rfl)
    refine (HC.out _ (H.out.go HB8b.out) (hx.go HB8b.out)).mono ?_
    rintro e w7 ⟨rfl, hb⟩
    have HB9 := Lib.hid (HB8b.out.trans (hb.mono HB8b.out.size))
    have BX9 := Lib.hid (BX.out.go hb)
    clear hb HB8b BX HB8
    generalize w6.heap.size = bx at *
    by_cases hd : Pl.dcheck (plo l) d = 0
    · have hf : ((Pl.dCost (plo l) xs).2.2 != 0) = true := by
        obtain ⟨_, d0, d1, _⟩ := Pl.dcheck_ok hd
        rcases hbad with h | h | h
        · simpa using h
        · omega
        · omega
      clear hbad
      have HBG := Lib.hid (best_good A n c l d w7 hcap (H.out.go HB9.out) hd)
      clear hd
      generalize (Pl.dCost (plo l) xs).2.2 = v at *
      go_wp2_with fail
      refine HBG.out.mono ?_
      rintro e w8 ⟨A8, ps, cost, p, rfl, _, _, _, _, _, hb⟩
      have HB10 := Lib.hid (HB9.out.trans (hb.mono HB9.out.size))
      have k9 := (BX9.out.go hb).cell
      clear hb
      go_wp2_with fail
      go_ret
      exact ⟨rfl, HB10.out⟩
    · have HBW := Lib.hid (HBB.out w7 (H.out.go HB9.out) hd)
      have hg : (Pl.dcheck (plo l) d != 0) = true := by simpa using hd
      clear hd hbad
      generalize Pl.dcheck (plo l) d = gg at *
      cases hf : ((Pl.dCost (plo l) xs).2.2 != 0)
      all_goals
        generalize (Pl.dCost (plo l) xs).2.2 = v at *
        go_wp2_with fail
        refine HBW.out.mono ?_
        rintro e w8 ⟨rfl, hb⟩
        have HB10 := Lib.hid (HB9.out.trans (hb.mono HB9.out.size))
        have k9 := (BX9.out.go hb).cell
        clear hb
        go_wp2_with fail
        go_ret
        exact ⟨rfl, HB10.out⟩
  · have h0 : (Pl.dCost (plo l) xs).2.2 = 0 := by
      rcases Int.lt_trichotomy (Pl.dCost (plo l) xs).2.2 0 with h | h | h
      · exact absurd (.inl (by omega)) hbad
      · exact h
      · exact absurd (.inl (by omega)) hbad
    have d0 : 0 ≤ d := by
      rcases Int.lt_or_le d 0 with h | h
      · exact absurd (.inr (.inl h)) hbad
      · exact h
    have d1 : d ≤ 1000000 := by
      rcases Int.lt_or_le 1000000 d with h | h
      · exact absurd (.inr (.inr h)) hbad
      · exact h
    obtain ⟨g1, g2, g3, g4⟩ := Pl.dCost_ok h0
    have hm : m = n := by rw [plo_len, L1.out, L2.out] at g2; exact g2
    subst hm
    have HG : Hid (∀ k, k < m → Pl.Good (Pl.steps (plo l) k)) := fun k hk => (Pl.steps_good g1 k (by rw [plo_len, L1.out]; exact hk)).1
    have HX : Hid (∀ k, k < m → 0 ≤ xs.getD k 0 ∧ xs.getD k 0 ≤ Pl.total (Pl.steps (plo l) k)) := fun k hk => g3 k (by rw [plo_len, L1.out]; exact hk)
    have hx2 : ∀ k, k < m → xs.getD k 0 ≤ 100000 := fun k hk => by have := HX.out k hk; have := (HG.out k hk).sum; omega
    have HLAW := Lib.hid (fun bs hp hs => Pl.hfree_law (xs := xs) (d := d) (bs := bs) (show (plo l).length = m by rw [plo_len, L1.out]) g1 HG.out HX.out d0 d1 hp hs)
    have HE1 : Hid (Pl.hlows xs 100000 m = List.replicate m 0) := Pl.hlows_free hx2
    have HE2 : Hid (Pl.hleft xs 100000 d m = d) := Pl.hleft_free hx2
    have HE3 : Hid (Pl.hblocks (plo l) xs 100000 m = Pl.blocksK (plo l) m) := Pl.hblocks_free HG.out HX.out
    have hgl : m ≤ 10 := by
      obtain ⟨gl, _⟩ := Pl.oall_good g1
      rw [plo_len, L1.out] at gl; exact gl
    have hcb := Pl.costK_bd g1 m (by rw [plo_len, L1.out]; exact Nat.le_refl _) HX.out
    rw [plo_len, L1.out] at g4
    rw [g4] at HC
    have HCG := Lib.hid (hchange_good A m c l B e' xs d 100000 w5 hcap (H.out.go HB7.out) (hx.go HB7.out) h0 d0 d1 (by omega) (by omega))
    obtain ⟨cb1, cb2, _, _⟩ := hcb
    clear h0 g1 g2 g3 g4 hx2 hbad
    refine HCG.out.mono ?_
    rintro e w6 ⟨hb, ⟨hneg, _⟩ | ⟨_, bs, hperm, hsort, _, hh⟩⟩
    · exfalso
      rw [HE2.out] at hneg
      omega
    · have HB8 := Lib.hid (HB7.out.trans (hb.mono HB7.out.size))
      rw [HE3.out] at hperm
      rw [HE1.out, HE2.out] at hh
      obtain ⟨law1, law2⟩ := HLAW.out bs hperm hsort
      have HL1 := Lib.hid law1
      have HL2 := Lib.hid law2
      clear hb hperm hsort law1 law2 HLAW HCG HB7
      have hDF : Pl.hfill (List.replicate m 0) d bs = Pl.dfill m d bs := rfl
      rw [hDF] at hh
      clear hDF
      rcases hh with ⟨hpos, rfl⟩ | ⟨hnp, A', c', rfl⟩
      · have hd := HL1.out hpos
        have HBW := Lib.hid (fun w a => HBB.out w a hd)
        have hg : (Pl.dcheck (plo l) d != 0) = true := by simpa using hd
        clear hd hpos HL1 HL2
        generalize Pl.dcheck (plo l) d = gg at *
        go_wp2_with fail
        have HB8b := Lib.hid (HB8.out.alloc HB8.out.size (.cells #[.slice none 0 0, .int .i64 0] 79))
        have BX := Lib.hid (Blk.new_ w6 w6.heap.size 79 #[.slice none 0 0, .int .i64 0] rfl)
        refine (HC.out _ (H.out.go HB8b.out) (hx.go HB8b.out)).mono ?_
        rintro e w7 ⟨rfl, hb⟩
        have HB9 := Lib.hid (HB8b.out.trans (hb.mono HB8b.out.size))
        have BX9 := Lib.hid (BX.out.go hb)
        clear hb HB8b BX HB8
        generalize w6.heap.size = bx at *
        go_wp2_with fail
        refine (HBW.out _ (H.out.go HB9.out)).mono ?_
        rintro e w8 ⟨rfl, hb⟩
        have HB10 := Lib.hid (HB9.out.trans (hb.mono HB9.out.size))
        have k9 := (BX9.out.go hb).cell
        clear hb
        go_wp2_with fail
        go_ret
        exact ⟨rfl, HB10.out⟩
      · obtain ⟨hd, p, hsv, hcost⟩ := HL2.out hnp
        rw [hcost]
        have HBG := Lib.hid (fun w a => best_good A m c l d w hcap a hd)
        have HSV := Lib.hid hsv
        have hcs : -1000000000000 ≤ (Pl.dfill m d bs).2.1 ∧ (Pl.dfill m d bs).2.1 ≤ 1000000000000 := by
          have h1 := hsv.cost
          have h2 : ∀ k, k < m → 0 ≤ (Pl.dfill m d bs).1.getD k 0 ∧ (Pl.dfill m d bs).1.getD k 0 ≤ Pl.total (Pl.steps (plo l) k) := fun k hk => by
            have a1 := hsv.at_ k hk
            have a2 := Pl.least_most (P := p) (fun q hq => ((HG.out k hk).step q hq).1)
            omega
          have h3 := Pl.costK_bd (Pl.dcheck_ok hd).1 m (by rw [plo_len, L1.out]; exact Nat.le_refl _) h2
          unfold Pl.costK at h3
          omega
        obtain ⟨cs1, cs2⟩ := hcs
        clear hd hcost hsv hnp HL1 HL2
        generalize (Pl.dfill m d bs).2.1 = cs at *
        generalize (Pl.dfill m d bs).1 = pp at *
        generalize Pl.costK (plo l) xs m = ck at *
        generalize Pl.powK xs m = pk at *
        go_wp2_with fail
        have HB8b := Lib.hid (HB8.out.alloc HB8.out.size (.cells #[.slice A' m c', .int .i64 (cs - ck)] 79))
        have BX := Lib.hid (Blk.new_ w6 w6.heap.size 79 #[.slice A' m c', .int .i64 (cs - ck)] rfl)
        refine (HC.out _ (H.out.go HB8b.out) (hx.go HB8b.out)).mono ?_
        rintro e w7 ⟨rfl, hb⟩
        have HB9 := Lib.hid (HB8b.out.trans (hb.mono HB8b.out.size))
        have BX9 := Lib.hid (BX.out.go hb)
        clear hb HB8b BX HB8
        generalize w6.heap.size = bx at *
        go_wp2_with fail
        refine (HBG.out _ (H.out.go HB9.out)).mono ?_
        rintro e w8 ⟨A8, ps, cost, p2, rfl, hs2, _, _, _, _, hb⟩
        obtain ⟨hce, _, _⟩ := Pl.served_prices HG.out HSV.out hs2
        subst hce
        have HB10 := Lib.hid (HB9.out.trans (hb.mono HB9.out.size))
        have BX10 := Lib.hid (BX9.out.go hb)
        have HB11 := Lib.hid (HB10.out.alloc HB10.out.size (.cells #[.int .i64 0, .int .i64 0] 23))
        have BX11 := Lib.hid (BX10.out.alloc (.cells #[.int .i64 0, .int .i64 0] 23))
        have k9 := BX11.out.cell
        have hsum : ck + (cs - ck) = cs := by omega
        clear hb hs2
        go_wp2_with fail
        refine (HOK.out _ _ _ (Reads.lit w8 #[.int .i64 0, .int .i64 0] 23 2 1 _ rfl rfl)).mono ?_
        rintro e w9 ⟨rfl, rfl⟩
        rw [show allOk [0, 0] = true from rfl]
        go_wp2_with fail
        go_ret
        exact ⟨rfl, HB11.out⟩
end Go.Proofs.Ytpbomomgjhbljaa
