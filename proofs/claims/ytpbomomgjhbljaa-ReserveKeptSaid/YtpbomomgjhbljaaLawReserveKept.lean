/- The law ReserveKept. Condition: the units read take less memory than the form's reach. -/
import Derived.Test.YtpbomomgjhbljaaResB
import Derived.Test.YtpbomomgjhbljaaLawReserveFree
import Derived.Test.YtpbomomgjhbljaaWithin
namespace Go.Proofs.Ytpbomomgjhbljaa
open Go.RowKit
namespace Pl
def keptL : List RU := [((⟨#[65]⟩, [(10, 5)]), 10), ((⟨#[66]⟩, [(10, 8)]), 10)]
def keptH : List RU := [((⟨#[65]⟩, [(10, 5)]), 4)]
theorem keptEx : rberr keptL 8 12 = 0 ∧ (rblocks keptL 2).length < 20 ∧ (rfill 2 8 (possK keptL 2 - 12) (isortR (rblocks keptL 2))).2.2.1 = 0 ∧ (rfill 2 8 (possK keptL 2 - 12) (isortR (rblocks keptL 2))).2.1 = 40 := ⟨by kernel_rfl, by decide, by kernel_rfl, by kernel_rfl⟩
theorem keptEx2 : rcheck keptH = 0 ∧ heldK keptH [7] 1 = 3 ∧ total (steps (roffs keptH) 0) = 10 := ⟨by kernel_rfl, by kernel_rfl, by kernel_rfl⟩
def psum (ps : List Int) : Nat → Int := sumN (fun k => ps.getD k 0)
end Pl
theorem two_units {w1 : World} {A1 A2 : Option Addr} {st1 st2 : List (Int × Int)} (h1 : Reads w1 w1.heap.size 2 A1 1 (pairs st1)) (h2 : Reads w1 w1.heap.size 2 A2 1 (pairs st2)) (s1 s2 : ByteArray) (z1 : s1.size ≤ 9223372036854775807) (z2 : s2.size ≤ 9223372036854775807) (g : Nat) (hg : g = w1.heap.size) :
    Units (w1.alloc (.cells #[.string s1, .slice A1 1 1, .int .i64 10, .string s2, .slice A2 1 1, .int .i64 10] 65)) (some ⟨g, 0, none⟩) 2 [(⟨s1, A1, 1, 1, st1⟩, 10), (⟨s2, A2, 1, 1, st2⟩, 10)] := by
  refine ⟨Reads.lit w1 #[.string s1, .slice A1 1 1, .int .i64 10, .string s2, .slice A2 1 1, .int .i64 10] 65 2 3 g hg rfl, fun o ho => ?_⟩
  have hb := (Below.refl w1.heap.size w1).alloc (Nat.le_refl _) (.cells #[.string s1, .slice A1 1 1, .int .i64 10, .string s2, .slice A2 1 1, .int .i64 10] 65)
  simp only [List.mem_cons, List.not_mem_nil, or_false] at ho
  rcases ho with rfl | rfl
  · exact ⟨⟨z1, Nat.le_refl _, h1.go hb⟩, by show -9223372036854775808 ≤ (10 : Int); decide, by show (10 : Int) ≤ 9223372036854775807; decide⟩
  · exact ⟨⟨z2, Nat.le_refl _, h2.go hb⟩, by show -9223372036854775808 ≤ (10 : Int); decide, by show (10 : Int) ≤ 9223372036854775807; decide⟩
theorem kept_ex1 (A A1 A2 : Option Addr) (c : Nat) (w : World) (h : Units w A 2 [(⟨⟨#[65]⟩, A1, 1, 1, [(10, 5)]⟩, 10), (⟨⟨#[66]⟩, A2, 1, 1, [(10, 8)]⟩, 10)]) :
    Calls Try.prog 32 #[.slice A 2 c, .int .i64 8, .int .i64 12] w fun e w' => (∃ A', e = .returned (.tuple #[.slice A' 2 2, .int .i64 40, .int .i64 0])) ∧ Below w.heap.size w w' := by
  obtain ⟨x0, x1, x2, x3⟩ := Pl.keptEx
  refine (rbest_good A 2 c _ 8 12 w (by omega) h x0).mono ?_
  rintro e w' ⟨hb, bs, _, _, hx, hh⟩
  have hbs : bs = Pl.isortR (Pl.rblocks Pl.keptL 2) := hx x1
  subst hbs
  rcases hh with ⟨h, _⟩ | ⟨_, A', he, _⟩
  · exfalso
    have h' : 0 < (Pl.rfill 2 8 (Pl.possK Pl.keptL 2 - 12) (Pl.isortR (Pl.rblocks Pl.keptL 2))).2.2.1 := h
    omega
  · refine ⟨⟨A', ?_⟩, hb⟩
    rw [he]
    exact congrArg (fun z : Int => Ending.returned (.tuple #[.slice A' 2 2, .int .i64 z, .int .i64 0])) x3
theorem kept_ex2 (A A1 B : Option Addr) (c e' : Nat) (w : World) (h : Units w A 1 [(⟨⟨#[65]⟩, A1, 1, 1, [(10, 5)]⟩, 4)]) (hp : Reads w w.heap.size 1 B 1 (ints [7])) :
    Calls Try.prog 33 #[.slice A 1 c, .slice B 1 e'] w fun e w' => e = .returned (.tuple #[.int .i64 3, .int .i64 0]) ∧ Below w.heap.size w w' := by
  obtain ⟨x0, x1, x2⟩ := Pl.keptEx2
  have := heldR_any A B 1 c e' _ [7] w (by omega) h hp x0 (fun k hk => by
    have : k = 0 := by omega
    subst this
    exact ⟨by decide, by rw [show Pl.total (Pl.steps (Pl.roffs (plr [(⟨⟨#[65]⟩, A1, 1, 1, [(10, 5)]⟩, 4)])) 0) = 10 from x2]; decide⟩)
  rw [show Pl.heldK (plr [(⟨⟨#[65]⟩, A1, 1, 1, [(10, 5)]⟩, 4)]) [7] 1 = 3 from x1] at this
  exact this
set_option maxHeartbeats 6400000 in
set_option maxRecDepth 100000 in
theorem reserveKept_walk (A : Option Addr) (n c : Nat) (l : List (MOff × Int)) (d need less : Int) (w : World) (hn : n * 48 ≤ 140737488351232) (h : Units w A n l) :
    Calls Try.prog 9 #[.slice A n c, .int .i64 d, .int .i64 need, .int .i64 less] w fun e w' => e = .returned (.bool true) ∧ Below w.heap.size w w' := by
  have L1 := Lib.hid h.len
  have H := Lib.hid h
  have HN := Lib.hid hn
  clear h hn
  go_enter Try.func9, Try.ntmps9
  obtain ⟨wd, hwd, R1, R2, B9, HB, e4⟩ : ∃ wd, wd = ((((w.alloc (.cells #[.int .i64 10, .int .i64 5] 62)).alloc (.cells #[.string ⟨#[65]⟩, .slice (some ⟨w.heap.size, 0, none⟩) 1 1] 57)).alloc (.cells #[.int .i64 10, .int .i64 8] 62)).alloc (.cells #[.string ⟨#[66]⟩, .slice (some ⟨w.heap.size + 1 + 1, 0, none⟩) 1 1] 57)) ∧ Hid (Reads wd wd.heap.size 2 (some ⟨w.heap.size, 0, none⟩) 1 (pairs [(10, 5)])) ∧ Hid (Reads wd wd.heap.size 2 (some ⟨w.heap.size + 1 + 1, 0, none⟩) 1 (pairs [(10, 8)])) ∧ Hid (Blk wd (w.heap.size + 1) 57 #[.string ⟨#[65]⟩, .slice (some ⟨w.heap.size, 0, none⟩) 1 1]) ∧ Hid (Below w.heap.size w wd) ∧ Hid (w.heap.size + 1 + 1 + 1 + 1 = wd.heap.size) := by
    refine ⟨_, rfl, ?_, ?_, ?_, ?_, ?_⟩
    · exact (((Reads.lit w #[.int .i64 10, .int .i64 5] 62 1 2 _ rfl rfl).go ((Below.refl _ _).alloc (Nat.le_refl _) _)).go ((Below.refl _ _).alloc (Nat.le_refl _) _)).go ((Below.refl _ _).alloc (Nat.le_refl _) _)
    · exact (Reads.lit ((w.alloc (.cells #[.int .i64 10, .int .i64 5] 62)).alloc (.cells #[.string ⟨#[65]⟩, .slice (some ⟨w.heap.size, 0, none⟩) 1 1] 57)) #[.int .i64 10, .int .i64 8] 62 1 2 _ (by simp) rfl).go ((Below.refl _ _).alloc (Nat.le_refl _) _)
    · exact ((Blk.new_ (w.alloc (.cells #[.int .i64 10, .int .i64 5] 62)) (w.heap.size + 1) 57 #[.string ⟨#[65]⟩, .slice (some ⟨w.heap.size, 0, none⟩) 1 1] (by simp)).alloc _).alloc _
    · exact (((((Below.refl w.heap.size w).alloc (Nat.le_refl _) _).alloc (by simp) _).alloc (by simp; omega) _).alloc (by simp; omega) _)
    · show _ = _
      simp
  go_wp2_with fail
  rw [← hwd]
  clear hwd
  have HU := Lib.hid (two_units R1.out R2.out ⟨#[65]⟩ ⟨#[66]⟩ (by decide) (by decide) _ e4.out)
  have HB0 := Lib.hid (HB.out.alloc HB.out.size (.cells #[.string ⟨#[65]⟩, .slice (some ⟨w.heap.size, 0, none⟩) 1 1, .int .i64 10, .string ⟨#[66]⟩, .slice (some ⟨w.heap.size + 1 + 1, 0, none⟩) 1 1, .int .i64 10] 65))
  have B90 := Lib.hid (B9.out.alloc (.cells #[.string ⟨#[65]⟩, .slice (some ⟨w.heap.size, 0, none⟩) 1 1, .int .i64 10, .string ⟨#[66]⟩, .slice (some ⟨w.heap.size + 1 + 1, 0, none⟩) 1 1, .int .i64 10] 65))
  have R10 := Lib.hid (R1.out.go ((Below.refl _ _).alloc (Nat.le_refl _) (.cells #[.string ⟨#[65]⟩, .slice (some ⟨w.heap.size, 0, none⟩) 1 1, .int .i64 10, .string ⟨#[66]⟩, .slice (some ⟨w.heap.size + 1 + 1, 0, none⟩) 1 1, .int .i64 10] 65)))
  refine (kept_ex1 _ _ _ _ _ HU.out).mono ?_
  rintro e w1 ⟨⟨A1, rfl⟩, hb⟩
  have HB1 := Lib.hid (HB0.out.trans (hb.mono HB0.out.size))
  have B91 := Lib.hid (B90.out.go hb)
  have R11 := Lib.hid (R10.out.go hb)
  clear hb HU HB0 B90 R10 R1 R2 B9 HB e4
  have k9 := B91.out.cell
  go_wp2_with fail
  have AL := (Below.refl (w1.alloc (.cells #[.string ⟨#[65]⟩, .slice (some ⟨w.heap.size, 0, none⟩) 1 1, .int .i64 4] 65)).heap.size (w1.alloc (.cells #[.string ⟨#[65]⟩, .slice (some ⟨w.heap.size, 0, none⟩) 1 1, .int .i64 4] 65))).alloc (Nat.le_refl _) (.cells #[.int .i64 7] 3)
  have HU2 := Lib.hid ((one_units R11.out ⟨#[65]⟩ (by decide) 4 (by omega) (by omega) _ rfl).go AL)
  have HI2 := Lib.hid (Reads.lit (w1.alloc (.cells #[.string ⟨#[65]⟩, .slice (some ⟨w.heap.size, 0, none⟩) 1 1, .int .i64 4] 65)) #[.int .i64 7] 3 1 1 (w1.heap.size + 1) (by simp) rfl)
  have HB2 := Lib.hid ((HB1.out.alloc HB1.out.size (.cells #[.string ⟨#[65]⟩, .slice (some ⟨w.heap.size, 0, none⟩) 1 1, .int .i64 4] 65)).alloc (by have := HB1.out.size; simp; omega) (.cells #[.int .i64 7] 3))
  refine (kept_ex2 _ _ _ _ _ _ HU2.out HI2.out).mono ?_
  rintro e w2 ⟨rfl, hb⟩
  have HB3 := Lib.hid (HB2.out.trans (hb.mono HB2.out.size))
  clear hb HU2 HI2 HB2 HB1 B91 R11 AL k9
  go_wp2_with fail
  by_cases h0 : Pl.rberr (plr l) d need = 0
  · obtain ⟨h1, ⟨d0, d1⟩, ⟨n0, n1⟩, hq⟩ := Pl.rberr_ok h0
    have HR := Lib.hid (rgood_of L1.out h1)
    have hn10 := HR.out.n10
    have hpo : rposs (plr l) = Pl.possK (plr l) n := by unfold rposs; rw [if_neg (by simpa using h1), plr_len, L1.out]
    have hgd : ∀ k, k < n → Pl.Good (Pl.steps (Pl.roffs (plr l)) k) := fun k hk => (HR.out.good k hk).1
    have hfs : ∀ k, k < n → 0 ≤ (Pl.ru (plr l) k).2 := fun k hk => (HR.out.fast k hk).1
    have hGR : ∀ b ∈ Pl.rblocks (plr l) n, Pl.GoodR n b := Pl.rblocks_good hgd hfs (Nat.le_refl _)
    have HR2 : Hid (Pl.rcheck (plr l) = 0) := h1
    obtain ⟨wi0, wi1⟩ := Pl.withinF_bd less 0 need n0
    have HWI := Lib.hid (fun w => within_any2 less 0 need w n0 (by omega) (by omega))
    have hb2 : Pl.rberr (plr l) d (Pl.withinF less 0 need) = 0 := by
      unfold Pl.rberr
      rw [if_neg (by simpa using h1), Pl.outB_false.2 ⟨d0, d1⟩, Pl.outB_false.2 ⟨wi0, by omega⟩, if_neg (by decide), if_neg (by omega)]
    have HBG2 := Lib.hid (fun w h => rbest_good A n c l d (Pl.withinF less 0 need) w HN.out h hb2)
    have HBG1 := Lib.hid (rbest_good A n c l d need w2 HN.out (H.out.go HB3.out) h0)
    rw [hpo] at hq
    have HGD := Lib.hid hgd
    have HFS := Lib.hid hfs
    have HGR := Lib.hid hGR
    clear h0 h1 hpo hgd hfs hGR hb2
    generalize Pl.withinF less 0 need = nd2 at *
    refine HBG1.out.mono ?_
    rintro e w3 ⟨hb, bs, hperm, hsort, _, hh⟩
    have HB4 := Lib.hid (HB3.out.trans (hb.mono HB3.out.size))
    have HPM := Lib.hid hperm
    have HSD := Lib.hid hsort
    have HFB := Lib.hid (Pl.rfill_bd d0 hq bs (fun b hb => HGR.out b (hperm.mem_iff.1 hb)))
    have HKP := Lib.hid (Pl.rfill_kept HGD.out HFS.out hperm d0 hq)
    have HLS := Lib.hid (fun bs2 (hp2 : bs2.Perm (Pl.rblocks (plr l) n)) hs2 hz => Pl.rfill_less (n := n) (d := d) (q1 := Pl.possK (plr l) n - need) (q2 := Pl.possK (plr l) n - nd2) (bs := bs) (cs := bs2) (hperm.trans hp2.symm) hsort hs2 (fun b hb => HGR.out b (hperm.mem_iff.1 hb)) d0 hq (by omega) hz)
    clear hb hperm hsort HBG1 HB3
    generalize hr : Pl.rfill n d (Pl.possK (plr l) n - need) bs = r at *
    obtain ⟨ps, cost, dem, lf⟩ := r
    clear hr
    rcases hh with ⟨hpos, rfl⟩ | ⟨hnp, A', rfl, hrd⟩
    · clear HFB HKP HLS hpos
      go_wp2_with fail
      go_ret
      exact ⟨rfl, HB4.out⟩
    · simp only at hnp hrd
      obtain ⟨f0, _, _, _, fc0, fc1, _, _⟩ := HFB.out
      simp only at f0 fc0 fc1
      have hz : dem = 0 := by omega
      subst hz
      obtain ⟨k1, k2, k3, k4⟩ := HKP.out
      simp only at k1 k2 k3 k4
      have HRD := Lib.hid hrd
      have HPS : Hid (Pl.psum ps n = d) := by show _ = _; unfold Pl.psum; rw [k3, Int.sub_zero]
      have HK2 := Lib.hid k2
      have HHE := Lib.hid (fun w a b => heldR_any A A' n c n l ps w HN.out a b HR2.out HK2.out)
      have hhk : need ≤ Pl.heldK (plr l) ps n := by omega
      have hhb := Pl.heldK_bd HGD.out HR.out.fast HK2.out
      obtain ⟨hb0, hb1⟩ := hhb
      have HPB : Hid (∀ k, k ≤ n → 0 ≤ Pl.psum ps k ∧ Pl.psum ps k ≤ 100000 * (k : Int)) := fun k => by
        induction k with
        | zero => intro _; exact ⟨Int.le_refl _, Int.le_refl _⟩
        | succ k ih =>
          intro hk
          have i := ih (by omega)
          have a := HK2.out k (by omega)
          have b := (HGD.out k (by omega)).sum
          have e : Pl.psum ps (k + 1) = Pl.psum ps k + ps.getD k 0 := rfl
          rw [e]
          omega
      clear hnp hrd k1 k2 k3 k4 HKP HFB f0
      generalize Pl.heldK (plr l) ps n = hk at *
      go_wp2_with fail
      refine (HHE.out _ (H.out.go HB4.out) HRD.out).mono ?_
      rintro e w4 ⟨rfl, hb⟩
      have HB5 := Lib.hid (HB4.out.trans (hb.mono HB4.out.size))
      have HRD5 := Lib.hid (HRD.out.go hb)
      clear hb HHE HB4 HRD
      go_wp2_with fail
      go_loopw [21, 88] (fun v i wr => ∃ k : Nat, k ≤ n ∧ i = .int .i64 k ∧ v = .int .i64 (Pl.psum ps k) ∧ wr = w4) (fun _ i _ => n - (intOf i).toNat)
      case atStart => exact ⟨0, Nat.zero_le _, rfl, rfl, rfl⟩
      case round =>
        obtain ⟨k, hk2, rfl, rfl, rfl⟩ := hrel
        obtain ⟨pb0, pb1⟩ := HPB.out k hk2
        by_cases hlt : k < n
        · obtain ⟨b, o, rfl, hl1, c1⟩ := HRD5.out.int_at hlt
          have hxe : ps.getD k 0 = ps[k] := by rw [List.getD_eq_getElem?_getD, List.getElem?_eq_getElem hl1]; rfl
          rw [← hxe] at c1
          have HS : Hid (Pl.psum ps (k + 1) = Pl.psum ps k + ps.getD k 0) := rfl
          have hx := HK2.out k hlt
          have hT := (HGD.out k hlt).sum
          obtain ⟨x0, x1⟩ := hx
          have x2 : ps.getD k 0 ≤ 100000 := by omega
          clear hxe x1 hT
          generalize ps.getD k 0 = x at *
          generalize Pl.psum ps k = pk at *
          go_wp2_with fail
          go_roundw
          case rel => exact ⟨k + 1, by omega, by go_num, by rw [HS.out], by trivial⟩
          case measure => simp [intOf]; omega
        · have : k = n := by omega
          subst this
          rw [HPS.out]
          clear pb0 pb1
          go_wp2_with fail
          refine (HWI.out _).mono ?_
          rintro e w5 ⟨rfl, rfl⟩
          go_wp2_with fail
          refine (HBG2.out _ (H.out.go HB5.out)).mono ?_
          rintro e w6 ⟨hb, bs2, hperm2, hsort2, _, hh2⟩
          have HB6 := Lib.hid (HB5.out.trans (hb.mono HB5.out.size))
          obtain ⟨lz, lc⟩ := HLS.out bs2 hperm2 hsort2 (by trivial)
          clear hb hperm2 hsort2 HLS HBG2
          generalize Pl.rfill k d (Pl.possK (plr l) k - nd2) bs2 = r2 at *
          obtain ⟨ps2, cost2, dem2, lf2⟩ := r2
          simp only at lz lc
          rcases hh2 with ⟨hpos, _⟩ | ⟨_, A6, rfl, _⟩
          · exfalso
            simp only at hpos
            omega
          · go_wp2_with fail
            go_ret
            exact ⟨rfl, HB6.out⟩
  · have HBW := Lib.hid (rbest_bad A n c l d need w2 HN.out (H.out.go HB3.out) h0)
    have hne : (Pl.rberr (plr l) d need != 0) = true := by simpa using h0
    clear h0
    generalize Pl.rberr (plr l) d need = u at *
    refine HBW.out.mono ?_
    rintro e w3 ⟨rfl, hb⟩
    have HB4 := Lib.hid (HB3.out.trans (hb.mono HB3.out.size))
    clear hb HBW
    go_wp2_with fail
    go_ret
    exact ⟨rfl, HB4.out⟩
end Go.Proofs.Ytpbomomgjhbljaa
