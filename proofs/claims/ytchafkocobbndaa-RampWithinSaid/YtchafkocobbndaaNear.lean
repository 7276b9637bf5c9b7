/- ramp.Nearest: it returns what its plain function gives, in new memory, and leaves old memory as it is. Condition: what the sort of pieces says. -/
import Derived.Test.YtchafkocobbndaaRampA
import Derived.Test.YtchafkocobbndaaAway
import Derived.Test.YtchafkocobbndaaIdxInt
import Derived.Test.YtchafkocobbndaaStorM
import Derived.Test.YtchafkocobbndaaRestA
import Derived.Test.YtchafkocobbndaaConvA
import Derived.Test.YtchafkocobbndaaAdd
import Derived.Test.YtchafkocobbndaaSched
import Derived.Test.YtchafkocobbndaaConvexD
import Derived.Test.YtchafkocobbndaaQuiet
namespace Go.Proofs.Ytchafkocobbndaa
open Go.RowKit
theorem near_low {w : World} {B B' size n b : Nat} {xs : List Value} (h : Reads w B size (some ⟨b, 0, none⟩) n xs) (hb : b < B') : Reads w B' size (some ⟨b, 0, none⟩) n xs :=
  ⟨h.1, fun hn => by
    obtain ⟨ad, e, _, hc⟩ := h.2 hn
    cases e
    exact ⟨_, rfl, hb, hc⟩⟩
theorem near_own {w : World} {g base n : Nat} {t : TypeId} {os : List Int} (h : IBlk w g t os) (hn : os.length = n) (hb : base ≤ g) (hx : n ≤ 1000000) : w.ownsRow base t 1 (.slice (some ⟨g, 0, none⟩) n n) n (ints os) :=
  ⟨by simp [ints, hn], .inr ⟨g, n, (ints os).toArray, rfl, hb, h, Nat.le_refl _, by unfold maxLen; omega, by simp [ints, hn], by simp only [Nat.mul_one]; exact List.take_of_length_le (by simp [ints, hn])⟩⟩
theorem near_nm {w : World} {g : Nat} {t : TypeId} {cs : Array Value} (_ : Blk w g t cs) : ∃ b, b = g := ⟨g, rfl⟩
theorem enters_near1 : ∀ args w, Sem.run Try.prog (callFunc 35 args) w = .ok (.enter 35 args) w := by intro args w; go_simp
theorem near1_any (z : Int) (w : World) : Calls Try.prog 35 #[.int .i64 z] w fun e w' => e = .returned (.bool (Pl.rOut z 100000)) ∧ w = w' := by
  go_enter Try.func35, Try.ntmps35
  go_wp2_with (go_at_call 36; refine (rout_any _ _ _).mono ?_; rintro e w' ⟨rfl, rfl⟩)
  go_ret
  exact ⟨rfl, rfl⟩
set_option maxHeartbeats 6400000 in
set_option maxRecDepth 100000 in
theorem rNear_any (hsort : SortPOk) (A B : Option Addr) (n m c d : Nat) (ls : List (Int × Int)) (ts : List Int) (beg up down : Int) (w : World) (hr : Reads w w.heap.size 2 A n (pairs ls)) (hq : Reads w w.heap.size 1 B m (ints ts)) :
    Calls Try.prog 18 #[.slice A n c, .int .i64 beg, .int .i64 up, .int .i64 down, .slice B m d] w (SchedSaid (Pl.rNear beg up down ls ts) w) := by
  have HSO := Lib.hid hsort
  have HR := Lib.hid hr
  have HQ := Lib.hid hq
  have HL := Lib.hid hr.pair_len
  have HM := Lib.hid hq.int_len
  have HC := Lib.hid (fun w h => rCheckP_any A n c ls beg up down w h)
  clear hr hq hsort
  by_cases h0 : Pl.rCheckP ls beg up down = 0
  · obtain ⟨hn24, hlim, ⟨b0, b1⟩, ⟨u0, u1⟩, ⟨d0, d1⟩⟩ := Pl.rCheckP_ok h0
    have hn : n ≤ 24 := by rw [← HL.out]; exact hn24
    rw [h0] at HC
    by_cases hmn : m = n
    · subst hmn
      have HCO := Lib.hid (fun (w : World) (h : Reads w w.heap.size 1 B m (ints ts)) => contains_int B m d ts 35 (Pl.rOut · 100000) w.heap.size w (by omega) enters_near1 (Lib.hid fun z w => near1_any z w) h)
      cases ht : Pl.has (Pl.rOut · 100000) ts
      · rw [ht] at HCO
        have HOK := Lib.hid (Pl.rOk_of h0 (by rw [HL.out, HM.out]) ht)
        have HX : Hid (Pl.rNear beg up down ls ts = if (Pl.rF beg up down ls ts m).2 ≠ 0 then ([], 0, 8) else (Pl.rPow beg up down ls ts m, if m = 0 then 0 else (Pl.cLeast (Pl.rF beg up down ls ts m).1.1 (Pl.rF beg up down ls ts m).1.2.1 (Pl.rF beg up down ls ts m).1.2.2).2.1, 0)) := by
          show _ = _; unfold Pl.rNear; rw [if_neg (by simpa using h0), if_neg (by rw [HL.out, HM.out]; simp), if_neg (by rw [ht]; simp), HL.out]
        rw [HL.out] at HOK
        obtain ⟨i0, hi0, hz0, hz1, hz2⟩ := info_parts info_Convex
        have wdn : IntKind.i64.wrap (-down) = -down := IntWalk.i64_in _ (by omega)
        have wud : IntKind.i64.wrap (up + down) = up + down := IntWalk.i64_in _ (by omega)
        clear h0 hlim hn24 ht
        go_enter Try.func18, Try.ntmps18
        go_wp2_with fail
        refine (HC.out _ HR.out).mono ?_
        rintro e w1 ⟨rfl, hb⟩
        have HB1 := Lib.hid hb
        clear hb HC
        go_wp2_with fail
        refine (HCO.out _ (HQ.out.go HB1.out)).mono ?_
        rintro e w2 ⟨rfl, rfl⟩
        have hbeg1 : ∀ (w0 : World) (gg : Nat), gg = w0.heap.size → Cxs (w0.alloc (.cells #[.int .i64 beg, .int .i64 0, .slice none 0 0] 92)) gg gg 1 [⟨beg, 0, none, 0, []⟩] := fun w0 gg hg => by
          subst hg
          refine ⟨World.ownsRow_lit (e := 92) (size := 3) w0 #[.int .i64 beg, .int .i64 0, .slice none 0 0] 1 (Nat.le_refl _) (by unfold maxLen; omega) (by simp), fun o ho => ?_⟩
          rw [List.mem_singleton.1 ho]
          exact fun h => absurd h (by simp)
        have HBEG := Lib.hid hbeg1
        clear hbeg1
        obtain ⟨bs, hbs⟩ : ∃ x, x = w1.heap.size := ⟨_, rfl⟩
        have HBSE := Lib.hid hbs
        by_cases hud : 0 < up + down
        all_goals first
          | (have HE : Hid (Pl.rstepP down up = [(up + down, 0)]) := by show _ = _; unfold Pl.rstepP; rw [if_pos hud]
             have e1 : Hid (w1.heap.size + 1 = (w1.alloc (.cells #[.int .i64 (-down), .int .i64 0, .slice (some ⟨w1.heap.size + 1, 0, none⟩) 1 1] 92)).heap.size) := by show _ = _; simp
             go_wp2_with fail
             have A1 := (Below.refl w1.heap.size w1).alloc (Nat.le_refl _) (.cells #[.int .i64 (-down), .int .i64 0, .slice (some ⟨w1.heap.size + 1, 0, none⟩) 1 1] 92)
             have HSB0 := Lib.hid (Blk.new_ w1 w1.heap.size 92 #[.int .i64 (-down), .int .i64 0, .slice (some ⟨w1.heap.size + 1, 0, none⟩) 1 1] rfl)
             have HB2 := Lib.hid (HB1.out.alloc HB1.out.size (.cells #[.int .i64 (-down), .int .i64 0, .slice (some ⟨w1.heap.size + 1, 0, none⟩) 1 1] 92))
             generalize w1.alloc (.cells #[.int .i64 (-down), .int .i64 0, .slice (some ⟨w1.heap.size + 1, 0, none⟩) 1 1] 92) = wa at *
             have A2 := (Below.refl wa.heap.size wa).alloc (Nat.le_refl _) (.cells #[.int .i64 (up + down), .int .i64 0] 94)
             have RD0 := Lib.hid (Reads.lit wa #[.int .i64 (up + down), .int .i64 0] 94 1 2 (w1.heap.size + 1) e1.out rfl)
             have HB3 := Lib.hid (HB2.out.alloc HB2.out.size (.cells #[.int .i64 (up + down), .int .i64 0] 94))
             have HSB1 := Lib.hid (HSB0.out.go A2)
             have e2 : Hid (w1.heap.size + 1 + 1 = (wa.alloc (.cells #[.int .i64 (up + down), .int .i64 0] 94)).heap.size) := by have := e1.out; show _ = _; simp; omega
             generalize wa.alloc (.cells #[.int .i64 (up + down), .int .i64 0] 94) = wb at *
             have A3 := (Below.refl wb.heap.size wb).alloc (Nat.le_refl _) (.cells #[.int .i64 beg, .int .i64 0, .slice none 0 0] 92)
             have HX3 := Lib.hid (HBEG.out wb _ e2.out)
             have HB4 := Lib.hid (HB3.out.alloc HB3.out.size (.cells #[.int .i64 beg, .int .i64 0, .slice none 0 0] 92))
             have HSB2 := Lib.hid (HSB1.out.go A3)
             have RD2 := Lib.hid (RD0.out.go A3)
             generalize wb.alloc (.cells #[.int .i64 beg, .int .i64 0, .slice none 0 0] 92) = w3 at *
             have HSR : Hid (Reads w3 (w1.heap.size + 1 + 1) 2 (some ⟨w1.heap.size + 1, 0, none⟩) 1 (pairs (Pl.rstepP down up))) := by rw [HE.out]; exact near_low RD2.out (Nat.lt_succ_self _)
             obtain ⟨bb, hbb, HXB, HSRB⟩ : ∃ bb, w1.heap.size < bb ∧ Hid (Cxs w3 bb (w1.heap.size + 1 + 1) 1 [⟨beg, 0, none, 0, []⟩]) ∧ Hid (Reads w3 bb 2 (some ⟨w1.heap.size + 1, 0, none⟩) 1 (pairs (Pl.rstepP down up))) := ⟨_, by omega, HX3, HSR⟩
             clear A1 A2 A3 HSB0 HB2 RD0 HB3 HSB1 e1 e2 RD2)
          | (have HE : Hid (Pl.rstepP down up = []) := by show _ = _; unfold Pl.rstepP; rw [if_neg hud]
             have e1 : Hid (w1.heap.size + 1 = (w1.alloc (.cells #[.int .i64 (-down), .int .i64 0, .slice none 0 0] 92)).heap.size) := by show _ = _; simp
             go_wp2_with fail
             have HSB0 := Lib.hid (Blk.new_ w1 w1.heap.size 92 #[.int .i64 (-down), .int .i64 0, .slice none 0 0] rfl)
             have HB2 := Lib.hid (HB1.out.alloc HB1.out.size (.cells #[.int .i64 (-down), .int .i64 0, .slice none 0 0] 92))
             generalize w1.alloc (.cells #[.int .i64 (-down), .int .i64 0, .slice none 0 0] 92) = wb at *
             have A3 := (Below.refl wb.heap.size wb).alloc (Nat.le_refl _) (.cells #[.int .i64 beg, .int .i64 0, .slice none 0 0] 92)
             have HX3 := Lib.hid (HBEG.out wb _ e1.out)
             have HB4 := Lib.hid (HB2.out.alloc HB2.out.size (.cells #[.int .i64 beg, .int .i64 0, .slice none 0 0] 92))
             have HSB2 := Lib.hid (HSB0.out.go A3)
             generalize wb.alloc (.cells #[.int .i64 beg, .int .i64 0, .slice none 0 0] 92) = w3 at *
             have HSR : Hid (Reads w3 (w1.heap.size + 1) 2 none 0 (pairs (Pl.rstepP down up))) := by rw [HE.out]; exact Reads.none_
             obtain ⟨bb, hbb, HXB, HSRB⟩ : ∃ bb, w1.heap.size < bb ∧ Hid (Cxs w3 bb (w1.heap.size + 1) 1 [⟨beg, 0, none, 0, []⟩]) ∧ Hid (Reads w3 bb 2 none 0 (pairs (Pl.rstepP down up))) := ⟨_, by omega, HX3, HSR⟩
             clear A3 HSB0 HB2 e1)
        all_goals
          obtain ⟨As, ns, cs, HSB, HSS⟩ : ∃ As ns cs, Hid (Blk w3 bs 92 #[.int .i64 (-down), .int .i64 0, .slice As ns cs]) ∧ Hid (Reads w3 bb 2 As ns (pairs (Pl.rstepP down up))) := ⟨_, _, _, Lib.hid (by rw [hbs]; exact HSB2.out), HSRB⟩
          clear HSB2 HSR HSRB HX3
          subst hbs
          go_loopw [15, 63] (fun v i wr => ∃ (k g cp : Nat) (ms : List MCx), k ≤ m ∧ i = .int .i64 k ∧ ms.length = k + 1 ∧ v = .slice (some ⟨g, 0, none⟩) (k + 1) cp ∧ Hid (Cxs wr bb g cp ms) ∧ Hid (∀ j (hj : j < ms.length), (Pl.rF beg up down ls ts j).2 = 0 ∧ ms[j].cx = (Pl.rF beg up down ls ts j).1) ∧ Hid (Blk wr w1.heap.size 92 #[.int .i64 (-down), .int .i64 0, .slice As ns cs]) ∧ Hid (Reads wr bb 2 As ns (pairs (Pl.rstepP down up))) ∧ Hid (Below w.heap.size w wr)) (fun _ i _ => m - (intOf i).toNat)
          case atStart =>
            refine ⟨0, _, 1, [⟨beg, 0, none, 0, []⟩], Nat.zero_le _, rfl, rfl, rfl, HXB, fun j hj => ?_, HSB, HSS, HB4⟩
            have : j = 0 := by simp at hj; exact hj
            subst this
            exact ⟨rfl, rfl⟩
          case round =>
            clear HXB HSB HSS HB4
            obtain ⟨k, g, cp, ms, hk, rfl, hml, rfl, HX3, HF, HSB, HSS, HB⟩ := hrel
            by_cases hlt : k < m
            · obtain ⟨b, o, rfl, hl, hc0, hc1⟩ := (HR.out.go HB.out).pair_at hlt
              have hlk : ls.getD k (0, 0) = ls[k] := by rw [List.getD_eq_getElem?_getD, List.getElem?_eq_getElem hl]; rfl
              obtain ⟨q0, q1, q2, hrd⟩ := HX3.out.at_ (k := k) (by omega)
              obtain ⟨hf0, hf1⟩ := HF.out k (by omega)
              have HSTEP : Hid (Pl.rF beg up down ls ts (k + 1) = Pl.rStep down up (Pl.rF beg up down ls ts k).1 ls[k].1 ls[k].2 (ts.getD k 0)) := by show _ = _; rw [Pl.rF, if_neg (by simpa using hf0), hlk]
              rw [← hf1] at HSTEP
              have HRI : Hid (Pl.RInv k (Pl.rF beg up down ls ts k).1) := by
                rcases Pl.rF_inv HOK.out k hk with e | ⟨_, e⟩
                · omega
                · exact e
              rw [← hf1] at HRI
              have HRD := Lib.hid hrd
              have HF0 := Lib.hid hf0
              clear hf1 hf0 hlk hrd
              generalize ms[k] = oo at *
              obtain ⟨lo, va, Ao, co, sto⟩ := oo
              simp only [MCx.cx] at q0 q1 q2 HSTEP HRD HRI
              generalize ls[k] = lk at *
              obtain ⟨l0, l1⟩ := lk
              simp only at hc0 hc1 HSTEP
              have hnsl := HSS.out.pair_len
              have HCV := Lib.hid (fun w ha hb => cConv_any HSO.out lo va (-down) 0 Ao As sto.length ns co cs sto (Pl.rstepP down up) w ha hb)
              unfold MadeSaid vCx at HCV
              generalize hRC : Pl.cConv lo va sto (-down) 0 (Pl.rstepP down up) = RC at *
              obtain ⟨⟨lc, vc, pc⟩, ec⟩ := RC
              simp only at HCV
              have hec : ec = 0 := by
                obtain ⟨H, e, _⟩ := Pl.ramp_conv HRI.out (by omega) d0 d1 u0 u1
                have e2 : Pl.cConv lo va sto (-down) 0 (Pl.rstepP down up) = _ := e
                rw [hRC] at e2
                exact congrArg Prod.snd e2
              subst hec
              unfold Pl.rStep at HSTEP
              simp only [hRC] at HSTEP
              clear hRC HRI
              have k0 : (0 : Int) ≤ (k : Int) := by omega
              have k1 : (k : Int) < (k : Int) + 1 := by omega
              go_wp2_with fail
              have AL := (Below.refl wr.heap.size wr).alloc (Nat.le_refl _) (.cells #[.int .i64 l0, .int .i64 l1] 56)
              have HBL := Lib.hid (HB.out.alloc HB.out.size (.cells #[.int .i64 l0, .int .i64 l1] 56))
              have HLB := Lib.hid (Blk.new_ wr wr.heap.size 56 #[.int .i64 l0, .int .i64 l1] rfl)
              have HXL := Lib.hid (HX3.out.go AL)
              have HRDL := Lib.hid (HRD.out.go AL)
              have HSBL := Lib.hid (HSB.out.go AL)
              have HSSL := Lib.hid ((HSS.out.more (Nat.le_trans HX3.out.lt.1 (Nat.le_of_lt HX3.out.lt.2))).go AL)
              have lg := Nat.lt_of_lt_of_le HX3.out.lt.2 AL.size
              have q0 := (AL.cell (p := ⟨g, k * 3, none⟩) HX3.out.lt.2).trans q0
              have q1 := (AL.cell (p := ⟨g, k * 3 + 1, none⟩) HX3.out.lt.2).trans q1
              have q2 := (AL.cell (p := ⟨g, k * 3 + 2, none⟩) HX3.out.lt.2).trans q2
              generalize wr.alloc (.cells #[.int .i64 l0, .int .i64 l1] 56) = wl at *
              have s0 := HSBL.out.cell 0
              have s1 := HSBL.out.cell 1
              have s2 := HSBL.out.cell 2
              have lst := HSBL.out.lt
              have HSF : Hid (∀ w', Below wl.heap.size wl w' → w'.cell? ⟨w1.heap.size, 0, none⟩ = some (.int .i64 (-down)) ∧ w'.cell? ⟨w1.heap.size, 1, none⟩ = some (.int .i64 0) ∧ w'.cell? ⟨w1.heap.size, 2, none⟩ = some (.slice As ns cs) ∧ w'.cell? ⟨g, k * 3, none⟩ = some (.int .i64 lo) ∧ w'.cell? ⟨g, k * 3 + 1, none⟩ = some (.int .i64 va) ∧ w'.cell? ⟨g, k * 3 + 2, none⟩ = some (.slice Ao sto.length co)) := fun w' hb =>
                ⟨(hb.cell (p := ⟨w1.heap.size, 0, none⟩) lst).trans s0, (hb.cell (p := ⟨w1.heap.size, 1, none⟩) lst).trans s1, (hb.cell (p := ⟨w1.heap.size, 2, none⟩) lst).trans s2, (hb.cell (p := ⟨g, k * 3, none⟩) lg).trans q0, (hb.cell (p := ⟨g, k * 3 + 1, none⟩) lg).trans q1, (hb.cell (p := ⟨g, k * 3 + 2, none⟩) lg).trans q2⟩
              have hcur : Hid (Below wl.heap.size wl wl.drew) := (Below.refl _ _).drew
              go_region_held3 (fun w' => w'.cell? ⟨w1.heap.size, 0, none⟩ = some (.int .i64 (-down)) ∧ w'.cell? ⟨w1.heap.size, 1, none⟩ = some (.int .i64 0) ∧ w'.cell? ⟨w1.heap.size, 2, none⟩ = some (.slice As ns cs) ∧ w'.cell? ⟨g, k * 3, none⟩ = some (.int .i64 lo) ∧ w'.cell? ⟨g, k * 3 + 1, none⟩ = some (.int .i64 va) ∧ w'.cell? ⟨g, k * 3 + 2, none⟩ = some (.slice Ao sto.length co))
                (first | exact HSF.out _ hcur.out | exact HSF.out _ (((Below.refl wl.heap.size wl).alloc (Nat.le_refl _) _).drew) | exact HSF.out _ (hcur.out.alloc hcur.out.size _) | exact HSF.out _ (((hcur.out.setCell z9.out _).setCell z9.out _).setCell z9.out _) | exact HSF.out _ ((((hcur.out.alloc hcur.out.size _).setCell hcur.out.size _).setCell hcur.out.size _).setCell hcur.out.size _))
                (first
                  | (go_at_call 37; with_reducible refine (HCV.out _ (HRDL.out.go hcur.out) (HSSL.out.go hcur.out)).mono ?_; rintro e wz ⟨Ac, cc, rfl, hownc, hbz⟩; have oc := Lib.hid (own_base hownc hcur.out.size); have hcur := Lib.hid (hcur.out.trans (hbz.mono hcur.out.size)); clear hbz hownc)
                  | (go_at_call 37; refine (HCV.out _ (HRDL.out.go (((Below.refl wl.heap.size wl).alloc (Nat.le_refl _) (.cells #[.int .i64 0, .int .i64 0, .slice none 0 0] 92)).drew)) (HSSL.out.go (((Below.refl wl.heap.size wl).alloc (Nat.le_refl _) (.cells #[.int .i64 0, .int .i64 0, .slice none 0 0] 92)).drew))).mono ?_; rintro e wz ⟨Ac, cc, rfl, hownc, hbz⟩; have b9 := Lib.hid (((Blk.new_ wl wl.heap.size 92 #[.int .i64 0, .int .i64 0, .slice none 0 0] rfl).drew).go hbz); have k9 := b9.out.cell; have f9 := b9.out.frozen; have l9 := b9.out.lt; have z9 : Hid (wl.heap.size ≤ wl.heap.size) := Nat.le_refl _; have oc := Lib.hid (own_base hownc (Nat.succ_le_of_lt ((Blk.new_ wl wl.heap.size 92 #[.int .i64 0, .int .i64 0, .slice none 0 0] rfl).drew).lt)); have hcur := Lib.hid ((((Below.refl wl.heap.size wl).alloc (Nat.le_refl _) (.cells #[.int .i64 0, .int .i64 0, .slice none 0 0] 92)).drew).trans (hbz.mono (((Below.refl wl.heap.size wl).alloc (Nat.le_refl _) (.cells #[.int .i64 0, .int .i64 0, .slice none 0 0] 92)).drew).size)); clear hbz hownc))
              all_goals
                first
                  | (obtain ⟨bN, hbN⟩ := near_nm b9.out
                     have HN : Hid (wl.heap.size ≤ bN) := by rw [hbN]; exact z9
                     rw [← hbN] at b9 oc ⊢
                     have HB2 := Lib.hid (((hcur.out.setCell (p := ⟨bN, 0, none⟩) HN.out (.int .i64 lc)).setCell (p := ⟨bN, 1, none⟩) HN.out (.int .i64 vc)).setCell (p := ⟨bN, 2, none⟩) HN.out (.slice Ac pc.length cc))
                     have B2 := Lib.hid (((b9.out.set_ 0 (.int .i64 lc)).set_ 1 (.int .i64 vc)).set_ 2 (.slice Ac pc.length cc))
                     have O2 := Lib.hid (Reads.of_own (own_far (own_far (own_far oc.out (p := ⟨bN, 0, none⟩) (Nat.lt_succ_self bN) (.int .i64 lc)) (p := ⟨bN, 1, none⟩) (Nat.lt_succ_self bN) (.int .i64 vc)) (p := ⟨bN, 2, none⟩) (Nat.lt_succ_self bN) (.slice Ac pc.length cc)))
                     clear b9 z9 oc hcur hbN k9 f9 l9
                     generalize ((wz.setCell ⟨bN, 0, none⟩ (.int .i64 lc)).setCell ⟨bN, 1, none⟩ (.int .i64 vc)).setCell ⟨bN, 2, none⟩ (.slice Ac pc.length cc) = w2 at *)
                  | (have HB2 := Lib.hid (hcur.out.alloc hcur.out.size (.cells #[.int .i64 lc, .int .i64 vc, .slice Ac pc.length cc] 92))
                     have B2 := Lib.hid (Blk.new_ wz wz.heap.size 92 #[.int .i64 lc, .int .i64 vc, .slice Ac pc.length cc] rfl)
                     have O2 := Lib.hid ((Reads.of_own oc.out).go ((Below.refl _ _).alloc (Nat.le_refl _) (.cells #[.int .i64 lc, .int .i64 vc, .slice Ac pc.length cc] 92)))
                     have HN := Lib.hid hcur.out.size
                     clear oc hcur
                     generalize wz.alloc (.cells #[.int .i64 lc, .int .i64 vc, .slice Ac pc.length cc] 92) = w2 at *
                     obtain ⟨bN, hbN⟩ := near_nm B2.out
                     rw [← hbN] at B2 HN ⊢
                     clear hbN)
                clear HCV HRD HRDL q0 q1 q2 s0 s1 s2
                have HRS := Lib.hid (fun w h => restrict_any lc vc Ac pc.length cc pc l0 l1 w h)
                generalize Pl.cRestrict lc vc pc l0 l1 = RR at *
                obtain ⟨⟨lr, vr, pr⟩, er⟩ := RR
                unfold MadeSaid vCx at HRS
                simp only at HRS
                have HLB2 := Lib.hid (HLB.out.go HB2.out)
                have g0 := HLB2.out.cell 0
                have g1 := HLB2.out.cell 1
                have k2 := B2.out.cell
                go_wp2_with fail
                refine (HRS.out _ O2.out).mono ?_
                rintro e w3 ⟨Ar, cr, rfl, hownr, hb⟩
                have HB3 := Lib.hid (HB2.out.trans (hb.mono HB2.out.size))
                have B3 := Lib.hid (B2.out.go hb)
                have lN := B2.out.lt
                have OR := Lib.hid hownr
                have k3 := B3.out.cell
                have f3 := B3.out.frozen
                have l3 := B3.out.lt
                clear hb hownr HRS O2 HLB2 g0 g1 k2
                have HB4 := Lib.hid (((HB3.out.setCell (p := ⟨bN, 0, none⟩) HN.out (.int .i64 lr)).setCell (p := ⟨bN, 1, none⟩) HN.out (.int .i64 vr)).setCell (p := ⟨bN, 2, none⟩) HN.out (.slice Ar pr.length cr))
                have B4 := Lib.hid (((B3.out.set_ 0 (.int .i64 lr)).set_ 1 (.int .i64 vr)).set_ 2 (.slice Ar pr.length cr))
                have OR4 := Lib.hid (own_far (own_far (own_far OR.out (p := ⟨bN, 0, none⟩) lN (.int .i64 lr)) (p := ⟨bN, 1, none⟩) lN (.int .i64 vr)) (p := ⟨bN, 2, none⟩) lN (.slice Ar pr.length cr))
                by_cases hr : er = 0
                · subst hr
                  simp only [ne_eq, not_true_eq_false, if_false] at HSTEP
                  go_wp2_with fail
                  generalize ((w3.setCell ⟨bN, 0, none⟩ (.int .i64 lr)).setCell ⟨bN, 1, none⟩ (.int .i64 vr)).setCell ⟨bN, 2, none⟩ (.slice Ar pr.length cr) = w4 at *
                  have HQ4 := Lib.hid (HQ.out.go (HBL.out.trans (HB4.out.mono HBL.out.size)))
                  obtain ⟨bq, oq, hBq, hlq, hcq⟩ := HQ4.out.int_at hlt
                  subst hBq
                  have HTC : Hid (∀ w', Below w4.heap.size w4 w' → w'.cell? ⟨bq, oq + k, none⟩ = some (.int .i64 ts[k])) := fun w' hb => by
                    obtain ⟨b', o', e, hl', hc'⟩ := (HQ4.out.go hb).int_at hlt
                    cases e
                    exact hc'
                  have htk : ts.getD k 0 = ts[k] := by rw [List.getD_eq_getElem?_getD, List.getElem?_eq_getElem hlq]; rfl
                  obtain ⟨t0, t1⟩ := HOK.out.ht k hlt
                  rw [htk] at HSTEP t0 t1
                  generalize ts[k] = tk at *
                  have HAW := Lib.hid (fun w => away_any tk w t0 t1)
                  unfold AwaySaid at HAW
                  have HAD := Lib.hid (fun Bq cq w ha hb => cAdd_any lr vr 0 tk Ar Bq pr.length (Pl.awayP tk).length cr cq pr (Pl.awayP tk) w ha hb)
                  unfold MadeSaid vCx at HAD
                  generalize Pl.cAdd lr vr pr 0 tk (Pl.awayP tk) = RA at *
                  obtain ⟨⟨la, va2, pa⟩, ea⟩ := RA
                  simp only at HAD HSTEP
                  have c0 := B4.out.cell 0
                  have c1 := B4.out.cell 1
                  have c2 := B4.out.cell 2
                  have lb4 := B4.out.lt
                  have HRP := Lib.hid (Reads.of_own OR4.out)
                  have hcur : Hid (Below w4.heap.size w4 w4.drew) := (Below.refl _ _).drew
                  have hbqN : bq ≠ bN := by
                    have h1 := HN.out
                    have h3 := HBL.out.size
                    obtain ⟨ad, e, hb, _⟩ := HQ.out.2 (by omega)
                    cases e
                    have h2 : bq < w.heap.size := hb
                    omega
                  have HSE : Hid (∀ (w' : World) (x y z : Value), w'.cell? ⟨bq, oq + k, none⟩ = some (.int .i64 tk) → (((w'.setCell ⟨bN, 0, none⟩ x).setCell ⟨bN, 1, none⟩ y).setCell ⟨bN, 2, none⟩ z).cell? ⟨bq, oq + k, none⟩ = some (.int .i64 tk)) := fun w' x y z h => by
                    rw [World.cell?_setCell_other _ _ _ _ (fun e => hbqN (congrArg Addr.block e).symm), World.cell?_setCell_other _ _ _ _ (fun e => hbqN (congrArg Addr.block e).symm), World.cell?_setCell_other _ _ _ _ (fun e => hbqN (congrArg Addr.block e).symm)]
                    exact h
                  clear hbqN HQ4
                  have hqt := HTC.out w4 (Below.refl _ _)
                  clear HTC HSE
                  go_region_with (first
                      | (go_at_call 40; with_reducible refine (HAW.out _).mono ?_; rintro e wz ⟨Aq, cq, rfl, hra, hbz⟩; have hcur := Lib.hid (hcur.out.trans (hbz.mono hcur.out.size)); have HRA := Lib.hid hra; have b9 := Lib.hid (B4.out.go hcur.out); have k9 := b9.out.cell; clear hbz hra)
                      | (go_at_call 39; with_reducible refine (HAD.out _ _ _ (HRP.out.go hcur.out) HRA.out).mono ?_; rintro e wz ⟨Am, cm, rfl, hownm, hbz⟩; have om := Lib.hid (own_base hownm hcur.out.size); have hcur := Lib.hid (hcur.out.trans (hbz.mono hcur.out.size)); have b9 := Lib.hid (B4.out.go hcur.out); have k9 := b9.out.cell; have f9 := b9.out.frozen; have l9 := b9.out.lt; clear hbz hownm))
                  all_goals
                    have HB5 := Lib.hid (HB4.out.trans (hcur.out.mono HB4.out.size))
                    have HB6 := Lib.hid (((HB5.out.setCell (p := ⟨bN, 0, none⟩) HN.out (.int .i64 la)).setCell (p := ⟨bN, 1, none⟩) HN.out (.int .i64 va2)).setCell (p := ⟨bN, 2, none⟩) HN.out (.slice Am pa.length cm))
                    have B6 := Lib.hid (((b9.out.set_ 0 (.int .i64 la)).set_ 1 (.int .i64 va2)).set_ 2 (.slice Am pa.length cm))
                    have OM6 := Lib.hid (own_far (own_far (own_far om.out (p := ⟨bN, 0, none⟩) lb4 (.int .i64 la)) (p := ⟨bN, 1, none⟩) lb4 (.int .i64 va2)) (p := ⟨bN, 2, none⟩) lb4 (.slice Am pa.length cm))
                    have hw4 : wl.heap.size ≤ w4.heap.size := HB4.out.size
                    clear HB5 b9 om hcur k9 f9 l9 c0 c1 c2 HAW HAD HRA HRP OR4 B4 hqt
                    generalize ((wz.setCell ⟨bN, 0, none⟩ (.int .i64 la)).setCell ⟨bN, 1, none⟩ (.int .i64 va2)).setCell ⟨bN, 2, none⟩ (.slice Am pa.length cm) = w6 at *
                    have HX6 := Lib.hid (HXL.out.go HB6.out)
                    have hO6 := HX6.out.own
                    rw [hml] at hO6
                    have HO6 := Lib.hid (hO6.alloc (.cells #[.int .i64 la, .int .i64 va2, .slice Am pa.length cm] 92))
                    have hgl := HX3.out.lt
                    have hAL := AL.size
                    have hw6 := HB6.out.size
                    have hN6 : Hid (bb ≤ (w6.alloc (.cells #[.int .i64 la, .int .i64 va2, .slice Am pa.length cm] 92)).heap.size) := by show _ ≤ _; simp; omega
                    have bc := B6.out.cell
                    clear hO6
                    go_wp2_with (at_builtin; go_must (refine wpList_append_any _ rfl (.tmp 98) (.tmp 100) 95 rfl bb 92 i0 _ 3 40 Try.underlying95 hi0 hz0 hz1 hz2 rfl (by decide) (.slice (some ⟨g, 0, none⟩) (k + 1) cp) (k + 1) (mcxs ms) rfl HO6.out (w6.alloc (.cells #[.int .i64 la, .int .i64 va2, .slice Am pa.length cm] 92)).heap.size (some ⟨w6.heap.size, 0, none⟩) 1 1 [.int .i64 la, .int .i64 va2, .slice Am pa.length cm] rfl (Reads.lit w6 #[.int .i64 la, .int .i64 va2, .slice Am pa.length cm] 92 1 3 w6.heap.size (by simp) rfl) (by simp [Value.oneCell']) (by unfold maxLen; omega) (by omega) hN6.out ?_); intro v7 w7 hown7 hg7 hov7)
                    obtain ⟨g7, cp7, rfl, hg7b, hg7l⟩ := hown7.form (by omega)
                    have AL7 := (Below.refl w6.heap.size w6).alloc (Nat.le_refl _) (.cells #[.int .i64 la, .int .i64 va2, .slice Am pa.length cm] 92)
                    have hl7 : (ms ++ [(⟨la, va2, Am, cm, pa⟩ : MCx)]).length = k + 1 + 1 := by simp [hml]
                    have HBR := Lib.hid (AL.trans (HB6.out.mono AL.size))
                    refine ⟨⟨k + 1, g7, cp7, ms ++ [⟨la, va2, Am, cm, pa⟩], by omega, by go_num, hl7, rfl, ⟨?_, ?_⟩, ?_, ?_, ?_, ?_⟩, by simp [intOf]; omega⟩
                    · rw [hl7, mcxs_snoc]
                      exact hown7
                    · intro o ho
                      rcases List.mem_append.1 ho with ho | ho
                      · exact ((HX6.out.ins o ho).go AL7).grown hg7 hov7
                      · rw [List.mem_singleton.1 ho]
                        exact ((CxIn.of_own (row := some g) (lo := la) (va := va2) OM6.out (by omega) (fun k hk => by injection hk with hk; omega)).go AL7).grown hg7 hov7
                    · intro j hj
                      by_cases hjk : j < ms.length
                      · rw [List.getElem_append_left hjk]
                        exact HF.out j hjk
                      · have hj1 : j = k + 1 := by omega
                        subst hj1
                        rw [List.getElem_append_right (by omega)]
                        rw [HSTEP.out]
                        refine ⟨rfl, ?_⟩
                        simp [hml, MCx.cx]
                    · exact ((HSB.out.go HBR.out).alloc _).grown hg7 (fun e => by
                        have e2 : (Value.slice (some (⟨g, 0, none⟩ : Addr)) (k + 1) cp).ownBlock = some g := rfl
                        rw [e2] at e
                        injection e with e
                        omega)
                    · exact ((HSS.out.below (HBR.out.mono (by omega))).alloc (by omega) _).grown hg7 (by simp; omega) (fun q hq => by
                        have e2 : (Value.slice (some (⟨g, 0, none⟩ : Addr)) (k + 1) cp).ownBlock = some g := rfl
                        rw [e2] at hq
                        injection hq with hq
                        omega)
                    · exact below_grown ((HB.out.trans (HBR.out.mono HB.out.size)).alloc (HB.out.trans (HBR.out.mono HB.out.size)).size _) hg7 HO6.out (by have := HB1.out.size; omega) (by have := hN6.out; have := HB1.out.size; omega)
                · have her : (er != 0) = true := by simpa using hr
                  rw [if_pos hr] at HSTEP
                  have HFN : Hid ((Pl.rF beg up down ls ts m).2 ≠ 0) := by
                    show _ ≠ _
                    intro h
                    have := Pl.rF_stay (k := k + 1) (by omega) h
                    rw [HSTEP.out] at this
                    cases this
                  rw [if_pos HFN.out] at HX
                  go_wp2_with fail
                  go_ret3
                  rw [HX.out]
                  exact ⟨none, 0, rfl, World.ownsRow_nil _ _ _ _, HBL.out.trans (HB4.out.mono HBL.out.size)⟩
            · have hkm : m = k := by omega
              subst hkm
              have HE : Hid ((Pl.rF beg up down ls ts m).2 = 0) := (HF.out m (by omega)).1
              rw [if_neg (by simpa using HE.out)] at HX
              have HYB := Lib.hid (fun j hj => Pl.rY_bd HOK.out HE.out j hj)
              have HGT := HX3.out.lt
              obtain ⟨j0, ji0, jz0, jz1, jz2⟩ := info_parts info_int
              have hmk0 : ∀ w, (Instr.makeSlice 23 (.int .i64 (m : Int)) (.int .i64 (m : Int))).run Try.prog w = .ok (.slice (some ⟨w.heap.size, 0, none⟩) m m) (w.alloc (.cells (madeCells #[.int .i64 0] m) 3)) := fun w => by
                have := run_make (P := Try.prog) w 23 3 j0 (.int .i64 0) Try.underlying23 ji0 jz0 .i64 .i64 m m (by omega) (by omega) (by rw [jz2]; omega) (by omega)
                rw [jz1, show (Value.int .i64 0).cells = #[.int .i64 0] from rfl] at this
                simpa using this
              generalize hz : madeCells #[Value.int .i64 0] m = ZC at hmk0
              have HZL : Hid (ZC.toList = ints (List.replicate m 0)) := by show _ = _; rw [← hz, toList_madeCells_one]; simp [ints]
              have hmk := hmk0
              clear j0 ji0 jz0 jz1 jz2 hz hmk0 HSB HSS
              have wm1 : IntKind.i64.wrap ((m : Int) - 1) = (m : Int) - 1 := IntWalk.i64_in _ (by omega)
              go_wp2_with fail
              have IB : Hid (IBlk (wr.alloc (.cells ZC 3)) wr.heap.size 3 (Pl.rPart beg up down ls ts m m)) := by rw [Pl.rPart_all]; exact IBlk.new_ _ _ _ _ rfl HZL.out
              have HBN := Lib.hid ((Below.refl wr.heap.size wr).alloc (Nat.le_refl _) (.cells ZC 3))
              obtain ⟨gO, hgO⟩ : ∃ g, g = wr.heap.size := ⟨_, rfl⟩
              have HGO := Lib.hid hgO
              rw [← hgO] at IB ⊢
              have hgw : wr.heap.size ≤ gO := Nat.le_of_eq hgO.symm
              clear hgO hmk
              generalize wr.alloc (.cells ZC 3) = wn at *
              generalize wr = wE at *
              have HLV : Hid (∃ LV, LV = (Pl.cLeast (Pl.rF beg up down ls ts m).1.1 (Pl.rF beg up down ls ts m).1.2.1 (Pl.rF beg up down ls ts m).1.2.2).2.1) := ⟨_, rfl⟩
              obtain ⟨LV, hLV⟩ := HLV.out
              rw [← hLV] at HX
              have HLV2 := Lib.hid hLV
              clear hLV HLV
              go_loopw [22, 23] (fun sm i wr => ∃ (k : Nat) (sv : Int), k ≤ m ∧ i = .int .i64 ((k : Int) - 1) ∧ sm = .int .i64 sv ∧ Hid (sv = if k = m then 0 else LV) ∧ Hid (IBlk wr gO 3 (Pl.rPart beg up down ls ts m k)) ∧ Hid (Below wE.heap.size wE wr)) (fun _ i _ => (intOf i + 1).toNat)
              case atStart => exact ⟨m, 0, Nat.le_refl _, rfl, rfl, (if_pos rfl).symm, IB, HBN⟩
              case round =>
                clear IB HBN
                obtain ⟨k, sv, hk, rfl, rfl, HSV, IB, HBW⟩ := hrel
                cases k with
                | zero =>
                  go_wp2_with fail
                  go_ret3
                  rw [HX.out, ← Pl.rPart_zero]
                  refine ⟨some ⟨gO, 0, none⟩, m, ?_, ?_, HB.out.trans (HBW.out.mono HB.out.size)⟩
                  · have e := HSV.out
                    simp only [Pl.rPart_len]
                    by_cases hm0 : m = 0
                    · rw [if_pos hm0.symm] at e; rw [if_pos hm0, ← e]; rfl
                    · rw [if_neg (fun h => hm0 h.symm)] at e; rw [if_neg hm0, ← e]; rfl
                  · simp only [Pl.rPart_len]
                    exact near_own IB.out (Pl.rPart_len _) (Nat.le_trans HB.out.size hgw) (by omega)
                | succ j =>
                  have ej : ((j + 1 : Nat) : Int) - 1 = (j : Int) := by omega
                  obtain ⟨q0, q1, q2, hrd⟩ := (HX3.out.go HBW.out).at_ (k := j + 1) (by omega)
                  have HCX := Lib.hid (HF.out (j + 1) (by omega)).2
                  have HPART := Lib.hid (Pl.rPart_set (beg := beg) (up := up) (down := down) (ls := ls) (ts := ts) (n := m) j)
                  have HRD := Lib.hid hrd
                  generalize ms[j + 1] = oo at *
                  obtain ⟨lf, vf, Af, cf, sf⟩ := oo
                  simp only [MCx.cx] at q0 q1 q2 HRD HCX
                  clear hrd
                  rw [ej]
                  have j0 : (0 : Int) ≤ (j : Int) := by omega
                  have jm : (j : Int) < (m : Int) := by omega
                  have jm1 : (j : Int) + 1 < (m : Int) + 1 := by omega
                  have wj1 : IntKind.i64.wrap ((j : Int) + 1) = (j : Int) + 1 := IntWalk.i64_in _ (by omega)
                  have wjm : IntKind.i64.wrap ((j : Int) - 1) = (j : Int) - 1 := IntWalk.i64_in _ (by omega)
                  have AL := (Below.refl wr.heap.size wr).alloc (Nat.le_refl _) (.cells #[.int .i64 lf, .int .i64 vf, .slice Af sf.length cf] 92)
                  have HBW1 := Lib.hid (HBW.out.trans (AL.mono HBW.out.size))
                  have BX1 := Lib.hid (Blk.new_ wr wr.heap.size 92 #[.int .i64 lf, .int .i64 vf, .slice Af sf.length cf] rfl)
                  have IB1 := Lib.hid (IB.out.go AL)
                  have RD1 := Lib.hid (HRD.out.go AL)
                  have hgx : gO < wr.heap.size := IB.out.lt
                  have hwx : wE.heap.size ≤ wr.heap.size := HBW.out.size
                  by_cases hjm : j + 1 = m
                  · have HY : Hid (Pl.rY beg up down ls ts m (m - 1 - j) = (Pl.cLeast lf vf sf).1 ∧ LV = (Pl.cLeast lf vf sf).2.1) := by
                      show _ ∧ _
                      rw [show m - 1 - j = 0 by omega, HLV2.out]
                      have hc := HCX.out
                      rw [hjm] at hc
                      rw [Pl.rY, ← hc]
                      exact ⟨rfl, rfl⟩
                    have HLS := Lib.hid (fun w h => cLeast_any lf vf Af sf.length cf sf w h)
                    unfold ThreeSaid vCx at HLS
                    generalize Pl.cLeast lf vf sf = RL at *
                    obtain ⟨lx, lv, le⟩ := RL
                    simp only at HLS HY
                    have d1 : decide ((j : Int) < (m : Int) - 1) = false := decide_eq_false (by omega)
                    have d2 : ((j : Int) == (m : Int) - 1) = true := by simp; omega
                    have HJM := Lib.hid hjm
                    clear hjm
                    go_wp2_with fail
                    generalize wr.alloc (.cells #[.int .i64 lf, .int .i64 vf, .slice Af sf.length cf] 92) = wa at *
                    generalize wr.heap.size = bx at *
                    have bc := BX1.out.cell
                    go_wp2_with fail
                    refine (HLS.out _ RD1.out).mono ?_
                    rintro e w8 ⟨rfl, hb⟩
                    have IB8 := Lib.hid (IB1.out.go hb)
                    have HBW8 := Lib.hid (HBW1.out.trans (hb.mono HBW1.out.size))
                    clear hb IB1 HBW1 BX1 bc HLS
                    have fz := IB8.out.frozen j
                    have co := IB8.out.cell j (by rw [Pl.rPart_len]; omega)
                    generalize (Pl.rPart beg up down ls ts m (j + 1)).getD j 0 = old at *
                    go_wp2_with fail
                    have IS := IB8.out.set_ j lx
                    rw [← HY.out.1, HPART.out] at IS
                    go_roundw
                    case rel => exact ⟨j, lv, by omega, rfl, rfl, by show _ = _; rw [if_neg (by have := HJM.out; omega)]; exact HY.out.2.symm, by rw [← HY.out.1]; exact IS, HBW8.out.setCell (p := ⟨gO, j, none⟩) (by show wE.heap.size ≤ gO; exact hgw) _⟩
                    case measure => simp [intOf]
                  · have d1 : decide ((j : Int) < (m : Int) - 1) = true := decide_eq_true (by omega)
                    have d2 : ((j : Int) == (m : Int) - 1) = false := by simp; omega
                    obtain ⟨J, hJ⟩ : ∃ J, m - 1 - (j + 1) = J := ⟨_, rfl⟩
                    have cP := IB1.out.cell (j + 1) (by rw [Pl.rPart_len]; omega)
                    rw [Pl.rPart_at (by omega) (Nat.le_refl _), hJ] at cP
                    obtain ⟨y0, y1⟩ := HYB.out J (by omega)
                    have HY : Hid (Pl.rY beg up down ls ts m (m - 1 - j) = (Pl.cLeast (Pl.cRestrict lf vf sf (Pl.rY beg up down ls ts m J - up) (Pl.rY beg up down ls ts m J + down)).1.1 (Pl.cRestrict lf vf sf (Pl.rY beg up down ls ts m J - up) (Pl.rY beg up down ls ts m J + down)).1.2.1 (Pl.cRestrict lf vf sf (Pl.rY beg up down ls ts m J - up) (Pl.rY beg up down ls ts m J + down)).1.2.2).1) := by
                      show _ = _
                      have hc := HCX.out
                      rw [show m - 1 - j = J + 1 by omega, Pl.rY, show m - (J + 1) = j + 1 by omega, ← hc]
                    generalize Pl.rY beg up down ls ts m J = pj at *
                    have HRS := Lib.hid (fun w h => restrict_any lf vf Af sf.length cf sf (pj - up) (pj + down) w h)
                    generalize Pl.cRestrict lf vf sf (pj - up) (pj + down) = RR at *
                    obtain ⟨⟨lq, vq, pq⟩, eq⟩ := RR
                    unfold MadeSaid vCx at HRS
                    simp only at HRS HY
                    have HLS := Lib.hid (fun A c w h => cLeast_any lq vq A pq.length c pq w h)
                    unfold ThreeSaid vCx at HLS
                    generalize Pl.cLeast lq vq pq = RL at *
                    obtain ⟨lx, lv, le⟩ := RL
                    simp only at HLS HY
                    have wpu : IntKind.i64.wrap (pj - up) = pj - up := IntWalk.i64_in _ (by omega)
                    have wpd : IntKind.i64.wrap (pj + down) = pj + down := IntWalk.i64_in _ (by omega)
                    have jp0 : (0 : Int) ≤ (j : Int) + 1 := by omega
                    have jp1 : (j : Int) + 1 < (m : Int) := by omega
                    have HJM := Lib.hid hjm
                    clear hjm hJ
                    go_wp2_with fail
                    generalize wr.alloc (.cells #[.int .i64 lf, .int .i64 vf, .slice Af sf.length cf] 92) = wa at *
                    have hbxn : gO ≠ wr.heap.size := Nat.ne_of_lt hgx
                    generalize wr.heap.size = bx at *
                    have bc := BX1.out.cell
                    go_wp2_with fail
                    clear bc
                    have c0 := BX1.out.cell 0
                    have c1 := BX1.out.cell 1
                    have c2 := BX1.out.cell 2
                    have lbx := BX1.out.lt
                    have HPF : Hid (∀ w', Below wa.heap.size wa w' → w'.cell? ⟨gO, j + 1, none⟩ = some (.int .i64 pj)) := fun w' hb => (hb.cell (p := ⟨gO, j + 1, none⟩) IB1.out.lt).trans cP
                    have HSE : Hid (∀ (w' : World) (x y z : Value), w'.cell? ⟨gO, j + 1, none⟩ = some (.int .i64 pj) → (((w'.setCell ⟨bx, 0, none⟩ x).setCell ⟨bx, 1, none⟩ y).setCell ⟨bx, 2, none⟩ z).cell? ⟨gO, j + 1, none⟩ = some (.int .i64 pj)) := fun w' x y z h => by
                      rw [World.cell?_setCell_other _ _ _ _ (fun e => hbxn (congrArg Addr.block e).symm), World.cell?_setCell_other _ _ _ _ (fun e => hbxn (congrArg Addr.block e).symm), World.cell?_setCell_other _ _ _ _ (fun e => hbxn (congrArg Addr.block e).symm)]
                      exact h
                    have hcur : Hid (Below wa.heap.size wa wa.drew) := (Below.refl _ _).drew
                    clear cP
                    have hpt := HPF.out wa (Below.refl _ _)
                    have HPF2 : Hid (∀ w', Below wa.heap.size wa w' → w'.cell? ⟨gO, j + 1, none⟩ = some (.int .i64 pj)) := HPF.out
                    clear HSE HPF HPF2
                    go_region_with (go_at_call 38; with_reducible refine (HRS.out _ (RD1.out.go hcur.out)).mono ?_; rintro e wz ⟨Aq, cq, rfl, hownq, hbz⟩; have oq := Lib.hid (own_base hownq hcur.out.size); have hcur := Lib.hid (hcur.out.trans (hbz.mono hcur.out.size)); have b9 := Lib.hid (BX1.out.go hcur.out); have k9 := b9.out.cell; have f9 := b9.out.frozen; have l9 := b9.out.lt; clear hbz hownq)
                    all_goals
                      have OQ := Lib.hid (own_far (own_far (own_far oq.out (p := ⟨bx, 0, none⟩) lbx (.int .i64 lq)) (p := ⟨bx, 1, none⟩) lbx (.int .i64 vq)) (p := ⟨bx, 2, none⟩) lbx (.slice Aq pq.length cq))
                      have B5 := Lib.hid (((b9.out.set_ 0 (.int .i64 lq)).set_ 1 (.int .i64 vq)).set_ 2 (.slice Aq pq.length cq))
                      have IB5 := Lib.hid ((((IB1.out.go hcur.out).far (p := ⟨bx, 0, none⟩) hbxn (.int .i64 lq)).far (p := ⟨bx, 1, none⟩) hbxn (.int .i64 vq)).far (p := ⟨bx, 2, none⟩) hbxn (.slice Aq pq.length cq))
                      have HBW5 := Lib.hid ((((HBW1.out.trans (hcur.out.mono HBW1.out.size)).setCell (p := ⟨bx, 0, none⟩) hwx (.int .i64 lq)).setCell (p := ⟨bx, 1, none⟩) hwx (.int .i64 vq)).setCell (p := ⟨bx, 2, none⟩) hwx (.slice Aq pq.length cq))
                      have RD5 := Lib.hid (Reads.of_own OQ.out)
                      clear oq b9 k9 f9 l9 IB1 HBW1 hcur hpt c0 c1 c2 BX1 RD1 OQ
                      generalize ((wz.setCell ⟨bx, 0, none⟩ (.int .i64 lq)).setCell ⟨bx, 1, none⟩ (.int .i64 vq)).setCell ⟨bx, 2, none⟩ (.slice Aq pq.length cq) = w5 at *
                      have bc := B5.out.cell
                      go_wp2_with fail
                      refine (HLS.out _ _ _ RD5.out).mono ?_
                      rintro e w8 ⟨rfl, hb⟩
                      have IB8 := Lib.hid (IB5.out.go hb)
                      have HBW8 := Lib.hid (HBW5.out.trans (hb.mono HBW5.out.size))
                      clear hb IB5 HBW5 B5 bc HLS RD5
                      have fz := IB8.out.frozen j
                      have co := IB8.out.cell j (by rw [Pl.rPart_len]; omega)
                      generalize (Pl.rPart beg up down ls ts m (j + 1)).getD j 0 = old at *
                      go_wp2_with fail
                      have IS := IB8.out.set_ j lx
                      rw [← HY.out, HPART.out] at IS
                      go_roundw
                      case rel => exact ⟨j, sv, by omega, rfl, rfl, by have e := HSV.out; rw [if_neg HJM.out] at e; show _ = _; rw [if_neg (by omega)]; exact e, by rw [← HY.out]; exact IS, HBW8.out.setCell (p := ⟨gO, j, none⟩) (by show wE.heap.size ≤ gO; exact hgw) _⟩
                      case measure => simp [intOf]
      · rw [ht] at HCO
        have HX : Hid (Pl.rNear beg up down ls ts = ([], 0, 4)) := by show _ = _; unfold Pl.rNear; rw [if_neg (by simpa using h0), if_neg (by rw [HL.out, HM.out]; simp), if_pos ht]
        clear h0 hlim hn24 ht
        unfold SchedSaid
        generalize Pl.rNear beg up down ls ts = R at *
        go_enter Try.func18, Try.ntmps18
        go_wp2_with fail
        refine (HC.out _ HR.out).mono ?_
        rintro e w1 ⟨rfl, hb⟩
        have HB1 := Lib.hid hb
        clear hb HC
        go_wp2_with fail
        refine (HCO.out _ (HQ.out.go HB1.out)).mono ?_
        rintro e w2 ⟨rfl, rfl⟩
        go_wp2_with fail
        go_ret3
        rw [HX.out]
        exact ⟨none, 0, rfl, World.ownsRow_nil _ _ _ _, HB1.out⟩
    · have HX : Hid (Pl.rNear beg up down ls ts = ([], 0, 3)) := by show _ = _; unfold Pl.rNear; rw [if_neg (by simpa using h0), if_pos (by rw [HL.out, HM.out]; exact hmn)]
      have hmn2 : ((m : Int) != (n : Int)) = true := by simp; omega
      clear h0 hlim hn24 hmn
      unfold SchedSaid
      generalize Pl.rNear beg up down ls ts = R at *
      go_enter Try.func18, Try.ntmps18
      go_wp2_with fail
      refine (HC.out _ HR.out).mono ?_
      rintro e w1 ⟨rfl, hb⟩
      have HB1 := Lib.hid hb
      clear hb HC
      go_wp2_with fail
      go_ret3
      rw [HX.out]
      exact ⟨none, 0, rfl, World.ownsRow_nil _ _ _ _, HB1.out⟩
  · have HX : Hid (Pl.rNear beg up down ls ts = ([], 0, Pl.rCheckP ls beg up down)) := by show _ = _; unfold Pl.rNear; rw [if_pos h0]
    have h2 : (Pl.rCheckP ls beg up down != 0) = true := by simpa using h0
    clear h0
    unfold SchedSaid
    generalize Pl.rNear beg up down ls ts = R at *
    generalize Pl.rCheckP ls beg up down = u at *
    go_enter Try.func18, Try.ntmps18
    go_wp2_with fail
    refine (HC.out _ HR.out).mono ?_
    rintro e w1 ⟨rfl, hb⟩
    have HB1 := Lib.hid hb
    clear hb HC
    go_wp2_with fail
    go_ret3
    rw [HX.out]
    exact ⟨none, 0, rfl, World.ownsRow_nil _ _ _ _, HB1.out⟩
end Go.Proofs.Ytchafkocobbndaa
