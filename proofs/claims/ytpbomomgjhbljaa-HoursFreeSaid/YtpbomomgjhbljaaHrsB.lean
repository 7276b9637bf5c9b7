/- hours.Change for valid arguments: the powers are filled in the order of the prices. Condition: the greatest change is permitted. -/
import Derived.Test.YtpbomomgjhbljaaHrs
import Derived.Test.YtpbomomgjhbljaaBaseE
import Derived.Deep.RegionLaw
import Derived.Deep.RegionHeld3
namespace Go.Proofs.Ytpbomomgjhbljaa
open Go.RowKit
def HChangeSaid (l : List Pl.Off) (n : Nat) (xs : List Int) (d mo : Int) (w : World) (e : Ending) (w' : World) : Prop :=
  Below w.heap.size w w' ∧ ((Pl.hleft xs mo d n < 0 ∧ e = .returned (.tuple #[.agg #[.slice none 0 0, .int .i64 0], .int .i64 8])) ∨
    (0 ≤ Pl.hleft xs mo d n ∧ ∃ bs : List Pl.B3, bs.Perm (Pl.hblocks l xs mo n) ∧ bs.Pairwise (fun a b => a.2.2 ≤ b.2.2) ∧ ((Pl.hblocks l xs mo n).length < 20 → bs = Pl.isortH (Pl.hblocks l xs mo n)) ∧
      ((0 < (Pl.hfill (Pl.hlows xs mo n) (Pl.hleft xs mo d n) bs).2.2 ∧ e = .returned (.tuple #[.agg #[.slice none 0 0, .int .i64 0], .int .i64 8])) ∨
        ((Pl.hfill (Pl.hlows xs mo n) (Pl.hleft xs mo d n) bs).2.2 ≤ 0 ∧ ∃ A c, e = .returned (.tuple #[.agg #[.slice A n c, .int .i64 (Pl.hcostK l (Pl.hfill (Pl.hlows xs mo n) (Pl.hleft xs mo d n) bs).1 xs n)], .int .i64 0])))))
theorem cell_grown {w w8 : World} {o : Obj} {row : Option Nat} {p : Addr} {v : Value} (hg : (w.alloc o).drew.grownBy w8 row) (hp : w.cell? p = some v) (hne : some p.block ≠ row) : w8.cell? p = some v := by
  have hl := cell_lt hp
  have h1 : w8.cell? p = (w.alloc o).drew.cell? p := World.cell?_of_block (hg.block p.block (by simp; omega) hne)
  exact h1.trans ((World.cell?_alloc_lt w o p hl).trans hp)
theorem hchange_end {l : List Pl.Off} {n : Nat} {xs : List Int} {d mo D dm cs : Int} {lows os : List Int} {S bs : List Pl.B3} {w w' : World} {e : Ending} (hD : Pl.hleft xs mo d n = D) (hS : Pl.hblocks l xs mo n = S) (hL : Pl.hlows xs mo n = lows) (h0 : 0 ≤ D) (h1 : bs.Perm S) (h2 : bs.Pairwise (fun a b => a.2.2 ≤ b.2.2)) (h3 : S.length < 20 → bs = Pl.isortH S)
    (hF : Pl.hfill lows D bs = (os, cs, dm)) (hb : Below w.heap.size w w') (hc : (0 < dm ∧ e = .returned (.tuple #[.agg #[.slice none 0 0, .int .i64 0], .int .i64 8])) ∨ (dm ≤ 0 ∧ ∃ A c, e = .returned (.tuple #[.agg #[.slice A n c, .int .i64 (Pl.hcostK l os xs n)], .int .i64 0]))) : HChangeSaid l n xs d mo w e w' := by
  subst hD hS hL
  refine ⟨hb, .inr ⟨h0, bs, h1, h2, h3, ?_⟩⟩
  rw [hF]
  exact hc
set_option maxHeartbeats 12800000 in
set_option maxRecDepth 100000 in
theorem hchange_good (A : Option Addr) (n c : Nat) (l : List MOff) (B : Option Addr) (e' : Nat) (xs : List Int) (d mo : Int) (w : World) (hcap : n ≤ c) (h : Offs w A n l) (hp : Reads w w.heap.size 1 B n (ints xs)) (h0 : (Pl.dCost (plo l) xs).2.2 = 0) (d0 : 0 ≤ d) (d1 : d ≤ 1000000) (m0 : 0 ≤ mo) (m1 : mo ≤ 100000) :
    Calls Try.prog 42 #[.slice A n c, .slice B n e', .int .i64 d, .int .i64 mo] w (HChangeSaid (plo l) n xs d mo w) := by
  have L1 := Lib.hid h.len
  have L2 := Lib.hid hp.int_len
  have HC := Lib.hid (fun w h => oall_any A n c l w hcap h)
  have H := Lib.hid h
  obtain ⟨h1, _, h3, _⟩ := Pl.dCost_ok h0
  have HG : Hid (∀ k, k < n → Pl.Good (Pl.steps (plo l) k) ∧ (Pl.steps (plo l) k).length ≤ 12) := fun k hk => Pl.steps_good h1 k (by rw [plo_len, L1.out]; exact hk)
  have HGD : Hid (∀ k, k < n → Pl.Good (Pl.steps (plo l) k)) := fun k hk => (HG.out k hk).1
  have HX : Hid (∀ k, k < n → 0 ≤ xs.getD k 0 ∧ xs.getD k 0 ≤ Pl.total (Pl.steps (plo l) k)) := fun k hk => h3 k (by rw [plo_len, L1.out]; exact hk)
  have HX2 : Hid (∀ k, k < n → xs.getD k 0 ≤ 100000) := fun k hk => by have := HX.out k hk; have := (HGD.out k hk).sum; omega
  obtain ⟨g1, _⟩ := Pl.oall_good h1
  have hn10 : n ≤ 10 := by have := L1.out; rw [plo_len] at g1; omega
  have HSM : Hid (∀ (k : Nat) (hk : k < n) (hl : k < l.length) (w2 : World), Reads w2 w2.heap.size 2 l[k].A l[k].n (pairs l[k].st) →
      Calls Try.prog 68 #[.agg #[.string l[k].nm, .slice l[k].A l[k].n l[k].c]] w2 fun e w' => e = .returned (.int .i64 (Pl.total (Pl.steps (plo l) k))) ∧ Below w2.heap.size w2 w') := fun k hk hl w2 hr => by
    obtain ⟨g1, g2⟩ := HG.out k hk
    rw [plo_steps hl] at g1 g2 ⊢
    exact osum_any l[k].nm l[k].A l[k].n l[k].c l[k].st w2 hr g1 (by have := hr.pair_len; omega)
  have HCA : Hid (∀ (ys : List Int) (k : Nat) (_ : k < n) (hl : k < l.length) (w2 : World), Reads w2 w2.heap.size 2 l[k].A l[k].n (pairs l[k].st) → l[k].nm.size ≤ 9223372036854775807 →
      Calls Try.prog 63 #[.agg #[.string l[k].nm, .slice l[k].A l[k].n l[k].c], .int .i64 (ys.getD k 0)] w2 fun e w' => e = .returned (.tuple #[.int .i64 (Pl.ocK (plo l) ys k), .int .i64 (Pl.ocU (plo l) ys k)]) ∧ Below w2.heap.size w2 w') := fun ys k hk hl w2 hr hn => by
    have := oCost_any l[k].nm l[k].A l[k].n l[k].c l[k].st (ys.getD k 0) w2 hn hr
    unfold TwoSaid vOff at this
    unfold Pl.ocK Pl.ocU
    rw [plo_steps hl, plo_name hl]
    exact this
  have HLN : Hid (∀ k, k ≤ n → (Pl.hblocks (plo l) xs mo k).length ≤ 12 * k) := fun k hk => Pl.hblocks_len fun j hj => (HG.out j (by omega)).2
  obtain ⟨i0, hi0, hz0, hz1, hz2⟩ := info_parts info_hblock
  obtain ⟨j0, ji0, jz0, jz1, jz2⟩ := info_parts info_int
  have hmk0 : ∀ w, (Instr.makeSlice 22 (.int .i64 (n : Int)) (.int .i64 (n : Int))).run Try.prog w = .ok (.slice (some ⟨w.heap.size, 0, none⟩) n n) (w.alloc (.cells (madeCells #[.int .i64 0] n) 3)) := fun w => by
    have := run_make (P := Try.prog) w 22 3 j0 (.int .i64 0) Try.underlying22 ji0 jz0 .i64 .i64 n n (by omega) (by omega) (by rw [jz2]; omega) (by omega)
    rw [jz1, show (Value.int .i64 0).cells = #[.int .i64 0] from rfl] at this
    simpa using this
  generalize hz : madeCells #[Value.int .i64 0] n = ZC at hmk0
  have HZC := Lib.hid hz
  have HMK := Lib.hid hmk0
  have HMX : Hid (∀ a b : Int, (if a < b then b else a) = max a b) := ite_max
  have HMN : Hid (∀ a b : Int, (if b < a then b else a) = min a b) := ite_min
  have HMZ : Hid (∀ a b : Int, (if b < a then a - b else 0) = max 0 (a - b)) := fun a b => by show _ = _; split <;> omega
  rw [h1] at HC
  clear hz hmk0 h0 h1 h h3 g1
  go_enter Try.func42, Try.ntmps42
  go_wp2_with fail
  refine (HC.out _ ?hr1).mono ?_
  case hr1 => exact (H.out.go ((Below.refl _ _).alloc (Nat.le_refl _) _)).go ((Below.refl _ _).alloc (Nat.le_refl _) _)
  rintro e w1 ⟨rfl, hb⟩
  have HB1 := Lib.hid ((((Below.refl w.heap.size w).alloc (Nat.le_refl _) _).alloc (by simp) _).trans (hb.mono (by simp; omega)))
  have B8 : Hid (Blk w1 w.heap.size _ _) := (Blk.old_ (by simp) (Blk.new_ _ _ _ _ (by simp))).go hb
  have B10 : Hid (Blk w1 (w.heap.size + 1) _ _) := (Blk.new_ _ _ _ _ (by simp)).go hb
  clear hb HC
  go_wp2_with fail
  go_loopw [49] (fun i wr => ∃ k : Nat, k ≤ n ∧ i = .int .i64 k ∧ Hid (Blk wr w.heap.size 79 #[.slice none 0 0, .int .i64 0]) ∧ Hid (Blk wr (w.heap.size + 1) 79 #[.slice none 0 0, .int .i64 0]) ∧ Hid (Below w.heap.size w wr)) (fun i _ => n - (intOf i).toNat)
  case atStart => exact ⟨0, Nat.zero_le _, rfl, B8, B10, HB1⟩
  case round =>
    clear B8 B10 HB1
    obtain ⟨k, hk, rfl, B8, B10, HB⟩ := hrel
    by_cases hlt : k < n
    · obtain ⟨b, o, rfl, hl1, c1, c2, hin⟩ := (H.out.go HB.out).at_ hlt
      obtain ⟨b', o', rfl, hl2, q1⟩ := (hp.go HB.out).int_at hlt
      have hxe : xs.getD k 0 = xs[k] := by rw [List.getD_eq_getElem?_getD, List.getElem?_eq_getElem hl2]; rfl
      rw [← hxe] at q1
      have HS2 := Lib.hid (fun w2 hr => HSM.out k hlt hl1 w2 hr)
      have HIN := Lib.hid hin
      have hxk := HX.out k hlt
      clear hin hxe
      generalize l[k] = z at *
      obtain ⟨nm, Az, nz, cz, st⟩ := z
      simp only at c1 c2 HS2
      have HBN := Lib.hid (HB.out.alloc HB.out.size (.cells #[.string nm, .slice Az nz cz] 57))
      have BN := Lib.hid (Blk.new_ wr wr.heap.size 57 #[.string nm, .slice Az nz cz] rfl)
      have B8N := Lib.hid (B8.out.alloc (.cells #[.string nm, .slice Az nz cz] 57))
      have B10N := Lib.hid (B10.out.alloc (.cells #[.string nm, .slice Az nz cz] 57))
      have q4 : (wr.alloc (.cells #[.string nm, .slice Az nz cz] 57)).cell? ⟨b', o' + k, none⟩ = some (.int .i64 (xs.getD k 0)) := by rw [World.cell?_alloc_some _ _ _ (by rw [q1]; rfl)]; exact q1
      have HIN2 := Lib.hid (HIN.out.2.2.go ((Below.refl _ _).alloc (Nat.le_refl _) (.cells #[.string nm, .slice Az nz cz] 57)))
      have k1 : (0 : Int) ≤ (k : Int) := by omega
      have k2 : (k : Int) < (n : Int) := by omega
      have HO := Lib.hid (fun w => out_any (xs.getD k 0) 0 (Pl.total (Pl.steps (plo l) k)) w)
      rw [Pl.outB_false.2 hxk] at HO
      clear hxk
      go_wp2_with fail
      clear c1 c2 q1 HB HIN B8 B10
      generalize wr.alloc (.cells #[.string nm, .slice Az nz cz] 57) = w2 at *
      generalize wr.heap.size = bn at *
      have r0 := Wd.cell (BN.out.cell 0)
      have r1 := Wd.cell (BN.out.cell 1)
      replace q4 := Wd.cell q4
      generalize xs.getD k 0 = x at *
      generalize Pl.total (Pl.steps (plo l) k) = T at *
      refine wp_region_wd (by kernel_rfl) (by kernel_rfl) ?_
      repeat (go_big_quiet_step ((first | (go_at_call 68; exact Calls.wd (HS2.out _ (HIN2.out.go (Wd.ok _)))) | (go_at_call 48; exact Calls.wd_same (HO.out _)))))
      refine wpQuiet_nil ?_
      rintro _ ⟨w6, rfl⟩
      have HB6 := Lib.hid (HBN.out.trans (w6.ok.mono HBN.out.size))
      have B8N := Lib.hid (B8N.out.go w6.ok)
      have B10N := Lib.hid (B10N.out.go w6.ok)
      clear q4 r0 r1
      generalize w6.val = w7 at *
      go_wp2_with fail
      go_roundw
      case rel => exact ⟨k + 1, by omega, by go_num, B8N, B10N, HB6⟩
      case measure => simp [intOf]; omega
    · have : k = n := by omega
      subst this
      have HO1 := Lib.hid (fun w => out_any d 0 1000000 w)
      rw [Pl.outB_false.2 ⟨d0, d1⟩] at HO1
      have HO2 := Lib.hid (fun w => out_any mo 0 100000 w)
      rw [Pl.outB_false.2 ⟨m0, m1⟩] at HO2
      have hmk := HMK.out
      have hszr := HB.out.size
      go_wp2_with (go_at_call 48; first | ((with_reducible refine (HO1.out _).mono ?_); rintro e w' ⟨rfl, rfl⟩) | ((with_reducible refine (HO2.out _).mono ?_); rintro e w' ⟨rfl, rfl⟩))
      have HZL : Hid (ZC.toList = ints (List.replicate k 0)) := by show _ = _; rw [← HZC.out, toList_madeCells_one]; simp [ints]
      have IB : Hid (IBlk (wr.alloc (.cells ZC 3)) wr.heap.size 3 (List.replicate k 0)) := IBlk.new_ _ _ _ _ rfl HZL.out
      have HB7 := Lib.hid (HB.out.alloc HB.out.size (.cells ZC 3))
      have B8N := Lib.hid (B8.out.alloc (.cells ZC 3))
      have B10N := Lib.hid (B10.out.alloc (.cells ZC 3))
      have g7w : w.heap.size + 1 < wr.heap.size := B10.out.lt
      have h78 : (wr.alloc (.cells ZC 3)).heap.size = wr.heap.size + 1 := by simp
      clear HZL hmk HB B8 B10 HO1 HO2
      generalize wr.heap.size = g7 at *
      generalize wr.alloc (.cells ZC 3) = w7 at *
      have H78 := Lib.hid h78
      clear h78
      go_loopw [2, 15, 75] (fun v2 v15 i wr => ∃ (j : Nat) (Ab : Option Addr) (cb : Nat), j ≤ k ∧ i = .int .i64 j ∧ v2 = .int .i64 (Pl.hleft xs mo d j) ∧ v15 = .slice Ab (Pl.hblocks (plo l) xs mo j).length cb ∧ Hid (wr.ownsRow (g7 + 1) 126 3 (.slice Ab (Pl.hblocks (plo l) xs mo j).length cb) (Pl.hblocks (plo l) xs mo j).length ((Pl.hblocks (plo l) xs mo j).flatMap Srt.encH)) ∧ Hid (IBlk wr g7 3 (Pl.hlows xs mo j ++ List.replicate (k - j) 0)) ∧ Hid (Blk wr w.heap.size 79 #[.slice none 0 0, .int .i64 0]) ∧ Hid (Blk wr (w.heap.size + 1) 79 #[.slice none 0 0, .int .i64 0]) ∧ Hid (Below w.heap.size w wr) ∧ Hid (g7 + 1 ≤ wr.heap.size)) (fun _ _ i _ => k - (intOf i).toNat)
      case atStart => exact ⟨0, none, 0, Nat.zero_le _, rfl, rfl, rfl, World.ownsRow_nil _ _ _ _, IB, B8N, B10N, HB7, Nat.le_of_eq H78.out.symm⟩
      case round =>
        clear IB B8N B10N HB7
        obtain ⟨j, Ab, cb, hj, rfl, rfl, rfl, OF, IB, B8, B10, HB, hsz⟩ := hrel
        by_cases hltj : j < k
        · obtain ⟨b, o, rfl, hl1, c1, c2, hin⟩ := (H.out.go HB.out).at_ hltj
          obtain ⟨b', o', rfl, hl2, q1⟩ := (hp.go HB.out).int_at hltj
          have hxe : xs.getD j 0 = xs[j] := by rw [List.getD_eq_getElem?_getD, List.getElem?_eq_getElem hl2]; rfl
          rw [← hxe] at q1
          obtain ⟨s1, s2⟩ := HG.out j hltj
          have hlb := HLN.out j hj
          have hxk := HX.out j hltj
          have hT := (HGD.out j hltj).sum
          have hlf := Pl.hleft_bd (d := d) (n := j) (fun i hi => HX2.out i (by omega)) m0
          have HS2 := Lib.hid (fun w2 hr => HSM.out j hltj hl1 w2 hr)
          have HBS : Hid (Pl.hblocks (plo l) xs mo (j + 1) = Pl.hblocks (plo l) xs mo j ++ (Pl.hblk j (Pl.hlow (xs.getD j 0) mo) (Pl.hhigh (Pl.total (Pl.steps (plo l) j)) (xs.getD j 0) mo) (Pl.steps (plo l) j)).1) := rfl
          have HLF : Hid (Pl.hleft xs mo d (j + 1) = Pl.hleft xs mo d j - max 0 (xs.getD j 0 - mo)) := rfl
          have HLW : Hid ((Pl.hlows xs mo j ++ List.replicate (k - j) 0).set j (max 0 (xs.getD j 0 - mo)) = Pl.hlows xs mo (j + 1) ++ List.replicate (k - (j + 1)) 0) := by
            show _ = _
            have := set_fill (Pl.hlows xs mo j) (k - (j + 1)) (max 0 (xs.getD j 0 - mo))
            rw [Pl.hlows_len, show k - (j + 1) + 1 = k - j from by omega] at this
            exact this
          rw [plo_steps hl1] at s1 s2 HS2 HBS hT hxk
          have HIN := Lib.hid (H.out.2 _ (List.getElem_mem hl1))
          have HST := Lib.hid s1
          clear hin hxe s1
          generalize l[j] = z at *
          obtain ⟨nm, Az, nz, cz, st⟩ := z
          simp only at c1 c2 HS2 HBS HST s2 hT hxk
          have hzl : st.length = nz := HIN.out.2.2.pair_len
          have HZL2 := Lib.hid hzl
          have hnz : nz ≤ 12 := by omega
          have HBN := Lib.hid (HB.out.alloc HB.out.size (.cells #[.string nm, .slice Az nz cz] 57))
          have BN := Lib.hid (Blk.new_ wr wr.heap.size 57 #[.string nm, .slice Az nz cz] rfl)
          have B8N := Lib.hid (B8.out.alloc (.cells #[.string nm, .slice Az nz cz] 57))
          have B10N := Lib.hid (B10.out.alloc (.cells #[.string nm, .slice Az nz cz] 57))
          have IBN := Lib.hid (IB.out.alloc (.cells #[.string nm, .slice Az nz cz] 57))
          have OFN := Lib.hid (OF.out.alloc (.cells #[.string nm, .slice Az nz cz] 57))
          have q4 : (wr.alloc (.cells #[.string nm, .slice Az nz cz] 57)).cell? ⟨b', o' + j, none⟩ = some (.int .i64 (xs.getD j 0)) := by rw [World.cell?_alloc_some _ _ _ (by rw [q1]; rfl)]; exact q1
          have HIN2 := Lib.hid (HIN.out.2.2.go HBN.out)
          have k1 : (0 : Int) ≤ (j : Int) := by omega
          have k2 : (j : Int) < (k : Int) := by omega
          have hszn : g7 + 1 ≤ wr.heap.size := hsz.out
          have HSZN : Hid (g7 + 1 < (wr.alloc (.cells #[.string nm, .slice Az nz cz] 57)).heap.size) := by show _ < _; simp; omega
          clear hzl s2
          go_wp2_with fail
          clear c1 c2 q1 HB B8 B10 OF IB hsz
          generalize wr.alloc (.cells #[.string nm, .slice Az nz cz] 57) = w2 at *
          generalize wr.heap.size = bn at *
          have r0 := Wd.cell (BN.out.cell 0)
          have r1 := Wd.cell (BN.out.cell 1)
          replace q4 := Wd.cell q4
          have hmx := HMZ.out
          have hmn := HMN.out
          generalize xs.getD j 0 = x at *
          generalize Pl.hleft xs mo d j = lf at *
          generalize hS0 : Pl.hblocks (plo l) xs mo j = S0 at *
          have HS0 := Lib.hid hS0
          clear hS0
          generalize hT0 : Pl.total st = T at *
          have HT0 := Lib.hid hT0
          clear hT0
          refine wp_region_wd (by kernel_rfl) (by kernel_rfl) ?_
          repeat (go_big_quiet_step ((go_at_call 68; exact Calls.wd (HS2.out _ (HIN2.out.go (Wd.ok _))))))
          refine wpQuiet_nil ?_
          rintro _ ⟨w6, rfl⟩
          have HB6 := Lib.hid (HBN.out.trans (w6.ok.mono HBN.out.size))
          have B8N := Lib.hid (B8N.out.go w6.ok)
          have B10N := Lib.hid (B10N.out.go w6.ok)
          have IBN := Lib.hid (IBN.out.go w6.ok)
          have BN := Lib.hid (BN.out.go w6.ok)
          have OFN := Lib.hid (own_go OFN.out w6.ok)
          have HIN3 := Lib.hid (HIN2.out.go w6.ok)
          have HSZ6 : Hid (g7 + 1 < w6.val.heap.size) := Nat.lt_of_lt_of_le HSZN.out w6.ok.size
          clear q4 r0 r1 HBN HIN2 HSZN HS2 hmx hmn
          generalize w6.val = w8 at *
          have hlow0 : 0 ≤ max 0 (x - mo) := by omega
          have hlow1 : max 0 (x - mo) ≤ 100000 := by omega
          have hhi0 : min T (x + mo) ≤ 100000 := by omega
          have hhi1 : -100000 ≤ min T (x + mo) := by omega
          generalize hlw : max 0 (x - mo) = low at *
          generalize hhw : min T (x + mo) = high at *
          have HLX : Hid (Pl.hlow x mo = low) := hlw
          have HHX : Hid (Pl.hhigh T x mo = high) := hhw
          rw [HLX.out, HHX.out] at HBS
          clear hlw hhw
          have il : (Pl.hlows xs mo j ++ List.replicate (k - j) 0).length = k := by rw [List.length_append, Pl.hlows_len, List.length_replicate]; omega
          have ci := IBN.out.cell j (by rw [il]; exact hltj)
          have fi := IBN.out.frozen
          have IBS := Lib.hid (IBN.out.set_ j low)
          rw [HLW.out] at IBS
          generalize (Pl.hlows xs mo j ++ List.replicate (k - j) 0).getD j 0 = c0 at *
          have gne : ¬ g7 = bn := by omega
          have B8S := Lib.hid (B8N.out.far (p := ⟨g7, j, none⟩) (by show w.heap.size ≠ g7; omega) (.int .i64 low))
          have B10S := Lib.hid (B10N.out.far (p := ⟨g7, j, none⟩) (by show w.heap.size + 1 ≠ g7; omega) (.int .i64 low))
          have BNS := Lib.hid (BN.out.far (p := ⟨g7, j, none⟩) (by show bn ≠ g7; omega) (.int .i64 low))
          have OFS := Lib.hid (own_far OFN.out (p := ⟨g7, j, none⟩) (by show g7 < g7 + 1; omega) (.int .i64 low))
          have HBS2 := Lib.hid (HB6.out.setCell (p := ⟨g7, j, none⟩) (by show w.heap.size ≤ g7; omega) (.int .i64 low))
          have r1 := BNS.out.cell 1
          have HSZS : Hid (g7 + 1 < (w8.setCell ⟨g7, j, none⟩ (.int .i64 low)).heap.size) := by show _ < _; simp; exact HSZ6.out
          have HRS : Hid (Reads (w8.setCell ⟨g7, j, none⟩ (.int .i64 low)) (w8.setCell ⟨g7, j, none⟩ (.int .i64 low)).heap.size 2 Az nz (pairs st)) := HIN.out.2.2.go HBS2.out
          clear il HLW OFN B8N B10N HB6
          go_wp2_with fail
          clear r1 ci fi gne
          generalize w8.setCell ⟨g7, j, none⟩ (.int .i64 low) = w9 at *
          have HST1 : Hid (∀ p ∈ st, 1 ≤ p.1) := fun p hp => (HST.out.step p hp).1
          have hjn : j ≤ 10 := by omega
          have hs0l : S0.length ≤ 120 := by omega
          go_loopw [15, 20, 106] (fun v15 v20 i wr => ∃ (q : Nat) (Ab : Option Addr) (cb : Nat), q ≤ nz ∧ i = .int .i64 q ∧ v20 = .int .i64 (Pl.hblk j low high (st.take q)).2 ∧ v15 = .slice Ab (S0.length + (Pl.hblk j low high (st.take q)).1.length) cb ∧ Hid (wr.ownsRow (g7 + 1) 126 3 (.slice Ab (S0.length + (Pl.hblk j low high (st.take q)).1.length) cb) (S0.length + (Pl.hblk j low high (st.take q)).1.length) ((S0 ++ (Pl.hblk j low high (st.take q)).1).flatMap Srt.encH)) ∧ Hid (IBlk wr g7 3 (Pl.hlows xs mo (j + 1) ++ List.replicate (k - (j + 1)) 0)) ∧ Hid (Blk wr w.heap.size 79 #[.slice none 0 0, .int .i64 0]) ∧ Hid (Blk wr (w.heap.size + 1) 79 #[.slice none 0 0, .int .i64 0]) ∧ Hid (Below w.heap.size w wr) ∧ Hid (g7 + 1 < wr.heap.size)) (fun _ _ i _ => nz - (intOf i).toNat)
          case atStart => exact ⟨0, Ab, cb, Nat.zero_le _, rfl, rfl, rfl, by simpa [Pl.hblk] using OFS, IBS, B8S, B10S, HBS2, HSZS⟩
          case round =>
            clear IBS B8S B10S HBS2 HSZS OFS HRS BNS
            obtain ⟨q, Ab, cb, hq, rfl, rfl, rfl, OF, IB, B8, B10, HB, HSZ⟩ := hrel
            by_cases hltq : q < nz
            · obtain ⟨b2, o2, rfl, hl2, d1, d2⟩ := (HIN.out.2.2.go HB.out).pair_at hltq
              have ht := Pl.total_take_le HST1.out q
              have hat := Pl.hblk_at j low high (st.take q)
              have hln := Pl.hblk_len j low high (st.take q)
              have hpx := (HST.out.step _ (List.getElem_mem hl2))
              rw [← hat] at ht
              rw [List.length_take] at hln
              have HSN : Hid (Pl.hblk j low high (st.take (q + 1)) = Pl.hstep j low high (Pl.hblk j low high (st.take q)) st[q]) := by show _ = _; rw [List.take_succ_eq_append_getElem hl2, Pl.hblk_snoc]
              clear hat
              generalize Pl.hblk j low high (st.take q) = a at *
              obtain ⟨L, aa⟩ := a
              generalize st[q] = pq at *
              obtain ⟨x1, y1⟩ := pq
              simp only at d1 d2 ht hln hpx OF
              obtain ⟨p1, p2, p3, p4⟩ := hpx
              obtain ⟨t0, t1⟩ := ht
              have ta : aa ≤ 100000 := by rw [HT0.out] at t1; omega
              have hln2 : L.length ≤ 12 := by omega
              have OF1 := Lib.hid (OF.out.alloc (.cells #[.int .i64 x1, .int .i64 y1] 62))
              have HB1 := Lib.hid (HB.out.alloc HB.out.size (.cells #[.int .i64 x1, .int .i64 y1] 62))
              have IB1 := Lib.hid (IB.out.alloc (.cells #[.int .i64 x1, .int .i64 y1] 62))
              have B81 := Lib.hid (B8.out.alloc (.cells #[.int .i64 x1, .int .i64 y1] 62))
              have B101 := Lib.hid (B10.out.alloc (.cells #[.int .i64 x1, .int .i64 y1] 62))
              have hszr := HSZ.out
              have hmx := HMX.out
              have hmn := HMN.out
              clear t1 hln
              by_cases hpos : 0 < min high (aa + x1) - max low aa
              · have HC : Hid (Pl.hstep j low high (L, aa) (x1, y1) = (L ++ [((j : Int), min high (aa + x1) - max low aa, y1)], aa + x1)) := by show _ = _; unfold Pl.hstep; simp only; rw [if_pos hpos]
                go_wp2_with (at_builtin; go_must (refine wpList_append_grow _ rfl (.tmp 122) (.tmp 128) 124 rfl (g7 + 1) 126 i0 _ 3 24 Try.underlying124 hi0 hz0 hz1 hz2 rfl (by decide) (.slice Ab (S0.length + L.length) cb) (S0.length + L.length) ((S0 ++ L).flatMap Srt.encH) rfl OF1.out (by simp; omega) #[.int .i64 j, .int .i64 (min high (aa + x1) - max low aa), .int .i64 y1] rfl rfl (by simp) (by simp [Value.oneCell']) (by unfold maxLen; omega) (by omega) ?_); intro v' w3 hown3 hg3 hsz3; obtain ⟨A3, c3, rfl, _⟩ := own_slice hown3; have HO3 := Lib.hid hown3; have HG3 := Lib.hid hg3; have BX3 := Lib.hid ((Blk.new_ wr wr.heap.size 62 #[.int .i64 x1, .int .i64 y1] rfl).grown HG3.out (own_ne OF.out (.inr (Nat.le_refl _)))); have k3 := BX3.out.cell; clear hown3 hg3)
                have n7 := own_ne OF1.out (g := g7) (.inl (by omega))
                have n8 := own_ne OF1.out (g := w.heap.size) (.inl (by omega))
                have n10 := own_ne OF1.out (g := w.heap.size + 1) (.inl (by omega))
                have HB3 := Lib.hid (below_grown HB1.out HG3.out OF1.out (by omega) (by have := HB.out.size; simp; omega))
                have IB3 := Lib.hid (IB1.out.grown HG3.out n7)
                have B83 := Lib.hid (B81.out.grown HG3.out n8)
                have B103 := Lib.hid (B101.out.grown HG3.out n10)
                clear n7 n8 n10
                go_roundw
                case rel =>
                  refine ⟨q + 1, A3, c3, by omega, by go_num, by rw [HSN.out, HC.out], ?_, ?_, IB3, B83, B103, HB3, ?_⟩
                  · rw [HSN.out, HC.out]; simp only; rw [List.length_append, ← Nat.add_assoc]; rfl
                  · rw [HSN.out, HC.out]; simp only
                    rw [← List.append_assoc, List.flatMap_append, List.length_append, ← Nat.add_assoc]
                    exact HO3.out
                  · show _ < _
                    have := HG3.out.size
                    simp at this
                    omega
                case measure => simp [intOf]; omega
              · have HC : Hid (Pl.hstep j low high (L, aa) (x1, y1) = (L, aa + x1)) := by show _ = _; unfold Pl.hstep; simp only; rw [if_neg hpos]
                go_wp2_with fail
                go_roundw
                case rel =>
                  refine ⟨q + 1, Ab, cb, by omega, by go_num, by rw [HSN.out, HC.out], ?_, ?_, IB1, B81, B101, HB1, ?_⟩
                  · rw [HSN.out, HC.out]
                  · rw [HSN.out, HC.out]; exact OF1.out
                  · show _ < _
                    simp; omega
                case measure => simp [intOf]; omega
            · have : q = nz := by omega
              subst this
              have HTK : Hid (st.take q = st) := List.take_of_length_le (by rw [HZL2.out]; exact Nat.le_refl _)
              rw [HTK.out] at OF
              have HBL : Hid ((Pl.hblocks (plo l) xs mo (j + 1)).length = S0.length + (Pl.hblk j low high st).1.length) := by show _ = _; rw [HBS.out, List.length_append]
              go_wp2_with fail
              go_roundw
              case rel =>
                refine ⟨j + 1, Ab, cb, by omega, by go_num, by rw [HLF.out], ?_, ?_, IB, B8, B10, HB, Nat.le_of_lt HSZ.out⟩
                · rw [HBL.out, HTK.out]
                · rw [HBL.out, HBS.out]; exact OF
              case measure => simp [intOf]; omega
        · have : j = k := by omega
          subst this
          have hlf := Pl.hleft_bd (d := d) (n := j) (fun i hi => HX2.out i hi) m0
          have hlb := HLN.out j (Nat.le_refl j)
          have HLW0 : Hid (Pl.hlows xs mo j ++ List.replicate (j - j) 0 = Pl.hlows xs mo j) := by show _ = _; simp
          have HLL := Lib.hid (Pl.hlows_len xs mo j)
          have HLBD := Lib.hid (Pl.hlows_bd (n := j) HX2.out m0)
          rw [HLW0.out] at IB
          generalize hD : Pl.hleft xs mo d j = D at *
          have HD := Lib.hid hD
          generalize hlw : Pl.hlows xs mo j = lows at *
          have HLWS := Lib.hid hlw
          clear hD hlw HLW0
          by_cases hneg : D < 0
          · have c10 := B10.out.cell
            have c8 := B8.out.cell
            have f8 := B8.out.frozen
            go_wp2_with fail
            have E8 := Lib.hid ((B8.out.set_ 0 (.slice none 0 0)).set_ 1 (.int .i64 0))
            have k7 := E8.out.cell
            refine bodyPost_ret (v := .tuple #[.agg #[.slice none 0 0, .int .i64 0], .int .i64 8]) (by simp [results, Try.results42, go_sem, k7]) rfl ⟨?_, .inl ⟨by rw [HD.out]; exact hneg, rfl⟩⟩
            exact ((HB.out.setCell (by simp) _).setCell (by simp) _)
          · have HBK : Hid (∀ b ∈ Pl.hblocks (plo l) xs mo j, Pl.GoodB j b) := Pl.hblocks_good HGD.out (Nat.le_refl _)
            have HSORT := Lib.hid (sortH_own (g7 + 1) Ab cb (Pl.hblocks (plo l) xs mo j) wr (by omega) (fun b hb => ⟨(HBK.out b hb).2.2.2.2.1, (HBK.out b hb).2.2.2.2.2⟩) OF.out)
            generalize hS : Pl.hblocks (plo l) xs mo j = S at *
            have HS := Lib.hid hS
            clear hS
            go_wp2_with fail
            refine HSORT.out.mono ?_
            rintro e w6 ⟨rfl, bs, hperm, hsort, hix, hown, hgr⟩
            have n7 := own_ne OF.out (g := g7) (.inl (by omega))
            have n8 := own_ne OF.out (g := w.heap.size) (.inl (by omega))
            have n10 := own_ne OF.out (g := w.heap.size + 1) (.inl (by omega))
            have HB6 := Lib.hid (below_grown HB.out hgr OF.out (by omega) HB.out.size)
            have IB6 := Lib.hid (IB.out.grown hgr n7)
            have B86 := Lib.hid (B8.out.grown hgr n8)
            have B106 := Lib.hid (B10.out.grown hgr n10)
            have HSZ6 : Hid (g7 + 1 ≤ w6.heap.size) := Nat.le_trans hsz.out hgr.size
            have OF6 := Lib.hid hown
            have HPM := Lib.hid hperm
            have HSD := Lib.hid hsort
            have HIX := Lib.hid hix
            have HGB : Hid (∀ b ∈ bs, Pl.GoodB j b) := fun b hb => HBK.out b (HPM.out.mem_iff.1 hb)
            have HBL : Hid (bs.length = S.length) := hperm.length_eq
            have HFB : Hid (∀ q, Pl.HFillBd j D (Pl.hfill lows D (bs.take q))) := fun q => Pl.hfill_bd (by omega) HLL.out HLBD.out _ fun b hb => HGB.out b (List.mem_of_mem_take hb)
            clear n7 n8 n10 hperm hsort hix hown hgr HB IB B8 B10 hsz OF HSORT HBK
            generalize hm : S.length = m at *
            have HM := Lib.hid hm
            clear hm
            go_wp2_with fail
            go_loopw [2, 143] (fun v2 i wr => ∃ (q : Nat) (os : List Int) (cs dm : Int), q ≤ m ∧ i = .int .i64 q ∧ v2 = .int .i64 dm ∧ Hid (Pl.hfill lows D (bs.take q) = (os, cs, dm)) ∧ Hid (IBlk wr g7 3 os) ∧ Hid (wr.ownsRow (g7 + 1) 126 3 (.slice Ab m cb) m (bs.flatMap Srt.encH)) ∧ Hid (Blk wr w.heap.size 79 #[.slice none 0 0, .int .i64 0]) ∧ Hid (Blk wr (w.heap.size + 1) 79 #[.slice none 0 0, .int .i64 0]) ∧ Hid (Below w.heap.size w wr) ∧ Hid (g7 + 1 ≤ wr.heap.size)) (fun _ i _ => m - (intOf i).toNat)
            case atStart => exact ⟨0, lows, 0, D, Nat.zero_le _, rfl, rfl, rfl, IB6, OF6, B86, B106, HB6, HSZ6⟩
            case round =>
              clear IB6 OF6 B86 B106 HB6 HSZ6
              obtain ⟨q, os, cs, dm, hq, rfl, rfl, HF, IB, OF, B8, B10, HB, HSZ⟩ := hrel
              have hfb := HFB.out q
              rw [HF.out] at hfb
              obtain ⟨f0, f1, f4, f5⟩ := hfb
              simp only at f0 f1 f4 f5
              have HOL := Lib.hid f4
              have HOB := Lib.hid f5
              clear f4 f5
              have hszr := HSZ.out
              by_cases hlt : q < m
              · obtain ⟨b, o, rfl, hl1, c1, c2, c3⟩ := (Reads.of_own OF.out).b3h_at hlt
                obtain ⟨g0, g1, g2, g3, g4, g5⟩ := HGB.out _ (List.getElem_mem hl1)
                have HSN : Hid (Pl.hfill lows D (bs.take (q + 1)) = Pl.dstep (os, cs, dm) bs[q]) := by show _ = _; rw [List.take_succ_eq_append_getElem hl1, Pl.hfill_snoc, HF.out]
                generalize bs[q] = x at *
                obtain ⟨x1, x2, x3⟩ := x
                simp only at c1 c2 c3 g0 g1 g2 g3 g4 g5
                obtain ⟨gi, rfl⟩ := Int.eq_ofNat_of_zero_le g0
                have gk : gi < j := by omega
                have IB1 := Lib.hid (IB.out.alloc (.cells #[.int .i64 gi, .int .i64 x2, .int .i64 x3] 126))
                have hgb := HOB.out gi
                have co := IB1.out.cell gi (by rw [HOL.out]; exact gk)
                have fo := IB1.out.frozen
                have IBS := Lib.hid (IB1.out.set_ gi (os.getD gi 0 + min dm x2))
                generalize hov : os.getD gi 0 = ov at *
                have HOV := Lib.hid hov
                clear hov
                have gi0 : (0 : Int) ≤ (gi : Int) := g0
                have B8S := Lib.hid ((B8.out.alloc (.cells #[.int .i64 gi, .int .i64 x2, .int .i64 x3] 126)).far (p := ⟨g7, gi, none⟩) (by show w.heap.size ≠ g7; omega) (.int .i64 (ov + min dm x2)))
                have B10S := Lib.hid ((B10.out.alloc (.cells #[.int .i64 gi, .int .i64 x2, .int .i64 x3] 126)).far (p := ⟨g7, gi, none⟩) (by show w.heap.size + 1 ≠ g7; omega) (.int .i64 (ov + min dm x2)))
                have OFS := Lib.hid (own_far (OF.out.alloc (.cells #[.int .i64 gi, .int .i64 x2, .int .i64 x3] 126)) (p := ⟨g7, gi, none⟩) (by show g7 < g7 + 1; omega) (.int .i64 (ov + min dm x2)))
                have HBS := Lib.hid ((HB.out.alloc HB.out.size (.cells #[.int .i64 gi, .int .i64 x2, .int .i64 x3] 126)).setCell (p := ⟨g7, gi, none⟩) (by show w.heap.size ≤ g7; omega) (.int .i64 (ov + min dm x2)))
                have hmn := HMN.out
                have HST : Hid (Pl.dstep (os, cs, dm) ((gi : Int), x2, x3) = (os.set gi (ov + min dm x2), cs + min dm x2 * x3, dm - min dm x2)) := by
                  show (os.set _ _, _, _) = _
                  simp only [Int.toNat_natCast]
                  rw [HOV.out]
                rw [HST.out] at HSN
                go_wp2_with fail
                go_roundw
                case rel => exact ⟨q + 1, _, _, _, by omega, by go_num, rfl, HSN, IBS, OFS, B8S, B10S, HBS, by show _ ≤ _; simp; omega⟩
                case measure => simp [intOf]; omega
              · have : q = m := by omega
                subst this
                have HTK : Hid (bs.take q = bs) := List.take_of_length_le (by rw [HBL.out]; exact Nat.le_refl _)
                rw [HTK.out] at HF
                by_cases hdm : 0 < dm
                · have c10 := B10.out.cell
                  have c8 := B8.out.cell
                  have f8 := B8.out.frozen
                  go_wp2_with fail
                  have E8 := Lib.hid ((B8.out.set_ 0 (.slice none 0 0)).set_ 1 (.int .i64 0))
                  have k7 := E8.out.cell
                  refine bodyPost_ret (v := .tuple #[.agg #[.slice none 0 0, .int .i64 0], .int .i64 8]) (by simp [results, Try.results42, go_sem, k7]) rfl (hchange_end HD.out HS.out HLWS.out (by omega) HPM.out HSD.out (by rw [HM.out]; exact HIX.out) HF.out ?_ (.inl ⟨hdm, rfl⟩))
                  exact ((HB.out.setCell (by simp) _).setCell (by simp) _)
                · go_wp2_with fail
                  have BR := Lib.hid (Blk.new_ wr wr.heap.size 79 #[.slice none 0 0, .int .i64 0] rfl)
                  have IBR := Lib.hid (IB.out.alloc (.cells #[.slice none 0 0, .int .i64 0] 79))
                  have B8R := Lib.hid (B8.out.alloc (.cells #[.slice none 0 0, .int .i64 0] 79))
                  have HBR := Lib.hid (HB.out.alloc HB.out.size (.cells #[.slice none 0 0, .int .i64 0] 79))
                  have HSZR : Hid (wr.heap.size + 1 ≤ (wr.alloc (.cells #[.slice none 0 0, .int .i64 0] 79)).heap.size) := by show _ ≤ _; simp
                  have g8lt : w.heap.size < g7 := by omega
                  have hj0 : 0 ≤ Pl.hcostK (plo l) os xs 0 := Int.le_refl _
                  clear HB IB B8 B10 OF HSZ
                  generalize wr.alloc (.cells #[.slice none 0 0, .int .i64 0] 79) = w10 at *
                  generalize wr.heap.size = g27 at *
                  go_loopw [168] (fun i wr => ∃ (t : Nat) (Ar : Option Addr) (cr : Nat) (ys : List Int), t ≤ j ∧ i = .int .i64 t ∧ Hid (Blk wr g27 79 #[.slice Ar t cr, .int .i64 (Pl.hcostK (plo l) os xs t)]) ∧ Hid (wr.ownsRow (g27 + 1) 3 1 (.slice Ar t cr) t (ints ys)) ∧ Hid (IBlk wr g7 3 os) ∧ Hid (Blk wr w.heap.size 79 #[.slice none 0 0, .int .i64 0]) ∧ Hid (Below w.heap.size w wr) ∧ Hid (g27 + 1 ≤ wr.heap.size)) (fun i _ => j - (intOf i).toNat)
                  case atStart => exact ⟨0, none, 0, [], Nat.zero_le _, rfl, BR, World.ownsRow_nil _ _ _ _, IBR, B8R, HBR, HSZR⟩
                  case round =>
                    clear BR IBR B8R HBR HSZR
                    obtain ⟨t, Ar, cr, ys, ht, rfl, BR, OW, IB, B8, HB, HSZ⟩ := hrel
                    have hcb := Pl.hcostK_bd os xs (n := t) (fun k hk => HGD.out k (by omega))
                    by_cases hltt : t < j
                    · obtain ⟨b, o, rfl, hl1, c1, c2, _⟩ := (H.out.go HB.out).at_ hltt
                      obtain ⟨b', o', rfl, hl2, q1⟩ := (hp.go HB.out).int_at hltt
                      have hxe : xs.getD t 0 = xs[t] := by rw [List.getD_eq_getElem?_getD, List.getElem?_eq_getElem hl2]; rfl
                      rw [← hxe] at q1
                      have hxk := HX.out t hltt
                      have hxk2 := HX2.out t hltt
                      have hob := HOB.out t
                      have oc1 := Pl.ocK_bd os (HGD.out t hltt)
                      have oc2 := Pl.ocK_bd xs (HGD.out t hltt)
                      have HCN : Hid (Pl.hcostK (plo l) os xs (t + 1) = Pl.hcostK (plo l) os xs t + (Pl.ocK (plo l) os t - Pl.ocK (plo l) xs t)) := rfl
                      have HIN := Lib.hid (H.out.2 _ (List.getElem_mem hl1))
                      have HC1 := Lib.hid (fun w2 hr => HCA.out os t hltt hl1 w2 hr HIN.out.1)
                      have HC2 := Lib.hid (fun w2 hr => HCA.out xs t hltt hl1 w2 hr HIN.out.1)
                      have cp := IB.out.cell t (by rw [HOL.out]; exact hltt)
                      clear hxe
                      generalize l[t] = z at *
                      obtain ⟨nm, Az, nz, cz, st⟩ := z
                      simp only at c1 c2 HC1 HC2
                      have hx0 := hxk.1
                      clear hxk
                      generalize hxx : xs.getD t 0 = x at *
                      generalize hpp : os.getD t 0 = pw at *
                      clear hxx hpp
                      generalize Pl.ocK (plo l) os t = ca at *
                      generalize Pl.ocK (plo l) xs t = cb2 at *
                      generalize Pl.hcostK (plo l) os xs t = ch at *
                      have HBN := Lib.hid (HB.out.alloc HB.out.size (.cells #[.string nm, .slice Az nz cz] 57))
                      have BN := Lib.hid (Blk.new_ wr wr.heap.size 57 #[.string nm, .slice Az nz cz] rfl)
                      have BRN := Lib.hid (BR.out.alloc (.cells #[.string nm, .slice Az nz cz] 57))
                      have B8N := Lib.hid (B8.out.alloc (.cells #[.string nm, .slice Az nz cz] 57))
                      have IBN := Lib.hid (IB.out.alloc (.cells #[.string nm, .slice Az nz cz] 57))
                      have OWN := Lib.hid (OW.out.alloc (.cells #[.string nm, .slice Az nz cz] 57))
                      have q4 : (wr.alloc (.cells #[.string nm, .slice Az nz cz] 57)).cell? ⟨b', o' + t, none⟩ = some (.int .i64 x) := by rw [World.cell?_alloc_some _ _ _ (by rw [q1]; rfl)]; exact q1
                      have q5 : (wr.alloc (.cells #[.string nm, .slice Az nz cz] 57)).cell? ⟨g7, t, none⟩ = some (.int .i64 pw) := by rw [World.cell?_alloc_some _ _ _ (by rw [cp]; rfl)]; exact cp
                      have k1 : (0 : Int) ≤ (t : Int) := by omega
                      have k2 : (t : Int) < (j : Int) := by omega
                      have hszr := HSZ.out
                      have HSZN : Hid (g27 + 1 ≤ (wr.alloc (.cells #[.string nm, .slice Az nz cz] 57)).heap.size) := by show _ ≤ _; simp; omega
                      go_wp2_with fail
                      clear c1 c2 q1 cp HB BR B8 IB OW HSZ
                      generalize wr.alloc (.cells #[.string nm, .slice Az nz cz] 57) = w2 at *
                      generalize wr.heap.size = bn at *
                      have r0 := Wd.cell (BN.out.cell 0)
                      have r1 := Wd.cell (BN.out.cell 1)
                      have s4 := Wd.cell q4
                      have s5 := Wd.cell q5
                      refine wp_region_wd (by kernel_rfl) (by kernel_rfl) ?_
                      repeat (go_big_quiet_step ((go_at_call 63; exact Calls.wd (HC1.out _ (HIN.out.2.2.go (HBN.out.trans ((Wd.ok _).mono HBN.out.size)))))))
                      refine wpQuiet_nil ?_
                      rintro _ ⟨w6, rfl⟩
                      have HBN := Lib.hid (HBN.out.trans (w6.ok.mono HBN.out.size))
                      have BN := Lib.hid (BN.out.go w6.ok)
                      have BRN := Lib.hid (BRN.out.go w6.ok)
                      have B8N := Lib.hid (B8N.out.go w6.ok)
                      have IBN := Lib.hid (IBN.out.go w6.ok)
                      have OWN := Lib.hid (own_go OWN.out w6.ok)
                      have q4 := s4 w6
                      have q5 := s5 w6
                      have HSZN := Lib.hid (Nat.le_trans HSZN.out w6.ok.size)
                      clear r0 r1 s4 s5
                      generalize w6.val = w3 at *
                      go_wp2_with fail
                      have r0 := Wd.cell (BN.out.cell 0)
                      have r1 := Wd.cell (BN.out.cell 1)
                      have s4 := Wd.cell q4
                      have s5 := Wd.cell q5
                      refine wp_region_wd (by kernel_rfl) (by kernel_rfl) ?_
                      repeat (go_big_quiet_step ((go_at_call 63; exact Calls.wd (HC2.out _ (HIN.out.2.2.go (HBN.out.trans ((Wd.ok _).mono HBN.out.size)))))))
                      refine wpQuiet_nil ?_
                      rintro _ ⟨w7, rfl⟩
                      have HBN := Lib.hid (HBN.out.trans (w7.ok.mono HBN.out.size))
                      have BRN := Lib.hid (BRN.out.go w7.ok)
                      have B8N := Lib.hid (B8N.out.go w7.ok)
                      have IBN := Lib.hid (IBN.out.go w7.ok)
                      have OWN := Lib.hid (own_go OWN.out w7.ok)
                      have q4 := s4 w7
                      have q5 := s5 w7
                      have HSZN := Lib.hid (Nat.le_trans HSZN.out w7.ok.size)
                      clear r0 r1 s4 s5 BN
                      generalize w7.val = w4 at *
                      have q6 : w4.cell? ⟨g27, 0, none⟩ = some (.slice Ar t cr) := BRN.out.cell 0
                      have hszw := HSZN.out
                      have b'lt := cell_lt q4
                      have b'lt2 : b' < w.heap.size := by
                        obtain ⟨_, _, e, _, d5⟩ := hp.int_at hltt
                        injection e with e; injection e with e1 e2; subst e1 e2
                        exact cell_lt d5
                      have G27 : (Value.slice Ar t cr).ownBlock ≠ some g27 := fun h => own_ne OWN.out (g := g27) (.inl (by omega)) h.symm
                      have G7 : (Value.slice Ar t cr).ownBlock ≠ some g7 := fun h => own_ne OWN.out (g := g7) (.inl (by omega)) h.symm
                      have Gb : (Value.slice Ar t cr).ownBlock ≠ some b' := fun h => own_ne OWN.out (g := b') (.inl (by omega)) h.symm
                      have G8 : (Value.slice Ar t cr).ownBlock ≠ some w.heap.size := fun h => own_ne OWN.out (g := w.heap.size) (.inl (by omega)) h.symm
                      have Q1 : t + 1 ≤ maxLen := by unfold maxLen; omega
                      have Q2 : (t + 1) * 8 ≤ 140737488355328 := by omega
                      have wy : IntKind.i64.wrap (pw - x) = pw - x := IntWalk.i64_in _ (by omega)
                      go_wp2_with fail
                      have q6a : (w4.alloc (.cells #[.int .i64 (pw - x)] 3)).cell? ⟨g27, 0, none⟩ = some (.slice Ar t cr) := by rw [World.cell?_alloc_some _ _ _ (by rw [q6]; rfl)]; exact q6
                      go_region_law ((refine step_append_lies _ (by rfl) _ _ _ (by rfl) (g27 + 1) 3 j0 _ 1 8 Try.underlying22 ji0 jz0 jz1 jz2 rfl (by omega) (.slice Ar t cr) t (ints ys) (by rfl) ((OWN.out.alloc _).drew) ⟨w4.heap.size, 0, none⟩ 1 1 [.int .i64 (pw - x)] (by rfl) (by rfl) (World.news_of_block (cs := #[.int .i64 (pw - x)]) (t := 3) (fr := (0, 0)) (heap_alloc_new w4 _)) (by simp [Value.oneCell']) (by omega) Q1 Q2 (by simp; omega) (w4.heap.size + 1) (by simp) ?_; intro gg cap w8 hown3 hgrow hat hlt3; have BR8 := Lib.hid ((BRN.out.alloc (.cells #[.int .i64 (pw - x)] 3)).drew.grown hgrow (Ne.symm G27)); have k8 := BR8.out.cell; have f8 := BR8.out.frozen))
                      all_goals
                        have G8w := Ne.symm G8
                        have BRS := Lib.hid (BR8.out.set_ 0 (.slice (some ⟨gg, 0, none⟩) (t + 1) cap))
                        have BRS2 := Lib.hid (BRS.out.set_ 1 (.int .i64 (ch + (ca - cb2))))
                        have IBS := Lib.hid (((((IBN.out.alloc (.cells #[.int .i64 (pw - x)] 3)).drew.grown hgrow (Ne.symm G7)).far (p := ⟨g27, 0, none⟩) (by show g7 ≠ g27; omega) (.slice (some ⟨gg, 0, none⟩) (t + 1) cap)).far (p := ⟨g27, 1, none⟩) (by show g7 ≠ g27; omega) (.int .i64 (ch + (ca - cb2)))))
                        have B8S := Lib.hid (((((B8N.out.alloc (.cells #[.int .i64 (pw - x)] 3)).drew.grown hgrow G8w).far (p := ⟨g27, 0, none⟩) (by show w.heap.size ≠ g27; omega) (.slice (some ⟨gg, 0, none⟩) (t + 1) cap)).far (p := ⟨g27, 1, none⟩) (by show w.heap.size ≠ g27; omega) (.int .i64 (ch + (ca - cb2)))))
                        have OWS := Lib.hid (own_far (own_far hown3 (p := ⟨g27, 0, none⟩) (by show g27 < g27 + 1; omega) (.slice (some ⟨gg, 0, none⟩) (t + 1) cap)) (p := ⟨g27, 1, none⟩) (by show g27 < g27 + 1; omega) (.int .i64 (ch + (ca - cb2))))
                        have HBS := Lib.hid (((below_grown (HBN.out.alloc HBN.out.size (.cells #[.int .i64 (pw - x)] 3)).drew hgrow (OWN.out.alloc _).drew (by omega) (by have := HBN.out.size; simp; omega)).setCell (p := ⟨g27, 0, none⟩) (by show w.heap.size ≤ g27; omega) (.slice (some ⟨gg, 0, none⟩) (t + 1) cap)).setCell (p := ⟨g27, 1, none⟩) (by show w.heap.size ≤ g27; omega) (.int .i64 (ch + (ca - cb2))))
                        have HSZS : Hid (g27 + 1 ≤ w8.heap.size) := by have := hgrow.size; simp at this; show _ ≤ _; omega
                        have k9 := BRS.out.cell
                        have f9 := BRS.out.frozen
                        clear hgrow hown3 hat hlt3 k8 f8 BR8 q4 q5 q6 q6a G27 G7 Gb G8 G8w
                        go_wp2_with fail
                        go_roundw
                        case rel =>
                          refine ⟨t + 1, some ⟨gg, 0, none⟩, cap, ys ++ [pw - x], by omega, by go_num, ?_, ?_, IBS, B8S, HBS, ?_⟩
                          · rw [HCN.out]; exact BRS2.out
                          · have := OWS.out
                            unfold ints at this ⊢
                            rw [List.map_append]
                            exact this
                          · show _ ≤ _
                            simp
                            exact HSZS.out
                        case measure => simp [intOf]; omega
                    · have : t = j := by omega
                      subst this
                      have c27 := BR.out.cell
                      have c8 := B8.out.cell
                      have f8 := B8.out.frozen
                      go_wp2_with fail
                      have E8 := Lib.hid ((B8.out.set_ 0 (.slice Ar t cr)).set_ 1 (.int .i64 (Pl.hcostK (plo l) os xs t)))
                      have k7 := E8.out.cell
                      refine bodyPost_ret (v := .tuple #[.agg #[.slice Ar t cr, .int .i64 (Pl.hcostK (plo l) os xs t)], .int .i64 0]) (by simp [results, Try.results42, go_sem, k7]) rfl (hchange_end HD.out HS.out HLWS.out (by omega) HPM.out HSD.out (by rw [HM.out]; exact HIX.out) HF.out ?_ (.inr ⟨by omega, Ar, cr, rfl⟩))
                      exact ((HB.out.setCell (by simp) _).setCell (by simp) _)
end Go.Proofs.Ytpbomomgjhbljaa
