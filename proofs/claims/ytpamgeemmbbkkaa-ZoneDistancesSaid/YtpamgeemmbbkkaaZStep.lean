/- The inner function 'step' of zone's reach does what its plain step does. Condition: the network reads, the lengths are the call's own and are not great. -/
import Derived.Test.YtpamgeemmbbkkaaNet
import Derived.Test.YtpamgeemmbbkkaaPZone
import Derived.Test.YtpamgeemmbbkkaaQuiet
import Derived.BigQuiet
namespace Go.Proofs.Ytpamgeemmbbkkaa
open Go.RowKit
set_option maxRecDepth 100000
/-- only the blocks g and h and new ones were written -/
structure OnlyZ (g h : Nat) (w w' : World) : Prop where
  os : w'.os = w.os
  tape : w'.tape = w.tape
  output : w'.output = w.output
  size : w.heap.size ≤ w'.heap.size
  block : ∀ b, b < w.heap.size → b ≠ g → b ≠ h → w'.heap[b]? = w.heap[b]?
section
variable {g h : Nat} {w w' w2 : World}
theorem OnlyZ.refl (g h : Nat) (w : World) : OnlyZ g h w w := ⟨rfl, rfl, rfl, Nat.le_refl _, fun _ _ _ _ => rfl⟩
theorem OnlyZ.trans (a : OnlyZ g h w w') (b : OnlyZ g h w' w2) : OnlyZ g h w w2 :=
  ⟨b.os.trans a.os, b.tape.trans a.tape, b.output.trans a.output, Nat.le_trans a.size b.size, fun x hx h1 h2 => (b.block x (Nat.lt_of_lt_of_le hx a.size) h1 h2).trans (a.block x hx h1 h2)⟩
theorem OnlyZ.drewN (a : OnlyZ g h w w') (n : Nat) : OnlyZ g h w (w'.drewN n) := ⟨a.os, a.tape, a.output, a.size, a.block⟩
theorem OnlyZ.drew (a : OnlyZ g h w w') : OnlyZ g h w w'.drew := ⟨a.os, a.tape, a.output, a.size, a.block⟩
theorem OnlyZ.of_below (a : Below w.heap.size w w') : OnlyZ g h w w' := ⟨a.os, a.tape, a.output, a.size, fun b hb _ _ => a.block b hb⟩
theorem OnlyZ.blk (a : OnlyZ g h w w') {x : Nat} {t : TypeId} {cs : Array Value} (hb : Blk w x t cs) (h1 : x ≠ g) (h2 : x ≠ h) : Blk w' x t cs := (a.block x hb.lt h1 h2).trans hb
theorem OnlyZ.below {B : Nat} (a : OnlyZ g h w w') (h1 : B ≤ g) (h2 : B ≤ h) (h3 : B ≤ w.heap.size) : Below B w w' :=
  ⟨a.os, a.tape, a.output, a.size, fun b hb => a.block b (by omega) (by omega) (by omega)⟩
theorem OnlyZ.set1 (g h : Nat) (w : World) (i : Nat) (u : Value) : OnlyZ g h w (w.setCell ⟨g, i, none⟩ u) :=
  ⟨rfl, rfl, rfl, by simp, fun b _ h1 _ => Below.heap_setCell w ⟨g, i, none⟩ u b (by simpa using h1)⟩
theorem OnlyZ.set2 (g h : Nat) (w : World) (i : Nat) (u : Value) : OnlyZ g h w (w.setCell ⟨h, i, none⟩ u) :=
  ⟨rfl, rfl, rfl, by simp, fun b _ _ h2 => Below.heap_setCell w ⟨h, i, none⟩ u b (by simpa using h2)⟩
end
def Pl.runZ : Nat → List Int × Bool → Int → Int → Int → List Int × Bool
  | 0, s, _, _, _ => s
  | m + 1, s, i, k, l => Pl.runZ m (Pl.halfZ s i k l) k i l
theorem Pl.farAt_getD {far : List Int} {i : Int} {k : Nat} (h : i = k) : far.getD k 0 = Pl.farAt far i := by subst h; rfl
set_option maxHeartbeats 3200000 in
theorem zstep_any (M : MNet) (gn gf gr ga : Nat) (far : List Int) (n : Nat) (b : Bool) (x y : ByteArray) (l : Int) (w : World) (hM : NetIn w w.heap.size M) (hn : Blk w gn 29 (netC M)) (hf : Blk w gf 45 #[.slice (some ⟨gr, 0, none⟩) n n])
    (hr : IBlk w gr 3 far) (ha : Blk w ga 4 #[.bool b]) (hl : far.length = n) (hx : 0 ≤ Pl.idxT M.N.nodes x ∧ Pl.idxT M.N.nodes x < n) (hy : 0 ≤ Pl.idxT M.N.nodes y ∧ Pl.idxT M.N.nodes y < n)
    (hL : 0 ≤ l ∧ l ≤ 10000000) (hK : ∀ v, Pl.farAt far v ≤ 1000000000000) (d1 : gf ≠ gr) (d2 : gf ≠ ga) (d3 : ga ≠ gr) :
    Calls Try.prog 88 #[.string x, .string y, .int .i64 l, .pointer (some ⟨gn, 0, none⟩), .pointer (some ⟨gf, 0, none⟩), .pointer (some ⟨ga, 0, none⟩)] w fun e w' =>
      e = .returned (.tuple #[]) ∧ IBlk w' gr 3 (Pl.stepZ (far, b) (Pl.idxT M.N.nodes x) (Pl.idxT M.N.nodes y) l).1 ∧ Blk w' ga 4 #[.bool (Pl.stepZ (far, b) (Pl.idxT M.N.nodes x) (Pl.idxT M.N.nodes y) l).2] ∧ OnlyZ gr ga w w' := by
  have C0 := Lib.hid (fun (x : ByteArray) (w1 : World) (hb : Below w.heap.size w w1) => index_txt M.A0 M.n0 M.c0 M.N.nodes x w1 w1.heap.size hM.z0 (hM.go hb).r0)
  change Hid (∀ (x : ByteArray) (w1 : World), Below w.heap.size w w1 → Calls Try.prog _ _ w1 fun e w' => e = .returned (.int .i64 (Pl.idxT M.N.nodes x)) ∧ w' = w1) at C0
  have HN := Lib.hid hn
  have HF := Lib.hid hf
  have HR := Lib.hid hr
  have HA := Lib.hid ha
  have HL := Lib.hid hl
  have HK := Lib.hid hK
  clear hM hn hf hr ha hl hK
  obtain ⟨N, A0, n0, c0, A1, n1, c1, A2, n2, c2, A3, n3, c3, A4, n4, c4, A5, n5, c5⟩ := M
  unfold netC at *
  simp only at *
  generalize Pl.idxT N.nodes = ix at *
  have HST : Hid (∃ S, S = Pl.stepZ (far, b) (ix x) (ix y) l) := ⟨_, rfl⟩
  obtain ⟨S, hS⟩ := HST.out
  rw [← hS]
  have HSR : Hid (Pl.runZ 2 (far, b) (ix x) (ix y) l = S) := by show _ = _; rw [hS]; rfl
  clear hS HST
  have e0 := Wd.cell (HN.out.cell 0 : w.cell? ⟨gn, 0, none⟩ = some (.slice A0 n0 c0))
  go_enter Try.func88, Try.ntmps88
  go_wp2_with fail
  refine wp_region_wd (by kernel_rfl) (by kernel_rfl) ?_
  repeat (go_big_quiet_step ((go_at_call 51; exact Calls.wd_same ((C0.out _ _ (Wd.ok _)).mono fun e w' h => ⟨h.1, h.2.symm⟩))))
  refine wpQuiet_nil ?_
  rintro _ ⟨w6, rfl⟩
  have F1 := Lib.hid (HF.out.go w6.ok)
  have R1 := Lib.hid (HR.out.go w6.ok)
  have A1 := Lib.hid (HA.out.go w6.ok)
  have O1 : Hid (OnlyZ gr ga w w6.val) := OnlyZ.of_below w6.ok
  clear e0 HN HF HR HA C0
  generalize ix x = i at *
  generalize ix y = k at *
  generalize w6.val = w1 at *
  clear w6
  have HI0 := hx.1
  have HI1 := hx.2
  have HK0 := hy.1
  have HK1 := hy.2
  have HL0 := hL.1
  have HL1 := hL.2
  clear hx hy hL
  go_wp2_with fail
  go_loopw [9, 10, 19] (fun vi vk vt wr => ∃ (t : Nat) (i2 k2 : Int) (f2 : List Int) (b2 : Bool), t ≤ 2 ∧ vt = .int .i64 t ∧ vi = .int .i64 i2 ∧ vk = .int .i64 k2 ∧ 0 ≤ i2 ∧ i2 < n ∧ 0 ≤ k2 ∧ k2 < n ∧ Hid (Pl.runZ (2 - t) (f2, b2) i2 k2 l = S) ∧ Hid (f2.length = n) ∧ Hid (∀ v, Pl.farAt f2 v ≤ 1000000000000 + t * 10000000) ∧ Hid (IBlk wr gr 3 f2) ∧ Hid (Blk wr ga 4 #[.bool b2]) ∧ Hid (Blk wr gf 45 #[.slice (some ⟨gr, 0, none⟩) n n]) ∧ Hid (OnlyZ gr ga w wr)) (fun _ _ vt _ => 2 - (intOf vt).toNat)
  case atStart => exact ⟨0, i, k, far, b, by omega, rfl, rfl, rfl, HI0, HI1, HK0, HK1, HSR.out, HL.out, (fun v => by have := HK.out v; omega), R1.out, A1.out, F1.out, O1.out⟩
  case round =>
    clear R1 A1 F1 O1 HK HL HSR HI0 HI1 HK0 HK1
    obtain ⟨t, i2, k2, f2, b2, ht, rfl, rfl, rfl, hi0, hi1, hk0, hk1, HS, HL, HB, HR, HA, HF, HO⟩ := hrel
    by_cases ht2 : t < 2
    · have c1 := HR.out.cell i2.toNat (by rw [HL.out]; omega)
      have c2 := HR.out.cell k2.toNat (by rw [HL.out]; omega)
      have c3 : wr.cell? ⟨gf, 0, none⟩ = some (.slice (some ⟨gr, 0, none⟩) n n) := HF.out.cell 0
      rw [Pl.farAt_getD (i := i2) (by omega)] at c1
      rw [Pl.farAt_getD (i := k2) (by omega)] at c2
      have b1 := HB.out i2
      have hpi : (i2.toNat : Int) = i2 := by omega
      have hpk : (k2.toNat : Int) = k2 := by omega
      have HST : Hid (Pl.runZ (2 - (t + 1)) (Pl.halfZ (f2, b2) i2 k2 l) k2 i2 l = S) := by
        have h := HS.out
        rw [show 2 - t = (2 - (t + 1)) + 1 by omega] at h
        exact h
      have HNO : Hid (¬ (0 ≤ Pl.farAt f2 i2 ∧ (Pl.farAt f2 k2 < 0 ∨ Pl.farAt f2 i2 + l < Pl.farAt f2 k2)) → Pl.runZ (2 - (t + 1)) (f2, b2) k2 i2 l = S) := by
        intro h
        have h2 := HST.out
        unfold Pl.halfZ at h2
        rw [if_neg h] at h2
        exact h2
      have HYE : Hid ((0 ≤ Pl.farAt f2 i2 ∧ (Pl.farAt f2 k2 < 0 ∨ Pl.farAt f2 i2 + l < Pl.farAt f2 k2)) → Pl.runZ (2 - (t + 1)) (f2.set k2.toNat (Pl.farAt f2 i2 + l), true) k2 i2 l = S) := by
        intro h
        have h2 := HST.out
        unfold Pl.halfZ at h2
        rw [if_pos h] at h2
        exact h2
      have HB2 : Hid (∀ v, Pl.farAt (f2.set k2.toNat (Pl.farAt f2 i2 + l)) v ≤ 1000000000000 + ((t + 1 : Nat) : Int) * 10000000) := by
        intro v
        rcases Int.lt_or_le v 0 with hv | hv
        · have e : Pl.farAt (f2.set k2.toNat (Pl.farAt f2 i2 + l)) v = Pl.farAt (f2.set k2.toNat (Pl.farAt f2 i2 + l)) 0 := by unfold Pl.farAt; rw [show v.toNat = (0 : Int).toNat by omega]
          rw [e, Pl.farAt_set _ _ _ _ ⟨hk0, by rw [HL.out]; exact hk1⟩ (by omega)]
          have := HB.out 0
          split <;> omega
        · rw [Pl.farAt_set _ _ _ _ ⟨hk0, by rw [HL.out]; exact hk1⟩ hv]
          have := HB.out v
          split <;> omega
      have HLS : Hid ((f2.set k2.toNat (Pl.farAt f2 i2 + l)).length = n) := by show _ = _; rw [List.length_set]; exact HL.out
      have kz := HR.out.frozen
      have kza := HA.out.frozen
      have kal : ga < wr.heap.size := HA.out.lt
      have HF3 : Hid (∃ f3, f2.set k2.toNat (Pl.farAt f2 i2 + l) = f3) := ⟨_, rfl⟩
      have HRC := Lib.hid HR.out.cell
      obtain ⟨f3, hf3⟩ := HF3.out
      rw [hf3] at HYE HB2 HLS
      have HFE := Lib.hid hf3
      clear hf3 HF3 HRC
      generalize hfi : Pl.farAt f2 i2 = fi at *
      clear hfi
      generalize hfk : Pl.farAt f2 k2 = fk at *
      clear hfk
      clear HST HS
      have ht2c : (t : Int) < 2 := by omega
      have kgr : ga ≠ gr := d3
      by_cases hc0 : 0 ≤ fi
      · have hd0 : decide (0 ≤ fi) = true := by simp [hc0]
        have hwr : IntKind.i64.wrap (fi + l) = fi + l := IntWalk.i64_in _ (by omega)
        by_cases hc1 : fk < 0
        · have hd1 : decide (fk < 0) = true := by simp [hc1]
          have HY := Lib.hid (HYE.out ⟨hc0, .inl hc1⟩)
          clear hc0 hc1 HYE HNO
          go_wp2_with fail
          go_quiet (fail)
          have HRq := Lib.hid (Blk.drewN HR.out nq : IBlk (wr.drewN nq) gr 3 f2)
          have HAq := Lib.hid (HA.out.drewN nq)
          have HFq := Lib.hid (HF.out.drewN nq)
          have HOq := Lib.hid (HO.out.drewN nq)
          have c1q : (wr.drewN nq).cell? ⟨gr, i2.toNat, none⟩ = _ := c1
          have c2q : (wr.drewN nq).cell? ⟨gr, k2.toNat, none⟩ = _ := c2
          have c3q : (wr.drewN nq).cell? ⟨gf, 0, none⟩ = _ := c3
          have kzq : ∀ k, (wr.drewN nq).frozen? ⟨gr, k, none⟩ = false := kz
          have kzaq : ∀ k, (wr.drewN nq).frozen? ⟨ga, k, none⟩ = false := kza
          have kalq : ga < (wr.drewN nq).heap.size := kal
          have kacq : (wr.drewN nq).cell? ⟨ga, 0, none⟩ = some (.bool b2) := HAq.out.cell 0
          clear c1 c2 c3 kz kza kal HR HA HF HO
          generalize wr.drewN nq = ws at *
          have HR2 := Lib.hid ((show IBlk ws.drew gr 3 f2 from HRq.out).set_ k2.toNat (fi + l))
          have HA2 := Lib.hid ((HAq.out.drew.far (p := ⟨gr, k2.toNat, none⟩) (by simpa using d3) (.int .i64 (fi + l))).set_ 0 (.bool true))
          have HR3 := Lib.hid (HR2.out.far (p := ⟨ga, 0, none⟩) (by simpa using fun h => d3 h.symm) (.bool true))
          have HF2 := Lib.hid ((HFq.out.drew.far (p := ⟨gr, k2.toNat, none⟩) (by simpa using d1) (.int .i64 (fi + l))).far (p := ⟨ga, 0, none⟩) (by simpa using d2) (.bool true))
          have HO2 := Lib.hid ((HOq.out.drew.trans (OnlyZ.set1 gr ga ws.drew k2.toNat (.int .i64 (fi + l)))).trans (OnlyZ.set2 gr ga _ 0 (.bool true)))
          rw [show f2.set k2.toNat (fi + l) = f3 from HFE.out] at HR3
          clear HR2
          go_wp2_with fail
          go_region
          go_wp2_with fail
          go_roundw
          case rel => exact ⟨t + 1, k2, i2, f3, true, by omega, by go_num, rfl, rfl, hk0, hk1, hi0, hi1, HY.out, HLS.out, HB2.out, HR3.out, HA2.out, HF2.out, HO2.out⟩
          case measure => simp [intOf]; omega
        · have hd1 : decide (fk < 0) = false := by simp; omega
          by_cases hc2 : fi + l < fk
          · have hd2 : decide (fi + l < fk) = true := by simp [hc2]
            have HY := Lib.hid (HYE.out ⟨hc0, .inr hc2⟩)
            clear hc2
            clear hc0 hc1 HYE HNO
            go_wp2_with fail
            go_quiet (fail)
            have HRq := Lib.hid (Blk.drewN HR.out nq : IBlk (wr.drewN nq) gr 3 f2)
            have HAq := Lib.hid (HA.out.drewN nq)
            have HFq := Lib.hid (HF.out.drewN nq)
            have HOq := Lib.hid (HO.out.drewN nq)
            have c1q : (wr.drewN nq).cell? ⟨gr, i2.toNat, none⟩ = _ := c1
            have c2q : (wr.drewN nq).cell? ⟨gr, k2.toNat, none⟩ = _ := c2
            have c3q : (wr.drewN nq).cell? ⟨gf, 0, none⟩ = _ := c3
            have kzq : ∀ k, (wr.drewN nq).frozen? ⟨gr, k, none⟩ = false := kz
            have kzaq : ∀ k, (wr.drewN nq).frozen? ⟨ga, k, none⟩ = false := kza
            have kalq : ga < (wr.drewN nq).heap.size := kal
            have kacq : (wr.drewN nq).cell? ⟨ga, 0, none⟩ = some (.bool b2) := HAq.out.cell 0
            clear c1 c2 c3 kz kza kal HR HA HF HO
            generalize wr.drewN nq = ws at *
            have HR2 := Lib.hid ((show IBlk ws.drew gr 3 f2 from HRq.out).set_ k2.toNat (fi + l))
            have HA2 := Lib.hid ((HAq.out.drew.far (p := ⟨gr, k2.toNat, none⟩) (by simpa using d3) (.int .i64 (fi + l))).set_ 0 (.bool true))
            have HR3 := Lib.hid (HR2.out.far (p := ⟨ga, 0, none⟩) (by simpa using fun h => d3 h.symm) (.bool true))
            have HF2 := Lib.hid ((HFq.out.drew.far (p := ⟨gr, k2.toNat, none⟩) (by simpa using d1) (.int .i64 (fi + l))).far (p := ⟨ga, 0, none⟩) (by simpa using d2) (.bool true))
            have HO2 := Lib.hid ((HOq.out.drew.trans (OnlyZ.set1 gr ga ws.drew k2.toNat (.int .i64 (fi + l)))).trans (OnlyZ.set2 gr ga _ 0 (.bool true)))
            rw [show f2.set k2.toNat (fi + l) = f3 from HFE.out] at HR3
            clear HR2
            go_wp2_with fail
            go_region
            go_wp2_with fail
            go_roundw
            case rel => exact ⟨t + 1, k2, i2, f3, true, by omega, by go_num, rfl, rfl, hk0, hk1, hi0, hi1, HY.out, HLS.out, HB2.out, HR3.out, HA2.out, HF2.out, HO2.out⟩
            case measure => simp [intOf]; omega
          · have hd2 : decide (fi + l < fk) = false := by simp; omega
            have HY := Lib.hid (HNO.out (by omega))
            clear hc2
            clear hc0 hc1 HYE HNO
            go_wp2_with fail
            go_quiet (fail)
            have HRq := Lib.hid (Blk.drewN HR.out nq : IBlk (wr.drewN nq) gr 3 f2)
            have HAq := Lib.hid (HA.out.drewN nq)
            have HFq := Lib.hid (HF.out.drewN nq)
            have HOq := Lib.hid (HO.out.drewN nq)
            have c1q : (wr.drewN nq).cell? ⟨gr, i2.toNat, none⟩ = _ := c1
            have c2q : (wr.drewN nq).cell? ⟨gr, k2.toNat, none⟩ = _ := c2
            have c3q : (wr.drewN nq).cell? ⟨gf, 0, none⟩ = _ := c3
            have kzq : ∀ k, (wr.drewN nq).frozen? ⟨gr, k, none⟩ = false := kz
            have kzaq : ∀ k, (wr.drewN nq).frozen? ⟨ga, k, none⟩ = false := kza
            have kalq : ga < (wr.drewN nq).heap.size := kal
            have kacq : (wr.drewN nq).cell? ⟨ga, 0, none⟩ = some (.bool b2) := HAq.out.cell 0
            clear c1 c2 c3 kz kza kal HR HA HF HO
            generalize wr.drewN nq = ws at *
            go_wp2_with fail
            go_roundw
            case rel => exact ⟨t + 1, k2, i2, f2, b2, by omega, by go_num, rfl, rfl, hk0, hk1, hi0, hi1, HY.out, HL.out, (fun v => by have := HB.out v; omega), HRq.out, HAq.out, HFq.out, HOq.out⟩
            case measure => simp [intOf]; omega
      · have hd0 : decide (0 ≤ fi) = false := by simp; omega
        have HY := Lib.hid (HNO.out (by omega))
        have hc1 : True := trivial
        clear hc0 hc1 HYE HNO
        go_wp2_with fail
        go_quiet (fail)
        have HRq := Lib.hid (Blk.drewN HR.out nq : IBlk (wr.drewN nq) gr 3 f2)
        have HAq := Lib.hid (HA.out.drewN nq)
        have HFq := Lib.hid (HF.out.drewN nq)
        have HOq := Lib.hid (HO.out.drewN nq)
        have c1q : (wr.drewN nq).cell? ⟨gr, i2.toNat, none⟩ = _ := c1
        have c2q : (wr.drewN nq).cell? ⟨gr, k2.toNat, none⟩ = _ := c2
        have c3q : (wr.drewN nq).cell? ⟨gf, 0, none⟩ = _ := c3
        have kzq : ∀ k, (wr.drewN nq).frozen? ⟨gr, k, none⟩ = false := kz
        have kzaq : ∀ k, (wr.drewN nq).frozen? ⟨ga, k, none⟩ = false := kza
        have kalq : ga < (wr.drewN nq).heap.size := kal
        have kacq : (wr.drewN nq).cell? ⟨ga, 0, none⟩ = some (.bool b2) := HAq.out.cell 0
        clear c1 c2 c3 kz kza kal HR HA HF HO
        generalize wr.drewN nq = ws at *
        go_wp2_with fail
        go_roundw
        case rel => exact ⟨t + 1, k2, i2, f2, b2, by omega, by go_num, rfl, rfl, hk0, hk1, hi0, hi1, HY.out, HL.out, (fun v => by have := HB.out v; omega), HRq.out, HAq.out, HFq.out, HOq.out⟩
        case measure => simp [intOf]; omega
    · have ht3 : t = 2 := by omega
      subst ht3
      have hS : (f2, b2) = S := HS.out
      go_wp2_with fail
      rw [← hS]
      refine ⟨rfl, .tuple #[], by simp [results, Try.results88, go_sem], rfl, HR.out, HA.out, HO.out⟩
end Go.Proofs.Ytpamgeemmbbkkaa
