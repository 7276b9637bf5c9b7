/- ZoneDistances returns true, whatever network, relay and place it is given. Condition: they read. -/
import Derived.Test.YtpamgeemmbbkkaaZWorks
import Derived.Test.YtpamgeemmbbkkaaWaysW
import Derived.Test.YtpamgeemmbbkkaaPZLaw
import Derived.BigQuiet
namespace Go.Proofs.Ytpamgeemmbbkkaa
open Go.RowKit
set_option maxRecDepth 100000
theorem ways_any (M : MNet) (wo br : ByteArray) (part : Int) (hok : Pl.NetOk M.N) (hpt : 0 ≤ part ∧ part ≤ 1000) : ∀ f, f ≤ 30 → WaysOk M wo br part f
  | 0, _ => fun u As ns cs seen w hM hs hnd hin hlt => by have := Pl.seen_short hnd hin; omega
  | f + 1, h => ways_succ M wo br part f (by omega) hok hpt (Lib.hid (ways_any M wo br part hok hpt f (by omega)))
section
variable {P : Program} {Q : Exit → Act → World → Prop}
theorem wp_join1 {c : Code} {a : Act} {w : World} (R : Nat → World → Prop) (fr : Nat → Act) (h : c.wp P (fun e a' w' => ∃ g, e = Exit.normal ∧ a' = fr g ∧ R g w') a w) (hq : ∀ g w', R g w' → Q .normal (fr g) w') : c.wp P Q a w := wp_join R fr h hq
end
set_option maxHeartbeats 6400000 in
theorem zoneDistances_walk (M : MNet) (node br : ByteArray) (Az : Option Addr) (nz cz : Nat) (zs : List (Int × Int)) (pb : ByteArray) (part : Int) (w : World) (hM : NetIn w w.heap.size M) (hz : Reads w w.heap.size 2 Az nz (pairs zs)) (hnz : nz ≤ 9223372036854775807) :
    Calls Try.prog 3 #[vNet M, vRelay node br Az nz cz, vPlace pb part] w fun e w' => e = .returned (.bool true) ∧ Below w.heap.size w w' := by
  have CD := Lib.hid (fun (w1 : World) (hb : Below w.heap.size w w1) => distance_any M node br Az nz cz zs pb part w1 (hM.go hb) (hz.go hb) hnz)
  have CZ := Lib.hid (fun (w1 : World) (hb : Below w.heap.size w w1) => zoneE_any M node br Az nz cz zs w1 (hM.go hb) (hz.go hb) hnz)
  have CP := Lib.hid (fun (w1 : World) (hb : Below w.heap.size w w1) => placeE_any M pb part w1 (hM.go hb))
  have CB := Lib.hid (fun (nm : ByteArray) (w1 : World) (hb : Below w.heap.size w w1) => branch_any M nm w1 (hM.go hb))
  change Hid (∀ (nm : ByteArray) (w1 : World), Below w.heap.size w w1 → Calls Try.prog _ _ w1 fun e w' => e = .returned (.int .i64 (Pl.idxBra M.N nm)) ∧ _) at CB
  have CN := Lib.hid (fun (x : ByteArray) (w1 : World) (hb : Below w.heap.size w w1) => node_any M x w1 (hM.go hb))
  have CW := Lib.hid (fun (hok : Pl.NetOk M.N) (hpt : 0 ≤ part ∧ part ≤ 1000) (h8 : M.N.nodes.length ≤ 8) (u : Int) (hu : 0 ≤ u ∧ u < (M.N.nodes.length : Int)) (A : Option Addr) (w1 : World) (hb : Below w.heap.size w w1) (hr : Reads w1 w1.heap.size 1 A 1 (ints [u])) => ways_any M br pb part hok hpt 9 (by omega) u A 1 1 [u] w1 (hM.go hb) hr (by simp) (fun v hv => by simp at hv; subst hv; exact hu) (by simp; omega))
  have HK := Lib.hid (fun h => zchk_ok (N := M.N) (node := node) (br := br) (zs := zs) (pb := pb) (part := part) h)
  have HLW := Lib.hid (fun (d e : Int) (h : DistanceSaid M.N node br zs pb part d e) (h0 : Pl.zchkE M.N node br zs pb part = 0) h8 at_ hat => Pl.zlaw h h0 h8 at_ hat)
  have HBA := Lib.hid (fun h => idxBra_at (N := M.N) (br := br) h)
  have HM := Lib.hid hM
  have HLN := Lib.hid (txts_len hM.r0)
  have hz0 := hM.z0
  have hz1 := hM.z1
  have hz2 := hM.z2
  clear hM hz
  unfold vNet vRelay vPlace at *
  have F0 := Lib.hid ((((Below.refl w.heap.size w).alloc (Nat.le_refl _) (.cells (netC M) 29)).alloc (by simp) (.cells #[.string node, .string br, .slice Az nz cz] 32)).alloc (by simp; omega) (.cells #[.string pb, .int .i64 part] 34))
  have B0 := Lib.hid (((Blk.new_ w w.heap.size 29 (netC M) rfl).alloc (.cells #[.string node, .string br, .slice Az nz cz] 32)).alloc (.cells #[.string pb, .int .i64 part] 34))
  have P0 := Lib.hid ((Blk.new_ (w.alloc (.cells (netC M) 29)) (w.heap.size + 1) 32 #[.string node, .string br, .slice Az nz cz] (by simp)).alloc (.cells #[.string pb, .int .i64 part] 34))
  have Q0 := Lib.hid (Blk.new_ ((w.alloc (.cells (netC M) 29)).alloc (.cells #[.string node, .string br, .slice Az nz cz] 32)) (w.heap.size + 1 + 1) 34 #[.string pb, .int .i64 part] (by simp))
  obtain ⟨N, A0, n0, c0, A1, n1, c1, A2, n2, c2, A3, n3, c3, A4, n4, c4, A5, n5, c5⟩ := M
  unfold netC at *
  simp only at *
  have HZE : Hid (Pl.zchkE N node br zs pb part = if Pl.zoneE N node br zs ≠ 0 then Pl.zoneE N node br zs else Pl.placeE N pb part) := rfl
  go_enter Try.func3, Try.ntmps3
  go_wp2_with fail
  refine (zoneWorks_any _).mono ?_
  rintro e w1 ⟨rfl, hb⟩
  have F1 := Lib.hid (F0.out.trans (hb.mono F0.out.size))
  have B1 := Lib.hid (B0.out.go hb)
  have P1 := Lib.hid (P0.out.go hb)
  have Q1 := Lib.hid (Q0.out.go hb)
  clear hb F0 B0 P0 Q0
  have k0 := B1.out.cell
  have k1 := P1.out.cell
  have k2 := Q1.out.cell
  go_wp2_with fail
  refine (CD.out _ F1.out).mono ?_
  rintro e w2 ⟨d, er, rfl, hds, hb⟩
  have HDS := Lib.hid hds
  have F2 := Lib.hid (F1.out.trans (hb.mono F1.out.size))
  have B2 := Lib.hid (B1.out.go hb)
  have P2 := Lib.hid (P1.out.go hb)
  have Q2 := Lib.hid (Q1.out.go hb)
  clear hb hds F1 B1 P1 Q1 k0 k1 k2 CD
  have k0 := B2.out.cell
  have k1 := P2.out.cell
  go_wp2_with fail
  refine (CZ.out _ F2.out).mono ?_
  rintro e w3 ⟨rfl, hb⟩
  have F3 := Lib.hid (F2.out.trans (hb.mono F2.out.size))
  have B3 := Lib.hid (B2.out.go hb)
  have P3 := Lib.hid (P2.out.go hb)
  have Q3 := Lib.hid (Q2.out.go hb)
  clear hb F2 B2 P2 Q2 k0 k1 CZ
  by_cases h0 : Pl.zoneE N node br zs = 0
  · rw [if_neg (by simpa using h0)] at HZE
    have h02 : (Pl.zoneE N node br zs != 0) = false := by simp [h0]
    generalize Pl.zoneE N node br zs = ze at *
    clear h0
    have k0 := B3.out.cell
    have k1 := Q3.out.cell
    go_wp2_with fail
    refine (CP.out _ F3.out).mono ?_
    rintro e w4 ⟨rfl, hb⟩
    have F4 := Lib.hid (F3.out.trans (hb.mono F3.out.size))
    have B4 := Lib.hid (B3.out.go hb)
    have P4 := Lib.hid (P3.out.go hb)
    have Q4 := Lib.hid (Q3.out.go hb)
    clear hb F3 B3 P3 Q3 k0 k1 CP
    by_cases h1 : Pl.placeE N pb part = 0
    · have HC0 : Hid (Pl.zchkE N node br zs pb part = 0) := by show _ = _; rw [HZE.out]; exact h1
      have h12 : (Pl.placeE N pb part != 0) = false := by simp [h1]
      generalize Pl.placeE N pb part = pe at *
      clear h1 HZE
      have k0 := B4.out.cell
      obtain ⟨hok, hib, hjb, hpt, _, _, _⟩ := HK.out HC0.out
      have HOK := Lib.hid hok
      have hn1 : n1 ≤ 32 := by have := hok.ns; have := HM.out.r1.2; simp only at this; omega
      have hn2 : n2 ≤ 24 := by have := hok.nb; have := HM.out.r2.2; simp only at this; omega
      have hwr : IntKind.i64.wrap ((n2 : Int) + (n1 : Int)) = (n2 : Int) + (n1 : Int) := IntWalk.i64_in _ (by omega)
      by_cases q0 : 8 < n0
      · have d0 : decide ((8 : Int) < (n0 : Int)) = true := by simp; omega
        have d1 : decide (8 < n0) = true := by simp [q0]
        go_wp2_with fail
        go_ret
        exact ⟨rfl, F4.out⟩
      · have d0 : decide ((8 : Int) < (n0 : Int)) = false := by simp; omega
        have d1 : decide (8 < n0) = false := by simp; omega
        by_cases q1 : 12 < n2 + n1
        · have d2 : decide ((12 : Int) < (n2 : Int) + (n1 : Int)) = true := by simp; omega
          go_wp2_with fail
          go_ret
          exact ⟨rfl, F4.out⟩
        · have d2 : decide ((12 : Int) < (n2 : Int) + (n1 : Int)) = false := by simp; omega
          have kr := P4.out.cell
          have kq := Q4.out.cell
          obtain ⟨_, hbl, hbe, hbn⟩ := HBA.out hib
          have HNI : Hid ((Pl.idxBra N br).toNat < n2) := by show _ < _; have := HM.out.r2.2; simp only at this; omega
          have HBM : Hid (Pl.braOf N br ∈ N.branches) := by show _ ∈ _; rw [hbe]; exact List.getElem_mem _
          have HBX := Lib.hid (Pl.x_range hok HBM.out)
          have HBI := Lib.hid (hok.bra _ HBM.out)
          have HNB := Lib.hid hbn
          clear hok hbn
          obtain ⟨b2, o2, hA2, hl1, s0, s1, s2, s3, s4, s5, s6, s7, s8⟩ := bra_at (HM.out.r2.below F4.out) HNI.out
          simp only at hA2 hl1 s0 s1 s2 s3 s4 s5 s6 s7 s8
          subst hA2
          rw [← hbe] at s0 s1 s2 s3 s4 s5 s6 s7 s8
          clear hbe hbl hl1
          have hb1 : Pl.idxBra N br < (n2 : Int) := by have := HNI.out; omega
          have HLW2 := Lib.hid (HLW.out d er HDS.out HC0.out (by have := HLN.out; omega))
          clear HLW HDS HC0 HK HBA
          obtain ⟨bq, hbq⟩ : ∃ b, b = Pl.braOf N br := ⟨_, rfl⟩
          rw [← hbq] at s0 s1 s2 s3 s4 s5 s6 s7 s8 HBX HBI HNB HBM HLW2
          have HBQ := Lib.hid hbq
          clear hbq
          generalize hib2 : Pl.idxBra N br = ib at *
          clear HNI
          go_wp2_with fail
          clear k0 kr kq
          have t0 := Wd.cell s0
          have t1 := Wd.cell s1
          have t2 := Wd.cell s2
          have t3 := Wd.cell s3
          have t4 := Wd.cell s4
          have t5 := Wd.cell s5
          have t6 := Wd.cell s6
          have t7 := Wd.cell s7
          have t8 := Wd.cell s8
          clear s0 s1 s2 s3 s4 s5 s6 s7 s8
          have e0 := Wd.cell (B4.out.cell 0 : w4.cell? ⟨w.heap.size, 0, none⟩ = some (.slice _ n0 c0))
          have e1 := Wd.cell (B4.out.cell 1 : w4.cell? ⟨w.heap.size, 1, none⟩ = some (.slice _ n1 c1))
          have e2 := Wd.cell (B4.out.cell 2 : w4.cell? ⟨w.heap.size, 2, none⟩ = some (.slice _ n2 c2))
          have e3 := Wd.cell (B4.out.cell 3 : w4.cell? ⟨w.heap.size, 3, none⟩ = some (.slice _ n3 c3))
          have e4 := Wd.cell (B4.out.cell 4 : w4.cell? ⟨w.heap.size, 4, none⟩ = some (.slice _ n4 c4))
          have e5 := Wd.cell (B4.out.cell 5 : w4.cell? ⟨w.heap.size, 5, none⟩ = some (.slice _ n5 c5))
          have f1 := Wd.cell (P4.out.cell 1 : w4.cell? ⟨w.heap.size + 1, 1, none⟩ = some (.string br))
          have hpi : (ib.toNat : Int) = ib := by omega
          apply wp_join (fun g8 w' => Blk w' g8 42 (braA bq) ∧ Below w4.heap.size w4 w')
          · have hSw : (fun w' => ∃ x : Wd w4, w' = x.val) w4.drew := ⟨⟨w4.drew, (Below.refl _ _).drew⟩, rfl⟩
            refine wp_region_mid (fun w' => ∃ x : Wd w4, w' = x.val) 10 (by kernel_rfl) ?_
            have b0 : Below w4.heap.size w4 w4.drew := (Below.refl _ _).drew
            generalize w4.drew = wd at *
            refine wpAnyM_take 0 rfl (by kernel_rfl) (by kernel_rfl) (by kernel_rfl) (by kernel_rfl) (by kernel_rfl) (fun _ _ _ h => by obtain ⟨_, h, _⟩ := h; cases h) hSw (by kernel_rfl) (fun w' hSx => by obtain ⟨xw, rfl⟩ := hSx; go_simp; first | done | with_reducible rfl) ?_
            simp only [Act.put, List.setIfInBounds_toArray]
            refine wpAnyM_take 1 rfl (by kernel_rfl) (by kernel_rfl) (by kernel_rfl) (by kernel_rfl) (by kernel_rfl) (fun _ _ _ h => by obtain ⟨_, h, _⟩ := h; cases h) hSw (by kernel_rfl) (fun w' hSx => by obtain ⟨xw, rfl⟩ := hSx; go_simp; first | done | with_reducible rfl) ?_
            simp only [Act.put]
            refine wpAnyM_take 2 rfl (by kernel_rfl) (by kernel_rfl) (by kernel_rfl) (by kernel_rfl) (by kernel_rfl) (fun _ _ _ h => by obtain ⟨_, h, _⟩ := h; cases h) hSw (by kernel_rfl) (fun w' hSx => by obtain ⟨xw, rfl⟩ := hSx; go_simp; first | done | with_reducible rfl) ?_
            simp only [Act.put]
            refine wpAnyM_take 3 rfl (by kernel_rfl) (by kernel_rfl) (by kernel_rfl) (by kernel_rfl) (by kernel_rfl) (fun _ _ _ h => by obtain ⟨_, h, _⟩ := h; cases h) hSw (by kernel_rfl) (fun w' hSx => by obtain ⟨xw, rfl⟩ := hSx; go_simp; first | done | with_reducible rfl) ?_
            simp only [Act.put]
            refine wpAnyM_take 4 rfl (by kernel_rfl) (by kernel_rfl) (by kernel_rfl) (by kernel_rfl) (by kernel_rfl) (fun _ _ _ h => by obtain ⟨_, h, _⟩ := h; cases h) hSw (by kernel_rfl) (fun w' hSx => by obtain ⟨xw, rfl⟩ := hSx; go_simp; first | done | with_reducible rfl) ?_
            simp only [Act.put]
            refine wpAnyM_ready [5, 8] (by kernel_rfl) (by simp) ?_
            refine AllReadyM.cons (by rfl) (fun K hK => ?_) (AllReadyM.cons (by rfl) (fun K hK => ?_) AllReadyM.nil)
            · go_simp
              refine (CB.out br _ (F4.out.trans (b0.mono F4.out.size))).mono ?_
              rintro e wq1 ⟨rfl, hb5⟩
              have bq1 : Below w4.heap.size w4 wq1 := b0.trans (hb5.mono b0.size)
              have hSw : (fun w' => ∃ x : Wd w4, w' = x.val) wq1 := ⟨⟨wq1, bq1⟩, rfl⟩
              refine hK.out _ _ hSw ?_
              clear hK K hb5
              refine wpAnyM_take 6 rfl (by kernel_rfl) (by kernel_rfl) (by kernel_rfl) (by kernel_rfl) (by kernel_rfl) (fun _ _ _ h => by obtain ⟨_, h, _⟩ := h; cases h) hSw (by kernel_rfl) (fun w' hSx => by obtain ⟨xw, rfl⟩ := hSx; go_simp; first | done | with_reducible rfl) ?_
              simp only [Act.put]
              refine wpAnyM_take 7 rfl (by kernel_rfl) (by kernel_rfl) (by kernel_rfl) (by kernel_rfl) (by kernel_rfl) (fun _ _ _ h => by obtain ⟨_, h, _⟩ := h; cases h) hSw (by kernel_rfl) (fun w' hSx => by obtain ⟨xw, rfl⟩ := hSx; go_simp; first | done | with_reducible rfl) ?_
              simp only [Act.put]
              refine wpAnyM_ready [8] (by kernel_rfl) (by simp) ?_
              refine AllReadyM.cons (by rfl) (fun K hK => ?_) AllReadyM.nil
              go_simp
              have X8_2 := Blk.new_ wq1 wq1.heap.size 42 #[.string ⟨#[]⟩, .string ⟨#[]⟩, .string ⟨#[]⟩, .int .i64 0, .int .i64 0, .int .i64 0, .int .i64 0, .int .i64 0, .int .i64 0] rfl
              have bq2 := bq1.alloc bq1.size (.cells #[.string ⟨#[]⟩, .string ⟨#[]⟩, .string ⟨#[]⟩, .int .i64 0, .int .i64 0, .int .i64 0, .int .i64 0, .int .i64 0, .int .i64 0] 42)
              have l8_2 : w4.heap.size ≤ wq1.heap.size := bq1.size
              generalize wq1.alloc (.cells #[.string ⟨#[]⟩, .string ⟨#[]⟩, .string ⟨#[]⟩, .int .i64 0, .int .i64 0, .int .i64 0, .int .i64 0, .int .i64 0, .int .i64 0] 42) = wq2 at *
              have hSw : (fun w' => ∃ x : Wd w4, w' = x.val) wq2 := ⟨⟨wq2, bq2⟩, rfl⟩
              refine hK.out _ _ hSw ?_
              clear hK K
              refine wpAnyM_ready [9] (by kernel_rfl) (by simp) ?_
              refine AllReadyM.cons (by rfl) (fun K hK => ?_) AllReadyM.nil
              have kk := X8_2.cell
              have zz := X8_2.frozen
              have ll := X8_2.lt
              have gl : w4.heap.size ≤ wq1.heap.size := by omega
              go_simp
              have X8 := (((((((((X8_2.set_ 0 (.string bq.name)).set_ 1 (.string bq.from_)).set_ 2 (.string bq.to_)).set_ 3 (.int .i64 bq.x)).set_ 4 (.int .i64 bq.tap)).set_ 5 (.int .i64 bq.shift)).set_ 6 (.int .i64 bq.limit)).set_ 7 (.int .i64 bq.short)).set_ 8 (.int .i64 bq.hold))
              simp only [List.setIfInBounds_toArray, List.set_cons_zero, List.set_cons_succ] at X8
              have X8_3 := X8
              clear X8
              have bq3 := (((((((((bq2.setCell (p := ⟨wq1.heap.size, 0, none⟩) gl (.string bq.name)).setCell (p := ⟨wq1.heap.size, 1, none⟩) gl (.string bq.from_)).setCell (p := ⟨wq1.heap.size, 2, none⟩) gl (.string bq.to_)).setCell (p := ⟨wq1.heap.size, 3, none⟩) gl (.int .i64 bq.x)).setCell (p := ⟨wq1.heap.size, 4, none⟩) gl (.int .i64 bq.tap)).setCell (p := ⟨wq1.heap.size, 5, none⟩) gl (.int .i64 bq.shift)).setCell (p := ⟨wq1.heap.size, 6, none⟩) gl (.int .i64 bq.limit)).setCell (p := ⟨wq1.heap.size, 7, none⟩) gl (.int .i64 bq.short)).setCell (p := ⟨wq1.heap.size, 8, none⟩) gl (.int .i64 bq.hold))
              refine hK.out _ _ ⟨⟨_, bq3⟩, rfl⟩ ?_
              clear hK K kk zz ll gl
              generalize (((((((((wq2.setCell ⟨wq1.heap.size, 0, none⟩ (.string bq.name)).setCell ⟨wq1.heap.size, 1, none⟩ (.string bq.from_)).setCell ⟨wq1.heap.size, 2, none⟩ (.string bq.to_)).setCell ⟨wq1.heap.size, 3, none⟩ (.int .i64 bq.x)).setCell ⟨wq1.heap.size, 4, none⟩ (.int .i64 bq.tap)).setCell ⟨wq1.heap.size, 5, none⟩ (.int .i64 bq.shift)).setCell ⟨wq1.heap.size, 6, none⟩ (.int .i64 bq.limit)).setCell ⟨wq1.heap.size, 7, none⟩ (.int .i64 bq.short)).setCell ⟨wq1.heap.size, 8, none⟩ (.int .i64 bq.hold)) = wq3 at *
              refine wpAnyM_done (by kernel_rfl) ?_ _
              generalize wq1.heap.size = ga8 at *
              exact ⟨ga8, rfl, rfl, X8_3, bq3⟩
            · go_simp
              have X8_4 := Blk.new_ wd wd.heap.size 42 #[.string ⟨#[]⟩, .string ⟨#[]⟩, .string ⟨#[]⟩, .int .i64 0, .int .i64 0, .int .i64 0, .int .i64 0, .int .i64 0, .int .i64 0] rfl
              have bq4 := b0.alloc b0.size (.cells #[.string ⟨#[]⟩, .string ⟨#[]⟩, .string ⟨#[]⟩, .int .i64 0, .int .i64 0, .int .i64 0, .int .i64 0, .int .i64 0, .int .i64 0] 42)
              have l8_4 : w4.heap.size ≤ wd.heap.size := b0.size
              generalize wd.alloc (.cells #[.string ⟨#[]⟩, .string ⟨#[]⟩, .string ⟨#[]⟩, .int .i64 0, .int .i64 0, .int .i64 0, .int .i64 0, .int .i64 0, .int .i64 0] 42) = wq4 at *
              have hSw : (fun w' => ∃ x : Wd w4, w' = x.val) wq4 := ⟨⟨wq4, bq4⟩, rfl⟩
              refine hK.out _ _ hSw ?_
              clear hK K
              refine wpAnyM_ready [5] (by kernel_rfl) (by simp) ?_
              refine AllReadyM.cons (by rfl) (fun K hK => ?_) AllReadyM.nil
              go_simp
              refine (CB.out br _ (F4.out.trans (bq4.mono F4.out.size))).mono ?_
              rintro e wq5 ⟨rfl, hb5⟩
              have bq5 : Below w4.heap.size w4 wq5 := bq4.trans (hb5.mono bq4.size)
              have X8_5 := X8_4.go hb5
              have hSw : (fun w' => ∃ x : Wd w4, w' = x.val) wq5 := ⟨⟨wq5, bq5⟩, rfl⟩
              refine hK.out _ _ hSw ?_
              clear hK K hb5
              refine wpAnyM_take 6 rfl (by kernel_rfl) (by kernel_rfl) (by kernel_rfl) (by kernel_rfl) (by kernel_rfl) (fun _ _ _ h => by obtain ⟨_, h, _⟩ := h; cases h) hSw (by kernel_rfl) (fun w' hSx => by obtain ⟨xw, rfl⟩ := hSx; go_simp; first | done | with_reducible rfl) ?_
              simp only [Act.put]
              refine wpAnyM_take 7 rfl (by kernel_rfl) (by kernel_rfl) (by kernel_rfl) (by kernel_rfl) (by kernel_rfl) (fun _ _ _ h => by obtain ⟨_, h, _⟩ := h; cases h) hSw (by kernel_rfl) (fun w' hSx => by obtain ⟨xw, rfl⟩ := hSx; go_simp; first | done | with_reducible rfl) ?_
              simp only [Act.put]
              refine wpAnyM_ready [9] (by kernel_rfl) (by simp) ?_
              refine AllReadyM.cons (by rfl) (fun K hK => ?_) AllReadyM.nil
              have kk := X8_5.cell
              have zz := X8_5.frozen
              have ll := X8_5.lt
              have gl : w4.heap.size ≤ wd.heap.size := by omega
              go_simp
              have X8 := (((((((((X8_5.set_ 0 (.string bq.name)).set_ 1 (.string bq.from_)).set_ 2 (.string bq.to_)).set_ 3 (.int .i64 bq.x)).set_ 4 (.int .i64 bq.tap)).set_ 5 (.int .i64 bq.shift)).set_ 6 (.int .i64 bq.limit)).set_ 7 (.int .i64 bq.short)).set_ 8 (.int .i64 bq.hold))
              simp only [List.setIfInBounds_toArray, List.set_cons_zero, List.set_cons_succ] at X8
              have X8_6 := X8
              clear X8
              have bq6 := (((((((((bq5.setCell (p := ⟨wd.heap.size, 0, none⟩) gl (.string bq.name)).setCell (p := ⟨wd.heap.size, 1, none⟩) gl (.string bq.from_)).setCell (p := ⟨wd.heap.size, 2, none⟩) gl (.string bq.to_)).setCell (p := ⟨wd.heap.size, 3, none⟩) gl (.int .i64 bq.x)).setCell (p := ⟨wd.heap.size, 4, none⟩) gl (.int .i64 bq.tap)).setCell (p := ⟨wd.heap.size, 5, none⟩) gl (.int .i64 bq.shift)).setCell (p := ⟨wd.heap.size, 6, none⟩) gl (.int .i64 bq.limit)).setCell (p := ⟨wd.heap.size, 7, none⟩) gl (.int .i64 bq.short)).setCell (p := ⟨wd.heap.size, 8, none⟩) gl (.int .i64 bq.hold))
              refine hK.out _ _ ⟨⟨_, bq6⟩, rfl⟩ ?_
              clear hK K kk zz ll gl
              generalize (((((((((wq5.setCell ⟨wd.heap.size, 0, none⟩ (.string bq.name)).setCell ⟨wd.heap.size, 1, none⟩ (.string bq.from_)).setCell ⟨wd.heap.size, 2, none⟩ (.string bq.to_)).setCell ⟨wd.heap.size, 3, none⟩ (.int .i64 bq.x)).setCell ⟨wd.heap.size, 4, none⟩ (.int .i64 bq.tap)).setCell ⟨wd.heap.size, 5, none⟩ (.int .i64 bq.shift)).setCell ⟨wd.heap.size, 6, none⟩ (.int .i64 bq.limit)).setCell ⟨wd.heap.size, 7, none⟩ (.int .i64 bq.short)).setCell ⟨wd.heap.size, 8, none⟩ (.int .i64 bq.hold)) = wq6 at *
              refine wpAnyM_done (by kernel_rfl) ?_ _
              generalize wd.heap.size = ga8 at *
              exact ⟨ga8, rfl, rfl, X8_6, bq6⟩
          · intro g8 w5 hR
            obtain ⟨hx8, hb5⟩ := hR
            have X5 := Lib.hid hx8
            have F5 := Lib.hid (F4.out.trans (hb5.mono F4.out.size))
            have B5 := Lib.hid (B4.out.go hb5)
            have P5 := Lib.hid (P4.out.go hb5)
            have Q5 := Lib.hid (Q4.out.go hb5)
            clear hx8 hb5 F4 B4 P4 Q4 e0 e1 e2 e3 e4 e5 f1 t0 t1 t2 t3 t4 t5 t6 t7 t8 hpi hb1 hib2 CB
            have HNT := Lib.hid (lst_beq node bq.to_)
            have HEQ := Lib.hid (lst_beq br pb)
            have k8 := X5.out.cell
            unfold braA at k8
            have k1 := P5.out.cell
            have k2 := Q5.out.cell
            have k0 := B5.out.cell
            go_wp2_with fail
            go_quiet (fail)
            have X6 := Lib.hid (X5.out.drewN nq)
            have B6 := Lib.hid (B5.out.drewN nq)
            have P6 := Lib.hid (P5.out.drewN nq)
            have Q6 := Lib.hid (Q5.out.drewN nq)
            have F6 := Lib.hid (below_drewN F5.out nq)
            clear X5 B5 P5 Q5 F5 k0 k1 k2 k8
            generalize w5.drewN nq = w6 at *
            clear nq
            have k8 := X6.out.cell
            unfold braA at k8
            have k1 := P6.out.cell
            have k2 := Q6.out.cell
            have k0 := B6.out.cell
            by_cases hnt : Pl.lst node = Pl.lst bq.to_
            · have hn : (node.toList == bq.to_.toList) = true := by rw [HNT.out]; simp [hnt]
              have HT := Lib.hid hnt
              clear hnt
              have wp1 : IntKind.i64.wrap (1000 - part) = 1000 - part := IntWalk.i64_in _ (by omega)
              go_wp2_with fail
              go_quiet (fail)
              have X5 := Lib.hid (X6.out.drewN nq)
              have B5 := Lib.hid (B6.out.drewN nq)
              have P5 := Lib.hid (P6.out.drewN nq)
              have Q5 := Lib.hid (Q6.out.drewN nq)
              have F5 := Lib.hid (below_drewN F6.out nq)
              clear X6 B6 P6 Q6 F6 k0 k1 k2 k8
              generalize w6.drewN nq = w5 at *
              clear nq
              have k8 := X5.out.cell
              unfold braA at k8
              have k1 := P5.out.cell
              have k2 := Q5.out.cell
              have k0 := B5.out.cell
              have HFE : Hid (Pl.farEnd bq node = bq.from_) := by show _ = _; unfold Pl.farEnd; rw [if_pos HT.out]
              have xp := Pl.xpart_range HBX.out (part := (1000 - part)) (by omega)
              have wq : IntKind.i64.wrap (bq.x * (1000 - part)) = bq.x * (1000 - part) := IntWalk.i64_in _ (by omega)
              by_cases hbr : br = pb
              · have hs : (br.toList == pb.toList) = true := by rw [HEQ.out]; simp [hbr]
                have h9 := (HLW2.out _ rfl).1 hbr
                have HR1 := Lib.hid h9.1
                have HR2 := Lib.hid h9.2
                rw [if_pos HT.out] at HR2
                have hd1 : (er == 0) = true := by rw [HR1.out]; rfl
                have hd2 : (d == bq.x * (1000 - part)) = true := by rw [HR2.out]; simp
                clear h9 HR1 HR2 hbr
                go_wp2_with fail
                go_ret
                exact ⟨rfl, F5.out⟩
              · have hs : (br.toList == pb.toList) = false := by rw [HEQ.out]; exact decide_eq_false (fun h => hbr (Pl.lst_inj h))
                have hfm : bq.from_ ∈ N.nodes := HBI.out.1
                have ia := Pl.idxT_mem hfm
                have HIA := Lib.hid (And.intro ia.1 ia.2.1)
                have h9 := (HLW2.out (Pl.idxT N.nodes bq.from_) (by rw [HFE.out])).2 hbr
                have HR1 := Lib.hid h9.1
                have HR2 := Lib.hid h9.2
                have HWB := Lib.hid (Pl.waysP_bound HOK.out (wo := br) (br := pb) hpt 9 (Pl.idxT N.nodes bq.from_) [Pl.idxT N.nodes bq.from_])
                clear h9 hfm ia hbr
                go_wp2_with fail
                refine (CN.out bq.from_ _ F5.out).mono ?_
                rintro e w7 ⟨rfl, hb7⟩
                have F7 := Lib.hid (F5.out.trans (hb7.mono F5.out.size))
                have B7 := Lib.hid (B5.out.go hb7)
                have P7 := Lib.hid (P5.out.go hb7)
                have Q7 := Lib.hid (Q5.out.go hb7)
                have X7 := Lib.hid (X5.out.go hb7)
                clear hb7 k0 k1 k2 k8 F5 B5 P5 Q5 X5
                have k1 := P7.out.cell
                have k2 := Q7.out.cell
                have k0 := B7.out.cell
                have l0 := B7.out.lt
                have l1 := P7.out.lt
                have l2 := Q7.out.lt
                have d8 := (Below.refl w7.heap.size w7).alloc (Nat.le_refl _) (.cells #[.int .i64 (Pl.idxT N.nodes bq.from_)] 3)
                have X8 := Lib.hid (X7.out.go d8)
                have F8 := Lib.hid (F7.out.trans (d8.mono F7.out.size))
                have CWW := Lib.hid (CW.out HOK.out hpt (by have := HLN.out; omega) (Pl.idxT N.nodes bq.from_) HIA.out (some ⟨w7.heap.size, 0, none⟩) (w7.alloc (.cells #[.int .i64 (Pl.idxT N.nodes bq.from_)] 3)) F8.out (Reads.lit w7 #[.int .i64 (Pl.idxT N.nodes bq.from_)] 3 1 1 w7.heap.size rfl rfl))
                clear d8
                generalize Pl.waysP N br pb part 9 (Pl.idxT N.nodes bq.from_) [Pl.idxT N.nodes bq.from_] = WV at *
                generalize Pl.idxT N.nodes bq.from_ = ai at *
                go_wp2_with fail
                refine CWW.out.mono ?_
                rintro e w9 ⟨rfl, hb9⟩
                have F9 := Lib.hid (F8.out.trans (hb9.mono F8.out.size))
                have X9 := Lib.hid (X8.out.go hb9)
                clear hb9 k0 k1 k2 CWW X8 F8 X7 B7 P7 Q7 F7
                have k8 := X9.out.cell
                unfold braA at k8
                have w1' : IntKind.i64.wrap (1000 * bq.x) = 1000 * bq.x := IntWalk.i64_in _ (by have := HBX.out; omega)
                have w2' : IntKind.i64.wrap (1000 * bq.x + WV) = 1000 * bq.x + WV := IntWalk.i64_in _ (by have := HBX.out; have := HWB.out; omega)
                by_cases hwv : WV < 0
                · have h9 := HR1.out hwv
                  have HQ1 := Lib.hid h9.1
                  have HQ2 := Lib.hid h9.2
                  have dw : decide (WV < 0) = true := by simp [hwv]
                  have hd1 : (er == 8) = true := by rw [HQ1.out]; rfl
                  have hd2 : (d == 0) = true := by rw [HQ2.out]; rfl
                  clear h9 HQ1 HQ2 hwv
                  go_wp2_with fail
                  go_ret
                  exact ⟨rfl, F9.out⟩
                · have h9 := HR2.out (by omega)
                  have HQ1 := Lib.hid h9.1
                  have HQ2 := Lib.hid h9.2
                  have dw : decide (WV < 0) = false := by simp; omega
                  have hd1 : (er == 0) = true := by rw [HQ1.out]; rfl
                  have hd2 : (d == 1000 * bq.x + WV) = true := by rw [HQ2.out]; simp
                  clear h9 HQ1 HQ2 hwv
                  go_wp2_with fail
                  go_ret
                  exact ⟨rfl, F9.out⟩
            · have hn : (node.toList == bq.to_.toList) = false := by rw [HNT.out]; simp [hnt]
              have HT := Lib.hid hnt
              clear hnt
              have HFE : Hid (Pl.farEnd bq node = bq.to_) := by show _ = _; unfold Pl.farEnd; rw [if_neg HT.out]
              have xp := Pl.xpart_range HBX.out (part := part) (by omega)
              have wq : IntKind.i64.wrap (bq.x * part) = bq.x * part := IntWalk.i64_in _ (by omega)
              by_cases hbr : br = pb
              · have hs : (br.toList == pb.toList) = true := by rw [HEQ.out]; simp [hbr]
                have h9 := (HLW2.out _ rfl).1 hbr
                have HR1 := Lib.hid h9.1
                have HR2 := Lib.hid h9.2
                rw [if_neg HT.out] at HR2
                have hd1 : (er == 0) = true := by rw [HR1.out]; rfl
                have hd2 : (d == bq.x * part) = true := by rw [HR2.out]; simp
                clear h9 HR1 HR2 hbr
                go_wp2_with fail
                go_ret
                exact ⟨rfl, F6.out⟩
              · have hs : (br.toList == pb.toList) = false := by rw [HEQ.out]; exact decide_eq_false (fun h => hbr (Pl.lst_inj h))
                have hfm : bq.to_ ∈ N.nodes := HBI.out.2.1
                have ia := Pl.idxT_mem hfm
                have HIA := Lib.hid (And.intro ia.1 ia.2.1)
                have h9 := (HLW2.out (Pl.idxT N.nodes bq.to_) (by rw [HFE.out])).2 hbr
                have HR1 := Lib.hid h9.1
                have HR2 := Lib.hid h9.2
                have HWB := Lib.hid (Pl.waysP_bound HOK.out (wo := br) (br := pb) hpt 9 (Pl.idxT N.nodes bq.to_) [Pl.idxT N.nodes bq.to_])
                clear h9 hfm ia hbr
                go_wp2_with fail
                refine (CN.out bq.to_ _ F6.out).mono ?_
                rintro e w7 ⟨rfl, hb7⟩
                have F7 := Lib.hid (F6.out.trans (hb7.mono F6.out.size))
                have B7 := Lib.hid (B6.out.go hb7)
                have P7 := Lib.hid (P6.out.go hb7)
                have Q7 := Lib.hid (Q6.out.go hb7)
                have X7 := Lib.hid (X6.out.go hb7)
                clear hb7 k0 k1 k2 k8 F6 B6 P6 Q6 X6
                have k1 := P7.out.cell
                have k2 := Q7.out.cell
                have k0 := B7.out.cell
                have l0 := B7.out.lt
                have l1 := P7.out.lt
                have l2 := Q7.out.lt
                have d8 := (Below.refl w7.heap.size w7).alloc (Nat.le_refl _) (.cells #[.int .i64 (Pl.idxT N.nodes bq.to_)] 3)
                have X8 := Lib.hid (X7.out.go d8)
                have F8 := Lib.hid (F7.out.trans (d8.mono F7.out.size))
                have CWW := Lib.hid (CW.out HOK.out hpt (by have := HLN.out; omega) (Pl.idxT N.nodes bq.to_) HIA.out (some ⟨w7.heap.size, 0, none⟩) (w7.alloc (.cells #[.int .i64 (Pl.idxT N.nodes bq.to_)] 3)) F8.out (Reads.lit w7 #[.int .i64 (Pl.idxT N.nodes bq.to_)] 3 1 1 w7.heap.size rfl rfl))
                clear d8
                generalize Pl.waysP N br pb part 9 (Pl.idxT N.nodes bq.to_) [Pl.idxT N.nodes bq.to_] = WV at *
                generalize Pl.idxT N.nodes bq.to_ = ai at *
                go_wp2_with fail
                refine CWW.out.mono ?_
                rintro e w9 ⟨rfl, hb9⟩
                have F9 := Lib.hid (F8.out.trans (hb9.mono F8.out.size))
                have X9 := Lib.hid (X8.out.go hb9)
                clear hb9 k0 k1 k2 CWW X8 F8 X7 B7 P7 Q7 F7
                have k8 := X9.out.cell
                unfold braA at k8
                have w1' : IntKind.i64.wrap (1000 * bq.x) = 1000 * bq.x := IntWalk.i64_in _ (by have := HBX.out; omega)
                have w2' : IntKind.i64.wrap (1000 * bq.x + WV) = 1000 * bq.x + WV := IntWalk.i64_in _ (by have := HBX.out; have := HWB.out; omega)
                by_cases hwv : WV < 0
                · have h9 := HR1.out hwv
                  have HQ1 := Lib.hid h9.1
                  have HQ2 := Lib.hid h9.2
                  have dw : decide (WV < 0) = true := by simp [hwv]
                  have hd1 : (er == 8) = true := by rw [HQ1.out]; rfl
                  have hd2 : (d == 0) = true := by rw [HQ2.out]; rfl
                  clear h9 HQ1 HQ2 hwv
                  go_wp2_with fail
                  go_ret
                  exact ⟨rfl, F9.out⟩
                · have h9 := HR2.out (by omega)
                  have HQ1 := Lib.hid h9.1
                  have HQ2 := Lib.hid h9.2
                  have dw : decide (WV < 0) = false := by simp; omega
                  have hd1 : (er == 0) = true := by rw [HQ1.out]; rfl
                  have hd2 : (d == 1000 * bq.x + WV) = true := by rw [HQ2.out]; simp
                  clear h9 HQ1 HQ2 hwv
                  go_wp2_with fail
                  go_ret
                  exact ⟨rfl, F9.out⟩
    · have hs := HDS.out.1 (by rw [HZE.out]; exact h1)
      rw [HZE.out] at hs
      obtain ⟨rfl, rfl⟩ := hs
      have h12 : (Pl.placeE N pb part != 0) = true := by simp [h1]
      generalize Pl.placeE N pb part = pe at *
      clear h1
      go_wp2_with fail
      go_ret
      exact ⟨rfl, F4.out⟩
  · rw [if_pos (by simpa using h0)] at HZE
    have hs := HDS.out.1 (by rw [HZE.out]; exact h0)
    rw [HZE.out] at hs
    obtain ⟨rfl, rfl⟩ := hs
    have h02 : (Pl.zoneE N node br zs != 0) = true := by simp [h0]
    generalize Pl.zoneE N node br zs = ze at *
    clear h0
    go_wp2_with fail
    go_ret
    exact ⟨rfl, F3.out⟩
end Go.Proofs.Ytpamgeemmbbkkaa
