/- zone's check and distance answer as their plain functions say. Condition: the network and the relay read. -/
import Derived.Test.YtpamgeemmbbkkaaZCheck
import Derived.Test.YtpamgeemmbbkkaaReach2
import Derived.Test.YtpamgeemmbbkkaaMid
namespace Go.Proofs.Ytpamgeemmbbkkaa
open Go.RowKit
set_option maxRecDepth 100000
namespace Pl
/-- zone's check -/
def zchkE (N : Net) (node br : ByteArray) (zs : List (Int × Int)) (pb : ByteArray) (part : Int) : Int := if zoneE N node br zs ≠ 0 then zoneE N node br zs else placeE N pb part
/-- the other end of the relay's branch -/
def farEnd (b : Bra) (node : ByteArray) : ByteArray := if lst node = lst b.to_ then b.from_ else b.to_
/-- zone's distance, once the distances 'far' are known -/
def distB (N : Net) (far : List Int) (at_ : Bra) (part : Int) : Int :=
  better (better (-1) (if 0 ≤ farAt far (idxT N.nodes at_.from_) then farAt far (idxT N.nodes at_.from_) + at_.x * part else -1)) (if 0 ≤ farAt far (idxT N.nodes at_.to_) then farAt far (idxT N.nodes at_.to_) + at_.x * (1000 - part) else -1)
end Pl
section
variable {P : Program} {Q : Exit → Act → World → Prop}
theorem wp_join2 {c : Code} {a : Act} {w : World} (R : Nat → Nat → World → Prop) (fr : Nat → Nat → Act) (h : c.wp P (fun e a' w' => ∃ g1 g2, e = Exit.normal ∧ a' = fr g1 g2 ∧ R g1 g2 w') a w) (hq : ∀ g1 g2 w', R g1 g2 w' → Q .normal (fr g1 g2) w') : c.wp P Q a w :=
  wp_mono h fun e a' w' ⟨g1, g2, he, ha, hr⟩ => by subst he ha; exact hq g1 g2 w' hr
end
def braA (b : Pl.Bra) : Array Value := #[.string b.name, .string b.from_, .string b.to_, .int .i64 b.x, .int .i64 b.tap, .int .i64 b.shift, .int .i64 b.limit, .int .i64 b.short, .int .i64 b.hold]
theorem xpart_rangeO {x part : Int} (hx : 1 ≤ x ∧ x ≤ 10000) (hp : 0 ≤ part ∧ part ≤ 1000) : 0 ≤ x * part ∧ x * part ≤ 10000000 := by
  refine ⟨Int.mul_nonneg (by omega) hp.1, ?_⟩
  have := Int.mul_le_mul hx.2 hp.2 hp.1 (by omega)
  omega
theorem x_rangeO {N : Pl.Net} (hok : Pl.NetOk N) {x : Pl.Bra} (hx : x ∈ N.branches) : 1 ≤ x.x ∧ x.x ≤ 10000 := by
  obtain ⟨_, _, _, h4⟩ := hok.bra x hx
  unfold Pl.braOut Pl.outN at h4
  simp only [Bool.or_eq_false_iff, decide_eq_false_iff_not] at h4
  omega
theorem zchkE_any (M : MNet) (node br : ByteArray) (Az : Option Addr) (nz cz : Nat) (zs : List (Int × Int)) (pb : ByteArray) (part : Int) (w : World) (hM : NetIn w w.heap.size M) (hz : Reads w w.heap.size 2 Az nz (pairs zs)) (hnz : nz ≤ 9223372036854775807) :
    Calls Try.prog 27 #[vNet M, vRelay node br Az nz cz, vPlace pb part] w fun e w' => e = .returned (.int .i64 (Pl.zchkE M.N node br zs pb part)) ∧ Below w.heap.size w w' := by
  have HE : Hid (Pl.zchkE M.N node br zs pb part = if Pl.zoneE M.N node br zs ≠ 0 then Pl.zoneE M.N node br zs else Pl.placeE M.N pb part) := rfl
  have C0 := Lib.hid (fun (w1 : World) (hb : Below w.heap.size w w1) => zoneE_any M node br Az nz cz zs w1 (hM.go hb) (hz.go hb) hnz)
  have C1 := Lib.hid (fun (w1 : World) (hb : Below w.heap.size w w1) => placeE_any M pb part w1 (hM.go hb))
  clear hM hz
  generalize Pl.zchkE M.N node br zs pb part = R at *
  generalize Pl.zoneE M.N node br zs = ze at *
  generalize Pl.placeE M.N pb part = pe at *
  unfold vNet vRelay vPlace at *
  have F0 := Lib.hid ((((Below.refl w.heap.size w).alloc (Nat.le_refl _) (.cells (netC M) 29)).alloc (by simp) (.cells #[.string node, .string br, .slice Az nz cz] 32)).alloc (by simp; omega) (.cells #[.string pb, .int .i64 part] 34))
  have B0 := Lib.hid (((Blk.new_ w w.heap.size 29 (netC M) rfl).alloc (.cells #[.string node, .string br, .slice Az nz cz] 32)).alloc (.cells #[.string pb, .int .i64 part] 34))
  have P0 := Lib.hid ((Blk.new_ (w.alloc (.cells (netC M) 29)) (w.heap.size + 1) 32 #[.string node, .string br, .slice Az nz cz] (by simp)).alloc (.cells #[.string pb, .int .i64 part] 34))
  have Q0 := Lib.hid (Blk.new_ ((w.alloc (.cells (netC M) 29)).alloc (.cells #[.string node, .string br, .slice Az nz cz] 32)) (w.heap.size + 1 + 1) 34 #[.string pb, .int .i64 part] (by simp))
  obtain ⟨N, A0, n0, c0, A1, n1, c1, A2, n2, c2, A3, n3, c3, A4, n4, c4, A5, n5, c5⟩ := M
  unfold netC at *
  simp only at *
  go_enter Try.func27, Try.ntmps27
  have k0 := B0.out.cell
  have k1 := P0.out.cell
  have k2 := Q0.out.cell
  go_wp2_with fail
  refine (C0.out _ F0.out).mono ?_
  rintro e w1 ⟨rfl, hb⟩
  have F1 := Lib.hid (F0.out.trans (hb.mono F0.out.size))
  have B1 := Lib.hid (B0.out.go hb)
  have Q1 := Lib.hid (Q0.out.go hb)
  clear hb k0 k1 k2 C0 B0 P0 F0 Q0
  by_cases h0 : ze = 0
  · rw [if_neg (by simpa using h0)] at HE
    subst h0
    have k0 := B1.out.cell
    have k1 := Q1.out.cell
    go_wp2_with fail
    refine (C1.out _ F1.out).mono ?_
    rintro e w2 ⟨rfl, hb⟩
    have F2 := Lib.hid (F1.out.trans (hb.mono F1.out.size))
    clear hb k0 k1 C1
    go_wp2_with fail
    go_ret
    exact ⟨by rw [HE.out]; rfl, F2.out⟩
  · rw [if_pos (by simpa using h0)] at HE
    have h02 : (ze != 0) = true := by simpa using h0
    clear h0
    go_wp2_with fail
    go_ret
    exact ⟨by rw [HE.out]; rfl, F1.out⟩
/-- what distance answers -/
def DistSaid (N : Pl.Net) (node br pb : ByteArray) (part : Int) (w : World) : Ending → World → Prop :=
  fun e w' => ∃ (d : Int) (is : Bool), e = .returned (.tuple #[.int .i64 d, .bool is]) ∧
    (br = pb → is = true ∧ d = (Pl.braOf N br).x * (if Pl.lst node = Pl.lst (Pl.braOf N br).from_ then part else 1000 - part)) ∧
    (br ≠ pb → ∃ far : List Int, (∀ v : Int, 0 ≤ v → v < N.nodes.length → Pl.MinOf (Pl.WalkZ (Pl.ZE N [br, pb]) (Pl.idxT N.nodes (Pl.farEnd (Pl.braOf N br) node)) v) (Pl.farAt far v)) ∧ d = 1000 * (Pl.braOf N br).x + Pl.distB N far (Pl.braOf N pb) part ∧ is = decide (0 ≤ Pl.distB N far (Pl.braOf N pb) part)) ∧ Below w.heap.size w w'
set_option maxHeartbeats 6400000 in
theorem dist_any (M : MNet) (node br : ByteArray) (Az : Option Addr) (nz cz : Nat) (pb : ByteArray) (part : Int) (w : World) (hM : NetIn w w.heap.size M) (hok : Pl.NetOk M.N) (hi : 0 ≤ Pl.idxBra M.N br) (hj : 0 ≤ Pl.idxBra M.N pb) (hpt : 0 ≤ part ∧ part ≤ 1000) :
    Calls Try.prog 28 #[vNet M, vRelay node br Az nz cz, vPlace pb part] w (DistSaid M.N node br pb part w) := by
  have C1 := Lib.hid (fun (nm : ByteArray) (w1 : World) (hb : Below w.heap.size w w1) => zbranch_any M nm w1 (hM.go hb))
  have CI := Lib.hid (fun (x : ByteArray) (w1 : World) (hb : Below w.heap.size w w1) => index_txt M.A0 M.n0 M.c0 M.N.nodes x w1 w1.heap.size hM.z0 (hM.go hb).r0)
  change Hid (∀ (x : ByteArray) (w1 : World), Below w.heap.size w w1 → Calls Try.prog _ _ w1 fun e w' => e = .returned (.int .i64 (Pl.idxT M.N.nodes x)) ∧ w' = w1) at CI
  have CR := Lib.hid (fun (s : ByteArray) (Aw : Option Addr) (nw cw : Nat) (wo : List ByteArray) (w1 : World) (hb : Below w.heap.size w w1) => reach_any M s Aw nw cw wo w1 (hM.go hb) hok)
  have HOK := Lib.hid hok
  have HM2 := Lib.hid hM.r2
  have hlen := txts_len hM.r0
  have HLN := Lib.hid hlen
  obtain ⟨_, hbl, hbe, hbn⟩ := idxBra_at hi
  obtain ⟨_, hpl, hpe, hpn⟩ := idxBra_at hj
  have HBE : Hid (∀ hl, M.N.branches[(Pl.idxBra M.N br).toNat]'hl = Pl.braOf M.N br) := fun _ => hbe.symm
  have HPE : Hid (∀ hl, M.N.branches[(Pl.idxBra M.N pb).toNat]'hl = Pl.braOf M.N pb) := fun _ => hpe.symm
  have HBN := Lib.hid hbn
  have HPN := Lib.hid hpn
  have HBM : Hid (Pl.braOf M.N br ∈ M.N.branches) := by show _ ∈ _; rw [hbe]; exact List.getElem_mem _
  have HPM : Hid (Pl.braOf M.N pb ∈ M.N.branches) := by show _ ∈ _; rw [hpe]; exact List.getElem_mem _
  have HBI : Hid ((Pl.idxBra M.N br).toNat < M.n2) := by show _ < _; have := hM.r2.2; omega
  have HPI : Hid ((Pl.idxBra M.N pb).toNat < M.n2) := by show _ < _; have := hM.r2.2; omega
  clear hM hok hbe hpe hbn hpn hbl hpl hlen
  unfold vNet vRelay vPlace at *
  have F0 := Lib.hid ((((Below.refl w.heap.size w).alloc (Nat.le_refl _) (.cells (netC M) 29)).alloc (by simp) (.cells #[.string node, .string br, .slice Az nz cz] 32)).alloc (by simp; omega) (.cells #[.string pb, .int .i64 part] 34))
  have B0 := Lib.hid (((Blk.new_ w w.heap.size 29 (netC M) rfl).alloc (.cells #[.string node, .string br, .slice Az nz cz] 32)).alloc (.cells #[.string pb, .int .i64 part] 34))
  have P0 := Lib.hid ((Blk.new_ (w.alloc (.cells (netC M) 29)) (w.heap.size + 1) 32 #[.string node, .string br, .slice Az nz cz] (by simp)).alloc (.cells #[.string pb, .int .i64 part] 34))
  have Q0 := Lib.hid (Blk.new_ ((w.alloc (.cells (netC M) 29)).alloc (.cells #[.string node, .string br, .slice Az nz cz] 32)) (w.heap.size + 1 + 1) 34 #[.string pb, .int .i64 part] (by simp))
  obtain ⟨N, A0, n0, c0, A1, n1, c1, A2, n2, c2, A3, n3, c3, A4, n4, c4, A5, n5, c5⟩ := M
  unfold netC at *
  simp only at *
  go_enter Try.func28, Try.ntmps28
  go_wp2_with fail
  generalize hw3 : ((w.alloc (.cells #[.slice A0 n0 c0, .slice A1 n1 c1, .slice A2 n2 c2, .slice A3 n3 c3, .slice A4 n4 c4, .slice A5 n5 c5] 29)).alloc (.cells #[.string node, .string br, .slice Az nz cz] 32)).alloc (.cells #[.string pb, .int .i64 part] 34) = w3 at *
  clear hw3
  obtain ⟨b2, o2, rfl, hl1, s0, s1, s2, s3, s4, s5, s6, s7, s8⟩ := bra_at (HM2.out.below F0.out) HBI.out
  obtain ⟨b3, o3, he, hl2, r0, r1, r2, r3, r4, r5, r6, r7, r8⟩ := bra_at (HM2.out.below F0.out) HPI.out
  injection he with he
  injection he with he1 he2
  subst he1 he2
  rw [HBE.out hl1] at s0 s1 s2 s3 s4 s5 s6 s7 s8
  rw [HPE.out hl2] at r0 r1 r2 r3 r4 r5 r6 r7 r8
  have hb1 : Pl.idxBra N br < (n2 : Int) := by have := HBI.out; omega
  have hb2 : Pl.idxBra N pb < (n2 : Int) := by have := HPI.out; omega
  clear HBE HPE hl1 hl2
  have HBX := Lib.hid (x_rangeO HOK.out HBM.out)
  have HPX := Lib.hid (x_rangeO HOK.out HPM.out)
  have HBE2 := Lib.hid (HOK.out.bra _ HBM.out)
  have HPE2 := Lib.hid (HOK.out.bra _ HPM.out)
  have HSD : Hid (∀ e w', DistSaid N node br pb part w e w' ↔ ∃ (d : Int) (is : Bool), e = .returned (.tuple #[.int .i64 d, .bool is]) ∧ (br = pb → is = true ∧ d = (Pl.braOf N br).x * (if Pl.lst node = Pl.lst (Pl.braOf N br).from_ then part else 1000 - part)) ∧ (br ≠ pb → ∃ far : List Int, (∀ v : Int, 0 ≤ v → v < N.nodes.length → Pl.MinOf (Pl.WalkZ (Pl.ZE N [br, pb]) (Pl.idxT N.nodes (Pl.farEnd (Pl.braOf N br) node)) v) (Pl.farAt far v)) ∧ d = 1000 * (Pl.braOf N br).x + Pl.distB N far (Pl.braOf N pb) part ∧ is = decide (0 ≤ Pl.distB N far (Pl.braOf N pb) part)) ∧ Below w.heap.size w w') := fun _ _ => Iff.rfl
  generalize Pl.braOf N br = bq at *
  generalize Pl.braOf N pb = pq at *
  generalize hib : Pl.idxBra N br = ib at *
  generalize hip : Pl.idxBra N pb = ip at *
  clear HBI HPI
  have t0 := Wd.cell s0
  have t1 := Wd.cell s1
  have t2 := Wd.cell s2
  have t3 := Wd.cell s3
  have t4 := Wd.cell s4
  have t5 := Wd.cell s5
  have t6 := Wd.cell s6
  have t7 := Wd.cell s7
  have t8 := Wd.cell s8
  have u0 := Wd.cell r0
  have u1 := Wd.cell r1
  have u2 := Wd.cell r2
  have u3 := Wd.cell r3
  have u4 := Wd.cell r4
  have u5 := Wd.cell r5
  have u6 := Wd.cell r6
  have u7 := Wd.cell r7
  have u8 := Wd.cell r8
  clear s0 s1 s2 s3 s4 s5 s6 s7 s8 r0 r1 r2 r3 r4 r5 r6 r7 r8
  have e0 := Wd.cell (B0.out.cell 0 : w3.cell? ⟨w.heap.size, 0, none⟩ = some (.slice A0 n0 c0))
  have e1 := Wd.cell (B0.out.cell 1 : w3.cell? ⟨w.heap.size, 1, none⟩ = some (.slice A1 n1 c1))
  have e2 := Wd.cell (B0.out.cell 2 : w3.cell? ⟨w.heap.size, 2, none⟩ = some (.slice (some ⟨b2, o2, none⟩) n2 c2))
  have e3 := Wd.cell (B0.out.cell 3 : w3.cell? ⟨w.heap.size, 3, none⟩ = some (.slice A3 n3 c3))
  have e4 := Wd.cell (B0.out.cell 4 : w3.cell? ⟨w.heap.size, 4, none⟩ = some (.slice A4 n4 c4))
  have e5 := Wd.cell (B0.out.cell 5 : w3.cell? ⟨w.heap.size, 5, none⟩ = some (.slice A5 n5 c5))
  have f1 := Wd.cell (P0.out.cell 1 : w3.cell? ⟨w.heap.size + 1, 1, none⟩ = some (.string br))
  have f2 := Wd.cell (Q0.out.cell 0 : w3.cell? ⟨w.heap.size + 1 + 1, 0, none⟩ = some (.string pb))
  have hpi : (ib.toNat : Int) = ib := by omega
  have hpp : (ip.toNat : Int) = ip := by omega
  apply wp_join2 (fun g8 g9 w' => Blk w' g8 42 (braA bq) ∧ Blk w' g9 42 (braA pq) ∧ Below w3.heap.size w3 w')
  · have hSw : (fun w' => ∃ x : Wd w3, w' = x.val) w3.drew := ⟨⟨w3.drew, (Below.refl _ _).drew⟩, rfl⟩
    refine wp_region_mid (fun w' => ∃ x : Wd w3, w' = x.val) 20 (by kernel_rfl) ?_
    have b0 : Below w3.heap.size w3 w3.drew := (Below.refl _ _).drew
    generalize w3.drew = wd at *
    refine wpAnyM_take 0 rfl (by kernel_rfl) (by kernel_rfl) (by kernel_rfl) (by kernel_rfl) (by kernel_rfl) (fun _ _ _ h => by obtain ⟨_, _, h, _⟩ := h; cases h) hSw (by kernel_rfl) (fun w' hSx => by obtain ⟨xw, rfl⟩ := hSx; go_simp; first | done | with_reducible rfl) ?_
    simp only [Act.put, List.setIfInBounds_toArray]
    refine wpAnyM_take 1 rfl (by kernel_rfl) (by kernel_rfl) (by kernel_rfl) (by kernel_rfl) (by kernel_rfl) (fun _ _ _ h => by obtain ⟨_, _, h, _⟩ := h; cases h) hSw (by kernel_rfl) (fun w' hSx => by obtain ⟨xw, rfl⟩ := hSx; go_simp; first | done | with_reducible rfl) ?_
    simp only [Act.put]
    refine wpAnyM_take 2 rfl (by kernel_rfl) (by kernel_rfl) (by kernel_rfl) (by kernel_rfl) (by kernel_rfl) (fun _ _ _ h => by obtain ⟨_, _, h, _⟩ := h; cases h) hSw (by kernel_rfl) (fun w' hSx => by obtain ⟨xw, rfl⟩ := hSx; go_simp; first | done | with_reducible rfl) ?_
    simp only [Act.put]
    refine wpAnyM_take 3 rfl (by kernel_rfl) (by kernel_rfl) (by kernel_rfl) (by kernel_rfl) (by kernel_rfl) (fun _ _ _ h => by obtain ⟨_, _, h, _⟩ := h; cases h) hSw (by kernel_rfl) (fun w' hSx => by obtain ⟨xw, rfl⟩ := hSx; go_simp; first | done | with_reducible rfl) ?_
    simp only [Act.put]
    refine wpAnyM_take 4 rfl (by kernel_rfl) (by kernel_rfl) (by kernel_rfl) (by kernel_rfl) (by kernel_rfl) (fun _ _ _ h => by obtain ⟨_, _, h, _⟩ := h; cases h) hSw (by kernel_rfl) (fun w' hSx => by obtain ⟨xw, rfl⟩ := hSx; go_simp; first | done | with_reducible rfl) ?_
    simp only [Act.put]
    refine wpAnyM_take 8 rfl (by kernel_rfl) (by kernel_rfl) (by kernel_rfl) (by kernel_rfl) (by kernel_rfl) (fun _ _ _ h => by obtain ⟨_, _, h, _⟩ := h; cases h) hSw (by kernel_rfl) (fun w' hSx => by obtain ⟨xw, rfl⟩ := hSx; go_simp; first | done | with_reducible rfl) ?_
    simp only [Act.put]
    refine wpAnyM_take 9 rfl (by kernel_rfl) (by kernel_rfl) (by kernel_rfl) (by kernel_rfl) (by kernel_rfl) (fun _ _ _ h => by obtain ⟨_, _, h, _⟩ := h; cases h) hSw (by kernel_rfl) (fun w' hSx => by obtain ⟨xw, rfl⟩ := hSx; go_simp; first | done | with_reducible rfl) ?_
    simp only [Act.put]
    refine wpAnyM_take 10 rfl (by kernel_rfl) (by kernel_rfl) (by kernel_rfl) (by kernel_rfl) (by kernel_rfl) (fun _ _ _ h => by obtain ⟨_, _, h, _⟩ := h; cases h) hSw (by kernel_rfl) (fun w' hSx => by obtain ⟨xw, rfl⟩ := hSx; go_simp; first | done | with_reducible rfl) ?_
    simp only [Act.put]
    refine wpAnyM_take 11 rfl (by kernel_rfl) (by kernel_rfl) (by kernel_rfl) (by kernel_rfl) (by kernel_rfl) (fun _ _ _ h => by obtain ⟨_, _, h, _⟩ := h; cases h) hSw (by kernel_rfl) (fun w' hSx => by obtain ⟨xw, rfl⟩ := hSx; go_simp; first | done | with_reducible rfl) ?_
    simp only [Act.put]
    refine wpAnyM_take 12 rfl (by kernel_rfl) (by kernel_rfl) (by kernel_rfl) (by kernel_rfl) (by kernel_rfl) (fun _ _ _ h => by obtain ⟨_, _, h, _⟩ := h; cases h) hSw (by kernel_rfl) (fun w' hSx => by obtain ⟨xw, rfl⟩ := hSx; go_simp; first | done | with_reducible rfl) ?_
    simp only [Act.put]
    refine wpAnyM_ready [5, 16, 17] (by kernel_rfl) (by simp) ?_
    refine AllReadyM.cons (by rfl) (fun K hK => ?_) (AllReadyM.cons (by rfl) (fun K hK => ?_) (AllReadyM.cons (by rfl) (fun K hK => ?_) AllReadyM.nil))
    · go_simp
      refine (C1.out br _ (F0.out.trans (b0.mono F0.out.size))).mono ?_
      rintro e wq1 ⟨rfl, hb5⟩
      have bq1 : Below w3.heap.size w3 wq1 := b0.trans (hb5.mono b0.size)
      have hSw : (fun w' => ∃ x : Wd w3, w' = x.val) wq1 := ⟨⟨wq1, bq1⟩, rfl⟩
      refine hK.out _ _ hSw ?_
      clear hK K hb5
      refine wpAnyM_take 6 rfl (by kernel_rfl) (by kernel_rfl) (by kernel_rfl) (by kernel_rfl) (by kernel_rfl) (fun _ _ _ h => by obtain ⟨_, _, h, _⟩ := h; cases h) hSw (by kernel_rfl) (fun w' hSx => by obtain ⟨xw, rfl⟩ := hSx; go_simp; first | done | with_reducible rfl) ?_
      simp only [Act.put]
      refine wpAnyM_take 7 rfl (by kernel_rfl) (by kernel_rfl) (by kernel_rfl) (by kernel_rfl) (by kernel_rfl) (fun _ _ _ h => by obtain ⟨_, _, h, _⟩ := h; cases h) hSw (by kernel_rfl) (fun w' hSx => by obtain ⟨xw, rfl⟩ := hSx; go_simp; first | done | with_reducible rfl) ?_
      simp only [Act.put]
      refine wpAnyM_ready [13, 16, 17] (by kernel_rfl) (by simp) ?_
      refine AllReadyM.cons (by rfl) (fun K hK => ?_) (AllReadyM.cons (by rfl) (fun K hK => ?_) (AllReadyM.cons (by rfl) (fun K hK => ?_) AllReadyM.nil))
      · go_simp
        refine (C1.out pb _ (F0.out.trans (bq1.mono F0.out.size))).mono ?_
        rintro e wq2 ⟨rfl, hb5⟩
        have bq2 : Below w3.heap.size w3 wq2 := bq1.trans (hb5.mono bq1.size)
        have hSw : (fun w' => ∃ x : Wd w3, w' = x.val) wq2 := ⟨⟨wq2, bq2⟩, rfl⟩
        refine hK.out _ _ hSw ?_
        clear hK K hb5
        refine wpAnyM_take 14 rfl (by kernel_rfl) (by kernel_rfl) (by kernel_rfl) (by kernel_rfl) (by kernel_rfl) (fun _ _ _ h => by obtain ⟨_, _, h, _⟩ := h; cases h) hSw (by kernel_rfl) (fun w' hSx => by obtain ⟨xw, rfl⟩ := hSx; go_simp; first | done | with_reducible rfl) ?_
        simp only [Act.put]
        refine wpAnyM_take 15 rfl (by kernel_rfl) (by kernel_rfl) (by kernel_rfl) (by kernel_rfl) (by kernel_rfl) (fun _ _ _ h => by obtain ⟨_, _, h, _⟩ := h; cases h) hSw (by kernel_rfl) (fun w' hSx => by obtain ⟨xw, rfl⟩ := hSx; go_simp; first | done | with_reducible rfl) ?_
        simp only [Act.put]
        refine wpAnyM_ready [16, 17] (by kernel_rfl) (by simp) ?_
        refine AllReadyM.cons (by rfl) (fun K hK => ?_) (AllReadyM.cons (by rfl) (fun K hK => ?_) AllReadyM.nil)
        · go_simp
          have X16_3 := Blk.new_ wq2 wq2.heap.size 42 #[.string ⟨#[]⟩, .string ⟨#[]⟩, .string ⟨#[]⟩, .int .i64 0, .int .i64 0, .int .i64 0, .int .i64 0, .int .i64 0, .int .i64 0] rfl
          have bq3 := bq2.alloc bq2.size (.cells #[.string ⟨#[]⟩, .string ⟨#[]⟩, .string ⟨#[]⟩, .int .i64 0, .int .i64 0, .int .i64 0, .int .i64 0, .int .i64 0, .int .i64 0] 42)
          have l16_3 : w3.heap.size ≤ wq2.heap.size := bq2.size
          generalize wq2.alloc (.cells #[.string ⟨#[]⟩, .string ⟨#[]⟩, .string ⟨#[]⟩, .int .i64 0, .int .i64 0, .int .i64 0, .int .i64 0, .int .i64 0, .int .i64 0] 42) = wq3 at *
          have hSw : (fun w' => ∃ x : Wd w3, w' = x.val) wq3 := ⟨⟨wq3, bq3⟩, rfl⟩
          refine hK.out _ _ hSw ?_
          clear hK K
          refine wpAnyM_ready [17] (by kernel_rfl) (by simp) ?_
          refine AllReadyM.cons (by rfl) (fun K hK => ?_) AllReadyM.nil
          go_simp
          have X17_4 := Blk.new_ wq3 wq3.heap.size 42 #[.string ⟨#[]⟩, .string ⟨#[]⟩, .string ⟨#[]⟩, .int .i64 0, .int .i64 0, .int .i64 0, .int .i64 0, .int .i64 0, .int .i64 0] rfl
          have bq4 := bq3.alloc bq3.size (.cells #[.string ⟨#[]⟩, .string ⟨#[]⟩, .string ⟨#[]⟩, .int .i64 0, .int .i64 0, .int .i64 0, .int .i64 0, .int .i64 0, .int .i64 0] 42)
          have X16_4 := X16_3.alloc (.cells #[.string ⟨#[]⟩, .string ⟨#[]⟩, .string ⟨#[]⟩, .int .i64 0, .int .i64 0, .int .i64 0, .int .i64 0, .int .i64 0, .int .i64 0] 42)
          have n16_4 : wq2.heap.size ≠ wq3.heap.size := by have := X16_3.lt; omega
          have l17_4 : w3.heap.size ≤ wq3.heap.size := bq3.size
          generalize wq3.alloc (.cells #[.string ⟨#[]⟩, .string ⟨#[]⟩, .string ⟨#[]⟩, .int .i64 0, .int .i64 0, .int .i64 0, .int .i64 0, .int .i64 0, .int .i64 0] 42) = wq4 at *
          have hSw : (fun w' => ∃ x : Wd w3, w' = x.val) wq4 := ⟨⟨wq4, bq4⟩, rfl⟩
          refine hK.out _ _ hSw ?_
          clear hK K
          refine wpAnyM_ready [18] (by kernel_rfl) (by simp) ?_
          refine AllReadyM.cons (by rfl) (fun K hK => ?_) AllReadyM.nil
          have kk := X16_4.cell
          have zz := X16_4.frozen
          have ll := X16_4.lt
          have gl : w3.heap.size ≤ wq2.heap.size := by omega
          go_simp
          have X8 := (((((((((X16_4.set_ 0 (.string bq.name)).set_ 1 (.string bq.from_)).set_ 2 (.string bq.to_)).set_ 3 (.int .i64 bq.x)).set_ 4 (.int .i64 bq.tap)).set_ 5 (.int .i64 bq.shift)).set_ 6 (.int .i64 bq.limit)).set_ 7 (.int .i64 bq.short)).set_ 8 (.int .i64 bq.hold))
          simp only [List.setIfInBounds_toArray, List.set_cons_zero, List.set_cons_succ] at X8
          have X16_5 := X8
          clear X8
          have bq5 := (((((((((bq4.setCell (p := ⟨wq2.heap.size, 0, none⟩) gl (.string bq.name)).setCell (p := ⟨wq2.heap.size, 1, none⟩) gl (.string bq.from_)).setCell (p := ⟨wq2.heap.size, 2, none⟩) gl (.string bq.to_)).setCell (p := ⟨wq2.heap.size, 3, none⟩) gl (.int .i64 bq.x)).setCell (p := ⟨wq2.heap.size, 4, none⟩) gl (.int .i64 bq.tap)).setCell (p := ⟨wq2.heap.size, 5, none⟩) gl (.int .i64 bq.shift)).setCell (p := ⟨wq2.heap.size, 6, none⟩) gl (.int .i64 bq.limit)).setCell (p := ⟨wq2.heap.size, 7, none⟩) gl (.int .i64 bq.short)).setCell (p := ⟨wq2.heap.size, 8, none⟩) gl (.int .i64 bq.hold))
          have X17_5 := (((((((((X17_4.far (p := ⟨wq2.heap.size, 0, none⟩) (show wq3.heap.size ≠ wq2.heap.size by omega) (.string bq.name)).far (p := ⟨wq2.heap.size, 1, none⟩) (show wq3.heap.size ≠ wq2.heap.size by omega) (.string bq.from_)).far (p := ⟨wq2.heap.size, 2, none⟩) (show wq3.heap.size ≠ wq2.heap.size by omega) (.string bq.to_)).far (p := ⟨wq2.heap.size, 3, none⟩) (show wq3.heap.size ≠ wq2.heap.size by omega) (.int .i64 bq.x)).far (p := ⟨wq2.heap.size, 4, none⟩) (show wq3.heap.size ≠ wq2.heap.size by omega) (.int .i64 bq.tap)).far (p := ⟨wq2.heap.size, 5, none⟩) (show wq3.heap.size ≠ wq2.heap.size by omega) (.int .i64 bq.shift)).far (p := ⟨wq2.heap.size, 6, none⟩) (show wq3.heap.size ≠ wq2.heap.size by omega) (.int .i64 bq.limit)).far (p := ⟨wq2.heap.size, 7, none⟩) (show wq3.heap.size ≠ wq2.heap.size by omega) (.int .i64 bq.short)).far (p := ⟨wq2.heap.size, 8, none⟩) (show wq3.heap.size ≠ wq2.heap.size by omega) (.int .i64 bq.hold))
          refine hK.out _ _ ⟨⟨_, bq5⟩, rfl⟩ ?_
          clear hK K kk zz ll gl
          generalize (((((((((wq4.setCell ⟨wq2.heap.size, 0, none⟩ (.string bq.name)).setCell ⟨wq2.heap.size, 1, none⟩ (.string bq.from_)).setCell ⟨wq2.heap.size, 2, none⟩ (.string bq.to_)).setCell ⟨wq2.heap.size, 3, none⟩ (.int .i64 bq.x)).setCell ⟨wq2.heap.size, 4, none⟩ (.int .i64 bq.tap)).setCell ⟨wq2.heap.size, 5, none⟩ (.int .i64 bq.shift)).setCell ⟨wq2.heap.size, 6, none⟩ (.int .i64 bq.limit)).setCell ⟨wq2.heap.size, 7, none⟩ (.int .i64 bq.short)).setCell ⟨wq2.heap.size, 8, none⟩ (.int .i64 bq.hold)) = wq5 at *
          refine wpAnyM_ready [19] (by kernel_rfl) (by simp) ?_
          refine AllReadyM.cons (by rfl) (fun K hK => ?_) AllReadyM.nil
          have kk := X17_5.cell
          have zz := X17_5.frozen
          have ll := X17_5.lt
          have gl : w3.heap.size ≤ wq3.heap.size := by omega
          go_simp
          have X8 := (((((((((X17_5.set_ 0 (.string pq.name)).set_ 1 (.string pq.from_)).set_ 2 (.string pq.to_)).set_ 3 (.int .i64 pq.x)).set_ 4 (.int .i64 pq.tap)).set_ 5 (.int .i64 pq.shift)).set_ 6 (.int .i64 pq.limit)).set_ 7 (.int .i64 pq.short)).set_ 8 (.int .i64 pq.hold))
          simp only [List.setIfInBounds_toArray, List.set_cons_zero, List.set_cons_succ] at X8
          have X17_6 := X8
          clear X8
          have bq6 := (((((((((bq5.setCell (p := ⟨wq3.heap.size, 0, none⟩) gl (.string pq.name)).setCell (p := ⟨wq3.heap.size, 1, none⟩) gl (.string pq.from_)).setCell (p := ⟨wq3.heap.size, 2, none⟩) gl (.string pq.to_)).setCell (p := ⟨wq3.heap.size, 3, none⟩) gl (.int .i64 pq.x)).setCell (p := ⟨wq3.heap.size, 4, none⟩) gl (.int .i64 pq.tap)).setCell (p := ⟨wq3.heap.size, 5, none⟩) gl (.int .i64 pq.shift)).setCell (p := ⟨wq3.heap.size, 6, none⟩) gl (.int .i64 pq.limit)).setCell (p := ⟨wq3.heap.size, 7, none⟩) gl (.int .i64 pq.short)).setCell (p := ⟨wq3.heap.size, 8, none⟩) gl (.int .i64 pq.hold))
          have X16_6 := (((((((((X16_5.far (p := ⟨wq3.heap.size, 0, none⟩) (show wq2.heap.size ≠ wq3.heap.size by omega) (.string pq.name)).far (p := ⟨wq3.heap.size, 1, none⟩) (show wq2.heap.size ≠ wq3.heap.size by omega) (.string pq.from_)).far (p := ⟨wq3.heap.size, 2, none⟩) (show wq2.heap.size ≠ wq3.heap.size by omega) (.string pq.to_)).far (p := ⟨wq3.heap.size, 3, none⟩) (show wq2.heap.size ≠ wq3.heap.size by omega) (.int .i64 pq.x)).far (p := ⟨wq3.heap.size, 4, none⟩) (show wq2.heap.size ≠ wq3.heap.size by omega) (.int .i64 pq.tap)).far (p := ⟨wq3.heap.size, 5, none⟩) (show wq2.heap.size ≠ wq3.heap.size by omega) (.int .i64 pq.shift)).far (p := ⟨wq3.heap.size, 6, none⟩) (show wq2.heap.size ≠ wq3.heap.size by omega) (.int .i64 pq.limit)).far (p := ⟨wq3.heap.size, 7, none⟩) (show wq2.heap.size ≠ wq3.heap.size by omega) (.int .i64 pq.short)).far (p := ⟨wq3.heap.size, 8, none⟩) (show wq2.heap.size ≠ wq3.heap.size by omega) (.int .i64 pq.hold))
          refine hK.out _ _ ⟨⟨_, bq6⟩, rfl⟩ ?_
          clear hK K kk zz ll gl
          generalize (((((((((wq5.setCell ⟨wq3.heap.size, 0, none⟩ (.string pq.name)).setCell ⟨wq3.heap.size, 1, none⟩ (.string pq.from_)).setCell ⟨wq3.heap.size, 2, none⟩ (.string pq.to_)).setCell ⟨wq3.heap.size, 3, none⟩ (.int .i64 pq.x)).setCell ⟨wq3.heap.size, 4, none⟩ (.int .i64 pq.tap)).setCell ⟨wq3.heap.size, 5, none⟩ (.int .i64 pq.shift)).setCell ⟨wq3.heap.size, 6, none⟩ (.int .i64 pq.limit)).setCell ⟨wq3.heap.size, 7, none⟩ (.int .i64 pq.short)).setCell ⟨wq3.heap.size, 8, none⟩ (.int .i64 pq.hold)) = wq6 at *
          refine wpAnyM_done (by kernel_rfl) ?_ _
          generalize wq2.heap.size = ga8 at *
          generalize wq3.heap.size = ga9 at *
          exact ⟨ga8, ga9, rfl, rfl, X16_6, X17_6, bq6⟩
        · go_simp
          have X17_7 := Blk.new_ wq2 wq2.heap.size 42 #[.string ⟨#[]⟩, .string ⟨#[]⟩, .string ⟨#[]⟩, .int .i64 0, .int .i64 0, .int .i64 0, .int .i64 0, .int .i64 0, .int .i64 0] rfl
          have bq7 := bq2.alloc bq2.size (.cells #[.string ⟨#[]⟩, .string ⟨#[]⟩, .string ⟨#[]⟩, .int .i64 0, .int .i64 0, .int .i64 0, .int .i64 0, .int .i64 0, .int .i64 0] 42)
          have l17_7 : w3.heap.size ≤ wq2.heap.size := bq2.size
          generalize wq2.alloc (.cells #[.string ⟨#[]⟩, .string ⟨#[]⟩, .string ⟨#[]⟩, .int .i64 0, .int .i64 0, .int .i64 0, .int .i64 0, .int .i64 0, .int .i64 0] 42) = wq7 at *
          have hSw : (fun w' => ∃ x : Wd w3, w' = x.val) wq7 := ⟨⟨wq7, bq7⟩, rfl⟩
          refine hK.out _ _ hSw ?_
          clear hK K
          refine wpAnyM_ready [16] (by kernel_rfl) (by simp) ?_
          refine AllReadyM.cons (by rfl) (fun K hK => ?_) AllReadyM.nil
          go_simp
          have X16_8 := Blk.new_ wq7 wq7.heap.size 42 #[.string ⟨#[]⟩, .string ⟨#[]⟩, .string ⟨#[]⟩, .int .i64 0, .int .i64 0, .int .i64 0, .int .i64 0, .int .i64 0, .int .i64 0] rfl
          have bq8 := bq7.alloc bq7.size (.cells #[.string ⟨#[]⟩, .string ⟨#[]⟩, .string ⟨#[]⟩, .int .i64 0, .int .i64 0, .int .i64 0, .int .i64 0, .int .i64 0, .int .i64 0] 42)
          have X17_8 := X17_7.alloc (.cells #[.string ⟨#[]⟩, .string ⟨#[]⟩, .string ⟨#[]⟩, .int .i64 0, .int .i64 0, .int .i64 0, .int .i64 0, .int .i64 0, .int .i64 0] 42)
          have n17_8 : wq2.heap.size ≠ wq7.heap.size := by have := X17_7.lt; omega
          have l16_8 : w3.heap.size ≤ wq7.heap.size := bq7.size
          generalize wq7.alloc (.cells #[.string ⟨#[]⟩, .string ⟨#[]⟩, .string ⟨#[]⟩, .int .i64 0, .int .i64 0, .int .i64 0, .int .i64 0, .int .i64 0, .int .i64 0] 42) = wq8 at *
          have hSw : (fun w' => ∃ x : Wd w3, w' = x.val) wq8 := ⟨⟨wq8, bq8⟩, rfl⟩
          refine hK.out _ _ hSw ?_
          clear hK K
          refine wpAnyM_ready [18] (by kernel_rfl) (by simp) ?_
          refine AllReadyM.cons (by rfl) (fun K hK => ?_) AllReadyM.nil
          have kk := X16_8.cell
          have zz := X16_8.frozen
          have ll := X16_8.lt
          have gl : w3.heap.size ≤ wq7.heap.size := by omega
          go_simp
          have X8 := (((((((((X16_8.set_ 0 (.string bq.name)).set_ 1 (.string bq.from_)).set_ 2 (.string bq.to_)).set_ 3 (.int .i64 bq.x)).set_ 4 (.int .i64 bq.tap)).set_ 5 (.int .i64 bq.shift)).set_ 6 (.int .i64 bq.limit)).set_ 7 (.int .i64 bq.short)).set_ 8 (.int .i64 bq.hold))
          simp only [List.setIfInBounds_toArray, List.set_cons_zero, List.set_cons_succ] at X8
          have X16_9 := X8
          clear X8
          have bq9 := (((((((((bq8.setCell (p := ⟨wq7.heap.size, 0, none⟩) gl (.string bq.name)).setCell (p := ⟨wq7.heap.size, 1, none⟩) gl (.string bq.from_)).setCell (p := ⟨wq7.heap.size, 2, none⟩) gl (.string bq.to_)).setCell (p := ⟨wq7.heap.size, 3, none⟩) gl (.int .i64 bq.x)).setCell (p := ⟨wq7.heap.size, 4, none⟩) gl (.int .i64 bq.tap)).setCell (p := ⟨wq7.heap.size, 5, none⟩) gl (.int .i64 bq.shift)).setCell (p := ⟨wq7.heap.size, 6, none⟩) gl (.int .i64 bq.limit)).setCell (p := ⟨wq7.heap.size, 7, none⟩) gl (.int .i64 bq.short)).setCell (p := ⟨wq7.heap.size, 8, none⟩) gl (.int .i64 bq.hold))
          have X17_9 := (((((((((X17_8.far (p := ⟨wq7.heap.size, 0, none⟩) (show wq2.heap.size ≠ wq7.heap.size by omega) (.string bq.name)).far (p := ⟨wq7.heap.size, 1, none⟩) (show wq2.heap.size ≠ wq7.heap.size by omega) (.string bq.from_)).far (p := ⟨wq7.heap.size, 2, none⟩) (show wq2.heap.size ≠ wq7.heap.size by omega) (.string bq.to_)).far (p := ⟨wq7.heap.size, 3, none⟩) (show wq2.heap.size ≠ wq7.heap.size by omega) (.int .i64 bq.x)).far (p := ⟨wq7.heap.size, 4, none⟩) (show wq2.heap.size ≠ wq7.heap.size by omega) (.int .i64 bq.tap)).far (p := ⟨wq7.heap.size, 5, none⟩) (show wq2.heap.size ≠ wq7.heap.size by omega) (.int .i64 bq.shift)).far (p := ⟨wq7.heap.size, 6, none⟩) (show wq2.heap.size ≠ wq7.heap.size by omega) (.int .i64 bq.limit)).far (p := ⟨wq7.heap.size, 7, none⟩) (show wq2.heap.size ≠ wq7.heap.size by omega) (.int .i64 bq.short)).far (p := ⟨wq7.heap.size, 8, none⟩) (show wq2.heap.size ≠ wq7.heap.size by omega) (.int .i64 bq.hold))
          refine hK.out _ _ ⟨⟨_, bq9⟩, rfl⟩ ?_
          clear hK K kk zz ll gl
          generalize (((((((((wq8.setCell ⟨wq7.heap.size, 0, none⟩ (.string bq.name)).setCell ⟨wq7.heap.size, 1, none⟩ (.string bq.from_)).setCell ⟨wq7.heap.size, 2, none⟩ (.string bq.to_)).setCell ⟨wq7.heap.size, 3, none⟩ (.int .i64 bq.x)).setCell ⟨wq7.heap.size, 4, none⟩ (.int .i64 bq.tap)).setCell ⟨wq7.heap.size, 5, none⟩ (.int .i64 bq.shift)).setCell ⟨wq7.heap.size, 6, none⟩ (.int .i64 bq.limit)).setCell ⟨wq7.heap.size, 7, none⟩ (.int .i64 bq.short)).setCell ⟨wq7.heap.size, 8, none⟩ (.int .i64 bq.hold)) = wq9 at *
          refine wpAnyM_ready [19] (by kernel_rfl) (by simp) ?_
          refine AllReadyM.cons (by rfl) (fun K hK => ?_) AllReadyM.nil
          have kk := X17_9.cell
          have zz := X17_9.frozen
          have ll := X17_9.lt
          have gl : w3.heap.size ≤ wq2.heap.size := by omega
          go_simp
          have X8 := (((((((((X17_9.set_ 0 (.string pq.name)).set_ 1 (.string pq.from_)).set_ 2 (.string pq.to_)).set_ 3 (.int .i64 pq.x)).set_ 4 (.int .i64 pq.tap)).set_ 5 (.int .i64 pq.shift)).set_ 6 (.int .i64 pq.limit)).set_ 7 (.int .i64 pq.short)).set_ 8 (.int .i64 pq.hold))
          simp only [List.setIfInBounds_toArray, List.set_cons_zero, List.set_cons_succ] at X8
          have X17_10 := X8
          clear X8
          have bq10 := (((((((((bq9.setCell (p := ⟨wq2.heap.size, 0, none⟩) gl (.string pq.name)).setCell (p := ⟨wq2.heap.size, 1, none⟩) gl (.string pq.from_)).setCell (p := ⟨wq2.heap.size, 2, none⟩) gl (.string pq.to_)).setCell (p := ⟨wq2.heap.size, 3, none⟩) gl (.int .i64 pq.x)).setCell (p := ⟨wq2.heap.size, 4, none⟩) gl (.int .i64 pq.tap)).setCell (p := ⟨wq2.heap.size, 5, none⟩) gl (.int .i64 pq.shift)).setCell (p := ⟨wq2.heap.size, 6, none⟩) gl (.int .i64 pq.limit)).setCell (p := ⟨wq2.heap.size, 7, none⟩) gl (.int .i64 pq.short)).setCell (p := ⟨wq2.heap.size, 8, none⟩) gl (.int .i64 pq.hold))
          have X16_10 := (((((((((X16_9.far (p := ⟨wq2.heap.size, 0, none⟩) (show wq7.heap.size ≠ wq2.heap.size by omega) (.string pq.name)).far (p := ⟨wq2.heap.size, 1, none⟩) (show wq7.heap.size ≠ wq2.heap.size by omega) (.string pq.from_)).far (p := ⟨wq2.heap.size, 2, none⟩) (show wq7.heap.size ≠ wq2.heap.size by omega) (.string pq.to_)).far (p := ⟨wq2.heap.size, 3, none⟩) (show wq7.heap.size ≠ wq2.heap.size by omega) (.int .i64 pq.x)).far (p := ⟨wq2.heap.size, 4, none⟩) (show wq7.heap.size ≠ wq2.heap.size by omega) (.int .i64 pq.tap)).far (p := ⟨wq2.heap.size, 5, none⟩) (show wq7.heap.size ≠ wq2.heap.size by omega) (.int .i64 pq.shift)).far (p := ⟨wq2.heap.size, 6, none⟩) (show wq7.heap.size ≠ wq2.heap.size by omega) (.int .i64 pq.limit)).far (p := ⟨wq2.heap.size, 7, none⟩) (show wq7.heap.size ≠ wq2.heap.size by omega) (.int .i64 pq.short)).far (p := ⟨wq2.heap.size, 8, none⟩) (show wq7.heap.size ≠ wq2.heap.size by omega) (.int .i64 pq.hold))
          refine hK.out _ _ ⟨⟨_, bq10⟩, rfl⟩ ?_
          clear hK K kk zz ll gl
          generalize (((((((((wq9.setCell ⟨wq2.heap.size, 0, none⟩ (.string pq.name)).setCell ⟨wq2.heap.size, 1, none⟩ (.string pq.from_)).setCell ⟨wq2.heap.size, 2, none⟩ (.string pq.to_)).setCell ⟨wq2.heap.size, 3, none⟩ (.int .i64 pq.x)).setCell ⟨wq2.heap.size, 4, none⟩ (.int .i64 pq.tap)).setCell ⟨wq2.heap.size, 5, none⟩ (.int .i64 pq.shift)).setCell ⟨wq2.heap.size, 6, none⟩ (.int .i64 pq.limit)).setCell ⟨wq2.heap.size, 7, none⟩ (.int .i64 pq.short)).setCell ⟨wq2.heap.size, 8, none⟩ (.int .i64 pq.hold)) = wq10 at *
          refine wpAnyM_done (by kernel_rfl) ?_ _
          generalize wq7.heap.size = ga8 at *
          generalize wq2.heap.size = ga9 at *
          exact ⟨ga8, ga9, rfl, rfl, X16_10, X17_10, bq10⟩
      · go_simp
        have X16_11 := Blk.new_ wq1 wq1.heap.size 42 #[.string ⟨#[]⟩, .string ⟨#[]⟩, .string ⟨#[]⟩, .int .i64 0, .int .i64 0, .int .i64 0, .int .i64 0, .int .i64 0, .int .i64 0] rfl
        have bq11 := bq1.alloc bq1.size (.cells #[.string ⟨#[]⟩, .string ⟨#[]⟩, .string ⟨#[]⟩, .int .i64 0, .int .i64 0, .int .i64 0, .int .i64 0, .int .i64 0, .int .i64 0] 42)
        have l16_11 : w3.heap.size ≤ wq1.heap.size := bq1.size
        generalize wq1.alloc (.cells #[.string ⟨#[]⟩, .string ⟨#[]⟩, .string ⟨#[]⟩, .int .i64 0, .int .i64 0, .int .i64 0, .int .i64 0, .int .i64 0, .int .i64 0] 42) = wq11 at *
        have hSw : (fun w' => ∃ x : Wd w3, w' = x.val) wq11 := ⟨⟨wq11, bq11⟩, rfl⟩
        refine hK.out _ _ hSw ?_
        clear hK K
        refine wpAnyM_ready [13, 17] (by kernel_rfl) (by simp) ?_
        refine AllReadyM.cons (by rfl) (fun K hK => ?_) (AllReadyM.cons (by rfl) (fun K hK => ?_) AllReadyM.nil)
        · go_simp
          refine (C1.out pb _ (F0.out.trans (bq11.mono F0.out.size))).mono ?_
          rintro e wq12 ⟨rfl, hb5⟩
          have bq12 : Below w3.heap.size w3 wq12 := bq11.trans (hb5.mono bq11.size)
          have X16_12 := X16_11.go hb5
          have hSw : (fun w' => ∃ x : Wd w3, w' = x.val) wq12 := ⟨⟨wq12, bq12⟩, rfl⟩
          refine hK.out _ _ hSw ?_
          clear hK K hb5
          refine wpAnyM_take 14 rfl (by kernel_rfl) (by kernel_rfl) (by kernel_rfl) (by kernel_rfl) (by kernel_rfl) (fun _ _ _ h => by obtain ⟨_, _, h, _⟩ := h; cases h) hSw (by kernel_rfl) (fun w' hSx => by obtain ⟨xw, rfl⟩ := hSx; go_simp; first | done | with_reducible rfl) ?_
          simp only [Act.put]
          refine wpAnyM_take 15 rfl (by kernel_rfl) (by kernel_rfl) (by kernel_rfl) (by kernel_rfl) (by kernel_rfl) (fun _ _ _ h => by obtain ⟨_, _, h, _⟩ := h; cases h) hSw (by kernel_rfl) (fun w' hSx => by obtain ⟨xw, rfl⟩ := hSx; go_simp; first | done | with_reducible rfl) ?_
          simp only [Act.put]
          refine wpAnyM_ready [17] (by kernel_rfl) (by simp) ?_
          refine AllReadyM.cons (by rfl) (fun K hK => ?_) AllReadyM.nil
          go_simp
          have X17_13 := Blk.new_ wq12 wq12.heap.size 42 #[.string ⟨#[]⟩, .string ⟨#[]⟩, .string ⟨#[]⟩, .int .i64 0, .int .i64 0, .int .i64 0, .int .i64 0, .int .i64 0, .int .i64 0] rfl
          have bq13 := bq12.alloc bq12.size (.cells #[.string ⟨#[]⟩, .string ⟨#[]⟩, .string ⟨#[]⟩, .int .i64 0, .int .i64 0, .int .i64 0, .int .i64 0, .int .i64 0, .int .i64 0] 42)
          have X16_13 := X16_12.alloc (.cells #[.string ⟨#[]⟩, .string ⟨#[]⟩, .string ⟨#[]⟩, .int .i64 0, .int .i64 0, .int .i64 0, .int .i64 0, .int .i64 0, .int .i64 0] 42)
          have n16_13 : wq1.heap.size ≠ wq12.heap.size := by have := X16_12.lt; omega
          have l17_13 : w3.heap.size ≤ wq12.heap.size := bq12.size
          generalize wq12.alloc (.cells #[.string ⟨#[]⟩, .string ⟨#[]⟩, .string ⟨#[]⟩, .int .i64 0, .int .i64 0, .int .i64 0, .int .i64 0, .int .i64 0, .int .i64 0] 42) = wq13 at *
          have hSw : (fun w' => ∃ x : Wd w3, w' = x.val) wq13 := ⟨⟨wq13, bq13⟩, rfl⟩
          refine hK.out _ _ hSw ?_
          clear hK K
          refine wpAnyM_ready [18] (by kernel_rfl) (by simp) ?_
          refine AllReadyM.cons (by rfl) (fun K hK => ?_) AllReadyM.nil
          have kk := X16_13.cell
          have zz := X16_13.frozen
          have ll := X16_13.lt
          have gl : w3.heap.size ≤ wq1.heap.size := by omega
          go_simp
          have X8 := (((((((((X16_13.set_ 0 (.string bq.name)).set_ 1 (.string bq.from_)).set_ 2 (.string bq.to_)).set_ 3 (.int .i64 bq.x)).set_ 4 (.int .i64 bq.tap)).set_ 5 (.int .i64 bq.shift)).set_ 6 (.int .i64 bq.limit)).set_ 7 (.int .i64 bq.short)).set_ 8 (.int .i64 bq.hold))
          simp only [List.setIfInBounds_toArray, List.set_cons_zero, List.set_cons_succ] at X8
          have X16_14 := X8
          clear X8
          have bq14 := (((((((((bq13.setCell (p := ⟨wq1.heap.size, 0, none⟩) gl (.string bq.name)).setCell (p := ⟨wq1.heap.size, 1, none⟩) gl (.string bq.from_)).setCell (p := ⟨wq1.heap.size, 2, none⟩) gl (.string bq.to_)).setCell (p := ⟨wq1.heap.size, 3, none⟩) gl (.int .i64 bq.x)).setCell (p := ⟨wq1.heap.size, 4, none⟩) gl (.int .i64 bq.tap)).setCell (p := ⟨wq1.heap.size, 5, none⟩) gl (.int .i64 bq.shift)).setCell (p := ⟨wq1.heap.size, 6, none⟩) gl (.int .i64 bq.limit)).setCell (p := ⟨wq1.heap.size, 7, none⟩) gl (.int .i64 bq.short)).setCell (p := ⟨wq1.heap.size, 8, none⟩) gl (.int .i64 bq.hold))
          have X17_14 := (((((((((X17_13.far (p := ⟨wq1.heap.size, 0, none⟩) (show wq12.heap.size ≠ wq1.heap.size by omega) (.string bq.name)).far (p := ⟨wq1.heap.size, 1, none⟩) (show wq12.heap.size ≠ wq1.heap.size by omega) (.string bq.from_)).far (p := ⟨wq1.heap.size, 2, none⟩) (show wq12.heap.size ≠ wq1.heap.size by omega) (.string bq.to_)).far (p := ⟨wq1.heap.size, 3, none⟩) (show wq12.heap.size ≠ wq1.heap.size by omega) (.int .i64 bq.x)).far (p := ⟨wq1.heap.size, 4, none⟩) (show wq12.heap.size ≠ wq1.heap.size by omega) (.int .i64 bq.tap)).far (p := ⟨wq1.heap.size, 5, none⟩) (show wq12.heap.size ≠ wq1.heap.size by omega) (.int .i64 bq.shift)).far (p := ⟨wq1.heap.size, 6, none⟩) (show wq12.heap.size ≠ wq1.heap.size by omega) (.int .i64 bq.limit)).far (p := ⟨wq1.heap.size, 7, none⟩) (show wq12.heap.size ≠ wq1.heap.size by omega) (.int .i64 bq.short)).far (p := ⟨wq1.heap.size, 8, none⟩) (show wq12.heap.size ≠ wq1.heap.size by omega) (.int .i64 bq.hold))
          refine hK.out _ _ ⟨⟨_, bq14⟩, rfl⟩ ?_
          clear hK K kk zz ll gl
          generalize (((((((((wq13.setCell ⟨wq1.heap.size, 0, none⟩ (.string bq.name)).setCell ⟨wq1.heap.size, 1, none⟩ (.string bq.from_)).setCell ⟨wq1.heap.size, 2, none⟩ (.string bq.to_)).setCell ⟨wq1.heap.size, 3, none⟩ (.int .i64 bq.x)).setCell ⟨wq1.heap.size, 4, none⟩ (.int .i64 bq.tap)).setCell ⟨wq1.heap.size, 5, none⟩ (.int .i64 bq.shift)).setCell ⟨wq1.heap.size, 6, none⟩ (.int .i64 bq.limit)).setCell ⟨wq1.heap.size, 7, none⟩ (.int .i64 bq.short)).setCell ⟨wq1.heap.size, 8, none⟩ (.int .i64 bq.hold)) = wq14 at *
          refine wpAnyM_ready [19] (by kernel_rfl) (by simp) ?_
          refine AllReadyM.cons (by rfl) (fun K hK => ?_) AllReadyM.nil
          have kk := X17_14.cell
          have zz := X17_14.frozen
          have ll := X17_14.lt
          have gl : w3.heap.size ≤ wq12.heap.size := by omega
          go_simp
          have X8 := (((((((((X17_14.set_ 0 (.string pq.name)).set_ 1 (.string pq.from_)).set_ 2 (.string pq.to_)).set_ 3 (.int .i64 pq.x)).set_ 4 (.int .i64 pq.tap)).set_ 5 (.int .i64 pq.shift)).set_ 6 (.int .i64 pq.limit)).set_ 7 (.int .i64 pq.short)).set_ 8 (.int .i64 pq.hold))
          simp only [List.setIfInBounds_toArray, List.set_cons_zero, List.set_cons_succ] at X8
          have X17_15 := X8
          clear X8
          have bq15 := (((((((((bq14.setCell (p := ⟨wq12.heap.size, 0, none⟩) gl (.string pq.name)).setCell (p := ⟨wq12.heap.size, 1, none⟩) gl (.string pq.from_)).setCell (p := ⟨wq12.heap.size, 2, none⟩) gl (.string pq.to_)).setCell (p := ⟨wq12.heap.size, 3, none⟩) gl (.int .i64 pq.x)).setCell (p := ⟨wq12.heap.size, 4, none⟩) gl (.int .i64 pq.tap)).setCell (p := ⟨wq12.heap.size, 5, none⟩) gl (.int .i64 pq.shift)).setCell (p := ⟨wq12.heap.size, 6, none⟩) gl (.int .i64 pq.limit)).setCell (p := ⟨wq12.heap.size, 7, none⟩) gl (.int .i64 pq.short)).setCell (p := ⟨wq12.heap.size, 8, none⟩) gl (.int .i64 pq.hold))
          have X16_15 := (((((((((X16_14.far (p := ⟨wq12.heap.size, 0, none⟩) (show wq1.heap.size ≠ wq12.heap.size by omega) (.string pq.name)).far (p := ⟨wq12.heap.size, 1, none⟩) (show wq1.heap.size ≠ wq12.heap.size by omega) (.string pq.from_)).far (p := ⟨wq12.heap.size, 2, none⟩) (show wq1.heap.size ≠ wq12.heap.size by omega) (.string pq.to_)).far (p := ⟨wq12.heap.size, 3, none⟩) (show wq1.heap.size ≠ wq12.heap.size by omega) (.int .i64 pq.x)).far (p := ⟨wq12.heap.size, 4, none⟩) (show wq1.heap.size ≠ wq12.heap.size by omega) (.int .i64 pq.tap)).far (p := ⟨wq12.heap.size, 5, none⟩) (show wq1.heap.size ≠ wq12.heap.size by omega) (.int .i64 pq.shift)).far (p := ⟨wq12.heap.size, 6, none⟩) (show wq1.heap.size ≠ wq12.heap.size by omega) (.int .i64 pq.limit)).far (p := ⟨wq12.heap.size, 7, none⟩) (show wq1.heap.size ≠ wq12.heap.size by omega) (.int .i64 pq.short)).far (p := ⟨wq12.heap.size, 8, none⟩) (show wq1.heap.size ≠ wq12.heap.size by omega) (.int .i64 pq.hold))
          refine hK.out _ _ ⟨⟨_, bq15⟩, rfl⟩ ?_
          clear hK K kk zz ll gl
          generalize (((((((((wq14.setCell ⟨wq12.heap.size, 0, none⟩ (.string pq.name)).setCell ⟨wq12.heap.size, 1, none⟩ (.string pq.from_)).setCell ⟨wq12.heap.size, 2, none⟩ (.string pq.to_)).setCell ⟨wq12.heap.size, 3, none⟩ (.int .i64 pq.x)).setCell ⟨wq12.heap.size, 4, none⟩ (.int .i64 pq.tap)).setCell ⟨wq12.heap.size, 5, none⟩ (.int .i64 pq.shift)).setCell ⟨wq12.heap.size, 6, none⟩ (.int .i64 pq.limit)).setCell ⟨wq12.heap.size, 7, none⟩ (.int .i64 pq.short)).setCell ⟨wq12.heap.size, 8, none⟩ (.int .i64 pq.hold)) = wq15 at *
          refine wpAnyM_done (by kernel_rfl) ?_ _
          generalize wq1.heap.size = ga8 at *
          generalize wq12.heap.size = ga9 at *
          exact ⟨ga8, ga9, rfl, rfl, X16_15, X17_15, bq15⟩
        · go_simp
          have X17_16 := Blk.new_ wq11 wq11.heap.size 42 #[.string ⟨#[]⟩, .string ⟨#[]⟩, .string ⟨#[]⟩, .int .i64 0, .int .i64 0, .int .i64 0, .int .i64 0, .int .i64 0, .int .i64 0] rfl
          have bq16 := bq11.alloc bq11.size (.cells #[.string ⟨#[]⟩, .string ⟨#[]⟩, .string ⟨#[]⟩, .int .i64 0, .int .i64 0, .int .i64 0, .int .i64 0, .int .i64 0, .int .i64 0] 42)
          have X16_16 := X16_11.alloc (.cells #[.string ⟨#[]⟩, .string ⟨#[]⟩, .string ⟨#[]⟩, .int .i64 0, .int .i64 0, .int .i64 0, .int .i64 0, .int .i64 0, .int .i64 0] 42)
          have n16_16 : wq1.heap.size ≠ wq11.heap.size := by have := X16_11.lt; omega
          have l17_16 : w3.heap.size ≤ wq11.heap.size := bq11.size
          generalize wq11.alloc (.cells #[.string ⟨#[]⟩, .string ⟨#[]⟩, .string ⟨#[]⟩, .int .i64 0, .int .i64 0, .int .i64 0, .int .i64 0, .int .i64 0, .int .i64 0] 42) = wq16 at *
          have hSw : (fun w' => ∃ x : Wd w3, w' = x.val) wq16 := ⟨⟨wq16, bq16⟩, rfl⟩
          refine hK.out _ _ hSw ?_
          clear hK K
          refine wpAnyM_ready [13] (by kernel_rfl) (by simp) ?_
          refine AllReadyM.cons (by rfl) (fun K hK => ?_) AllReadyM.nil
          go_simp
          refine (C1.out pb _ (F0.out.trans (bq16.mono F0.out.size))).mono ?_
          rintro e wq17 ⟨rfl, hb5⟩
          have bq17 : Below w3.heap.size w3 wq17 := bq16.trans (hb5.mono bq16.size)
          have X16_17 := X16_16.go hb5
          have X17_17 := X17_16.go hb5
          have hSw : (fun w' => ∃ x : Wd w3, w' = x.val) wq17 := ⟨⟨wq17, bq17⟩, rfl⟩
          refine hK.out _ _ hSw ?_
          clear hK K hb5
          refine wpAnyM_take 14 rfl (by kernel_rfl) (by kernel_rfl) (by kernel_rfl) (by kernel_rfl) (by kernel_rfl) (fun _ _ _ h => by obtain ⟨_, _, h, _⟩ := h; cases h) hSw (by kernel_rfl) (fun w' hSx => by obtain ⟨xw, rfl⟩ := hSx; go_simp; first | done | with_reducible rfl) ?_
          simp only [Act.put]
          refine wpAnyM_take 15 rfl (by kernel_rfl) (by kernel_rfl) (by kernel_rfl) (by kernel_rfl) (by kernel_rfl) (fun _ _ _ h => by obtain ⟨_, _, h, _⟩ := h; cases h) hSw (by kernel_rfl) (fun w' hSx => by obtain ⟨xw, rfl⟩ := hSx; go_simp; first | done | with_reducible rfl) ?_
          simp only [Act.put]
          refine wpAnyM_ready [18] (by kernel_rfl) (by simp) ?_
          refine AllReadyM.cons (by rfl) (fun K hK => ?_) AllReadyM.nil
          have kk := X16_17.cell
          have zz := X16_17.frozen
          have ll := X16_17.lt
          have gl : w3.heap.size ≤ wq1.heap.size := by omega
          go_simp
          have X8 := (((((((((X16_17.set_ 0 (.string bq.name)).set_ 1 (.string bq.from_)).set_ 2 (.string bq.to_)).set_ 3 (.int .i64 bq.x)).set_ 4 (.int .i64 bq.tap)).set_ 5 (.int .i64 bq.shift)).set_ 6 (.int .i64 bq.limit)).set_ 7 (.int .i64 bq.short)).set_ 8 (.int .i64 bq.hold))
          simp only [List.setIfInBounds_toArray, List.set_cons_zero, List.set_cons_succ] at X8
          have X16_18 := X8
          clear X8
          have bq18 := (((((((((bq17.setCell (p := ⟨wq1.heap.size, 0, none⟩) gl (.string bq.name)).setCell (p := ⟨wq1.heap.size, 1, none⟩) gl (.string bq.from_)).setCell (p := ⟨wq1.heap.size, 2, none⟩) gl (.string bq.to_)).setCell (p := ⟨wq1.heap.size, 3, none⟩) gl (.int .i64 bq.x)).setCell (p := ⟨wq1.heap.size, 4, none⟩) gl (.int .i64 bq.tap)).setCell (p := ⟨wq1.heap.size, 5, none⟩) gl (.int .i64 bq.shift)).setCell (p := ⟨wq1.heap.size, 6, none⟩) gl (.int .i64 bq.limit)).setCell (p := ⟨wq1.heap.size, 7, none⟩) gl (.int .i64 bq.short)).setCell (p := ⟨wq1.heap.size, 8, none⟩) gl (.int .i64 bq.hold))
          have X17_18 := (((((((((X17_17.far (p := ⟨wq1.heap.size, 0, none⟩) (show wq11.heap.size ≠ wq1.heap.size by omega) (.string bq.name)).far (p := ⟨wq1.heap.size, 1, none⟩) (show wq11.heap.size ≠ wq1.heap.size by omega) (.string bq.from_)).far (p := ⟨wq1.heap.size, 2, none⟩) (show wq11.heap.size ≠ wq1.heap.size by omega) (.string bq.to_)).far (p := ⟨wq1.heap.size, 3, none⟩) (show wq11.heap.size ≠ wq1.heap.size by omega) (.int .i64 bq.x)).far (p := ⟨wq1.heap.size, 4, none⟩) (show wq11.heap.size ≠ wq1.heap.size by omega) (.int .i64 bq.tap)).far (p := ⟨wq1.heap.size, 5, none⟩) (show wq11.heap.size ≠ wq1.heap.size by omega) (.int .i64 bq.shift)).far (p := ⟨wq1.heap.size, 6, none⟩) (show wq11.heap.size ≠ wq1.heap.size by omega) (.int .i64 bq.limit)).far (p := ⟨wq1.heap.size, 7, none⟩) (show wq11.heap.size ≠ wq1.heap.size by omega) (.int .i64 bq.short)).far (p := ⟨wq1.heap.size, 8, none⟩) (show wq11.heap.size ≠ wq1.heap.size by omega) (.int .i64 bq.hold))
          refine hK.out _ _ ⟨⟨_, bq18⟩, rfl⟩ ?_
          clear hK K kk zz ll gl
          generalize (((((((((wq17.setCell ⟨wq1.heap.size, 0, none⟩ (.string bq.name)).setCell ⟨wq1.heap.size, 1, none⟩ (.string bq.from_)).setCell ⟨wq1.heap.size, 2, none⟩ (.string bq.to_)).setCell ⟨wq1.heap.size, 3, none⟩ (.int .i64 bq.x)).setCell ⟨wq1.heap.size, 4, none⟩ (.int .i64 bq.tap)).setCell ⟨wq1.heap.size, 5, none⟩ (.int .i64 bq.shift)).setCell ⟨wq1.heap.size, 6, none⟩ (.int .i64 bq.limit)).setCell ⟨wq1.heap.size, 7, none⟩ (.int .i64 bq.short)).setCell ⟨wq1.heap.size, 8, none⟩ (.int .i64 bq.hold)) = wq18 at *
          refine wpAnyM_ready [19] (by kernel_rfl) (by simp) ?_
          refine AllReadyM.cons (by rfl) (fun K hK => ?_) AllReadyM.nil
          have kk := X17_18.cell
          have zz := X17_18.frozen
          have ll := X17_18.lt
          have gl : w3.heap.size ≤ wq11.heap.size := by omega
          go_simp
          have X8 := (((((((((X17_18.set_ 0 (.string pq.name)).set_ 1 (.string pq.from_)).set_ 2 (.string pq.to_)).set_ 3 (.int .i64 pq.x)).set_ 4 (.int .i64 pq.tap)).set_ 5 (.int .i64 pq.shift)).set_ 6 (.int .i64 pq.limit)).set_ 7 (.int .i64 pq.short)).set_ 8 (.int .i64 pq.hold))
          simp only [List.setIfInBounds_toArray, List.set_cons_zero, List.set_cons_succ] at X8
          have X17_19 := X8
          clear X8
          have bq19 := (((((((((bq18.setCell (p := ⟨wq11.heap.size, 0, none⟩) gl (.string pq.name)).setCell (p := ⟨wq11.heap.size, 1, none⟩) gl (.string pq.from_)).setCell (p := ⟨wq11.heap.size, 2, none⟩) gl (.string pq.to_)).setCell (p := ⟨wq11.heap.size, 3, none⟩) gl (.int .i64 pq.x)).setCell (p := ⟨wq11.heap.size, 4, none⟩) gl (.int .i64 pq.tap)).setCell (p := ⟨wq11.heap.size, 5, none⟩) gl (.int .i64 pq.shift)).setCell (p := ⟨wq11.heap.size, 6, none⟩) gl (.int .i64 pq.limit)).setCell (p := ⟨wq11.heap.size, 7, none⟩) gl (.int .i64 pq.short)).setCell (p := ⟨wq11.heap.size, 8, none⟩) gl (.int .i64 pq.hold))
          have X16_19 := (((((((((X16_18.far (p := ⟨wq11.heap.size, 0, none⟩) (show wq1.heap.size ≠ wq11.heap.size by omega) (.string pq.name)).far (p := ⟨wq11.heap.size, 1, none⟩) (show wq1.heap.size ≠ wq11.heap.size by omega) (.string pq.from_)).far (p := ⟨wq11.heap.size, 2, none⟩) (show wq1.heap.size ≠ wq11.heap.size by omega) (.string pq.to_)).far (p := ⟨wq11.heap.size, 3, none⟩) (show wq1.heap.size ≠ wq11.heap.size by omega) (.int .i64 pq.x)).far (p := ⟨wq11.heap.size, 4, none⟩) (show wq1.heap.size ≠ wq11.heap.size by omega) (.int .i64 pq.tap)).far (p := ⟨wq11.heap.size, 5, none⟩) (show wq1.heap.size ≠ wq11.heap.size by omega) (.int .i64 pq.shift)).far (p := ⟨wq11.heap.size, 6, none⟩) (show wq1.heap.size ≠ wq11.heap.size by omega) (.int .i64 pq.limit)).far (p := ⟨wq11.heap.size, 7, none⟩) (show wq1.heap.size ≠ wq11.heap.size by omega) (.int .i64 pq.short)).far (p := ⟨wq11.heap.size, 8, none⟩) (show wq1.heap.size ≠ wq11.heap.size by omega) (.int .i64 pq.hold))
          refine hK.out _ _ ⟨⟨_, bq19⟩, rfl⟩ ?_
          clear hK K kk zz ll gl
          generalize (((((((((wq18.setCell ⟨wq11.heap.size, 0, none⟩ (.string pq.name)).setCell ⟨wq11.heap.size, 1, none⟩ (.string pq.from_)).setCell ⟨wq11.heap.size, 2, none⟩ (.string pq.to_)).setCell ⟨wq11.heap.size, 3, none⟩ (.int .i64 pq.x)).setCell ⟨wq11.heap.size, 4, none⟩ (.int .i64 pq.tap)).setCell ⟨wq11.heap.size, 5, none⟩ (.int .i64 pq.shift)).setCell ⟨wq11.heap.size, 6, none⟩ (.int .i64 pq.limit)).setCell ⟨wq11.heap.size, 7, none⟩ (.int .i64 pq.short)).setCell ⟨wq11.heap.size, 8, none⟩ (.int .i64 pq.hold)) = wq19 at *
          refine wpAnyM_done (by kernel_rfl) ?_ _
          generalize wq1.heap.size = ga8 at *
          generalize wq11.heap.size = ga9 at *
          exact ⟨ga8, ga9, rfl, rfl, X16_19, X17_19, bq19⟩
      · go_simp
        have X17_20 := Blk.new_ wq1 wq1.heap.size 42 #[.string ⟨#[]⟩, .string ⟨#[]⟩, .string ⟨#[]⟩, .int .i64 0, .int .i64 0, .int .i64 0, .int .i64 0, .int .i64 0, .int .i64 0] rfl
        have bq20 := bq1.alloc bq1.size (.cells #[.string ⟨#[]⟩, .string ⟨#[]⟩, .string ⟨#[]⟩, .int .i64 0, .int .i64 0, .int .i64 0, .int .i64 0, .int .i64 0, .int .i64 0] 42)
        have l17_20 : w3.heap.size ≤ wq1.heap.size := bq1.size
        generalize wq1.alloc (.cells #[.string ⟨#[]⟩, .string ⟨#[]⟩, .string ⟨#[]⟩, .int .i64 0, .int .i64 0, .int .i64 0, .int .i64 0, .int .i64 0, .int .i64 0] 42) = wq20 at *
        have hSw : (fun w' => ∃ x : Wd w3, w' = x.val) wq20 := ⟨⟨wq20, bq20⟩, rfl⟩
        refine hK.out _ _ hSw ?_
        clear hK K
        refine wpAnyM_ready [13, 16] (by kernel_rfl) (by simp) ?_
        refine AllReadyM.cons (by rfl) (fun K hK => ?_) (AllReadyM.cons (by rfl) (fun K hK => ?_) AllReadyM.nil)
        · go_simp
          refine (C1.out pb _ (F0.out.trans (bq20.mono F0.out.size))).mono ?_
          rintro e wq21 ⟨rfl, hb5⟩
          have bq21 : Below w3.heap.size w3 wq21 := bq20.trans (hb5.mono bq20.size)
          have X17_21 := X17_20.go hb5
          have hSw : (fun w' => ∃ x : Wd w3, w' = x.val) wq21 := ⟨⟨wq21, bq21⟩, rfl⟩
          refine hK.out _ _ hSw ?_
          clear hK K hb5
          refine wpAnyM_take 14 rfl (by kernel_rfl) (by kernel_rfl) (by kernel_rfl) (by kernel_rfl) (by kernel_rfl) (fun _ _ _ h => by obtain ⟨_, _, h, _⟩ := h; cases h) hSw (by kernel_rfl) (fun w' hSx => by obtain ⟨xw, rfl⟩ := hSx; go_simp; first | done | with_reducible rfl) ?_
          simp only [Act.put]
          refine wpAnyM_take 15 rfl (by kernel_rfl) (by kernel_rfl) (by kernel_rfl) (by kernel_rfl) (by kernel_rfl) (fun _ _ _ h => by obtain ⟨_, _, h, _⟩ := h; cases h) hSw (by kernel_rfl) (fun w' hSx => by obtain ⟨xw, rfl⟩ := hSx; go_simp; first | done | with_reducible rfl) ?_
          simp only [Act.put]
          refine wpAnyM_ready [16] (by kernel_rfl) (by simp) ?_
          refine AllReadyM.cons (by rfl) (fun K hK => ?_) AllReadyM.nil
          go_simp
          have X16_22 := Blk.new_ wq21 wq21.heap.size 42 #[.string ⟨#[]⟩, .string ⟨#[]⟩, .string ⟨#[]⟩, .int .i64 0, .int .i64 0, .int .i64 0, .int .i64 0, .int .i64 0, .int .i64 0] rfl
          have bq22 := bq21.alloc bq21.size (.cells #[.string ⟨#[]⟩, .string ⟨#[]⟩, .string ⟨#[]⟩, .int .i64 0, .int .i64 0, .int .i64 0, .int .i64 0, .int .i64 0, .int .i64 0] 42)
          have X17_22 := X17_21.alloc (.cells #[.string ⟨#[]⟩, .string ⟨#[]⟩, .string ⟨#[]⟩, .int .i64 0, .int .i64 0, .int .i64 0, .int .i64 0, .int .i64 0, .int .i64 0] 42)
          have n17_22 : wq1.heap.size ≠ wq21.heap.size := by have := X17_21.lt; omega
          have l16_22 : w3.heap.size ≤ wq21.heap.size := bq21.size
          generalize wq21.alloc (.cells #[.string ⟨#[]⟩, .string ⟨#[]⟩, .string ⟨#[]⟩, .int .i64 0, .int .i64 0, .int .i64 0, .int .i64 0, .int .i64 0, .int .i64 0] 42) = wq22 at *
          have hSw : (fun w' => ∃ x : Wd w3, w' = x.val) wq22 := ⟨⟨wq22, bq22⟩, rfl⟩
          refine hK.out _ _ hSw ?_
          clear hK K
          refine wpAnyM_ready [18] (by kernel_rfl) (by simp) ?_
          refine AllReadyM.cons (by rfl) (fun K hK => ?_) AllReadyM.nil
          have kk := X16_22.cell
          have zz := X16_22.frozen
          have ll := X16_22.lt
          have gl : w3.heap.size ≤ wq21.heap.size := by omega
          go_simp
          have X8 := (((((((((X16_22.set_ 0 (.string bq.name)).set_ 1 (.string bq.from_)).set_ 2 (.string bq.to_)).set_ 3 (.int .i64 bq.x)).set_ 4 (.int .i64 bq.tap)).set_ 5 (.int .i64 bq.shift)).set_ 6 (.int .i64 bq.limit)).set_ 7 (.int .i64 bq.short)).set_ 8 (.int .i64 bq.hold))
          simp only [List.setIfInBounds_toArray, List.set_cons_zero, List.set_cons_succ] at X8
          have X16_23 := X8
          clear X8
          have bq23 := (((((((((bq22.setCell (p := ⟨wq21.heap.size, 0, none⟩) gl (.string bq.name)).setCell (p := ⟨wq21.heap.size, 1, none⟩) gl (.string bq.from_)).setCell (p := ⟨wq21.heap.size, 2, none⟩) gl (.string bq.to_)).setCell (p := ⟨wq21.heap.size, 3, none⟩) gl (.int .i64 bq.x)).setCell (p := ⟨wq21.heap.size, 4, none⟩) gl (.int .i64 bq.tap)).setCell (p := ⟨wq21.heap.size, 5, none⟩) gl (.int .i64 bq.shift)).setCell (p := ⟨wq21.heap.size, 6, none⟩) gl (.int .i64 bq.limit)).setCell (p := ⟨wq21.heap.size, 7, none⟩) gl (.int .i64 bq.short)).setCell (p := ⟨wq21.heap.size, 8, none⟩) gl (.int .i64 bq.hold))
          have X17_23 := (((((((((X17_22.far (p := ⟨wq21.heap.size, 0, none⟩) (show wq1.heap.size ≠ wq21.heap.size by omega) (.string bq.name)).far (p := ⟨wq21.heap.size, 1, none⟩) (show wq1.heap.size ≠ wq21.heap.size by omega) (.string bq.from_)).far (p := ⟨wq21.heap.size, 2, none⟩) (show wq1.heap.size ≠ wq21.heap.size by omega) (.string bq.to_)).far (p := ⟨wq21.heap.size, 3, none⟩) (show wq1.heap.size ≠ wq21.heap.size by omega) (.int .i64 bq.x)).far (p := ⟨wq21.heap.size, 4, none⟩) (show wq1.heap.size ≠ wq21.heap.size by omega) (.int .i64 bq.tap)).far (p := ⟨wq21.heap.size, 5, none⟩) (show wq1.heap.size ≠ wq21.heap.size by omega) (.int .i64 bq.shift)).far (p := ⟨wq21.heap.size, 6, none⟩) (show wq1.heap.size ≠ wq21.heap.size by omega) (.int .i64 bq.limit)).far (p := ⟨wq21.heap.size, 7, none⟩) (show wq1.heap.size ≠ wq21.heap.size by omega) (.int .i64 bq.short)).far (p := ⟨wq21.heap.size, 8, none⟩) (show wq1.heap.size ≠ wq21.heap.size by omega) (.int .i64 bq.hold))
          refine hK.out _ _ ⟨⟨_, bq23⟩, rfl⟩ ?_
          clear hK K kk zz ll gl
          generalize (((((((((wq22.setCell ⟨wq21.heap.size, 0, none⟩ (.string bq.name)).setCell ⟨wq21.heap.size, 1, none⟩ (.string bq.from_)).setCell ⟨wq21.heap.size, 2, none⟩ (.string bq.to_)).setCell ⟨wq21.heap.size, 3, none⟩ (.int .i64 bq.x)).setCell ⟨wq21.heap.size, 4, none⟩ (.int .i64 bq.tap)).setCell ⟨wq21.heap.size, 5, none⟩ (.int .i64 bq.shift)).setCell ⟨wq21.heap.size, 6, none⟩ (.int .i64 bq.limit)).setCell ⟨wq21.heap.size, 7, none⟩ (.int .i64 bq.short)).setCell ⟨wq21.heap.size, 8, none⟩ (.int .i64 bq.hold)) = wq23 at *
          refine wpAnyM_ready [19] (by kernel_rfl) (by simp) ?_
          refine AllReadyM.cons (by rfl) (fun K hK => ?_) AllReadyM.nil
          have kk := X17_23.cell
          have zz := X17_23.frozen
          have ll := X17_23.lt
          have gl : w3.heap.size ≤ wq1.heap.size := by omega
          go_simp
          have X8 := (((((((((X17_23.set_ 0 (.string pq.name)).set_ 1 (.string pq.from_)).set_ 2 (.string pq.to_)).set_ 3 (.int .i64 pq.x)).set_ 4 (.int .i64 pq.tap)).set_ 5 (.int .i64 pq.shift)).set_ 6 (.int .i64 pq.limit)).set_ 7 (.int .i64 pq.short)).set_ 8 (.int .i64 pq.hold))
          simp only [List.setIfInBounds_toArray, List.set_cons_zero, List.set_cons_succ] at X8
          have X17_24 := X8
          clear X8
          have bq24 := (((((((((bq23.setCell (p := ⟨wq1.heap.size, 0, none⟩) gl (.string pq.name)).setCell (p := ⟨wq1.heap.size, 1, none⟩) gl (.string pq.from_)).setCell (p := ⟨wq1.heap.size, 2, none⟩) gl (.string pq.to_)).setCell (p := ⟨wq1.heap.size, 3, none⟩) gl (.int .i64 pq.x)).setCell (p := ⟨wq1.heap.size, 4, none⟩) gl (.int .i64 pq.tap)).setCell (p := ⟨wq1.heap.size, 5, none⟩) gl (.int .i64 pq.shift)).setCell (p := ⟨wq1.heap.size, 6, none⟩) gl (.int .i64 pq.limit)).setCell (p := ⟨wq1.heap.size, 7, none⟩) gl (.int .i64 pq.short)).setCell (p := ⟨wq1.heap.size, 8, none⟩) gl (.int .i64 pq.hold))
          have X16_24 := (((((((((X16_23.far (p := ⟨wq1.heap.size, 0, none⟩) (show wq21.heap.size ≠ wq1.heap.size by omega) (.string pq.name)).far (p := ⟨wq1.heap.size, 1, none⟩) (show wq21.heap.size ≠ wq1.heap.size by omega) (.string pq.from_)).far (p := ⟨wq1.heap.size, 2, none⟩) (show wq21.heap.size ≠ wq1.heap.size by omega) (.string pq.to_)).far (p := ⟨wq1.heap.size, 3, none⟩) (show wq21.heap.size ≠ wq1.heap.size by omega) (.int .i64 pq.x)).far (p := ⟨wq1.heap.size, 4, none⟩) (show wq21.heap.size ≠ wq1.heap.size by omega) (.int .i64 pq.tap)).far (p := ⟨wq1.heap.size, 5, none⟩) (show wq21.heap.size ≠ wq1.heap.size by omega) (.int .i64 pq.shift)).far (p := ⟨wq1.heap.size, 6, none⟩) (show wq21.heap.size ≠ wq1.heap.size by omega) (.int .i64 pq.limit)).far (p := ⟨wq1.heap.size, 7, none⟩) (show wq21.heap.size ≠ wq1.heap.size by omega) (.int .i64 pq.short)).far (p := ⟨wq1.heap.size, 8, none⟩) (show wq21.heap.size ≠ wq1.heap.size by omega) (.int .i64 pq.hold))
          refine hK.out _ _ ⟨⟨_, bq24⟩, rfl⟩ ?_
          clear hK K kk zz ll gl
          generalize (((((((((wq23.setCell ⟨wq1.heap.size, 0, none⟩ (.string pq.name)).setCell ⟨wq1.heap.size, 1, none⟩ (.string pq.from_)).setCell ⟨wq1.heap.size, 2, none⟩ (.string pq.to_)).setCell ⟨wq1.heap.size, 3, none⟩ (.int .i64 pq.x)).setCell ⟨wq1.heap.size, 4, none⟩ (.int .i64 pq.tap)).setCell ⟨wq1.heap.size, 5, none⟩ (.int .i64 pq.shift)).setCell ⟨wq1.heap.size, 6, none⟩ (.int .i64 pq.limit)).setCell ⟨wq1.heap.size, 7, none⟩ (.int .i64 pq.short)).setCell ⟨wq1.heap.size, 8, none⟩ (.int .i64 pq.hold)) = wq24 at *
          refine wpAnyM_done (by kernel_rfl) ?_ _
          generalize wq21.heap.size = ga8 at *
          generalize wq1.heap.size = ga9 at *
          exact ⟨ga8, ga9, rfl, rfl, X16_24, X17_24, bq24⟩
        · go_simp
          have X16_25 := Blk.new_ wq20 wq20.heap.size 42 #[.string ⟨#[]⟩, .string ⟨#[]⟩, .string ⟨#[]⟩, .int .i64 0, .int .i64 0, .int .i64 0, .int .i64 0, .int .i64 0, .int .i64 0] rfl
          have bq25 := bq20.alloc bq20.size (.cells #[.string ⟨#[]⟩, .string ⟨#[]⟩, .string ⟨#[]⟩, .int .i64 0, .int .i64 0, .int .i64 0, .int .i64 0, .int .i64 0, .int .i64 0] 42)
          have X17_25 := X17_20.alloc (.cells #[.string ⟨#[]⟩, .string ⟨#[]⟩, .string ⟨#[]⟩, .int .i64 0, .int .i64 0, .int .i64 0, .int .i64 0, .int .i64 0, .int .i64 0] 42)
          have n17_25 : wq1.heap.size ≠ wq20.heap.size := by have := X17_20.lt; omega
          have l16_25 : w3.heap.size ≤ wq20.heap.size := bq20.size
          generalize wq20.alloc (.cells #[.string ⟨#[]⟩, .string ⟨#[]⟩, .string ⟨#[]⟩, .int .i64 0, .int .i64 0, .int .i64 0, .int .i64 0, .int .i64 0, .int .i64 0] 42) = wq25 at *
          have hSw : (fun w' => ∃ x : Wd w3, w' = x.val) wq25 := ⟨⟨wq25, bq25⟩, rfl⟩
          refine hK.out _ _ hSw ?_
          clear hK K
          refine wpAnyM_ready [13] (by kernel_rfl) (by simp) ?_
          refine AllReadyM.cons (by rfl) (fun K hK => ?_) AllReadyM.nil
          go_simp
          refine (C1.out pb _ (F0.out.trans (bq25.mono F0.out.size))).mono ?_
          rintro e wq26 ⟨rfl, hb5⟩
          have bq26 : Below w3.heap.size w3 wq26 := bq25.trans (hb5.mono bq25.size)
          have X17_26 := X17_25.go hb5
          have X16_26 := X16_25.go hb5
          have hSw : (fun w' => ∃ x : Wd w3, w' = x.val) wq26 := ⟨⟨wq26, bq26⟩, rfl⟩
          refine hK.out _ _ hSw ?_
          clear hK K hb5
          refine wpAnyM_take 14 rfl (by kernel_rfl) (by kernel_rfl) (by kernel_rfl) (by kernel_rfl) (by kernel_rfl) (fun _ _ _ h => by obtain ⟨_, _, h, _⟩ := h; cases h) hSw (by kernel_rfl) (fun w' hSx => by obtain ⟨xw, rfl⟩ := hSx; go_simp; first | done | with_reducible rfl) ?_
          simp only [Act.put]
          refine wpAnyM_take 15 rfl (by kernel_rfl) (by kernel_rfl) (by kernel_rfl) (by kernel_rfl) (by kernel_rfl) (fun _ _ _ h => by obtain ⟨_, _, h, _⟩ := h; cases h) hSw (by kernel_rfl) (fun w' hSx => by obtain ⟨xw, rfl⟩ := hSx; go_simp; first | done | with_reducible rfl) ?_
          simp only [Act.put]
          refine wpAnyM_ready [18] (by kernel_rfl) (by simp) ?_
          refine AllReadyM.cons (by rfl) (fun K hK => ?_) AllReadyM.nil
          have kk := X16_26.cell
          have zz := X16_26.frozen
          have ll := X16_26.lt
          have gl : w3.heap.size ≤ wq20.heap.size := by omega
          go_simp
          have X8 := (((((((((X16_26.set_ 0 (.string bq.name)).set_ 1 (.string bq.from_)).set_ 2 (.string bq.to_)).set_ 3 (.int .i64 bq.x)).set_ 4 (.int .i64 bq.tap)).set_ 5 (.int .i64 bq.shift)).set_ 6 (.int .i64 bq.limit)).set_ 7 (.int .i64 bq.short)).set_ 8 (.int .i64 bq.hold))
          simp only [List.setIfInBounds_toArray, List.set_cons_zero, List.set_cons_succ] at X8
          have X16_27 := X8
          clear X8
          have bq27 := (((((((((bq26.setCell (p := ⟨wq20.heap.size, 0, none⟩) gl (.string bq.name)).setCell (p := ⟨wq20.heap.size, 1, none⟩) gl (.string bq.from_)).setCell (p := ⟨wq20.heap.size, 2, none⟩) gl (.string bq.to_)).setCell (p := ⟨wq20.heap.size, 3, none⟩) gl (.int .i64 bq.x)).setCell (p := ⟨wq20.heap.size, 4, none⟩) gl (.int .i64 bq.tap)).setCell (p := ⟨wq20.heap.size, 5, none⟩) gl (.int .i64 bq.shift)).setCell (p := ⟨wq20.heap.size, 6, none⟩) gl (.int .i64 bq.limit)).setCell (p := ⟨wq20.heap.size, 7, none⟩) gl (.int .i64 bq.short)).setCell (p := ⟨wq20.heap.size, 8, none⟩) gl (.int .i64 bq.hold))
          have X17_27 := (((((((((X17_26.far (p := ⟨wq20.heap.size, 0, none⟩) (show wq1.heap.size ≠ wq20.heap.size by omega) (.string bq.name)).far (p := ⟨wq20.heap.size, 1, none⟩) (show wq1.heap.size ≠ wq20.heap.size by omega) (.string bq.from_)).far (p := ⟨wq20.heap.size, 2, none⟩) (show wq1.heap.size ≠ wq20.heap.size by omega) (.string bq.to_)).far (p := ⟨wq20.heap.size, 3, none⟩) (show wq1.heap.size ≠ wq20.heap.size by omega) (.int .i64 bq.x)).far (p := ⟨wq20.heap.size, 4, none⟩) (show wq1.heap.size ≠ wq20.heap.size by omega) (.int .i64 bq.tap)).far (p := ⟨wq20.heap.size, 5, none⟩) (show wq1.heap.size ≠ wq20.heap.size by omega) (.int .i64 bq.shift)).far (p := ⟨wq20.heap.size, 6, none⟩) (show wq1.heap.size ≠ wq20.heap.size by omega) (.int .i64 bq.limit)).far (p := ⟨wq20.heap.size, 7, none⟩) (show wq1.heap.size ≠ wq20.heap.size by omega) (.int .i64 bq.short)).far (p := ⟨wq20.heap.size, 8, none⟩) (show wq1.heap.size ≠ wq20.heap.size by omega) (.int .i64 bq.hold))
          refine hK.out _ _ ⟨⟨_, bq27⟩, rfl⟩ ?_
          clear hK K kk zz ll gl
          generalize (((((((((wq26.setCell ⟨wq20.heap.size, 0, none⟩ (.string bq.name)).setCell ⟨wq20.heap.size, 1, none⟩ (.string bq.from_)).setCell ⟨wq20.heap.size, 2, none⟩ (.string bq.to_)).setCell ⟨wq20.heap.size, 3, none⟩ (.int .i64 bq.x)).setCell ⟨wq20.heap.size, 4, none⟩ (.int .i64 bq.tap)).setCell ⟨wq20.heap.size, 5, none⟩ (.int .i64 bq.shift)).setCell ⟨wq20.heap.size, 6, none⟩ (.int .i64 bq.limit)).setCell ⟨wq20.heap.size, 7, none⟩ (.int .i64 bq.short)).setCell ⟨wq20.heap.size, 8, none⟩ (.int .i64 bq.hold)) = wq27 at *
          refine wpAnyM_ready [19] (by kernel_rfl) (by simp) ?_
          refine AllReadyM.cons (by rfl) (fun K hK => ?_) AllReadyM.nil
          have kk := X17_27.cell
          have zz := X17_27.frozen
          have ll := X17_27.lt
          have gl : w3.heap.size ≤ wq1.heap.size := by omega
          go_simp
          have X8 := (((((((((X17_27.set_ 0 (.string pq.name)).set_ 1 (.string pq.from_)).set_ 2 (.string pq.to_)).set_ 3 (.int .i64 pq.x)).set_ 4 (.int .i64 pq.tap)).set_ 5 (.int .i64 pq.shift)).set_ 6 (.int .i64 pq.limit)).set_ 7 (.int .i64 pq.short)).set_ 8 (.int .i64 pq.hold))
          simp only [List.setIfInBounds_toArray, List.set_cons_zero, List.set_cons_succ] at X8
          have X17_28 := X8
          clear X8
          have bq28 := (((((((((bq27.setCell (p := ⟨wq1.heap.size, 0, none⟩) gl (.string pq.name)).setCell (p := ⟨wq1.heap.size, 1, none⟩) gl (.string pq.from_)).setCell (p := ⟨wq1.heap.size, 2, none⟩) gl (.string pq.to_)).setCell (p := ⟨wq1.heap.size, 3, none⟩) gl (.int .i64 pq.x)).setCell (p := ⟨wq1.heap.size, 4, none⟩) gl (.int .i64 pq.tap)).setCell (p := ⟨wq1.heap.size, 5, none⟩) gl (.int .i64 pq.shift)).setCell (p := ⟨wq1.heap.size, 6, none⟩) gl (.int .i64 pq.limit)).setCell (p := ⟨wq1.heap.size, 7, none⟩) gl (.int .i64 pq.short)).setCell (p := ⟨wq1.heap.size, 8, none⟩) gl (.int .i64 pq.hold))
          have X16_28 := (((((((((X16_27.far (p := ⟨wq1.heap.size, 0, none⟩) (show wq20.heap.size ≠ wq1.heap.size by omega) (.string pq.name)).far (p := ⟨wq1.heap.size, 1, none⟩) (show wq20.heap.size ≠ wq1.heap.size by omega) (.string pq.from_)).far (p := ⟨wq1.heap.size, 2, none⟩) (show wq20.heap.size ≠ wq1.heap.size by omega) (.string pq.to_)).far (p := ⟨wq1.heap.size, 3, none⟩) (show wq20.heap.size ≠ wq1.heap.size by omega) (.int .i64 pq.x)).far (p := ⟨wq1.heap.size, 4, none⟩) (show wq20.heap.size ≠ wq1.heap.size by omega) (.int .i64 pq.tap)).far (p := ⟨wq1.heap.size, 5, none⟩) (show wq20.heap.size ≠ wq1.heap.size by omega) (.int .i64 pq.shift)).far (p := ⟨wq1.heap.size, 6, none⟩) (show wq20.heap.size ≠ wq1.heap.size by omega) (.int .i64 pq.limit)).far (p := ⟨wq1.heap.size, 7, none⟩) (show wq20.heap.size ≠ wq1.heap.size by omega) (.int .i64 pq.short)).far (p := ⟨wq1.heap.size, 8, none⟩) (show wq20.heap.size ≠ wq1.heap.size by omega) (.int .i64 pq.hold))
          refine hK.out _ _ ⟨⟨_, bq28⟩, rfl⟩ ?_
          clear hK K kk zz ll gl
          generalize (((((((((wq27.setCell ⟨wq1.heap.size, 0, none⟩ (.string pq.name)).setCell ⟨wq1.heap.size, 1, none⟩ (.string pq.from_)).setCell ⟨wq1.heap.size, 2, none⟩ (.string pq.to_)).setCell ⟨wq1.heap.size, 3, none⟩ (.int .i64 pq.x)).setCell ⟨wq1.heap.size, 4, none⟩ (.int .i64 pq.tap)).setCell ⟨wq1.heap.size, 5, none⟩ (.int .i64 pq.shift)).setCell ⟨wq1.heap.size, 6, none⟩ (.int .i64 pq.limit)).setCell ⟨wq1.heap.size, 7, none⟩ (.int .i64 pq.short)).setCell ⟨wq1.heap.size, 8, none⟩ (.int .i64 pq.hold)) = wq28 at *
          refine wpAnyM_done (by kernel_rfl) ?_ _
          generalize wq20.heap.size = ga8 at *
          generalize wq1.heap.size = ga9 at *
          exact ⟨ga8, ga9, rfl, rfl, X16_28, X17_28, bq28⟩
    · go_simp
      have X16_29 := Blk.new_ wd wd.heap.size 42 #[.string ⟨#[]⟩, .string ⟨#[]⟩, .string ⟨#[]⟩, .int .i64 0, .int .i64 0, .int .i64 0, .int .i64 0, .int .i64 0, .int .i64 0] rfl
      have bq29 := b0.alloc b0.size (.cells #[.string ⟨#[]⟩, .string ⟨#[]⟩, .string ⟨#[]⟩, .int .i64 0, .int .i64 0, .int .i64 0, .int .i64 0, .int .i64 0, .int .i64 0] 42)
      have l16_29 : w3.heap.size ≤ wd.heap.size := b0.size
      generalize wd.alloc (.cells #[.string ⟨#[]⟩, .string ⟨#[]⟩, .string ⟨#[]⟩, .int .i64 0, .int .i64 0, .int .i64 0, .int .i64 0, .int .i64 0, .int .i64 0] 42) = wq29 at *
      have hSw : (fun w' => ∃ x : Wd w3, w' = x.val) wq29 := ⟨⟨wq29, bq29⟩, rfl⟩
      refine hK.out _ _ hSw ?_
      clear hK K
      refine wpAnyM_ready [5, 17] (by kernel_rfl) (by simp) ?_
      refine AllReadyM.cons (by rfl) (fun K hK => ?_) (AllReadyM.cons (by rfl) (fun K hK => ?_) AllReadyM.nil)
      · go_simp
        refine (C1.out br _ (F0.out.trans (bq29.mono F0.out.size))).mono ?_
        rintro e wq30 ⟨rfl, hb5⟩
        have bq30 : Below w3.heap.size w3 wq30 := bq29.trans (hb5.mono bq29.size)
        have X16_30 := X16_29.go hb5
        have hSw : (fun w' => ∃ x : Wd w3, w' = x.val) wq30 := ⟨⟨wq30, bq30⟩, rfl⟩
        refine hK.out _ _ hSw ?_
        clear hK K hb5
        refine wpAnyM_take 6 rfl (by kernel_rfl) (by kernel_rfl) (by kernel_rfl) (by kernel_rfl) (by kernel_rfl) (fun _ _ _ h => by obtain ⟨_, _, h, _⟩ := h; cases h) hSw (by kernel_rfl) (fun w' hSx => by obtain ⟨xw, rfl⟩ := hSx; go_simp; first | done | with_reducible rfl) ?_
        simp only [Act.put]
        refine wpAnyM_take 7 rfl (by kernel_rfl) (by kernel_rfl) (by kernel_rfl) (by kernel_rfl) (by kernel_rfl) (fun _ _ _ h => by obtain ⟨_, _, h, _⟩ := h; cases h) hSw (by kernel_rfl) (fun w' hSx => by obtain ⟨xw, rfl⟩ := hSx; go_simp; first | done | with_reducible rfl) ?_
        simp only [Act.put]
        refine wpAnyM_ready [13, 17] (by kernel_rfl) (by simp) ?_
        refine AllReadyM.cons (by rfl) (fun K hK => ?_) (AllReadyM.cons (by rfl) (fun K hK => ?_) AllReadyM.nil)
        · go_simp
          refine (C1.out pb _ (F0.out.trans (bq30.mono F0.out.size))).mono ?_
          rintro e wq31 ⟨rfl, hb5⟩
          have bq31 : Below w3.heap.size w3 wq31 := bq30.trans (hb5.mono bq30.size)
          have X16_31 := X16_30.go hb5
          have hSw : (fun w' => ∃ x : Wd w3, w' = x.val) wq31 := ⟨⟨wq31, bq31⟩, rfl⟩
          refine hK.out _ _ hSw ?_
          clear hK K hb5
          refine wpAnyM_take 14 rfl (by kernel_rfl) (by kernel_rfl) (by kernel_rfl) (by kernel_rfl) (by kernel_rfl) (fun _ _ _ h => by obtain ⟨_, _, h, _⟩ := h; cases h) hSw (by kernel_rfl) (fun w' hSx => by obtain ⟨xw, rfl⟩ := hSx; go_simp; first | done | with_reducible rfl) ?_
          simp only [Act.put]
          refine wpAnyM_take 15 rfl (by kernel_rfl) (by kernel_rfl) (by kernel_rfl) (by kernel_rfl) (by kernel_rfl) (fun _ _ _ h => by obtain ⟨_, _, h, _⟩ := h; cases h) hSw (by kernel_rfl) (fun w' hSx => by obtain ⟨xw, rfl⟩ := hSx; go_simp; first | done | with_reducible rfl) ?_
          simp only [Act.put]
          refine wpAnyM_ready [17] (by kernel_rfl) (by simp) ?_
          refine AllReadyM.cons (by rfl) (fun K hK => ?_) AllReadyM.nil
          go_simp
          have X17_32 := Blk.new_ wq31 wq31.heap.size 42 #[.string ⟨#[]⟩, .string ⟨#[]⟩, .string ⟨#[]⟩, .int .i64 0, .int .i64 0, .int .i64 0, .int .i64 0, .int .i64 0, .int .i64 0] rfl
          have bq32 := bq31.alloc bq31.size (.cells #[.string ⟨#[]⟩, .string ⟨#[]⟩, .string ⟨#[]⟩, .int .i64 0, .int .i64 0, .int .i64 0, .int .i64 0, .int .i64 0, .int .i64 0] 42)
          have X16_32 := X16_31.alloc (.cells #[.string ⟨#[]⟩, .string ⟨#[]⟩, .string ⟨#[]⟩, .int .i64 0, .int .i64 0, .int .i64 0, .int .i64 0, .int .i64 0, .int .i64 0] 42)
          have n16_32 : wd.heap.size ≠ wq31.heap.size := by have := X16_31.lt; omega
          have l17_32 : w3.heap.size ≤ wq31.heap.size := bq31.size
          generalize wq31.alloc (.cells #[.string ⟨#[]⟩, .string ⟨#[]⟩, .string ⟨#[]⟩, .int .i64 0, .int .i64 0, .int .i64 0, .int .i64 0, .int .i64 0, .int .i64 0] 42) = wq32 at *
          have hSw : (fun w' => ∃ x : Wd w3, w' = x.val) wq32 := ⟨⟨wq32, bq32⟩, rfl⟩
          refine hK.out _ _ hSw ?_
          clear hK K
          refine wpAnyM_ready [18] (by kernel_rfl) (by simp) ?_
          refine AllReadyM.cons (by rfl) (fun K hK => ?_) AllReadyM.nil
          have kk := X16_32.cell
          have zz := X16_32.frozen
          have ll := X16_32.lt
          have gl : w3.heap.size ≤ wd.heap.size := by omega
          go_simp
          have X8 := (((((((((X16_32.set_ 0 (.string bq.name)).set_ 1 (.string bq.from_)).set_ 2 (.string bq.to_)).set_ 3 (.int .i64 bq.x)).set_ 4 (.int .i64 bq.tap)).set_ 5 (.int .i64 bq.shift)).set_ 6 (.int .i64 bq.limit)).set_ 7 (.int .i64 bq.short)).set_ 8 (.int .i64 bq.hold))
          simp only [List.setIfInBounds_toArray, List.set_cons_zero, List.set_cons_succ] at X8
          have X16_33 := X8
          clear X8
          have bq33 := (((((((((bq32.setCell (p := ⟨wd.heap.size, 0, none⟩) gl (.string bq.name)).setCell (p := ⟨wd.heap.size, 1, none⟩) gl (.string bq.from_)).setCell (p := ⟨wd.heap.size, 2, none⟩) gl (.string bq.to_)).setCell (p := ⟨wd.heap.size, 3, none⟩) gl (.int .i64 bq.x)).setCell (p := ⟨wd.heap.size, 4, none⟩) gl (.int .i64 bq.tap)).setCell (p := ⟨wd.heap.size, 5, none⟩) gl (.int .i64 bq.shift)).setCell (p := ⟨wd.heap.size, 6, none⟩) gl (.int .i64 bq.limit)).setCell (p := ⟨wd.heap.size, 7, none⟩) gl (.int .i64 bq.short)).setCell (p := ⟨wd.heap.size, 8, none⟩) gl (.int .i64 bq.hold))
          have X17_33 := (((((((((X17_32.far (p := ⟨wd.heap.size, 0, none⟩) (show wq31.heap.size ≠ wd.heap.size by omega) (.string bq.name)).far (p := ⟨wd.heap.size, 1, none⟩) (show wq31.heap.size ≠ wd.heap.size by omega) (.string bq.from_)).far (p := ⟨wd.heap.size, 2, none⟩) (show wq31.heap.size ≠ wd.heap.size by omega) (.string bq.to_)).far (p := ⟨wd.heap.size, 3, none⟩) (show wq31.heap.size ≠ wd.heap.size by omega) (.int .i64 bq.x)).far (p := ⟨wd.heap.size, 4, none⟩) (show wq31.heap.size ≠ wd.heap.size by omega) (.int .i64 bq.tap)).far (p := ⟨wd.heap.size, 5, none⟩) (show wq31.heap.size ≠ wd.heap.size by omega) (.int .i64 bq.shift)).far (p := ⟨wd.heap.size, 6, none⟩) (show wq31.heap.size ≠ wd.heap.size by omega) (.int .i64 bq.limit)).far (p := ⟨wd.heap.size, 7, none⟩) (show wq31.heap.size ≠ wd.heap.size by omega) (.int .i64 bq.short)).far (p := ⟨wd.heap.size, 8, none⟩) (show wq31.heap.size ≠ wd.heap.size by omega) (.int .i64 bq.hold))
          refine hK.out _ _ ⟨⟨_, bq33⟩, rfl⟩ ?_
          clear hK K kk zz ll gl
          generalize (((((((((wq32.setCell ⟨wd.heap.size, 0, none⟩ (.string bq.name)).setCell ⟨wd.heap.size, 1, none⟩ (.string bq.from_)).setCell ⟨wd.heap.size, 2, none⟩ (.string bq.to_)).setCell ⟨wd.heap.size, 3, none⟩ (.int .i64 bq.x)).setCell ⟨wd.heap.size, 4, none⟩ (.int .i64 bq.tap)).setCell ⟨wd.heap.size, 5, none⟩ (.int .i64 bq.shift)).setCell ⟨wd.heap.size, 6, none⟩ (.int .i64 bq.limit)).setCell ⟨wd.heap.size, 7, none⟩ (.int .i64 bq.short)).setCell ⟨wd.heap.size, 8, none⟩ (.int .i64 bq.hold)) = wq33 at *
          refine wpAnyM_ready [19] (by kernel_rfl) (by simp) ?_
          refine AllReadyM.cons (by rfl) (fun K hK => ?_) AllReadyM.nil
          have kk := X17_33.cell
          have zz := X17_33.frozen
          have ll := X17_33.lt
          have gl : w3.heap.size ≤ wq31.heap.size := by omega
          go_simp
          have X8 := (((((((((X17_33.set_ 0 (.string pq.name)).set_ 1 (.string pq.from_)).set_ 2 (.string pq.to_)).set_ 3 (.int .i64 pq.x)).set_ 4 (.int .i64 pq.tap)).set_ 5 (.int .i64 pq.shift)).set_ 6 (.int .i64 pq.limit)).set_ 7 (.int .i64 pq.short)).set_ 8 (.int .i64 pq.hold))
          simp only [List.setIfInBounds_toArray, List.set_cons_zero, List.set_cons_succ] at X8
          have X17_34 := X8
          clear X8
          have bq34 := (((((((((bq33.setCell (p := ⟨wq31.heap.size, 0, none⟩) gl (.string pq.name)).setCell (p := ⟨wq31.heap.size, 1, none⟩) gl (.string pq.from_)).setCell (p := ⟨wq31.heap.size, 2, none⟩) gl (.string pq.to_)).setCell (p := ⟨wq31.heap.size, 3, none⟩) gl (.int .i64 pq.x)).setCell (p := ⟨wq31.heap.size, 4, none⟩) gl (.int .i64 pq.tap)).setCell (p := ⟨wq31.heap.size, 5, none⟩) gl (.int .i64 pq.shift)).setCell (p := ⟨wq31.heap.size, 6, none⟩) gl (.int .i64 pq.limit)).setCell (p := ⟨wq31.heap.size, 7, none⟩) gl (.int .i64 pq.short)).setCell (p := ⟨wq31.heap.size, 8, none⟩) gl (.int .i64 pq.hold))
          have X16_34 := (((((((((X16_33.far (p := ⟨wq31.heap.size, 0, none⟩) (show wd.heap.size ≠ wq31.heap.size by omega) (.string pq.name)).far (p := ⟨wq31.heap.size, 1, none⟩) (show wd.heap.size ≠ wq31.heap.size by omega) (.string pq.from_)).far (p := ⟨wq31.heap.size, 2, none⟩) (show wd.heap.size ≠ wq31.heap.size by omega) (.string pq.to_)).far (p := ⟨wq31.heap.size, 3, none⟩) (show wd.heap.size ≠ wq31.heap.size by omega) (.int .i64 pq.x)).far (p := ⟨wq31.heap.size, 4, none⟩) (show wd.heap.size ≠ wq31.heap.size by omega) (.int .i64 pq.tap)).far (p := ⟨wq31.heap.size, 5, none⟩) (show wd.heap.size ≠ wq31.heap.size by omega) (.int .i64 pq.shift)).far (p := ⟨wq31.heap.size, 6, none⟩) (show wd.heap.size ≠ wq31.heap.size by omega) (.int .i64 pq.limit)).far (p := ⟨wq31.heap.size, 7, none⟩) (show wd.heap.size ≠ wq31.heap.size by omega) (.int .i64 pq.short)).far (p := ⟨wq31.heap.size, 8, none⟩) (show wd.heap.size ≠ wq31.heap.size by omega) (.int .i64 pq.hold))
          refine hK.out _ _ ⟨⟨_, bq34⟩, rfl⟩ ?_
          clear hK K kk zz ll gl
          generalize (((((((((wq33.setCell ⟨wq31.heap.size, 0, none⟩ (.string pq.name)).setCell ⟨wq31.heap.size, 1, none⟩ (.string pq.from_)).setCell ⟨wq31.heap.size, 2, none⟩ (.string pq.to_)).setCell ⟨wq31.heap.size, 3, none⟩ (.int .i64 pq.x)).setCell ⟨wq31.heap.size, 4, none⟩ (.int .i64 pq.tap)).setCell ⟨wq31.heap.size, 5, none⟩ (.int .i64 pq.shift)).setCell ⟨wq31.heap.size, 6, none⟩ (.int .i64 pq.limit)).setCell ⟨wq31.heap.size, 7, none⟩ (.int .i64 pq.short)).setCell ⟨wq31.heap.size, 8, none⟩ (.int .i64 pq.hold)) = wq34 at *
          refine wpAnyM_done (by kernel_rfl) ?_ _
          generalize wd.heap.size = ga8 at *
          generalize wq31.heap.size = ga9 at *
          exact ⟨ga8, ga9, rfl, rfl, X16_34, X17_34, bq34⟩
        · go_simp
          have X17_35 := Blk.new_ wq30 wq30.heap.size 42 #[.string ⟨#[]⟩, .string ⟨#[]⟩, .string ⟨#[]⟩, .int .i64 0, .int .i64 0, .int .i64 0, .int .i64 0, .int .i64 0, .int .i64 0] rfl
          have bq35 := bq30.alloc bq30.size (.cells #[.string ⟨#[]⟩, .string ⟨#[]⟩, .string ⟨#[]⟩, .int .i64 0, .int .i64 0, .int .i64 0, .int .i64 0, .int .i64 0, .int .i64 0] 42)
          have X16_35 := X16_30.alloc (.cells #[.string ⟨#[]⟩, .string ⟨#[]⟩, .string ⟨#[]⟩, .int .i64 0, .int .i64 0, .int .i64 0, .int .i64 0, .int .i64 0, .int .i64 0] 42)
          have n16_35 : wd.heap.size ≠ wq30.heap.size := by have := X16_30.lt; omega
          have l17_35 : w3.heap.size ≤ wq30.heap.size := bq30.size
          generalize wq30.alloc (.cells #[.string ⟨#[]⟩, .string ⟨#[]⟩, .string ⟨#[]⟩, .int .i64 0, .int .i64 0, .int .i64 0, .int .i64 0, .int .i64 0, .int .i64 0] 42) = wq35 at *
          have hSw : (fun w' => ∃ x : Wd w3, w' = x.val) wq35 := ⟨⟨wq35, bq35⟩, rfl⟩
          refine hK.out _ _ hSw ?_
          clear hK K
          refine wpAnyM_ready [13] (by kernel_rfl) (by simp) ?_
          refine AllReadyM.cons (by rfl) (fun K hK => ?_) AllReadyM.nil
          go_simp
          refine (C1.out pb _ (F0.out.trans (bq35.mono F0.out.size))).mono ?_
          rintro e wq36 ⟨rfl, hb5⟩
          have bq36 : Below w3.heap.size w3 wq36 := bq35.trans (hb5.mono bq35.size)
          have X16_36 := X16_35.go hb5
          have X17_36 := X17_35.go hb5
          have hSw : (fun w' => ∃ x : Wd w3, w' = x.val) wq36 := ⟨⟨wq36, bq36⟩, rfl⟩
          refine hK.out _ _ hSw ?_
          clear hK K hb5
          refine wpAnyM_take 14 rfl (by kernel_rfl) (by kernel_rfl) (by kernel_rfl) (by kernel_rfl) (by kernel_rfl) (fun _ _ _ h => by obtain ⟨_, _, h, _⟩ := h; cases h) hSw (by kernel_rfl) (fun w' hSx => by obtain ⟨xw, rfl⟩ := hSx; go_simp; first | done | with_reducible rfl) ?_
          simp only [Act.put]
          refine wpAnyM_take 15 rfl (by kernel_rfl) (by kernel_rfl) (by kernel_rfl) (by kernel_rfl) (by kernel_rfl) (fun _ _ _ h => by obtain ⟨_, _, h, _⟩ := h; cases h) hSw (by kernel_rfl) (fun w' hSx => by obtain ⟨xw, rfl⟩ := hSx; go_simp; first | done | with_reducible rfl) ?_
          simp only [Act.put]
          refine wpAnyM_ready [18] (by kernel_rfl) (by simp) ?_
          refine AllReadyM.cons (by rfl) (fun K hK => ?_) AllReadyM.nil
          have kk := X16_36.cell
          have zz := X16_36.frozen
          have ll := X16_36.lt
          have gl : w3.heap.size ≤ wd.heap.size := by omega
          go_simp
          have X8 := (((((((((X16_36.set_ 0 (.string bq.name)).set_ 1 (.string bq.from_)).set_ 2 (.string bq.to_)).set_ 3 (.int .i64 bq.x)).set_ 4 (.int .i64 bq.tap)).set_ 5 (.int .i64 bq.shift)).set_ 6 (.int .i64 bq.limit)).set_ 7 (.int .i64 bq.short)).set_ 8 (.int .i64 bq.hold))
          simp only [List.setIfInBounds_toArray, List.set_cons_zero, List.set_cons_succ] at X8
          have X16_37 := X8
          clear X8
          have bq37 := (((((((((bq36.setCell (p := ⟨wd.heap.size, 0, none⟩) gl (.string bq.name)).setCell (p := ⟨wd.heap.size, 1, none⟩) gl (.string bq.from_)).setCell (p := ⟨wd.heap.size, 2, none⟩) gl (.string bq.to_)).setCell (p := ⟨wd.heap.size, 3, none⟩) gl (.int .i64 bq.x)).setCell (p := ⟨wd.heap.size, 4, none⟩) gl (.int .i64 bq.tap)).setCell (p := ⟨wd.heap.size, 5, none⟩) gl (.int .i64 bq.shift)).setCell (p := ⟨wd.heap.size, 6, none⟩) gl (.int .i64 bq.limit)).setCell (p := ⟨wd.heap.size, 7, none⟩) gl (.int .i64 bq.short)).setCell (p := ⟨wd.heap.size, 8, none⟩) gl (.int .i64 bq.hold))
          have X17_37 := (((((((((X17_36.far (p := ⟨wd.heap.size, 0, none⟩) (show wq30.heap.size ≠ wd.heap.size by omega) (.string bq.name)).far (p := ⟨wd.heap.size, 1, none⟩) (show wq30.heap.size ≠ wd.heap.size by omega) (.string bq.from_)).far (p := ⟨wd.heap.size, 2, none⟩) (show wq30.heap.size ≠ wd.heap.size by omega) (.string bq.to_)).far (p := ⟨wd.heap.size, 3, none⟩) (show wq30.heap.size ≠ wd.heap.size by omega) (.int .i64 bq.x)).far (p := ⟨wd.heap.size, 4, none⟩) (show wq30.heap.size ≠ wd.heap.size by omega) (.int .i64 bq.tap)).far (p := ⟨wd.heap.size, 5, none⟩) (show wq30.heap.size ≠ wd.heap.size by omega) (.int .i64 bq.shift)).far (p := ⟨wd.heap.size, 6, none⟩) (show wq30.heap.size ≠ wd.heap.size by omega) (.int .i64 bq.limit)).far (p := ⟨wd.heap.size, 7, none⟩) (show wq30.heap.size ≠ wd.heap.size by omega) (.int .i64 bq.short)).far (p := ⟨wd.heap.size, 8, none⟩) (show wq30.heap.size ≠ wd.heap.size by omega) (.int .i64 bq.hold))
          refine hK.out _ _ ⟨⟨_, bq37⟩, rfl⟩ ?_
          clear hK K kk zz ll gl
          generalize (((((((((wq36.setCell ⟨wd.heap.size, 0, none⟩ (.string bq.name)).setCell ⟨wd.heap.size, 1, none⟩ (.string bq.from_)).setCell ⟨wd.heap.size, 2, none⟩ (.string bq.to_)).setCell ⟨wd.heap.size, 3, none⟩ (.int .i64 bq.x)).setCell ⟨wd.heap.size, 4, none⟩ (.int .i64 bq.tap)).setCell ⟨wd.heap.size, 5, none⟩ (.int .i64 bq.shift)).setCell ⟨wd.heap.size, 6, none⟩ (.int .i64 bq.limit)).setCell ⟨wd.heap.size, 7, none⟩ (.int .i64 bq.short)).setCell ⟨wd.heap.size, 8, none⟩ (.int .i64 bq.hold)) = wq37 at *
          refine wpAnyM_ready [19] (by kernel_rfl) (by simp) ?_
          refine AllReadyM.cons (by rfl) (fun K hK => ?_) AllReadyM.nil
          have kk := X17_37.cell
          have zz := X17_37.frozen
          have ll := X17_37.lt
          have gl : w3.heap.size ≤ wq30.heap.size := by omega
          go_simp
          have X8 := (((((((((X17_37.set_ 0 (.string pq.name)).set_ 1 (.string pq.from_)).set_ 2 (.string pq.to_)).set_ 3 (.int .i64 pq.x)).set_ 4 (.int .i64 pq.tap)).set_ 5 (.int .i64 pq.shift)).set_ 6 (.int .i64 pq.limit)).set_ 7 (.int .i64 pq.short)).set_ 8 (.int .i64 pq.hold))
          simp only [List.setIfInBounds_toArray, List.set_cons_zero, List.set_cons_succ] at X8
          have X17_38 := X8
          clear X8
          have bq38 := (((((((((bq37.setCell (p := ⟨wq30.heap.size, 0, none⟩) gl (.string pq.name)).setCell (p := ⟨wq30.heap.size, 1, none⟩) gl (.string pq.from_)).setCell (p := ⟨wq30.heap.size, 2, none⟩) gl (.string pq.to_)).setCell (p := ⟨wq30.heap.size, 3, none⟩) gl (.int .i64 pq.x)).setCell (p := ⟨wq30.heap.size, 4, none⟩) gl (.int .i64 pq.tap)).setCell (p := ⟨wq30.heap.size, 5, none⟩) gl (.int .i64 pq.shift)).setCell (p := ⟨wq30.heap.size, 6, none⟩) gl (.int .i64 pq.limit)).setCell (p := ⟨wq30.heap.size, 7, none⟩) gl (.int .i64 pq.short)).setCell (p := ⟨wq30.heap.size, 8, none⟩) gl (.int .i64 pq.hold))
          have X16_38 := (((((((((X16_37.far (p := ⟨wq30.heap.size, 0, none⟩) (show wd.heap.size ≠ wq30.heap.size by omega) (.string pq.name)).far (p := ⟨wq30.heap.size, 1, none⟩) (show wd.heap.size ≠ wq30.heap.size by omega) (.string pq.from_)).far (p := ⟨wq30.heap.size, 2, none⟩) (show wd.heap.size ≠ wq30.heap.size by omega) (.string pq.to_)).far (p := ⟨wq30.heap.size, 3, none⟩) (show wd.heap.size ≠ wq30.heap.size by omega) (.int .i64 pq.x)).far (p := ⟨wq30.heap.size, 4, none⟩) (show wd.heap.size ≠ wq30.heap.size by omega) (.int .i64 pq.tap)).far (p := ⟨wq30.heap.size, 5, none⟩) (show wd.heap.size ≠ wq30.heap.size by omega) (.int .i64 pq.shift)).far (p := ⟨wq30.heap.size, 6, none⟩) (show wd.heap.size ≠ wq30.heap.size by omega) (.int .i64 pq.limit)).far (p := ⟨wq30.heap.size, 7, none⟩) (show wd.heap.size ≠ wq30.heap.size by omega) (.int .i64 pq.short)).far (p := ⟨wq30.heap.size, 8, none⟩) (show wd.heap.size ≠ wq30.heap.size by omega) (.int .i64 pq.hold))
          refine hK.out _ _ ⟨⟨_, bq38⟩, rfl⟩ ?_
          clear hK K kk zz ll gl
          generalize (((((((((wq37.setCell ⟨wq30.heap.size, 0, none⟩ (.string pq.name)).setCell ⟨wq30.heap.size, 1, none⟩ (.string pq.from_)).setCell ⟨wq30.heap.size, 2, none⟩ (.string pq.to_)).setCell ⟨wq30.heap.size, 3, none⟩ (.int .i64 pq.x)).setCell ⟨wq30.heap.size, 4, none⟩ (.int .i64 pq.tap)).setCell ⟨wq30.heap.size, 5, none⟩ (.int .i64 pq.shift)).setCell ⟨wq30.heap.size, 6, none⟩ (.int .i64 pq.limit)).setCell ⟨wq30.heap.size, 7, none⟩ (.int .i64 pq.short)).setCell ⟨wq30.heap.size, 8, none⟩ (.int .i64 pq.hold)) = wq38 at *
          refine wpAnyM_done (by kernel_rfl) ?_ _
          generalize wd.heap.size = ga8 at *
          generalize wq30.heap.size = ga9 at *
          exact ⟨ga8, ga9, rfl, rfl, X16_38, X17_38, bq38⟩
      · go_simp
        have X17_39 := Blk.new_ wq29 wq29.heap.size 42 #[.string ⟨#[]⟩, .string ⟨#[]⟩, .string ⟨#[]⟩, .int .i64 0, .int .i64 0, .int .i64 0, .int .i64 0, .int .i64 0, .int .i64 0] rfl
        have bq39 := bq29.alloc bq29.size (.cells #[.string ⟨#[]⟩, .string ⟨#[]⟩, .string ⟨#[]⟩, .int .i64 0, .int .i64 0, .int .i64 0, .int .i64 0, .int .i64 0, .int .i64 0] 42)
        have X16_39 := X16_29.alloc (.cells #[.string ⟨#[]⟩, .string ⟨#[]⟩, .string ⟨#[]⟩, .int .i64 0, .int .i64 0, .int .i64 0, .int .i64 0, .int .i64 0, .int .i64 0] 42)
        have n16_39 : wd.heap.size ≠ wq29.heap.size := by have := X16_29.lt; omega
        have l17_39 : w3.heap.size ≤ wq29.heap.size := bq29.size
        generalize wq29.alloc (.cells #[.string ⟨#[]⟩, .string ⟨#[]⟩, .string ⟨#[]⟩, .int .i64 0, .int .i64 0, .int .i64 0, .int .i64 0, .int .i64 0, .int .i64 0] 42) = wq39 at *
        have hSw : (fun w' => ∃ x : Wd w3, w' = x.val) wq39 := ⟨⟨wq39, bq39⟩, rfl⟩
        refine hK.out _ _ hSw ?_
        clear hK K
        refine wpAnyM_ready [5] (by kernel_rfl) (by simp) ?_
        refine AllReadyM.cons (by rfl) (fun K hK => ?_) AllReadyM.nil
        go_simp
        refine (C1.out br _ (F0.out.trans (bq39.mono F0.out.size))).mono ?_
        rintro e wq40 ⟨rfl, hb5⟩
        have bq40 : Below w3.heap.size w3 wq40 := bq39.trans (hb5.mono bq39.size)
        have X16_40 := X16_39.go hb5
        have X17_40 := X17_39.go hb5
        have hSw : (fun w' => ∃ x : Wd w3, w' = x.val) wq40 := ⟨⟨wq40, bq40⟩, rfl⟩
        refine hK.out _ _ hSw ?_
        clear hK K hb5
        refine wpAnyM_take 6 rfl (by kernel_rfl) (by kernel_rfl) (by kernel_rfl) (by kernel_rfl) (by kernel_rfl) (fun _ _ _ h => by obtain ⟨_, _, h, _⟩ := h; cases h) hSw (by kernel_rfl) (fun w' hSx => by obtain ⟨xw, rfl⟩ := hSx; go_simp; first | done | with_reducible rfl) ?_
        simp only [Act.put]
        refine wpAnyM_take 7 rfl (by kernel_rfl) (by kernel_rfl) (by kernel_rfl) (by kernel_rfl) (by kernel_rfl) (fun _ _ _ h => by obtain ⟨_, _, h, _⟩ := h; cases h) hSw (by kernel_rfl) (fun w' hSx => by obtain ⟨xw, rfl⟩ := hSx; go_simp; first | done | with_reducible rfl) ?_
        simp only [Act.put]
        refine wpAnyM_ready [13] (by kernel_rfl) (by simp) ?_
        refine AllReadyM.cons (by rfl) (fun K hK => ?_) AllReadyM.nil
        go_simp
        refine (C1.out pb _ (F0.out.trans (bq40.mono F0.out.size))).mono ?_
        rintro e wq41 ⟨rfl, hb5⟩
        have bq41 : Below w3.heap.size w3 wq41 := bq40.trans (hb5.mono bq40.size)
        have X16_41 := X16_40.go hb5
        have X17_41 := X17_40.go hb5
        have hSw : (fun w' => ∃ x : Wd w3, w' = x.val) wq41 := ⟨⟨wq41, bq41⟩, rfl⟩
        refine hK.out _ _ hSw ?_
        clear hK K hb5
        refine wpAnyM_take 14 rfl (by kernel_rfl) (by kernel_rfl) (by kernel_rfl) (by kernel_rfl) (by kernel_rfl) (fun _ _ _ h => by obtain ⟨_, _, h, _⟩ := h; cases h) hSw (by kernel_rfl) (fun w' hSx => by obtain ⟨xw, rfl⟩ := hSx; go_simp; first | done | with_reducible rfl) ?_
        simp only [Act.put]
        refine wpAnyM_take 15 rfl (by kernel_rfl) (by kernel_rfl) (by kernel_rfl) (by kernel_rfl) (by kernel_rfl) (fun _ _ _ h => by obtain ⟨_, _, h, _⟩ := h; cases h) hSw (by kernel_rfl) (fun w' hSx => by obtain ⟨xw, rfl⟩ := hSx; go_simp; first | done | with_reducible rfl) ?_
        simp only [Act.put]
        refine wpAnyM_ready [18] (by kernel_rfl) (by simp) ?_
        refine AllReadyM.cons (by rfl) (fun K hK => ?_) AllReadyM.nil
        have kk := X16_41.cell
        have zz := X16_41.frozen
        have ll := X16_41.lt
        have gl : w3.heap.size ≤ wd.heap.size := by omega
        go_simp
        have X8 := (((((((((X16_41.set_ 0 (.string bq.name)).set_ 1 (.string bq.from_)).set_ 2 (.string bq.to_)).set_ 3 (.int .i64 bq.x)).set_ 4 (.int .i64 bq.tap)).set_ 5 (.int .i64 bq.shift)).set_ 6 (.int .i64 bq.limit)).set_ 7 (.int .i64 bq.short)).set_ 8 (.int .i64 bq.hold))
        simp only [List.setIfInBounds_toArray, List.set_cons_zero, List.set_cons_succ] at X8
        have X16_42 := X8
        clear X8
        have bq42 := (((((((((bq41.setCell (p := ⟨wd.heap.size, 0, none⟩) gl (.string bq.name)).setCell (p := ⟨wd.heap.size, 1, none⟩) gl (.string bq.from_)).setCell (p := ⟨wd.heap.size, 2, none⟩) gl (.string bq.to_)).setCell (p := ⟨wd.heap.size, 3, none⟩) gl (.int .i64 bq.x)).setCell (p := ⟨wd.heap.size, 4, none⟩) gl (.int .i64 bq.tap)).setCell (p := ⟨wd.heap.size, 5, none⟩) gl (.int .i64 bq.shift)).setCell (p := ⟨wd.heap.size, 6, none⟩) gl (.int .i64 bq.limit)).setCell (p := ⟨wd.heap.size, 7, none⟩) gl (.int .i64 bq.short)).setCell (p := ⟨wd.heap.size, 8, none⟩) gl (.int .i64 bq.hold))
        have X17_42 := (((((((((X17_41.far (p := ⟨wd.heap.size, 0, none⟩) (show wq29.heap.size ≠ wd.heap.size by omega) (.string bq.name)).far (p := ⟨wd.heap.size, 1, none⟩) (show wq29.heap.size ≠ wd.heap.size by omega) (.string bq.from_)).far (p := ⟨wd.heap.size, 2, none⟩) (show wq29.heap.size ≠ wd.heap.size by omega) (.string bq.to_)).far (p := ⟨wd.heap.size, 3, none⟩) (show wq29.heap.size ≠ wd.heap.size by omega) (.int .i64 bq.x)).far (p := ⟨wd.heap.size, 4, none⟩) (show wq29.heap.size ≠ wd.heap.size by omega) (.int .i64 bq.tap)).far (p := ⟨wd.heap.size, 5, none⟩) (show wq29.heap.size ≠ wd.heap.size by omega) (.int .i64 bq.shift)).far (p := ⟨wd.heap.size, 6, none⟩) (show wq29.heap.size ≠ wd.heap.size by omega) (.int .i64 bq.limit)).far (p := ⟨wd.heap.size, 7, none⟩) (show wq29.heap.size ≠ wd.heap.size by omega) (.int .i64 bq.short)).far (p := ⟨wd.heap.size, 8, none⟩) (show wq29.heap.size ≠ wd.heap.size by omega) (.int .i64 bq.hold))
        refine hK.out _ _ ⟨⟨_, bq42⟩, rfl⟩ ?_
        clear hK K kk zz ll gl
        generalize (((((((((wq41.setCell ⟨wd.heap.size, 0, none⟩ (.string bq.name)).setCell ⟨wd.heap.size, 1, none⟩ (.string bq.from_)).setCell ⟨wd.heap.size, 2, none⟩ (.string bq.to_)).setCell ⟨wd.heap.size, 3, none⟩ (.int .i64 bq.x)).setCell ⟨wd.heap.size, 4, none⟩ (.int .i64 bq.tap)).setCell ⟨wd.heap.size, 5, none⟩ (.int .i64 bq.shift)).setCell ⟨wd.heap.size, 6, none⟩ (.int .i64 bq.limit)).setCell ⟨wd.heap.size, 7, none⟩ (.int .i64 bq.short)).setCell ⟨wd.heap.size, 8, none⟩ (.int .i64 bq.hold)) = wq42 at *
        refine wpAnyM_ready [19] (by kernel_rfl) (by simp) ?_
        refine AllReadyM.cons (by rfl) (fun K hK => ?_) AllReadyM.nil
        have kk := X17_42.cell
        have zz := X17_42.frozen
        have ll := X17_42.lt
        have gl : w3.heap.size ≤ wq29.heap.size := by omega
        go_simp
        have X8 := (((((((((X17_42.set_ 0 (.string pq.name)).set_ 1 (.string pq.from_)).set_ 2 (.string pq.to_)).set_ 3 (.int .i64 pq.x)).set_ 4 (.int .i64 pq.tap)).set_ 5 (.int .i64 pq.shift)).set_ 6 (.int .i64 pq.limit)).set_ 7 (.int .i64 pq.short)).set_ 8 (.int .i64 pq.hold))
        simp only [List.setIfInBounds_toArray, List.set_cons_zero, List.set_cons_succ] at X8
        have X17_43 := X8
        clear X8
        have bq43 := (((((((((bq42.setCell (p := ⟨wq29.heap.size, 0, none⟩) gl (.string pq.name)).setCell (p := ⟨wq29.heap.size, 1, none⟩) gl (.string pq.from_)).setCell (p := ⟨wq29.heap.size, 2, none⟩) gl (.string pq.to_)).setCell (p := ⟨wq29.heap.size, 3, none⟩) gl (.int .i64 pq.x)).setCell (p := ⟨wq29.heap.size, 4, none⟩) gl (.int .i64 pq.tap)).setCell (p := ⟨wq29.heap.size, 5, none⟩) gl (.int .i64 pq.shift)).setCell (p := ⟨wq29.heap.size, 6, none⟩) gl (.int .i64 pq.limit)).setCell (p := ⟨wq29.heap.size, 7, none⟩) gl (.int .i64 pq.short)).setCell (p := ⟨wq29.heap.size, 8, none⟩) gl (.int .i64 pq.hold))
        have X16_43 := (((((((((X16_42.far (p := ⟨wq29.heap.size, 0, none⟩) (show wd.heap.size ≠ wq29.heap.size by omega) (.string pq.name)).far (p := ⟨wq29.heap.size, 1, none⟩) (show wd.heap.size ≠ wq29.heap.size by omega) (.string pq.from_)).far (p := ⟨wq29.heap.size, 2, none⟩) (show wd.heap.size ≠ wq29.heap.size by omega) (.string pq.to_)).far (p := ⟨wq29.heap.size, 3, none⟩) (show wd.heap.size ≠ wq29.heap.size by omega) (.int .i64 pq.x)).far (p := ⟨wq29.heap.size, 4, none⟩) (show wd.heap.size ≠ wq29.heap.size by omega) (.int .i64 pq.tap)).far (p := ⟨wq29.heap.size, 5, none⟩) (show wd.heap.size ≠ wq29.heap.size by omega) (.int .i64 pq.shift)).far (p := ⟨wq29.heap.size, 6, none⟩) (show wd.heap.size ≠ wq29.heap.size by omega) (.int .i64 pq.limit)).far (p := ⟨wq29.heap.size, 7, none⟩) (show wd.heap.size ≠ wq29.heap.size by omega) (.int .i64 pq.short)).far (p := ⟨wq29.heap.size, 8, none⟩) (show wd.heap.size ≠ wq29.heap.size by omega) (.int .i64 pq.hold))
        refine hK.out _ _ ⟨⟨_, bq43⟩, rfl⟩ ?_
        clear hK K kk zz ll gl
        generalize (((((((((wq42.setCell ⟨wq29.heap.size, 0, none⟩ (.string pq.name)).setCell ⟨wq29.heap.size, 1, none⟩ (.string pq.from_)).setCell ⟨wq29.heap.size, 2, none⟩ (.string pq.to_)).setCell ⟨wq29.heap.size, 3, none⟩ (.int .i64 pq.x)).setCell ⟨wq29.heap.size, 4, none⟩ (.int .i64 pq.tap)).setCell ⟨wq29.heap.size, 5, none⟩ (.int .i64 pq.shift)).setCell ⟨wq29.heap.size, 6, none⟩ (.int .i64 pq.limit)).setCell ⟨wq29.heap.size, 7, none⟩ (.int .i64 pq.short)).setCell ⟨wq29.heap.size, 8, none⟩ (.int .i64 pq.hold)) = wq43 at *
        refine wpAnyM_done (by kernel_rfl) ?_ _
        generalize wd.heap.size = ga8 at *
        generalize wq29.heap.size = ga9 at *
        exact ⟨ga8, ga9, rfl, rfl, X16_43, X17_43, bq43⟩
    · go_simp
      have X17_44 := Blk.new_ wd wd.heap.size 42 #[.string ⟨#[]⟩, .string ⟨#[]⟩, .string ⟨#[]⟩, .int .i64 0, .int .i64 0, .int .i64 0, .int .i64 0, .int .i64 0, .int .i64 0] rfl
      have bq44 := b0.alloc b0.size (.cells #[.string ⟨#[]⟩, .string ⟨#[]⟩, .string ⟨#[]⟩, .int .i64 0, .int .i64 0, .int .i64 0, .int .i64 0, .int .i64 0, .int .i64 0] 42)
      have l17_44 : w3.heap.size ≤ wd.heap.size := b0.size
      generalize wd.alloc (.cells #[.string ⟨#[]⟩, .string ⟨#[]⟩, .string ⟨#[]⟩, .int .i64 0, .int .i64 0, .int .i64 0, .int .i64 0, .int .i64 0, .int .i64 0] 42) = wq44 at *
      have hSw : (fun w' => ∃ x : Wd w3, w' = x.val) wq44 := ⟨⟨wq44, bq44⟩, rfl⟩
      refine hK.out _ _ hSw ?_
      clear hK K
      refine wpAnyM_ready [5, 16] (by kernel_rfl) (by simp) ?_
      refine AllReadyM.cons (by rfl) (fun K hK => ?_) (AllReadyM.cons (by rfl) (fun K hK => ?_) AllReadyM.nil)
      · go_simp
        refine (C1.out br _ (F0.out.trans (bq44.mono F0.out.size))).mono ?_
        rintro e wq45 ⟨rfl, hb5⟩
        have bq45 : Below w3.heap.size w3 wq45 := bq44.trans (hb5.mono bq44.size)
        have X17_45 := X17_44.go hb5
        have hSw : (fun w' => ∃ x : Wd w3, w' = x.val) wq45 := ⟨⟨wq45, bq45⟩, rfl⟩
        refine hK.out _ _ hSw ?_
        clear hK K hb5
        refine wpAnyM_take 6 rfl (by kernel_rfl) (by kernel_rfl) (by kernel_rfl) (by kernel_rfl) (by kernel_rfl) (fun _ _ _ h => by obtain ⟨_, _, h, _⟩ := h; cases h) hSw (by kernel_rfl) (fun w' hSx => by obtain ⟨xw, rfl⟩ := hSx; go_simp; first | done | with_reducible rfl) ?_
        simp only [Act.put]
        refine wpAnyM_take 7 rfl (by kernel_rfl) (by kernel_rfl) (by kernel_rfl) (by kernel_rfl) (by kernel_rfl) (fun _ _ _ h => by obtain ⟨_, _, h, _⟩ := h; cases h) hSw (by kernel_rfl) (fun w' hSx => by obtain ⟨xw, rfl⟩ := hSx; go_simp; first | done | with_reducible rfl) ?_
        simp only [Act.put]
        refine wpAnyM_ready [13, 16] (by kernel_rfl) (by simp) ?_
        refine AllReadyM.cons (by rfl) (fun K hK => ?_) (AllReadyM.cons (by rfl) (fun K hK => ?_) AllReadyM.nil)
        · go_simp
          refine (C1.out pb _ (F0.out.trans (bq45.mono F0.out.size))).mono ?_
          rintro e wq46 ⟨rfl, hb5⟩
          have bq46 : Below w3.heap.size w3 wq46 := bq45.trans (hb5.mono bq45.size)
          have X17_46 := X17_45.go hb5
          have hSw : (fun w' => ∃ x : Wd w3, w' = x.val) wq46 := ⟨⟨wq46, bq46⟩, rfl⟩
          refine hK.out _ _ hSw ?_
          clear hK K hb5
          refine wpAnyM_take 14 rfl (by kernel_rfl) (by kernel_rfl) (by kernel_rfl) (by kernel_rfl) (by kernel_rfl) (fun _ _ _ h => by obtain ⟨_, _, h, _⟩ := h; cases h) hSw (by kernel_rfl) (fun w' hSx => by obtain ⟨xw, rfl⟩ := hSx; go_simp; first | done | with_reducible rfl) ?_
          simp only [Act.put]
          refine wpAnyM_take 15 rfl (by kernel_rfl) (by kernel_rfl) (by kernel_rfl) (by kernel_rfl) (by kernel_rfl) (fun _ _ _ h => by obtain ⟨_, _, h, _⟩ := h; cases h) hSw (by kernel_rfl) (fun w' hSx => by obtain ⟨xw, rfl⟩ := hSx; go_simp; first | done | with_reducible rfl) ?_
          simp only [Act.put]
          refine wpAnyM_ready [16] (by kernel_rfl) (by simp) ?_
          refine AllReadyM.cons (by rfl) (fun K hK => ?_) AllReadyM.nil
          go_simp
          have X16_47 := Blk.new_ wq46 wq46.heap.size 42 #[.string ⟨#[]⟩, .string ⟨#[]⟩, .string ⟨#[]⟩, .int .i64 0, .int .i64 0, .int .i64 0, .int .i64 0, .int .i64 0, .int .i64 0] rfl
          have bq47 := bq46.alloc bq46.size (.cells #[.string ⟨#[]⟩, .string ⟨#[]⟩, .string ⟨#[]⟩, .int .i64 0, .int .i64 0, .int .i64 0, .int .i64 0, .int .i64 0, .int .i64 0] 42)
          have X17_47 := X17_46.alloc (.cells #[.string ⟨#[]⟩, .string ⟨#[]⟩, .string ⟨#[]⟩, .int .i64 0, .int .i64 0, .int .i64 0, .int .i64 0, .int .i64 0, .int .i64 0] 42)
          have n17_47 : wd.heap.size ≠ wq46.heap.size := by have := X17_46.lt; omega
          have l16_47 : w3.heap.size ≤ wq46.heap.size := bq46.size
          generalize wq46.alloc (.cells #[.string ⟨#[]⟩, .string ⟨#[]⟩, .string ⟨#[]⟩, .int .i64 0, .int .i64 0, .int .i64 0, .int .i64 0, .int .i64 0, .int .i64 0] 42) = wq47 at *
          have hSw : (fun w' => ∃ x : Wd w3, w' = x.val) wq47 := ⟨⟨wq47, bq47⟩, rfl⟩
          refine hK.out _ _ hSw ?_
          clear hK K
          refine wpAnyM_ready [18] (by kernel_rfl) (by simp) ?_
          refine AllReadyM.cons (by rfl) (fun K hK => ?_) AllReadyM.nil
          have kk := X16_47.cell
          have zz := X16_47.frozen
          have ll := X16_47.lt
          have gl : w3.heap.size ≤ wq46.heap.size := by omega
          go_simp
          have X8 := (((((((((X16_47.set_ 0 (.string bq.name)).set_ 1 (.string bq.from_)).set_ 2 (.string bq.to_)).set_ 3 (.int .i64 bq.x)).set_ 4 (.int .i64 bq.tap)).set_ 5 (.int .i64 bq.shift)).set_ 6 (.int .i64 bq.limit)).set_ 7 (.int .i64 bq.short)).set_ 8 (.int .i64 bq.hold))
          simp only [List.setIfInBounds_toArray, List.set_cons_zero, List.set_cons_succ] at X8
          have X16_48 := X8
          clear X8
          have bq48 := (((((((((bq47.setCell (p := ⟨wq46.heap.size, 0, none⟩) gl (.string bq.name)).setCell (p := ⟨wq46.heap.size, 1, none⟩) gl (.string bq.from_)).setCell (p := ⟨wq46.heap.size, 2, none⟩) gl (.string bq.to_)).setCell (p := ⟨wq46.heap.size, 3, none⟩) gl (.int .i64 bq.x)).setCell (p := ⟨wq46.heap.size, 4, none⟩) gl (.int .i64 bq.tap)).setCell (p := ⟨wq46.heap.size, 5, none⟩) gl (.int .i64 bq.shift)).setCell (p := ⟨wq46.heap.size, 6, none⟩) gl (.int .i64 bq.limit)).setCell (p := ⟨wq46.heap.size, 7, none⟩) gl (.int .i64 bq.short)).setCell (p := ⟨wq46.heap.size, 8, none⟩) gl (.int .i64 bq.hold))
          have X17_48 := (((((((((X17_47.far (p := ⟨wq46.heap.size, 0, none⟩) (show wd.heap.size ≠ wq46.heap.size by omega) (.string bq.name)).far (p := ⟨wq46.heap.size, 1, none⟩) (show wd.heap.size ≠ wq46.heap.size by omega) (.string bq.from_)).far (p := ⟨wq46.heap.size, 2, none⟩) (show wd.heap.size ≠ wq46.heap.size by omega) (.string bq.to_)).far (p := ⟨wq46.heap.size, 3, none⟩) (show wd.heap.size ≠ wq46.heap.size by omega) (.int .i64 bq.x)).far (p := ⟨wq46.heap.size, 4, none⟩) (show wd.heap.size ≠ wq46.heap.size by omega) (.int .i64 bq.tap)).far (p := ⟨wq46.heap.size, 5, none⟩) (show wd.heap.size ≠ wq46.heap.size by omega) (.int .i64 bq.shift)).far (p := ⟨wq46.heap.size, 6, none⟩) (show wd.heap.size ≠ wq46.heap.size by omega) (.int .i64 bq.limit)).far (p := ⟨wq46.heap.size, 7, none⟩) (show wd.heap.size ≠ wq46.heap.size by omega) (.int .i64 bq.short)).far (p := ⟨wq46.heap.size, 8, none⟩) (show wd.heap.size ≠ wq46.heap.size by omega) (.int .i64 bq.hold))
          refine hK.out _ _ ⟨⟨_, bq48⟩, rfl⟩ ?_
          clear hK K kk zz ll gl
          generalize (((((((((wq47.setCell ⟨wq46.heap.size, 0, none⟩ (.string bq.name)).setCell ⟨wq46.heap.size, 1, none⟩ (.string bq.from_)).setCell ⟨wq46.heap.size, 2, none⟩ (.string bq.to_)).setCell ⟨wq46.heap.size, 3, none⟩ (.int .i64 bq.x)).setCell ⟨wq46.heap.size, 4, none⟩ (.int .i64 bq.tap)).setCell ⟨wq46.heap.size, 5, none⟩ (.int .i64 bq.shift)).setCell ⟨wq46.heap.size, 6, none⟩ (.int .i64 bq.limit)).setCell ⟨wq46.heap.size, 7, none⟩ (.int .i64 bq.short)).setCell ⟨wq46.heap.size, 8, none⟩ (.int .i64 bq.hold)) = wq48 at *
          refine wpAnyM_ready [19] (by kernel_rfl) (by simp) ?_
          refine AllReadyM.cons (by rfl) (fun K hK => ?_) AllReadyM.nil
          have kk := X17_48.cell
          have zz := X17_48.frozen
          have ll := X17_48.lt
          have gl : w3.heap.size ≤ wd.heap.size := by omega
          go_simp
          have X8 := (((((((((X17_48.set_ 0 (.string pq.name)).set_ 1 (.string pq.from_)).set_ 2 (.string pq.to_)).set_ 3 (.int .i64 pq.x)).set_ 4 (.int .i64 pq.tap)).set_ 5 (.int .i64 pq.shift)).set_ 6 (.int .i64 pq.limit)).set_ 7 (.int .i64 pq.short)).set_ 8 (.int .i64 pq.hold))
          simp only [List.setIfInBounds_toArray, List.set_cons_zero, List.set_cons_succ] at X8
          have X17_49 := X8
          clear X8
          have bq49 := (((((((((bq48.setCell (p := ⟨wd.heap.size, 0, none⟩) gl (.string pq.name)).setCell (p := ⟨wd.heap.size, 1, none⟩) gl (.string pq.from_)).setCell (p := ⟨wd.heap.size, 2, none⟩) gl (.string pq.to_)).setCell (p := ⟨wd.heap.size, 3, none⟩) gl (.int .i64 pq.x)).setCell (p := ⟨wd.heap.size, 4, none⟩) gl (.int .i64 pq.tap)).setCell (p := ⟨wd.heap.size, 5, none⟩) gl (.int .i64 pq.shift)).setCell (p := ⟨wd.heap.size, 6, none⟩) gl (.int .i64 pq.limit)).setCell (p := ⟨wd.heap.size, 7, none⟩) gl (.int .i64 pq.short)).setCell (p := ⟨wd.heap.size, 8, none⟩) gl (.int .i64 pq.hold))
          have X16_49 := (((((((((X16_48.far (p := ⟨wd.heap.size, 0, none⟩) (show wq46.heap.size ≠ wd.heap.size by omega) (.string pq.name)).far (p := ⟨wd.heap.size, 1, none⟩) (show wq46.heap.size ≠ wd.heap.size by omega) (.string pq.from_)).far (p := ⟨wd.heap.size, 2, none⟩) (show wq46.heap.size ≠ wd.heap.size by omega) (.string pq.to_)).far (p := ⟨wd.heap.size, 3, none⟩) (show wq46.heap.size ≠ wd.heap.size by omega) (.int .i64 pq.x)).far (p := ⟨wd.heap.size, 4, none⟩) (show wq46.heap.size ≠ wd.heap.size by omega) (.int .i64 pq.tap)).far (p := ⟨wd.heap.size, 5, none⟩) (show wq46.heap.size ≠ wd.heap.size by omega) (.int .i64 pq.shift)).far (p := ⟨wd.heap.size, 6, none⟩) (show wq46.heap.size ≠ wd.heap.size by omega) (.int .i64 pq.limit)).far (p := ⟨wd.heap.size, 7, none⟩) (show wq46.heap.size ≠ wd.heap.size by omega) (.int .i64 pq.short)).far (p := ⟨wd.heap.size, 8, none⟩) (show wq46.heap.size ≠ wd.heap.size by omega) (.int .i64 pq.hold))
          refine hK.out _ _ ⟨⟨_, bq49⟩, rfl⟩ ?_
          clear hK K kk zz ll gl
          generalize (((((((((wq48.setCell ⟨wd.heap.size, 0, none⟩ (.string pq.name)).setCell ⟨wd.heap.size, 1, none⟩ (.string pq.from_)).setCell ⟨wd.heap.size, 2, none⟩ (.string pq.to_)).setCell ⟨wd.heap.size, 3, none⟩ (.int .i64 pq.x)).setCell ⟨wd.heap.size, 4, none⟩ (.int .i64 pq.tap)).setCell ⟨wd.heap.size, 5, none⟩ (.int .i64 pq.shift)).setCell ⟨wd.heap.size, 6, none⟩ (.int .i64 pq.limit)).setCell ⟨wd.heap.size, 7, none⟩ (.int .i64 pq.short)).setCell ⟨wd.heap.size, 8, none⟩ (.int .i64 pq.hold)) = wq49 at *
          refine wpAnyM_done (by kernel_rfl) ?_ _
          generalize wq46.heap.size = ga8 at *
          generalize wd.heap.size = ga9 at *
          exact ⟨ga8, ga9, rfl, rfl, X16_49, X17_49, bq49⟩
        · go_simp
          have X16_50 := Blk.new_ wq45 wq45.heap.size 42 #[.string ⟨#[]⟩, .string ⟨#[]⟩, .string ⟨#[]⟩, .int .i64 0, .int .i64 0, .int .i64 0, .int .i64 0, .int .i64 0, .int .i64 0] rfl
          have bq50 := bq45.alloc bq45.size (.cells #[.string ⟨#[]⟩, .string ⟨#[]⟩, .string ⟨#[]⟩, .int .i64 0, .int .i64 0, .int .i64 0, .int .i64 0, .int .i64 0, .int .i64 0] 42)
          have X17_50 := X17_45.alloc (.cells #[.string ⟨#[]⟩, .string ⟨#[]⟩, .string ⟨#[]⟩, .int .i64 0, .int .i64 0, .int .i64 0, .int .i64 0, .int .i64 0, .int .i64 0] 42)
          have n17_50 : wd.heap.size ≠ wq45.heap.size := by have := X17_45.lt; omega
          have l16_50 : w3.heap.size ≤ wq45.heap.size := bq45.size
          generalize wq45.alloc (.cells #[.string ⟨#[]⟩, .string ⟨#[]⟩, .string ⟨#[]⟩, .int .i64 0, .int .i64 0, .int .i64 0, .int .i64 0, .int .i64 0, .int .i64 0] 42) = wq50 at *
          have hSw : (fun w' => ∃ x : Wd w3, w' = x.val) wq50 := ⟨⟨wq50, bq50⟩, rfl⟩
          refine hK.out _ _ hSw ?_
          clear hK K
          refine wpAnyM_ready [13] (by kernel_rfl) (by simp) ?_
          refine AllReadyM.cons (by rfl) (fun K hK => ?_) AllReadyM.nil
          go_simp
          refine (C1.out pb _ (F0.out.trans (bq50.mono F0.out.size))).mono ?_
          rintro e wq51 ⟨rfl, hb5⟩
          have bq51 : Below w3.heap.size w3 wq51 := bq50.trans (hb5.mono bq50.size)
          have X17_51 := X17_50.go hb5
          have X16_51 := X16_50.go hb5
          have hSw : (fun w' => ∃ x : Wd w3, w' = x.val) wq51 := ⟨⟨wq51, bq51⟩, rfl⟩
          refine hK.out _ _ hSw ?_
          clear hK K hb5
          refine wpAnyM_take 14 rfl (by kernel_rfl) (by kernel_rfl) (by kernel_rfl) (by kernel_rfl) (by kernel_rfl) (fun _ _ _ h => by obtain ⟨_, _, h, _⟩ := h; cases h) hSw (by kernel_rfl) (fun w' hSx => by obtain ⟨xw, rfl⟩ := hSx; go_simp; first | done | with_reducible rfl) ?_
          simp only [Act.put]
          refine wpAnyM_take 15 rfl (by kernel_rfl) (by kernel_rfl) (by kernel_rfl) (by kernel_rfl) (by kernel_rfl) (fun _ _ _ h => by obtain ⟨_, _, h, _⟩ := h; cases h) hSw (by kernel_rfl) (fun w' hSx => by obtain ⟨xw, rfl⟩ := hSx; go_simp; first | done | with_reducible rfl) ?_
          simp only [Act.put]
          refine wpAnyM_ready [18] (by kernel_rfl) (by simp) ?_
          refine AllReadyM.cons (by rfl) (fun K hK => ?_) AllReadyM.nil
          have kk := X16_51.cell
          have zz := X16_51.frozen
          have ll := X16_51.lt
          have gl : w3.heap.size ≤ wq45.heap.size := by omega
          go_simp
          have X8 := (((((((((X16_51.set_ 0 (.string bq.name)).set_ 1 (.string bq.from_)).set_ 2 (.string bq.to_)).set_ 3 (.int .i64 bq.x)).set_ 4 (.int .i64 bq.tap)).set_ 5 (.int .i64 bq.shift)).set_ 6 (.int .i64 bq.limit)).set_ 7 (.int .i64 bq.short)).set_ 8 (.int .i64 bq.hold))
          simp only [List.setIfInBounds_toArray, List.set_cons_zero, List.set_cons_succ] at X8
          have X16_52 := X8
          clear X8
          have bq52 := (((((((((bq51.setCell (p := ⟨wq45.heap.size, 0, none⟩) gl (.string bq.name)).setCell (p := ⟨wq45.heap.size, 1, none⟩) gl (.string bq.from_)).setCell (p := ⟨wq45.heap.size, 2, none⟩) gl (.string bq.to_)).setCell (p := ⟨wq45.heap.size, 3, none⟩) gl (.int .i64 bq.x)).setCell (p := ⟨wq45.heap.size, 4, none⟩) gl (.int .i64 bq.tap)).setCell (p := ⟨wq45.heap.size, 5, none⟩) gl (.int .i64 bq.shift)).setCell (p := ⟨wq45.heap.size, 6, none⟩) gl (.int .i64 bq.limit)).setCell (p := ⟨wq45.heap.size, 7, none⟩) gl (.int .i64 bq.short)).setCell (p := ⟨wq45.heap.size, 8, none⟩) gl (.int .i64 bq.hold))
          have X17_52 := (((((((((X17_51.far (p := ⟨wq45.heap.size, 0, none⟩) (show wd.heap.size ≠ wq45.heap.size by omega) (.string bq.name)).far (p := ⟨wq45.heap.size, 1, none⟩) (show wd.heap.size ≠ wq45.heap.size by omega) (.string bq.from_)).far (p := ⟨wq45.heap.size, 2, none⟩) (show wd.heap.size ≠ wq45.heap.size by omega) (.string bq.to_)).far (p := ⟨wq45.heap.size, 3, none⟩) (show wd.heap.size ≠ wq45.heap.size by omega) (.int .i64 bq.x)).far (p := ⟨wq45.heap.size, 4, none⟩) (show wd.heap.size ≠ wq45.heap.size by omega) (.int .i64 bq.tap)).far (p := ⟨wq45.heap.size, 5, none⟩) (show wd.heap.size ≠ wq45.heap.size by omega) (.int .i64 bq.shift)).far (p := ⟨wq45.heap.size, 6, none⟩) (show wd.heap.size ≠ wq45.heap.size by omega) (.int .i64 bq.limit)).far (p := ⟨wq45.heap.size, 7, none⟩) (show wd.heap.size ≠ wq45.heap.size by omega) (.int .i64 bq.short)).far (p := ⟨wq45.heap.size, 8, none⟩) (show wd.heap.size ≠ wq45.heap.size by omega) (.int .i64 bq.hold))
          refine hK.out _ _ ⟨⟨_, bq52⟩, rfl⟩ ?_
          clear hK K kk zz ll gl
          generalize (((((((((wq51.setCell ⟨wq45.heap.size, 0, none⟩ (.string bq.name)).setCell ⟨wq45.heap.size, 1, none⟩ (.string bq.from_)).setCell ⟨wq45.heap.size, 2, none⟩ (.string bq.to_)).setCell ⟨wq45.heap.size, 3, none⟩ (.int .i64 bq.x)).setCell ⟨wq45.heap.size, 4, none⟩ (.int .i64 bq.tap)).setCell ⟨wq45.heap.size, 5, none⟩ (.int .i64 bq.shift)).setCell ⟨wq45.heap.size, 6, none⟩ (.int .i64 bq.limit)).setCell ⟨wq45.heap.size, 7, none⟩ (.int .i64 bq.short)).setCell ⟨wq45.heap.size, 8, none⟩ (.int .i64 bq.hold)) = wq52 at *
          refine wpAnyM_ready [19] (by kernel_rfl) (by simp) ?_
          refine AllReadyM.cons (by rfl) (fun K hK => ?_) AllReadyM.nil
          have kk := X17_52.cell
          have zz := X17_52.frozen
          have ll := X17_52.lt
          have gl : w3.heap.size ≤ wd.heap.size := by omega
          go_simp
          have X8 := (((((((((X17_52.set_ 0 (.string pq.name)).set_ 1 (.string pq.from_)).set_ 2 (.string pq.to_)).set_ 3 (.int .i64 pq.x)).set_ 4 (.int .i64 pq.tap)).set_ 5 (.int .i64 pq.shift)).set_ 6 (.int .i64 pq.limit)).set_ 7 (.int .i64 pq.short)).set_ 8 (.int .i64 pq.hold))
          simp only [List.setIfInBounds_toArray, List.set_cons_zero, List.set_cons_succ] at X8
          have X17_53 := X8
          clear X8
          have bq53 := (((((((((bq52.setCell (p := ⟨wd.heap.size, 0, none⟩) gl (.string pq.name)).setCell (p := ⟨wd.heap.size, 1, none⟩) gl (.string pq.from_)).setCell (p := ⟨wd.heap.size, 2, none⟩) gl (.string pq.to_)).setCell (p := ⟨wd.heap.size, 3, none⟩) gl (.int .i64 pq.x)).setCell (p := ⟨wd.heap.size, 4, none⟩) gl (.int .i64 pq.tap)).setCell (p := ⟨wd.heap.size, 5, none⟩) gl (.int .i64 pq.shift)).setCell (p := ⟨wd.heap.size, 6, none⟩) gl (.int .i64 pq.limit)).setCell (p := ⟨wd.heap.size, 7, none⟩) gl (.int .i64 pq.short)).setCell (p := ⟨wd.heap.size, 8, none⟩) gl (.int .i64 pq.hold))
          have X16_53 := (((((((((X16_52.far (p := ⟨wd.heap.size, 0, none⟩) (show wq45.heap.size ≠ wd.heap.size by omega) (.string pq.name)).far (p := ⟨wd.heap.size, 1, none⟩) (show wq45.heap.size ≠ wd.heap.size by omega) (.string pq.from_)).far (p := ⟨wd.heap.size, 2, none⟩) (show wq45.heap.size ≠ wd.heap.size by omega) (.string pq.to_)).far (p := ⟨wd.heap.size, 3, none⟩) (show wq45.heap.size ≠ wd.heap.size by omega) (.int .i64 pq.x)).far (p := ⟨wd.heap.size, 4, none⟩) (show wq45.heap.size ≠ wd.heap.size by omega) (.int .i64 pq.tap)).far (p := ⟨wd.heap.size, 5, none⟩) (show wq45.heap.size ≠ wd.heap.size by omega) (.int .i64 pq.shift)).far (p := ⟨wd.heap.size, 6, none⟩) (show wq45.heap.size ≠ wd.heap.size by omega) (.int .i64 pq.limit)).far (p := ⟨wd.heap.size, 7, none⟩) (show wq45.heap.size ≠ wd.heap.size by omega) (.int .i64 pq.short)).far (p := ⟨wd.heap.size, 8, none⟩) (show wq45.heap.size ≠ wd.heap.size by omega) (.int .i64 pq.hold))
          refine hK.out _ _ ⟨⟨_, bq53⟩, rfl⟩ ?_
          clear hK K kk zz ll gl
          generalize (((((((((wq52.setCell ⟨wd.heap.size, 0, none⟩ (.string pq.name)).setCell ⟨wd.heap.size, 1, none⟩ (.string pq.from_)).setCell ⟨wd.heap.size, 2, none⟩ (.string pq.to_)).setCell ⟨wd.heap.size, 3, none⟩ (.int .i64 pq.x)).setCell ⟨wd.heap.size, 4, none⟩ (.int .i64 pq.tap)).setCell ⟨wd.heap.size, 5, none⟩ (.int .i64 pq.shift)).setCell ⟨wd.heap.size, 6, none⟩ (.int .i64 pq.limit)).setCell ⟨wd.heap.size, 7, none⟩ (.int .i64 pq.short)).setCell ⟨wd.heap.size, 8, none⟩ (.int .i64 pq.hold)) = wq53 at *
          refine wpAnyM_done (by kernel_rfl) ?_ _
          generalize wq45.heap.size = ga8 at *
          generalize wd.heap.size = ga9 at *
          exact ⟨ga8, ga9, rfl, rfl, X16_53, X17_53, bq53⟩
      · go_simp
        have X16_54 := Blk.new_ wq44 wq44.heap.size 42 #[.string ⟨#[]⟩, .string ⟨#[]⟩, .string ⟨#[]⟩, .int .i64 0, .int .i64 0, .int .i64 0, .int .i64 0, .int .i64 0, .int .i64 0] rfl
        have bq54 := bq44.alloc bq44.size (.cells #[.string ⟨#[]⟩, .string ⟨#[]⟩, .string ⟨#[]⟩, .int .i64 0, .int .i64 0, .int .i64 0, .int .i64 0, .int .i64 0, .int .i64 0] 42)
        have X17_54 := X17_44.alloc (.cells #[.string ⟨#[]⟩, .string ⟨#[]⟩, .string ⟨#[]⟩, .int .i64 0, .int .i64 0, .int .i64 0, .int .i64 0, .int .i64 0, .int .i64 0] 42)
        have n17_54 : wd.heap.size ≠ wq44.heap.size := by have := X17_44.lt; omega
        have l16_54 : w3.heap.size ≤ wq44.heap.size := bq44.size
        generalize wq44.alloc (.cells #[.string ⟨#[]⟩, .string ⟨#[]⟩, .string ⟨#[]⟩, .int .i64 0, .int .i64 0, .int .i64 0, .int .i64 0, .int .i64 0, .int .i64 0] 42) = wq54 at *
        have hSw : (fun w' => ∃ x : Wd w3, w' = x.val) wq54 := ⟨⟨wq54, bq54⟩, rfl⟩
        refine hK.out _ _ hSw ?_
        clear hK K
        refine wpAnyM_ready [5] (by kernel_rfl) (by simp) ?_
        refine AllReadyM.cons (by rfl) (fun K hK => ?_) AllReadyM.nil
        go_simp
        refine (C1.out br _ (F0.out.trans (bq54.mono F0.out.size))).mono ?_
        rintro e wq55 ⟨rfl, hb5⟩
        have bq55 : Below w3.heap.size w3 wq55 := bq54.trans (hb5.mono bq54.size)
        have X17_55 := X17_54.go hb5
        have X16_55 := X16_54.go hb5
        have hSw : (fun w' => ∃ x : Wd w3, w' = x.val) wq55 := ⟨⟨wq55, bq55⟩, rfl⟩
        refine hK.out _ _ hSw ?_
        clear hK K hb5
        refine wpAnyM_take 6 rfl (by kernel_rfl) (by kernel_rfl) (by kernel_rfl) (by kernel_rfl) (by kernel_rfl) (fun _ _ _ h => by obtain ⟨_, _, h, _⟩ := h; cases h) hSw (by kernel_rfl) (fun w' hSx => by obtain ⟨xw, rfl⟩ := hSx; go_simp; first | done | with_reducible rfl) ?_
        simp only [Act.put]
        refine wpAnyM_take 7 rfl (by kernel_rfl) (by kernel_rfl) (by kernel_rfl) (by kernel_rfl) (by kernel_rfl) (fun _ _ _ h => by obtain ⟨_, _, h, _⟩ := h; cases h) hSw (by kernel_rfl) (fun w' hSx => by obtain ⟨xw, rfl⟩ := hSx; go_simp; first | done | with_reducible rfl) ?_
        simp only [Act.put]
        refine wpAnyM_ready [13] (by kernel_rfl) (by simp) ?_
        refine AllReadyM.cons (by rfl) (fun K hK => ?_) AllReadyM.nil
        go_simp
        refine (C1.out pb _ (F0.out.trans (bq55.mono F0.out.size))).mono ?_
        rintro e wq56 ⟨rfl, hb5⟩
        have bq56 : Below w3.heap.size w3 wq56 := bq55.trans (hb5.mono bq55.size)
        have X17_56 := X17_55.go hb5
        have X16_56 := X16_55.go hb5
        have hSw : (fun w' => ∃ x : Wd w3, w' = x.val) wq56 := ⟨⟨wq56, bq56⟩, rfl⟩
        refine hK.out _ _ hSw ?_
        clear hK K hb5
        refine wpAnyM_take 14 rfl (by kernel_rfl) (by kernel_rfl) (by kernel_rfl) (by kernel_rfl) (by kernel_rfl) (fun _ _ _ h => by obtain ⟨_, _, h, _⟩ := h; cases h) hSw (by kernel_rfl) (fun w' hSx => by obtain ⟨xw, rfl⟩ := hSx; go_simp; first | done | with_reducible rfl) ?_
        simp only [Act.put]
        refine wpAnyM_take 15 rfl (by kernel_rfl) (by kernel_rfl) (by kernel_rfl) (by kernel_rfl) (by kernel_rfl) (fun _ _ _ h => by obtain ⟨_, _, h, _⟩ := h; cases h) hSw (by kernel_rfl) (fun w' hSx => by obtain ⟨xw, rfl⟩ := hSx; go_simp; first | done | with_reducible rfl) ?_
        simp only [Act.put]
        refine wpAnyM_ready [18] (by kernel_rfl) (by simp) ?_
        refine AllReadyM.cons (by rfl) (fun K hK => ?_) AllReadyM.nil
        have kk := X16_56.cell
        have zz := X16_56.frozen
        have ll := X16_56.lt
        have gl : w3.heap.size ≤ wq44.heap.size := by omega
        go_simp
        have X8 := (((((((((X16_56.set_ 0 (.string bq.name)).set_ 1 (.string bq.from_)).set_ 2 (.string bq.to_)).set_ 3 (.int .i64 bq.x)).set_ 4 (.int .i64 bq.tap)).set_ 5 (.int .i64 bq.shift)).set_ 6 (.int .i64 bq.limit)).set_ 7 (.int .i64 bq.short)).set_ 8 (.int .i64 bq.hold))
        simp only [List.setIfInBounds_toArray, List.set_cons_zero, List.set_cons_succ] at X8
        have X16_57 := X8
        clear X8
        have bq57 := (((((((((bq56.setCell (p := ⟨wq44.heap.size, 0, none⟩) gl (.string bq.name)).setCell (p := ⟨wq44.heap.size, 1, none⟩) gl (.string bq.from_)).setCell (p := ⟨wq44.heap.size, 2, none⟩) gl (.string bq.to_)).setCell (p := ⟨wq44.heap.size, 3, none⟩) gl (.int .i64 bq.x)).setCell (p := ⟨wq44.heap.size, 4, none⟩) gl (.int .i64 bq.tap)).setCell (p := ⟨wq44.heap.size, 5, none⟩) gl (.int .i64 bq.shift)).setCell (p := ⟨wq44.heap.size, 6, none⟩) gl (.int .i64 bq.limit)).setCell (p := ⟨wq44.heap.size, 7, none⟩) gl (.int .i64 bq.short)).setCell (p := ⟨wq44.heap.size, 8, none⟩) gl (.int .i64 bq.hold))
        have X17_57 := (((((((((X17_56.far (p := ⟨wq44.heap.size, 0, none⟩) (show wd.heap.size ≠ wq44.heap.size by omega) (.string bq.name)).far (p := ⟨wq44.heap.size, 1, none⟩) (show wd.heap.size ≠ wq44.heap.size by omega) (.string bq.from_)).far (p := ⟨wq44.heap.size, 2, none⟩) (show wd.heap.size ≠ wq44.heap.size by omega) (.string bq.to_)).far (p := ⟨wq44.heap.size, 3, none⟩) (show wd.heap.size ≠ wq44.heap.size by omega) (.int .i64 bq.x)).far (p := ⟨wq44.heap.size, 4, none⟩) (show wd.heap.size ≠ wq44.heap.size by omega) (.int .i64 bq.tap)).far (p := ⟨wq44.heap.size, 5, none⟩) (show wd.heap.size ≠ wq44.heap.size by omega) (.int .i64 bq.shift)).far (p := ⟨wq44.heap.size, 6, none⟩) (show wd.heap.size ≠ wq44.heap.size by omega) (.int .i64 bq.limit)).far (p := ⟨wq44.heap.size, 7, none⟩) (show wd.heap.size ≠ wq44.heap.size by omega) (.int .i64 bq.short)).far (p := ⟨wq44.heap.size, 8, none⟩) (show wd.heap.size ≠ wq44.heap.size by omega) (.int .i64 bq.hold))
        refine hK.out _ _ ⟨⟨_, bq57⟩, rfl⟩ ?_
        clear hK K kk zz ll gl
        generalize (((((((((wq56.setCell ⟨wq44.heap.size, 0, none⟩ (.string bq.name)).setCell ⟨wq44.heap.size, 1, none⟩ (.string bq.from_)).setCell ⟨wq44.heap.size, 2, none⟩ (.string bq.to_)).setCell ⟨wq44.heap.size, 3, none⟩ (.int .i64 bq.x)).setCell ⟨wq44.heap.size, 4, none⟩ (.int .i64 bq.tap)).setCell ⟨wq44.heap.size, 5, none⟩ (.int .i64 bq.shift)).setCell ⟨wq44.heap.size, 6, none⟩ (.int .i64 bq.limit)).setCell ⟨wq44.heap.size, 7, none⟩ (.int .i64 bq.short)).setCell ⟨wq44.heap.size, 8, none⟩ (.int .i64 bq.hold)) = wq57 at *
        refine wpAnyM_ready [19] (by kernel_rfl) (by simp) ?_
        refine AllReadyM.cons (by rfl) (fun K hK => ?_) AllReadyM.nil
        have kk := X17_57.cell
        have zz := X17_57.frozen
        have ll := X17_57.lt
        have gl : w3.heap.size ≤ wd.heap.size := by omega
        go_simp
        have X8 := (((((((((X17_57.set_ 0 (.string pq.name)).set_ 1 (.string pq.from_)).set_ 2 (.string pq.to_)).set_ 3 (.int .i64 pq.x)).set_ 4 (.int .i64 pq.tap)).set_ 5 (.int .i64 pq.shift)).set_ 6 (.int .i64 pq.limit)).set_ 7 (.int .i64 pq.short)).set_ 8 (.int .i64 pq.hold))
        simp only [List.setIfInBounds_toArray, List.set_cons_zero, List.set_cons_succ] at X8
        have X17_58 := X8
        clear X8
        have bq58 := (((((((((bq57.setCell (p := ⟨wd.heap.size, 0, none⟩) gl (.string pq.name)).setCell (p := ⟨wd.heap.size, 1, none⟩) gl (.string pq.from_)).setCell (p := ⟨wd.heap.size, 2, none⟩) gl (.string pq.to_)).setCell (p := ⟨wd.heap.size, 3, none⟩) gl (.int .i64 pq.x)).setCell (p := ⟨wd.heap.size, 4, none⟩) gl (.int .i64 pq.tap)).setCell (p := ⟨wd.heap.size, 5, none⟩) gl (.int .i64 pq.shift)).setCell (p := ⟨wd.heap.size, 6, none⟩) gl (.int .i64 pq.limit)).setCell (p := ⟨wd.heap.size, 7, none⟩) gl (.int .i64 pq.short)).setCell (p := ⟨wd.heap.size, 8, none⟩) gl (.int .i64 pq.hold))
        have X16_58 := (((((((((X16_57.far (p := ⟨wd.heap.size, 0, none⟩) (show wq44.heap.size ≠ wd.heap.size by omega) (.string pq.name)).far (p := ⟨wd.heap.size, 1, none⟩) (show wq44.heap.size ≠ wd.heap.size by omega) (.string pq.from_)).far (p := ⟨wd.heap.size, 2, none⟩) (show wq44.heap.size ≠ wd.heap.size by omega) (.string pq.to_)).far (p := ⟨wd.heap.size, 3, none⟩) (show wq44.heap.size ≠ wd.heap.size by omega) (.int .i64 pq.x)).far (p := ⟨wd.heap.size, 4, none⟩) (show wq44.heap.size ≠ wd.heap.size by omega) (.int .i64 pq.tap)).far (p := ⟨wd.heap.size, 5, none⟩) (show wq44.heap.size ≠ wd.heap.size by omega) (.int .i64 pq.shift)).far (p := ⟨wd.heap.size, 6, none⟩) (show wq44.heap.size ≠ wd.heap.size by omega) (.int .i64 pq.limit)).far (p := ⟨wd.heap.size, 7, none⟩) (show wq44.heap.size ≠ wd.heap.size by omega) (.int .i64 pq.short)).far (p := ⟨wd.heap.size, 8, none⟩) (show wq44.heap.size ≠ wd.heap.size by omega) (.int .i64 pq.hold))
        refine hK.out _ _ ⟨⟨_, bq58⟩, rfl⟩ ?_
        clear hK K kk zz ll gl
        generalize (((((((((wq57.setCell ⟨wd.heap.size, 0, none⟩ (.string pq.name)).setCell ⟨wd.heap.size, 1, none⟩ (.string pq.from_)).setCell ⟨wd.heap.size, 2, none⟩ (.string pq.to_)).setCell ⟨wd.heap.size, 3, none⟩ (.int .i64 pq.x)).setCell ⟨wd.heap.size, 4, none⟩ (.int .i64 pq.tap)).setCell ⟨wd.heap.size, 5, none⟩ (.int .i64 pq.shift)).setCell ⟨wd.heap.size, 6, none⟩ (.int .i64 pq.limit)).setCell ⟨wd.heap.size, 7, none⟩ (.int .i64 pq.short)).setCell ⟨wd.heap.size, 8, none⟩ (.int .i64 pq.hold)) = wq58 at *
        refine wpAnyM_done (by kernel_rfl) ?_ _
        generalize wq44.heap.size = ga8 at *
        generalize wd.heap.size = ga9 at *
        exact ⟨ga8, ga9, rfl, rfl, X16_58, X17_58, bq58⟩
  · intro g8 g9 w4 hR
    obtain ⟨hx8, hx9, hb4⟩ := hR
    have X8 := Lib.hid hx8
    have X9 := Lib.hid hx9
    have F4 := Lib.hid (F0.out.trans (hb4.mono F0.out.size))
    have B4 := Lib.hid (B0.out.go hb4)
    have P4 := Lib.hid (P0.out.go hb4)
    have Q4 := Lib.hid (Q0.out.go hb4)
    clear hx8 hx9 hb4 F0 B0 P0 Q0 t0 t1 t2 t3 t4 t5 t6 t7 t8 u0 u1 u2 u3 u4 u5 u6 u7 u8 e0 e1 e2 e3 e4 e5 f1 f2 hib hip C1 hb1 hb2 hpi hpp hi hj
    have HNF := Lib.hid (lst_beq node bq.from_)
    have HNT := Lib.hid (lst_beq node bq.to_)
    by_cases hbr : br = pb
    · have hs : (bq.name.toList == pq.name.toList) = true := by rw [HBN.out, HPN.out, hbr]; simp
      have HBR := Lib.hid hbr
      clear hbr
      by_cases hf : Pl.lst node = Pl.lst bq.from_
      · have hn : (node.toList == bq.from_.toList) = true := by rw [HNF.out]; simp [hf]
        have HF := Lib.hid hf
        clear hf
        have k8 := X8.out.cell
        unfold braA at k8
        have k9 := X9.out.cell
        unfold braA at k9
        have k1 := P4.out.cell
        have k2 := Q4.out.cell
        have x1 := xpart_rangeO HBX.out hpt
        have wq : IntKind.i64.wrap (bq.x * part) = bq.x * part := IntWalk.i64_in _ (by omega)
        go_wp2_with fail
        go_ret2
        exact (HSD.out _ _).2 ⟨_, _, rfl, fun _ => ⟨rfl, by rw [if_pos HF.out]⟩, fun h => absurd HBR.out h, F4.out⟩
      · have hn : (node.toList == bq.from_.toList) = false := by rw [HNF.out]; simp [hf]
        have HF := Lib.hid hf
        clear hf
        have k8 := X8.out.cell
        unfold braA at k8
        have k9 := X9.out.cell
        unfold braA at k9
        have k1 := P4.out.cell
        have k2 := Q4.out.cell
        have x1 := xpart_rangeO HBX.out (part := 1000 - part) (by omega)
        have wq : IntKind.i64.wrap (bq.x * (1000 - part)) = bq.x * (1000 - part) := IntWalk.i64_in _ (by omega)
        have wp' : IntKind.i64.wrap (1000 - part) = 1000 - part := IntWalk.i64_in _ (by omega)
        go_wp2_with fail
        go_ret2
        exact (HSD.out _ _).2 ⟨_, _, rfl, fun _ => ⟨rfl, by rw [if_neg HF.out]⟩, fun h => absurd HBR.out h, F4.out⟩
    · have hs : (bq.name.toList == pq.name.toList) = false := by rw [lst_beq, HBN.out, HPN.out]; exact decide_eq_false (fun h => hbr (Pl.lst_inj h))
      have HBR := Lib.hid hbr
      clear hbr
      by_cases ht : Pl.lst node = Pl.lst bq.to_
      · have hn : (node.toList == bq.to_.toList) = true := by rw [HNT.out]; simp [ht]
        have HFE : Hid (Pl.farEnd bq node = bq.from_) := by show _ = _; unfold Pl.farEnd; rw [if_pos ht]
        have k8 := X8.out.cell
        unfold braA at k8
        have k9 := X9.out.cell
        unfold braA at k9
        have k0 := B4.out.cell
        have k1 := P4.out.cell
        have l8 := X8.out.lt
        have l9 := X9.out.lt
        have l0 := B4.out.lt
        have l1 := P4.out.lt
        have FL := Lib.hid (F4.out.alloc F4.out.size (.cells #[.string bq.name, .string pq.name] 9))
        have BL := Lib.hid (B4.out.alloc (.cells #[.string bq.name, .string pq.name] 9))
        have QL := Lib.hid (Q4.out.alloc (.cells #[.string bq.name, .string pq.name] 9))
        have XL := Lib.hid (X8.out.alloc (.cells #[.string bq.name, .string pq.name] 9))
        have YL := Lib.hid (X9.out.alloc (.cells #[.string bq.name, .string pq.name] 9))
        have RL : Hid (Reads (w4.alloc (.cells #[.string bq.name, .string pq.name] 9)) (w4.alloc (.cells #[.string bq.name, .string pq.name] 9)).heap.size 1 (some ⟨w4.heap.size, 0, none⟩) 2 (txts [bq.name, pq.name])) := Reads.lit w4 #[.string bq.name, .string pq.name] 9 2 1 w4.heap.size rfl rfl
        have HNM : Hid (bq.from_ ∈ N.nodes) := HBE2.out.1
        go_wp2_with fail
        refine (CR.out bq.from_ (some ⟨w4.heap.size, 0, none⟩) 2 2 [bq.name, pq.name] _ FL.out HNM.out RL.out (by omega)).mono ?_
        rintro e w5 ⟨gr, far, rfl, hib, hfl, hfb, hmin, hb⟩
        rw [HBN.out, HPN.out] at hmin
        have HMIN := Lib.hid hmin
        have IB := Lib.hid hib
        have HFB := Lib.hid hfb
        have HFL := Lib.hid hfl
        have F5 := Lib.hid (FL.out.trans (hb.mono FL.out.size))
        have B5 := Lib.hid (BL.out.go hb)
        have Q5 := Lib.hid (QL.out.go hb)
        have X5 := Lib.hid (XL.out.go hb)
        have Y5 := Lib.hid (YL.out.go hb)
        clear hmin hib hfb hfl hb FL BL QL XL YL RL k8 k9 k0 k1 l8 l9 l0 l1 F4 B4 P4 Q4 X8 X9
        have k8 := X5.out.cell
        unfold braA at k8
        have k9 := Y5.out.cell
        unfold braA at k9
        have k0 := B5.out.cell
        have k1 := Q5.out.cell
        have x1 := xpart_rangeO HPX.out hpt
        have x2 := xpart_rangeO HPX.out (part := 1000 - part) (by omega)
        have w1' : IntKind.i64.wrap (pq.x * part) = pq.x * part := IntWalk.i64_in _ (by omega)
        have w2' : IntKind.i64.wrap (1000 - part) = 1000 - part := IntWalk.i64_in _ (by omega)
        have w3' : IntKind.i64.wrap (pq.x * (1000 - part)) = pq.x * (1000 - part) := IntWalk.i64_in _ (by omega)
        have w4' : IntKind.i64.wrap (1000 * bq.x) = 1000 * bq.x := IntWalk.i64_in _ (by have := HBX.out; omega)
        have HDB : Hid (Pl.distB N far pq part = Pl.better (Pl.better (-1) (if 0 ≤ Pl.farAt far (Pl.idxT N.nodes pq.from_) then Pl.farAt far (Pl.idxT N.nodes pq.from_) + pq.x * part else -1)) (if 0 ≤ Pl.farAt far (Pl.idxT N.nodes pq.to_) then Pl.farAt far (Pl.idxT N.nodes pq.to_) + pq.x * (1000 - part) else -1)) := rfl
        go_wp2_with fail
        clear k8 k9 k0 k1
        generalize hdb : Pl.distB N far pq part = DB at *
        have HDBE := Lib.hid hdb
        clear hdb
        generalize hv1 : (if 0 ≤ Pl.farAt far (Pl.idxT N.nodes pq.from_) then Pl.farAt far (Pl.idxT N.nodes pq.from_) + pq.x * part else -1) = v1 at *
        generalize hv2 : (if 0 ≤ Pl.farAt far (Pl.idxT N.nodes pq.to_) then Pl.farAt far (Pl.idxT N.nodes pq.to_) + pq.x * (1000 - part) else -1) = v2 at *
        have HV1 := Lib.hid hv1
        have HV2 := Lib.hid hv2
        clear hv1 hv2
        generalize hp1 : pq.x * part = r1 at *
        generalize hp2 : pq.x * (1000 - part) = r2 at *
        clear hp1 hp2
        go_loopw [12, 88] (fun v i wr => ∃ (t : Nat) (b : Int), t ≤ 2 ∧ i = .int .i64 t ∧ v = .int .i64 b ∧ -1 ≤ b ∧ b ≤ 250000000 ∧ Hid (t = 0 → b = -1) ∧ Hid (t = 1 → b = Pl.better (-1) v1) ∧ Hid (t = 2 → b = DB) ∧ Hid (Below w5.heap.size w5 wr)) (fun _ i _ => 2 - (intOf i).toNat)
        case atStart => exact ⟨0, -1, by omega, rfl, rfl, by omega, by omega, (fun _ => rfl), (fun h => absurd h (by omega)), (fun h => absurd h (by omega)), Below.refl _ _⟩
        case round =>
          obtain ⟨t, b, ht, rfl, rfl, hb0, hb1, HT0, HT1, HT2, GR⟩ := hrel
          have FR := Lib.hid (F5.out.trans (GR.out.mono F5.out.size))
          have BR := Lib.hid (B5.out.go GR.out)
          have XR := Lib.hid (X5.out.go GR.out)
          have IR := Lib.hid (IB.out.go GR.out)
          have hcase : t = 0 ∨ t = 1 ∨ t = 2 := by omega
          rcases hcase with h | h | h
          · subst h
            have HB := Lib.hid (HT0.out rfl)
            clear HT0 HT1 HT2 XR
            have hix := Pl.idxT_mem HPE2.out.1
            have HIX := Lib.hid hix
            have hx0 := hix.1
            have hx1 : Pl.idxT N.nodes pq.from_ < (n0 : Int) := by have := hix.2.1; have := HLN.out; omega
            clear hix
            have ci := IR.out.cell (Pl.idxT N.nodes pq.from_).toNat (by rw [HFL.out]; omega)
            rw [Pl.farAt_getD (i := Pl.idxT N.nodes pq.from_) (by omega)] at ci
            have hfb := HFB.out (Pl.idxT N.nodes pq.from_)
            have hii : ((Pl.idxT N.nodes pq.from_).toNat : Int) = Pl.idxT N.nodes pq.from_ := by omega
            have CIX := Lib.hid (CI.out pq.from_ (wr.alloc (.cells #[.string pq.from_, .int .i64 r1] 118)) (FR.out.alloc FR.out.size (.cells #[.string pq.from_, .int .i64 r1] 118)))
            have HV := Lib.hid HV1.out
            have GX := Lib.hid (GR.out.alloc GR.out.size (.cells #[.string pq.from_, .int .i64 r1] 118))
            have ZX := Lib.hid (Blk.new_ wr wr.heap.size 118 #[.string pq.from_, .int .i64 r1] rfl)
            have ciA := (IR.out.alloc (.cells #[.string pq.from_, .int .i64 r1] 118)).cell (Pl.idxT N.nodes pq.from_).toNat (by rw [HFL.out]; omega)
            rw [Pl.farAt_getD (i := Pl.idxT N.nodes pq.from_) (by omega)] at ciA
            have k0 := BR.out.cell
            have l0 := BR.out.lt
            have lr := IR.out.lt
            have HDB2 := Lib.hid HDB.out
            have hax : ∀ W, Sem.run Try.prog (Instr.index 119 (Value.agg #[.string pq.from_, .int .i64 r1, .string pq.to_, .int .i64 r2]) (.int .i64 0)) W = .ok (.agg #[.string pq.from_, .int .i64 r1]) W := fun W => by kernel_rfl
            generalize Pl.farAt far (Pl.idxT N.nodes pq.from_) = fa at *
            generalize Pl.idxT N.nodes pq.from_ = ix at *
            go_wp2_with fail
            refine CIX.out.mono ?_
            rintro e w6 ⟨rfl, rfl⟩
            have kz := ZX.out.cell
            have lz := ZX.out.lt
            generalize hww : wr.alloc (.cells #[.string pq.from_, .int .i64 r1] 118) = w6 at *
            clear hww
            skip
            by_cases q0 : 0 ≤ fa
            · have d0 : decide (0 ≤ fa) = true := by simp [q0]
              have hwa : IntKind.i64.wrap (fa + r1) = fa + r1 := IntWalk.i64_in _ (by omega)
              by_cases q1 : b < 0
              · have d1 : decide (b < 0) = true := by simp [q1]
                go_wp2_with fail
                go_roundw
                case rel => exact ⟨1, fa + r1, by omega, by go_num, rfl, by omega, by omega, (fun h => absurd h (by omega)), (fun _ => by rw [← HV.out]; have e := HB.out; rw [← e]; unfold Pl.better; split <;> split <;> omega), (fun h => absurd h (by omega)), GX.out⟩
                case measure => simp [intOf]
              · have d1 : decide (b < 0) = false := by simp; omega
                by_cases q2 : fa + r1 < b
                · have d2 : decide (fa + r1 < b) = true := by simp [q2]
                  go_wp2_with fail
                  go_roundw
                  case rel => exact ⟨1, fa + r1, by omega, by go_num, rfl, by omega, by omega, (fun h => absurd h (by omega)), (fun _ => by rw [← HV.out]; have e := HB.out; rw [← e]; unfold Pl.better; split <;> split <;> omega), (fun h => absurd h (by omega)), GX.out⟩
                  case measure => simp [intOf]
                · have d2 : decide (fa + r1 < b) = false := by simp; omega
                  go_wp2_with fail
                  go_roundw
                  case rel => exact ⟨1, b, by omega, by go_num, rfl, by omega, by omega, (fun h => absurd h (by omega)), (fun _ => by rw [← HV.out]; have e := HB.out; rw [← e]; unfold Pl.better; split <;> split <;> omega), (fun h => absurd h (by omega)), GX.out⟩
                  case measure => simp [intOf]
            · have d0 : decide (0 ≤ fa) = false := by simp; omega
              go_wp2_with fail
              go_roundw
              case rel => exact ⟨1, b, by omega, by go_num, rfl, by omega, by omega, (fun h => absurd h (by omega)), (fun _ => by rw [← HV.out]; have e := HB.out; rw [← e]; unfold Pl.better; split <;> split <;> omega), (fun h => absurd h (by omega)), GX.out⟩
              case measure => simp [intOf]
          · subst h
            have HB := Lib.hid (HT1.out rfl)
            clear HT0 HT1 HT2 XR
            have hix := Pl.idxT_mem HPE2.out.2.1
            have HIX := Lib.hid hix
            have hx0 := hix.1
            have hx1 : Pl.idxT N.nodes pq.to_ < (n0 : Int) := by have := hix.2.1; have := HLN.out; omega
            clear hix
            have ci := IR.out.cell (Pl.idxT N.nodes pq.to_).toNat (by rw [HFL.out]; omega)
            rw [Pl.farAt_getD (i := Pl.idxT N.nodes pq.to_) (by omega)] at ci
            have hfb := HFB.out (Pl.idxT N.nodes pq.to_)
            have hii : ((Pl.idxT N.nodes pq.to_).toNat : Int) = Pl.idxT N.nodes pq.to_ := by omega
            have CIX := Lib.hid (CI.out pq.to_ (wr.alloc (.cells #[.string pq.to_, .int .i64 r2] 118)) (FR.out.alloc FR.out.size (.cells #[.string pq.to_, .int .i64 r2] 118)))
            have HV := Lib.hid HV2.out
            have GX := Lib.hid (GR.out.alloc GR.out.size (.cells #[.string pq.to_, .int .i64 r2] 118))
            have ZX := Lib.hid (Blk.new_ wr wr.heap.size 118 #[.string pq.to_, .int .i64 r2] rfl)
            have ciA := (IR.out.alloc (.cells #[.string pq.to_, .int .i64 r2] 118)).cell (Pl.idxT N.nodes pq.to_).toNat (by rw [HFL.out]; omega)
            rw [Pl.farAt_getD (i := Pl.idxT N.nodes pq.to_) (by omega)] at ciA
            have k0 := BR.out.cell
            have l0 := BR.out.lt
            have lr := IR.out.lt
            have HDB2 := Lib.hid HDB.out
            have hax : ∀ W, Sem.run Try.prog (Instr.index 119 (Value.agg #[.string pq.from_, .int .i64 r1, .string pq.to_, .int .i64 r2]) (.int .i64 1)) W = .ok (.agg #[.string pq.to_, .int .i64 r2]) W := fun W => by kernel_rfl
            generalize Pl.farAt far (Pl.idxT N.nodes pq.to_) = fa at *
            generalize Pl.idxT N.nodes pq.to_ = ix at *
            go_wp2_with fail
            refine CIX.out.mono ?_
            rintro e w6 ⟨rfl, rfl⟩
            have kz := ZX.out.cell
            have lz := ZX.out.lt
            generalize hww : wr.alloc (.cells #[.string pq.to_, .int .i64 r2] 118) = w6 at *
            clear hww
            skip
            by_cases q0 : 0 ≤ fa
            · have d0 : decide (0 ≤ fa) = true := by simp [q0]
              have hwa : IntKind.i64.wrap (fa + r2) = fa + r2 := IntWalk.i64_in _ (by omega)
              by_cases q1 : b < 0
              · have d1 : decide (b < 0) = true := by simp [q1]
                go_wp2_with fail
                go_roundw
                case rel => exact ⟨2, fa + r2, by omega, by go_num, rfl, by omega, by omega, (fun h => absurd h (by omega)), (fun h => absurd h (by omega)), (fun _ => by rw [HDB2.out, ← HB.out, ← HV.out]; unfold Pl.better; split <;> split <;> omega), GX.out⟩
                case measure => simp [intOf]
              · have d1 : decide (b < 0) = false := by simp; omega
                by_cases q2 : fa + r2 < b
                · have d2 : decide (fa + r2 < b) = true := by simp [q2]
                  go_wp2_with fail
                  go_roundw
                  case rel => exact ⟨2, fa + r2, by omega, by go_num, rfl, by omega, by omega, (fun h => absurd h (by omega)), (fun h => absurd h (by omega)), (fun _ => by rw [HDB2.out, ← HB.out, ← HV.out]; unfold Pl.better; split <;> split <;> omega), GX.out⟩
                  case measure => simp [intOf]
                · have d2 : decide (fa + r2 < b) = false := by simp; omega
                  go_wp2_with fail
                  go_roundw
                  case rel => exact ⟨2, b, by omega, by go_num, rfl, by omega, by omega, (fun h => absurd h (by omega)), (fun h => absurd h (by omega)), (fun _ => by rw [HDB2.out, ← HB.out, ← HV.out]; unfold Pl.better; split <;> split <;> omega), GX.out⟩
                  case measure => simp [intOf]
            · have d0 : decide (0 ≤ fa) = false := by simp; omega
              go_wp2_with fail
              go_roundw
              case rel => exact ⟨2, b, by omega, by go_num, rfl, by omega, by omega, (fun h => absurd h (by omega)), (fun h => absurd h (by omega)), (fun _ => by rw [HDB2.out, ← HB.out, ← HV.out]; unfold Pl.better; split <;> split <;> omega), GX.out⟩
              case measure => simp [intOf]
          · subst h
            have HE := Lib.hid (HT2.out rfl)
            have k8 := XR.out.cell
            unfold braA at k8
            have wq : IntKind.i64.wrap (1000 * bq.x + b) = 1000 * bq.x + b := IntWalk.i64_in _ (by have := HBX.out; omega)
            clear HT0 HT1 HT2
            go_wp2_with fail
            go_ret2
            exact (HSD.out _ _).2 ⟨_, _, rfl, fun h => absurd h HBR.out, fun _ => ⟨far, fun v h0 h1 => by rw [HFE.out]; exact HMIN.out v h0 (by have := HLN.out; omega), by rw [HDBE.out, ← HE.out], by rw [HDBE.out, ← HE.out]⟩, FR.out⟩
      · have hn : (node.toList == bq.to_.toList) = false := by rw [HNT.out]; simp [ht]
        have HFE : Hid (Pl.farEnd bq node = bq.to_) := by show _ = _; unfold Pl.farEnd; rw [if_neg ht]
        have k8 := X8.out.cell
        unfold braA at k8
        have k9 := X9.out.cell
        unfold braA at k9
        have k0 := B4.out.cell
        have k1 := P4.out.cell
        have l8 := X8.out.lt
        have l9 := X9.out.lt
        have l0 := B4.out.lt
        have l1 := P4.out.lt
        have FL := Lib.hid (F4.out.alloc F4.out.size (.cells #[.string bq.name, .string pq.name] 9))
        have BL := Lib.hid (B4.out.alloc (.cells #[.string bq.name, .string pq.name] 9))
        have QL := Lib.hid (Q4.out.alloc (.cells #[.string bq.name, .string pq.name] 9))
        have XL := Lib.hid (X8.out.alloc (.cells #[.string bq.name, .string pq.name] 9))
        have YL := Lib.hid (X9.out.alloc (.cells #[.string bq.name, .string pq.name] 9))
        have RL : Hid (Reads (w4.alloc (.cells #[.string bq.name, .string pq.name] 9)) (w4.alloc (.cells #[.string bq.name, .string pq.name] 9)).heap.size 1 (some ⟨w4.heap.size, 0, none⟩) 2 (txts [bq.name, pq.name])) := Reads.lit w4 #[.string bq.name, .string pq.name] 9 2 1 w4.heap.size rfl rfl
        have HNM : Hid (bq.to_ ∈ N.nodes) := HBE2.out.2.1
        go_wp2_with fail
        refine (CR.out bq.to_ (some ⟨w4.heap.size, 0, none⟩) 2 2 [bq.name, pq.name] _ FL.out HNM.out RL.out (by omega)).mono ?_
        rintro e w5 ⟨gr, far, rfl, hib, hfl, hfb, hmin, hb⟩
        rw [HBN.out, HPN.out] at hmin
        have HMIN := Lib.hid hmin
        have IB := Lib.hid hib
        have HFB := Lib.hid hfb
        have HFL := Lib.hid hfl
        have F5 := Lib.hid (FL.out.trans (hb.mono FL.out.size))
        have B5 := Lib.hid (BL.out.go hb)
        have Q5 := Lib.hid (QL.out.go hb)
        have X5 := Lib.hid (XL.out.go hb)
        have Y5 := Lib.hid (YL.out.go hb)
        clear hmin hib hfb hfl hb FL BL QL XL YL RL k8 k9 k0 k1 l8 l9 l0 l1 F4 B4 P4 Q4 X8 X9
        have k8 := X5.out.cell
        unfold braA at k8
        have k9 := Y5.out.cell
        unfold braA at k9
        have k0 := B5.out.cell
        have k1 := Q5.out.cell
        have x1 := xpart_rangeO HPX.out hpt
        have x2 := xpart_rangeO HPX.out (part := 1000 - part) (by omega)
        have w1' : IntKind.i64.wrap (pq.x * part) = pq.x * part := IntWalk.i64_in _ (by omega)
        have w2' : IntKind.i64.wrap (1000 - part) = 1000 - part := IntWalk.i64_in _ (by omega)
        have w3' : IntKind.i64.wrap (pq.x * (1000 - part)) = pq.x * (1000 - part) := IntWalk.i64_in _ (by omega)
        have w4' : IntKind.i64.wrap (1000 * bq.x) = 1000 * bq.x := IntWalk.i64_in _ (by have := HBX.out; omega)
        have HDB : Hid (Pl.distB N far pq part = Pl.better (Pl.better (-1) (if 0 ≤ Pl.farAt far (Pl.idxT N.nodes pq.from_) then Pl.farAt far (Pl.idxT N.nodes pq.from_) + pq.x * part else -1)) (if 0 ≤ Pl.farAt far (Pl.idxT N.nodes pq.to_) then Pl.farAt far (Pl.idxT N.nodes pq.to_) + pq.x * (1000 - part) else -1)) := rfl
        go_wp2_with fail
        clear k8 k9 k0 k1
        generalize hdb : Pl.distB N far pq part = DB at *
        have HDBE := Lib.hid hdb
        clear hdb
        generalize hv1 : (if 0 ≤ Pl.farAt far (Pl.idxT N.nodes pq.from_) then Pl.farAt far (Pl.idxT N.nodes pq.from_) + pq.x * part else -1) = v1 at *
        generalize hv2 : (if 0 ≤ Pl.farAt far (Pl.idxT N.nodes pq.to_) then Pl.farAt far (Pl.idxT N.nodes pq.to_) + pq.x * (1000 - part) else -1) = v2 at *
        have HV1 := Lib.hid hv1
        have HV2 := Lib.hid hv2
        clear hv1 hv2
        generalize hp1 : pq.x * part = r1 at *
        generalize hp2 : pq.x * (1000 - part) = r2 at *
        clear hp1 hp2
        go_loopw [12, 88] (fun v i wr => ∃ (t : Nat) (b : Int), t ≤ 2 ∧ i = .int .i64 t ∧ v = .int .i64 b ∧ -1 ≤ b ∧ b ≤ 250000000 ∧ Hid (t = 0 → b = -1) ∧ Hid (t = 1 → b = Pl.better (-1) v1) ∧ Hid (t = 2 → b = DB) ∧ Hid (Below w5.heap.size w5 wr)) (fun _ i _ => 2 - (intOf i).toNat)
        case atStart => exact ⟨0, -1, by omega, rfl, rfl, by omega, by omega, (fun _ => rfl), (fun h => absurd h (by omega)), (fun h => absurd h (by omega)), Below.refl _ _⟩
        case round =>
          obtain ⟨t, b, ht, rfl, rfl, hb0, hb1, HT0, HT1, HT2, GR⟩ := hrel
          have FR := Lib.hid (F5.out.trans (GR.out.mono F5.out.size))
          have BR := Lib.hid (B5.out.go GR.out)
          have XR := Lib.hid (X5.out.go GR.out)
          have IR := Lib.hid (IB.out.go GR.out)
          have hcase : t = 0 ∨ t = 1 ∨ t = 2 := by omega
          rcases hcase with h | h | h
          · subst h
            have HB := Lib.hid (HT0.out rfl)
            clear HT0 HT1 HT2 XR
            have hix := Pl.idxT_mem HPE2.out.1
            have HIX := Lib.hid hix
            have hx0 := hix.1
            have hx1 : Pl.idxT N.nodes pq.from_ < (n0 : Int) := by have := hix.2.1; have := HLN.out; omega
            clear hix
            have ci := IR.out.cell (Pl.idxT N.nodes pq.from_).toNat (by rw [HFL.out]; omega)
            rw [Pl.farAt_getD (i := Pl.idxT N.nodes pq.from_) (by omega)] at ci
            have hfb := HFB.out (Pl.idxT N.nodes pq.from_)
            have hii : ((Pl.idxT N.nodes pq.from_).toNat : Int) = Pl.idxT N.nodes pq.from_ := by omega
            have CIX := Lib.hid (CI.out pq.from_ (wr.alloc (.cells #[.string pq.from_, .int .i64 r1] 118)) (FR.out.alloc FR.out.size (.cells #[.string pq.from_, .int .i64 r1] 118)))
            have HV := Lib.hid HV1.out
            have GX := Lib.hid (GR.out.alloc GR.out.size (.cells #[.string pq.from_, .int .i64 r1] 118))
            have ZX := Lib.hid (Blk.new_ wr wr.heap.size 118 #[.string pq.from_, .int .i64 r1] rfl)
            have ciA := (IR.out.alloc (.cells #[.string pq.from_, .int .i64 r1] 118)).cell (Pl.idxT N.nodes pq.from_).toNat (by rw [HFL.out]; omega)
            rw [Pl.farAt_getD (i := Pl.idxT N.nodes pq.from_) (by omega)] at ciA
            have k0 := BR.out.cell
            have l0 := BR.out.lt
            have lr := IR.out.lt
            have HDB2 := Lib.hid HDB.out
            have hax : ∀ W, Sem.run Try.prog (Instr.index 119 (Value.agg #[.string pq.from_, .int .i64 r1, .string pq.to_, .int .i64 r2]) (.int .i64 0)) W = .ok (.agg #[.string pq.from_, .int .i64 r1]) W := fun W => by kernel_rfl
            generalize Pl.farAt far (Pl.idxT N.nodes pq.from_) = fa at *
            generalize Pl.idxT N.nodes pq.from_ = ix at *
            go_wp2_with fail
            refine CIX.out.mono ?_
            rintro e w6 ⟨rfl, rfl⟩
            have kz := ZX.out.cell
            have lz := ZX.out.lt
            generalize hww : wr.alloc (.cells #[.string pq.from_, .int .i64 r1] 118) = w6 at *
            clear hww
            skip
            by_cases q0 : 0 ≤ fa
            · have d0 : decide (0 ≤ fa) = true := by simp [q0]
              have hwa : IntKind.i64.wrap (fa + r1) = fa + r1 := IntWalk.i64_in _ (by omega)
              by_cases q1 : b < 0
              · have d1 : decide (b < 0) = true := by simp [q1]
                go_wp2_with fail
                go_roundw
                case rel => exact ⟨1, fa + r1, by omega, by go_num, rfl, by omega, by omega, (fun h => absurd h (by omega)), (fun _ => by rw [← HV.out]; have e := HB.out; rw [← e]; unfold Pl.better; split <;> split <;> omega), (fun h => absurd h (by omega)), GX.out⟩
                case measure => simp [intOf]
              · have d1 : decide (b < 0) = false := by simp; omega
                by_cases q2 : fa + r1 < b
                · have d2 : decide (fa + r1 < b) = true := by simp [q2]
                  go_wp2_with fail
                  go_roundw
                  case rel => exact ⟨1, fa + r1, by omega, by go_num, rfl, by omega, by omega, (fun h => absurd h (by omega)), (fun _ => by rw [← HV.out]; have e := HB.out; rw [← e]; unfold Pl.better; split <;> split <;> omega), (fun h => absurd h (by omega)), GX.out⟩
                  case measure => simp [intOf]
                · have d2 : decide (fa + r1 < b) = false := by simp; omega
                  go_wp2_with fail
                  go_roundw
                  case rel => exact ⟨1, b, by omega, by go_num, rfl, by omega, by omega, (fun h => absurd h (by omega)), (fun _ => by rw [← HV.out]; have e := HB.out; rw [← e]; unfold Pl.better; split <;> split <;> omega), (fun h => absurd h (by omega)), GX.out⟩
                  case measure => simp [intOf]
            · have d0 : decide (0 ≤ fa) = false := by simp; omega
              go_wp2_with fail
              go_roundw
              case rel => exact ⟨1, b, by omega, by go_num, rfl, by omega, by omega, (fun h => absurd h (by omega)), (fun _ => by rw [← HV.out]; have e := HB.out; rw [← e]; unfold Pl.better; split <;> split <;> omega), (fun h => absurd h (by omega)), GX.out⟩
              case measure => simp [intOf]
          · subst h
            have HB := Lib.hid (HT1.out rfl)
            clear HT0 HT1 HT2 XR
            have hix := Pl.idxT_mem HPE2.out.2.1
            have HIX := Lib.hid hix
            have hx0 := hix.1
            have hx1 : Pl.idxT N.nodes pq.to_ < (n0 : Int) := by have := hix.2.1; have := HLN.out; omega
            clear hix
            have ci := IR.out.cell (Pl.idxT N.nodes pq.to_).toNat (by rw [HFL.out]; omega)
            rw [Pl.farAt_getD (i := Pl.idxT N.nodes pq.to_) (by omega)] at ci
            have hfb := HFB.out (Pl.idxT N.nodes pq.to_)
            have hii : ((Pl.idxT N.nodes pq.to_).toNat : Int) = Pl.idxT N.nodes pq.to_ := by omega
            have CIX := Lib.hid (CI.out pq.to_ (wr.alloc (.cells #[.string pq.to_, .int .i64 r2] 118)) (FR.out.alloc FR.out.size (.cells #[.string pq.to_, .int .i64 r2] 118)))
            have HV := Lib.hid HV2.out
            have GX := Lib.hid (GR.out.alloc GR.out.size (.cells #[.string pq.to_, .int .i64 r2] 118))
            have ZX := Lib.hid (Blk.new_ wr wr.heap.size 118 #[.string pq.to_, .int .i64 r2] rfl)
            have ciA := (IR.out.alloc (.cells #[.string pq.to_, .int .i64 r2] 118)).cell (Pl.idxT N.nodes pq.to_).toNat (by rw [HFL.out]; omega)
            rw [Pl.farAt_getD (i := Pl.idxT N.nodes pq.to_) (by omega)] at ciA
            have k0 := BR.out.cell
            have l0 := BR.out.lt
            have lr := IR.out.lt
            have HDB2 := Lib.hid HDB.out
            have hax : ∀ W, Sem.run Try.prog (Instr.index 119 (Value.agg #[.string pq.from_, .int .i64 r1, .string pq.to_, .int .i64 r2]) (.int .i64 1)) W = .ok (.agg #[.string pq.to_, .int .i64 r2]) W := fun W => by kernel_rfl
            generalize Pl.farAt far (Pl.idxT N.nodes pq.to_) = fa at *
            generalize Pl.idxT N.nodes pq.to_ = ix at *
            go_wp2_with fail
            refine CIX.out.mono ?_
            rintro e w6 ⟨rfl, rfl⟩
            have kz := ZX.out.cell
            have lz := ZX.out.lt
            generalize hww : wr.alloc (.cells #[.string pq.to_, .int .i64 r2] 118) = w6 at *
            clear hww
            skip
            by_cases q0 : 0 ≤ fa
            · have d0 : decide (0 ≤ fa) = true := by simp [q0]
              have hwa : IntKind.i64.wrap (fa + r2) = fa + r2 := IntWalk.i64_in _ (by omega)
              by_cases q1 : b < 0
              · have d1 : decide (b < 0) = true := by simp [q1]
                go_wp2_with fail
                go_roundw
                case rel => exact ⟨2, fa + r2, by omega, by go_num, rfl, by omega, by omega, (fun h => absurd h (by omega)), (fun h => absurd h (by omega)), (fun _ => by rw [HDB2.out, ← HB.out, ← HV.out]; unfold Pl.better; split <;> split <;> omega), GX.out⟩
                case measure => simp [intOf]
              · have d1 : decide (b < 0) = false := by simp; omega
                by_cases q2 : fa + r2 < b
                · have d2 : decide (fa + r2 < b) = true := by simp [q2]
                  go_wp2_with fail
                  go_roundw
                  case rel => exact ⟨2, fa + r2, by omega, by go_num, rfl, by omega, by omega, (fun h => absurd h (by omega)), (fun h => absurd h (by omega)), (fun _ => by rw [HDB2.out, ← HB.out, ← HV.out]; unfold Pl.better; split <;> split <;> omega), GX.out⟩
                  case measure => simp [intOf]
                · have d2 : decide (fa + r2 < b) = false := by simp; omega
                  go_wp2_with fail
                  go_roundw
                  case rel => exact ⟨2, b, by omega, by go_num, rfl, by omega, by omega, (fun h => absurd h (by omega)), (fun h => absurd h (by omega)), (fun _ => by rw [HDB2.out, ← HB.out, ← HV.out]; unfold Pl.better; split <;> split <;> omega), GX.out⟩
                  case measure => simp [intOf]
            · have d0 : decide (0 ≤ fa) = false := by simp; omega
              go_wp2_with fail
              go_roundw
              case rel => exact ⟨2, b, by omega, by go_num, rfl, by omega, by omega, (fun h => absurd h (by omega)), (fun h => absurd h (by omega)), (fun _ => by rw [HDB2.out, ← HB.out, ← HV.out]; unfold Pl.better; split <;> split <;> omega), GX.out⟩
              case measure => simp [intOf]
          · subst h
            have HE := Lib.hid (HT2.out rfl)
            have k8 := XR.out.cell
            unfold braA at k8
            have wq : IntKind.i64.wrap (1000 * bq.x + b) = 1000 * bq.x + b := IntWalk.i64_in _ (by have := HBX.out; omega)
            clear HT0 HT1 HT2
            go_wp2_with fail
            go_ret2
            exact (HSD.out _ _).2 ⟨_, _, rfl, fun h => absurd h HBR.out, fun _ => ⟨far, fun v h0 h1 => by rw [HFE.out]; exact HMIN.out v h0 (by have := HLN.out; omega), by rw [HDBE.out, ← HE.out], by rw [HDBE.out, ← HE.out]⟩, FR.out⟩
end Go.Proofs.Ytpamgeemmbbkkaa
