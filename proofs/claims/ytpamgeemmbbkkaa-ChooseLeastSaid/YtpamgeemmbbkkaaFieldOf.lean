/- choose.fieldOf lays out the field that its plain functions say. Condition: the network is a good one and reads; the opened names read. -/
import Derived.Deep.RegionHeld3
import Derived.Deep.AppendLies
import Derived.Test.YtpamgeemmbbkkaaFieldO
import Derived.Test.YtpamgeemmbbkkaaMid
import Derived.Test.YtpamgeemmbbkkaaPField
namespace Go.Proofs.Ytpamgeemmbbkkaa
open Go.RowKit
set_option maxRecDepth 100000
theorem fat_any (bn : Nat) (A0 : Option Addr) (n0 c0 : Nat) (zs : List ByteArray) (nm : ByteArray) (w : World) (hc : w.cell? ⟨bn, 0, none⟩ = some (.slice A0 n0 c0)) (hr : Reads w w.heap.size 1 A0 n0 (txts zs)) (hn : n0 ≤ 9223372036854775807) :
    Calls Try.prog 58 #[.string nm, .pointer (some ⟨bn, 0, none⟩)] w fun e w' => e = .returned (.int .i64 (Pl.idxT zs nm)) ∧ w' = w := by
  have HI := Lib.hid (index_txt A0 n0 c0 zs nm w w.heap.size hn hr)
  change Hid (Calls _ _ _ _ fun e w' => e = .returned (.int .i64 (Pl.idxT zs nm)) ∧ _) at HI
  generalize Pl.idxT zs nm = R at *
  go_enter Try.func58, Try.ntmps58
  go_wp2_with fail
  refine HI.out.mono ?_
  rintro e w1 ⟨rfl, rfl⟩
  go_wp2_with fail
  go_ret
  exact ⟨rfl, rfl⟩
theorem enters_fat : ∀ args w, Sem.run Try.prog (callFunc 58 args) w = .ok (.enter 58 args) w := by intro args w; go_simp
theorem info_edge : (Try.prog.info? 132).map (fun i => (i.zero, i.size, i.bytes)) = some (some (.agg #[.int .i64 0, .int .i64 0, .string ⟨#[]⟩, .bool false, .int .i64 0]), 5, 48) := by kernel_rfl
set_option maxHeartbeats 6400000 in
theorem fieldOf_any (M : MNet) (Ao : Option Addr) (no co : Nat) (open_ : List ByteArray) (br : ByteArray) (part : Int) (w : World) (hM : NetIn w w.heap.size M) (hok : Pl.NetOk M.N) (ho : Reads w w.heap.size 1 Ao no (txts open_)) (hno : no ≤ 9223372036854775807) :
    Calls Try.prog 35 #[vNet M, .slice Ao no co, vPlace br part] w fun e w' => ∃ g, e = .returned (.pointer (some ⟨g, 0, none⟩)) ∧ FieldOwn w' w.heap.size g (Pl.fEdges M.N open_ br part) (Pl.fSrc M.N) (Pl.fPlace M.N open_ br part) (M.N.nodes.length + 1) ∧ Below w.heap.size w w' := by
  unfold vNet vPlace at *
  have F0 := ((Below.refl w.heap.size w).alloc (Nat.le_refl _) (.cells (netC M) 29)).alloc (by simp) (.cells #[.string br, .int .i64 part] 34)
  have B0 := (Blk.new_ w w.heap.size 29 (netC M) rfl).alloc (.cells #[.string br, .int .i64 part] 34)
  have P0 := Blk.new_ (w.alloc (.cells (netC M) 29)) (w.heap.size + 1) 34 #[.string br, .int .i64 part] (by simp)
  obtain ⟨N, A0, n0, c0, A1, n1, c1, A2, n2, c2, A3, n3, c3, A4, n4, c4, A5, n5, c5⟩ := M
  simp only at *
  have l0 := txts_len hM.r0
  have l1 := hM.r1.2
  have l2 := hM.r2.2
  have l3 := hM.r3.2
  have l5 := hM.r5.2
  simp only at l0 l1 l2 l3 l5
  have N1 : n1 ≤ 32 := by have := hok.ns; omega
  have N2 : n2 ≤ 24 := by have := hok.nb; omega
  have N3 : n3 ≤ 10 := by have := hok.ng; omega
  have N5 : n5 ≤ 4 := by have := hok.nt; omega
  have N0 : n0 ≤ 24 := by have := hok.nn; omega
  unfold netC at *
  simp only at *
  have C0 := fun (g : Nat) (_ : g = w.heap.size) (w' : World) (hb : Below w.heap.size w w') (hc : w'.cell? ⟨g, 0, none⟩ = some (.slice A0 n0 c0)) (x : ByteArray) => fat_any g A0 n0 c0 N.nodes x w' hc (hM.r0.go hb) (by omega)
  have C1 := fun (w' : World) (hb : Below w.heap.size w w') (x : ByteArray) => contains_txt Ao no co open_ x w' w'.heap.size hno (ho.go hb)
  have F0 := Lib.hid F0
  have B0 := Lib.hid B0
  have P0 := Lib.hid P0
  have C0 := Lib.hid C0
  have C1 := Lib.hid C1
  have HM := Lib.hid hM
  have HOK := Lib.hid hok
  have HO := Lib.hid ho
  have L0 := Lib.hid l0
  have L1 := Lib.hid l1
  have L2 := Lib.hid l2
  have L3 := Lib.hid l3
  have L5 := Lib.hid l5
  clear hM hok ho l0 l1 l2 l3 l5
  obtain ⟨i0, hi0, hz0, hz1, hz2⟩ := info_parts info_edge
  have HI0 := Lib.hid hi0
  have HZ0 := Lib.hid hz0
  have HZ1 := Lib.hid hz1
  have HZ2 := Lib.hid hz2
  clear hi0 hz0 hz1 hz2
  go_enter Try.func35, Try.ntmps35
  have k0 := B0.out.cell
  have q1 : IntKind.i64.wrap ((n0 : Int) + 1) = (n0 : Int) + 1 := IntWalk.i64_in _ (by omega)
  go_wp2_with fail
  have hgf : w.heap.size + 1 + 1 = ((w.alloc (.cells #[.slice A0 n0 c0, .slice A1 n1 c1, .slice A2 n2 c2, .slice A3 n3 c3, .slice A4 n4 c4, .slice A5 n5 c5] 29)).alloc (.cells #[.string br, .int .i64 part] 34)).heap.size := by simp
  have KF := Lib.hid (Blk.new_ _ (w.heap.size + 1 + 1) 130 #[.slice none 0 0, .int .i64 n0, .slice none 0 0, .int .i64 ((n0 : Int) + 1)] hgf)
  have B0 := Lib.hid (B0.out.alloc (.cells #[.slice none 0 0, .int .i64 n0, .slice none 0 0, .int .i64 ((n0 : Int) + 1)] 130))
  have P0 := Lib.hid (P0.out.alloc (.cells #[.slice none 0 0, .int .i64 n0, .slice none 0 0, .int .i64 ((n0 : Int) + 1)] 130))
  have F0 := Lib.hid (F0.out.alloc F0.out.size (.cells #[.slice none 0 0, .int .i64 n0, .slice none 0 0, .int .i64 ((n0 : Int) + 1)] 130))
  clear k0 hgf q1
  generalize ((w.alloc (.cells #[.slice A0 n0 c0, .slice A1 n1 c1, .slice A2 n2 c2, .slice A3 n3 c3, .slice A4 n4 c4, .slice A5 n5 c5] 29)).alloc (.cells #[.string br, .int .i64 part] 34)).alloc (.cells #[.slice none 0 0, .int .i64 n0, .slice none 0 0, .int .i64 ((n0 : Int) + 1)] 130) = w3 at *
  have HGF : Hid (w.heap.size + 1 + 1 < w3.heap.size) := KF.out.lt
  obtain ⟨gn, hgn⟩ : ∃ g, g = w.heap.size := ⟨_, rfl⟩
  obtain ⟨gp, hgp⟩ : ∃ g, g = w.heap.size + 1 := ⟨_, rfl⟩
  obtain ⟨gf, hgf⟩ : ∃ g, g = w.heap.size + 1 + 1 := ⟨_, rfl⟩
  have HGN : Hid (w.heap.size ≤ gn ∧ gn < gf ∧ gp < gf ∧ w.heap.size ≤ gp ∧ gf < w3.heap.size) := ⟨by omega, by omega, by omega, by omega, by have := HGF.out; omega⟩
  rw [← hgf, ← hgp, ← hgn]
  rw [← hgf] at KF
  rw [← hgn] at B0
  have C0 := Lib.hid (C0.out gn hgn)
  rw [← hgp] at P0
  clear hgf hgp hgn HGF
  have FN := F0
  have BN := B0
  have PN := P0
  clear F0 B0 P0
  have O0 : Hid (w3.ownsRow (gf + 1) 132 5 (.slice none 0 0) 0 ([].flatMap edgC)) := World.ownsRow_nil _ _ _ _
  have G0 : Hid (Below gf w3 w3) := Below.refl _ _
  go_loopw [30] (fun i wr => ∃ (k : Nat) (Ae : Option Addr) (ne ce : Nat), k ≤ n1 ∧ i = .int .i64 k ∧ Hid ((Pl.edgesS N.nodes open_ (N.switches.take k)).length = ne) ∧ Hid (Blk wr gf 130 #[.slice Ae ne ce, .int .i64 n0, .slice none 0 0, .int .i64 ((n0 : Int) + 1)]) ∧ Hid (wr.ownsRow (gf + 1) 132 5 (.slice Ae ne ce) ne ((Pl.edgesS N.nodes open_ (N.switches.take k)).flatMap edgC)) ∧ Hid (Below gf w3 wr)) (fun i _ => n1 - (intOf i).toNat)
  case atStart => exact ⟨0, none, 0, 0, Nat.zero_le _, rfl, rfl, KF, O0, G0⟩
  case round =>
    obtain ⟨k, Ae, ne, ce, hk, rfl, HNE, KR, ORR, GR⟩ := hrel
    clear KF O0 G0
    have FR : Hid (Below w.heap.size w wr) := FN.out.trans (GR.out.mono (by have := HGN.out; omega))
    have BR := Lib.hid (BN.out.below GR.out HGN.out.2.1)
    have PR := Lib.hid (PN.out.below GR.out HGN.out.2.2.1)
    by_cases hkn : k < n1
    · have hms := (HM.out.r1.below FR.out)
      obtain ⟨bs, os, rfl, hls, s0, s1, s2, s3, s4⟩ := swi_at hms hkn
      clear hms
      have HST := Lib.hid (Pl.edgesS_succ N.nodes open_ N.switches k hls)
      have HNB : Hid ((Pl.edgesS N.nodes open_ (N.switches.take k)).length ≤ 100) := by
        show _ ≤ _
        have := Pl.edgesS_len N.nodes open_ (N.switches.take k)
        rw [List.length_take] at this
        omega
      generalize N.switches[k] = sw at *
      generalize Pl.edgesS N.nodes open_ (N.switches.take k) = es at *
      have HSH : Hid (Pl.shutS open_ sw = (!sw.opened && !Pl.inB open_ sw.name)) := rfl
      generalize Pl.shutS open_ sw = sh at *
      generalize hib : Pl.inB open_ sw.name = ib at *
      have C1S := Lib.hid (fun (w' : World) (hb : Below w.heap.size w w') => C1.out w' hb sw.name)
      rw [hib] at C1S
      clear hib
      have HES : Hid (Pl.edgS N.nodes sw = ⟨Pl.idxT N.nodes sw.a, Pl.idxT N.nodes sw.b, sw.name, sw.breaker, 0⟩) := rfl
      generalize Pl.edgS N.nodes sw = ed at *
      obtain ⟨sn, sa, sb, sk, so⟩ := sw
      simp only at *
      have X1 := Lib.hid (Blk.new_ wr wr.heap.size 50 #[.string sn, .string sa, .string sb, .bool sk, .bool so] rfl)
      have KR1 := Lib.hid (KR.out.alloc (.cells #[.string sn, .string sa, .string sb, .bool sk, .bool so] 50))
      have BR1 := Lib.hid (BR.out.alloc (.cells #[.string sn, .string sa, .string sb, .bool sk, .bool so] 50))
      have FR1 := Lib.hid (FR.out.alloc FR.out.size (.cells #[.string sn, .string sa, .string sb, .bool sk, .bool so] 50))
      have GR1 := Lib.hid (GR.out.alloc (by have := KR.out.lt; omega) (.cells #[.string sn, .string sa, .string sb, .bool sk, .bool so] 50))
      have OR1 := Lib.hid (own_go ORR.out ((Below.refl wr.heap.size wr).alloc (Nat.le_refl _) (.cells #[.string sn, .string sa, .string sb, .bool sk, .bool so] 50)))
      have HXL : Hid (gf < wr.heap.size) := KR.out.lt
      obtain ⟨gx, hgx⟩ : ∃ g, g = wr.heap.size := ⟨_, rfl⟩
      have kb := BR.out.cell
      have hlb : wr.heap.size < wr.heap.size + 1 := Nat.lt_succ_self _
      cases so
      · cases ib
        · simp only [Bool.not_false, Bool.and_self] at HSH
          rw [if_pos HSH.out] at HST
          go_wp2_with fail
          refine (C1S.out _ FR1.out).mono ?_
          rintro e w1 ⟨rfl, rfl⟩
          have Y1 := Lib.hid X1.out.drew
          have KY := Lib.hid KR1.out.drew
          have BY := Lib.hid BR1.out.drew
          have FY := Lib.hid FR1.out.drew
          have GY := Lib.hid GR1.out.drew
          have OY := Lib.hid OR1.out.drew
          have HXG := HXL.out
          rw [← hgx] at Y1 HXG ⊢
          have HGX := Lib.hid hgx
          have HXN : Hid (some gx ≠ (Value.slice Ae ne ce).ownBlock) := own_ne ORR.out (.inr (by rw [← hgx]; exact Nat.le_refl _))
          clear hgx
          clear X1 KR1 BR1 FR1 GR1 OR1 kb KR ORR GR FR BR PR HXL hlb s0 s1 s2 s3 s4 C1S
          go_wp2_with fail
          generalize hwd : (wr.alloc (.cells #[.string sn, .string sa, .string sb, .bool sk, .bool false] 50)) = wc at *
          clear hwd
          have cc := C0.out _ FY.out (BY.out.cell 0)
          have ya := cc sa
          have yb := cc sb
          have CA := Lib.hid ya
          have CB := Lib.hid yb
          have HED := HES.out
          generalize hia : Pl.idxT N.nodes sa = ia at *
          generalize hib : Pl.idxT N.nodes sb = ib at *
          clear hia hib ya yb cc
          have hgfl : gf < wc.heap.size := KY.out.lt
          have KZ : Hid (Blk (wc.alloc (.cells #[.int .i64 ia, .int .i64 ib, .string sn, .bool sk, .int .i64 0] 132)).drew gf 130 #[.slice Ae ne ce, .int .i64 n0, .slice none 0 0, .int .i64 ((n0 : Int) + 1)]) := KY.out.alloc _
          have YZ : Hid (Blk (wc.alloc (.cells #[.int .i64 ia, .int .i64 ib, .string sn, .bool sk, .int .i64 0] 132)).drew gx 50 #[.string sn, .string sa, .string sb, .bool sk, .bool false]) := Y1.out.alloc _
          have GZ : Hid (Below gf w3 (wc.alloc (.cells #[.int .i64 ia, .int .i64 ib, .string sn, .bool sk, .int .i64 0] 132)).drew) := GY.out.alloc (by show gf ≤ wc.heap.size; omega) _
          have OZ : Hid ((wc.alloc (.cells #[.int .i64 ia, .int .i64 ib, .string sn, .bool sk, .int .i64 0] 132)).drew.ownsRow (gf + 1) 132 5 (.slice Ae ne ce) ne (es.flatMap edgC)) := own_go OY.out ((Below.refl wc.heap.size wc.drew).alloc (Nat.le_refl _) _)
          have NZ : Hid (∀ j u, ([.int .i64 ia, .int .i64 ib, .string sn, .bool sk, .int .i64 0] : List Value)[j]? = some u → (wc.alloc (.cells #[.int .i64 ia, .int .i64 ib, .string sn, .bool sk, .int .i64 0] 132)).drew.cell? ((⟨wc.heap.size, 0, none⟩ : Addr).add j) = some u) := World.news_of_block (cs := #[.int .i64 ia, .int .i64 ib, .string sn, .bool sk, .int .i64 0]) (t := 132) (fr := (0, 0)) (heap_alloc_new wc _)
          have SZ : (wc.alloc (.cells #[.int .i64 ia, .int .i64 ib, .string sn, .bool sk, .int .i64 0] 132)).drew.heap.size = wc.heap.size + 1 := by simp
          have hes : es.length = ne := HNE.out
          have hnb := HNB.out
          have Q1 : ne + 1 ≤ maxLen := by unfold maxLen; omega
          have Q2 : (ne + 1) * 48 ≤ 140737488355328 := by omega
          have hi0 := HI0.out
          have hz0 := HZ0.out
          have hz1 := HZ1.out
          have hz2 := HZ2.out
          have hSw : (fun w' => w'.cell? ⟨gf, 0, none⟩ = some (.slice Ae ne ce) ∧ w'.cell? ⟨gx, 0, none⟩ = some (.string sn) ∧ w'.cell? ⟨gx, 1, none⟩ = some (.string sa) ∧ w'.cell? ⟨gx, 2, none⟩ = some (.string sb) ∧ w'.cell? ⟨gx, 3, none⟩ = some (.bool sk)) wc.drew := ⟨KY.out.cell 0, Y1.out.cell 0, Y1.out.cell 1, Y1.out.cell 2, Y1.out.cell 3⟩
          refine wp_region_mid (fun w' => w'.cell? ⟨gf, 0, none⟩ = some (.slice Ae ne ce) ∧ w'.cell? ⟨gx, 0, none⟩ = some (.string sn) ∧ w'.cell? ⟨gx, 1, none⟩ = some (.string sa) ∧ w'.cell? ⟨gx, 2, none⟩ = some (.string sb) ∧ w'.cell? ⟨gx, 3, none⟩ = some (.bool sk)) 20 (by kernel_rfl) ?_
          refine wpAnyM_take 0 rfl (by kernel_rfl) (by kernel_rfl) (by kernel_rfl) (by kernel_rfl) (by kernel_rfl) (fun _ _ _ h => h) hSw (by rfl) (fun w' hSx => by (try dsimp only at hSx); go_simp; first | done | with_reducible rfl) ?_
          simp only [Act.put, List.setIfInBounds_toArray]
          refine wpAnyM_take 1 rfl (by kernel_rfl) (by kernel_rfl) (by kernel_rfl) (by kernel_rfl) (by kernel_rfl) (fun _ _ _ h => h) hSw (by rfl) (fun w' hSx => by (try dsimp only at hSx); go_simp; first | done | with_reducible rfl) ?_
          simp only [Act.put]
          refine wpAnyM_take 2 rfl (by kernel_rfl) (by kernel_rfl) (by kernel_rfl) (by kernel_rfl) (by kernel_rfl) (fun _ _ _ h => h) hSw (by rfl) (fun w' hSx => by (try dsimp only at hSx); go_simp; first | done | with_reducible rfl) ?_
          simp only [Act.put]
          refine wpAnyM_take 3 rfl (by kernel_rfl) (by kernel_rfl) (by kernel_rfl) (by kernel_rfl) (by kernel_rfl) (fun _ _ _ h => h) hSw (by rfl) (fun w' hSx => by (try dsimp only at hSx); go_simp; first | done | with_reducible rfl) ?_
          simp only [Act.put]
          refine wpAnyM_take 4 rfl (by kernel_rfl) (by kernel_rfl) (by kernel_rfl) (by kernel_rfl) (by kernel_rfl) (fun _ _ _ h => h) hSw (by rfl) (fun w' hSx => by (try dsimp only at hSx); go_simp; first | done | with_reducible rfl) ?_
          simp only [Act.put]
          refine wpAnyM_take 5 rfl (by kernel_rfl) (by kernel_rfl) (by kernel_rfl) (by kernel_rfl) (by kernel_rfl) (fun _ _ _ h => h) hSw (by rfl) (fun w' hSx => by (try dsimp only at hSx); go_simp; first | done | with_reducible rfl) ?_
          simp only [Act.put]
          refine wpAnyM_take 6 rfl (by kernel_rfl) (by kernel_rfl) (by kernel_rfl) (by kernel_rfl) (by kernel_rfl) (fun _ _ _ h => h) hSw (by rfl) (fun w' hSx => by (try dsimp only at hSx); go_simp; first | done | with_reducible rfl) ?_
          simp only [Act.put]
          refine wpAnyM_take 7 rfl (by kernel_rfl) (by kernel_rfl) (by kernel_rfl) (by kernel_rfl) (by kernel_rfl) (fun _ _ _ h => h) hSw (by rfl) (fun w' hSx => by (try dsimp only at hSx); go_simp; first | done | with_reducible rfl) ?_
          simp only [Act.put]
          refine wpAnyM_take 9 rfl (by kernel_rfl) (by kernel_rfl) (by kernel_rfl) (by kernel_rfl) (by kernel_rfl) (fun _ _ _ h => h) hSw (by rfl) (fun w' hSx => by (try dsimp only at hSx); go_simp; first | done | with_reducible rfl) ?_
          simp only [Act.put]
          refine wpAnyM_take 10 rfl (by kernel_rfl) (by kernel_rfl) (by kernel_rfl) (by kernel_rfl) (by kernel_rfl) (fun _ _ _ h => h) hSw (by rfl) (fun w' hSx => by (try dsimp only at hSx); go_simp; first | done | with_reducible rfl) ?_
          simp only [Act.put]
          refine wpAnyM_take 11 rfl (by kernel_rfl) (by kernel_rfl) (by kernel_rfl) (by kernel_rfl) (by kernel_rfl) (fun _ _ _ h => h) hSw (by rfl) (fun w' hSx => by (try dsimp only at hSx); go_simp; first | done | with_reducible rfl) ?_
          simp only [Act.put]
          refine wpAnyM_take 13 rfl (by kernel_rfl) (by kernel_rfl) (by kernel_rfl) (by kernel_rfl) (by kernel_rfl) (fun _ _ _ h => h) hSw (by rfl) (fun w' hSx => by (try dsimp only at hSx); go_simp; first | done | with_reducible rfl) ?_
          simp only [Act.put]
          refine wpAnyM_take 14 rfl (by kernel_rfl) (by kernel_rfl) (by kernel_rfl) (by kernel_rfl) (by kernel_rfl) (fun _ _ _ h => h) hSw (by rfl) (fun w' hSx => by (try dsimp only at hSx); go_simp; first | done | with_reducible rfl) ?_
          simp only [Act.put]
          refine wpAnyM_take 15 rfl (by kernel_rfl) (by kernel_rfl) (by kernel_rfl) (by kernel_rfl) (by kernel_rfl) (fun _ _ _ h => h) hSw (by rfl) (fun w' hSx => by (try dsimp only at hSx); go_simp; first | done | with_reducible rfl) ?_
          simp only [Act.put]
          refine wpAnyM_take 16 rfl (by kernel_rfl) (by kernel_rfl) (by kernel_rfl) (by kernel_rfl) (by kernel_rfl) (fun _ _ _ h => h) hSw (by rfl) (fun w' hSx => by (try dsimp only at hSx); go_simp; first | done | with_reducible rfl) ?_
          simp only [Act.put]
          refine wpAnyM_ready [8] (by kernel_rfl) (by simp) ?_
          refine AllReadyM.cons (by rfl) (fun K hK => ?_) AllReadyM.nil
          go_simp
          refine CA.out.mono ?_
          rintro e wz ⟨rfl, rfl⟩
          refine hK.out _ _ hSw ?_
          clear hK K

          refine wpAnyM_ready [12] (by kernel_rfl) (by simp) ?_
          refine AllReadyM.cons (by rfl) (fun K hK => ?_) AllReadyM.nil
          go_simp
          refine CB.out.mono ?_
          rintro e wz ⟨rfl, rfl⟩
          refine hK.out _ _ hSw ?_
          clear hK K
          refine wpAnyM_take 17 rfl (by kernel_rfl) (by kernel_rfl) (by kernel_rfl) (by kernel_rfl) (by kernel_rfl) (fun _ _ _ h => h) hSw (by rfl) (fun w' hSx => by (try dsimp only at hSx); go_simp; first | done | with_reducible rfl) ?_
          simp only [Act.put]
          refine wpAnyM_ready [18] (by kernel_rfl) (by simp) ?_
          refine AllReadyM.cons (by rfl) (fun K hK => ?_) AllReadyM.nil
          go_simp
          generalize (wc.alloc (.cells #[.int .i64 ia, .int .i64 ib, .string sn, .bool sk, .int .i64 0] 132)).drew = wz at *
          refine hK.out _ _ ⟨KZ.out.cell 0, YZ.out.cell 0, YZ.out.cell 1, YZ.out.cell 2, YZ.out.cell 3⟩ ?_
          clear hK K hSw
          refine wpAnyM_ready [19] (by kernel_rfl) (by simp) ?_
          refine AllReadyM.cons (by rfl) (fun K hK => ?_) AllReadyM.nil
          refine step_append_lies _ (by rfl) _ _ _ (by rfl) (gf + 1) 132 i0 _ 5 48 Try.underlying128 hi0 hz0 hz1 hz2 rfl (by omega) (.slice Ae ne ce) ne (es.flatMap edgC) (by rfl) OZ.out ⟨wc.heap.size, 0, none⟩ 1 1 [.int .i64 ia, .int .i64 ib, .string sn, .bool sk, .int .i64 0] (by rfl) (by rfl) NZ.out (by simp [Value.oneCell']) (by omega) Q1 Q2 (by omega) (wc.heap.size + 1) SZ ?_
          intro gg cap w8 hown3 hgrow hat hlt3
          have K8 := Lib.hid (KZ.out.grown hgrow (own_ne OZ.out (.inl (Nat.lt_succ_self _))))
          have Y8 := Lib.hid (YZ.out.grown hgrow HXN.out)
          have G8 := Lib.hid (below_grown GZ.out hgrow OZ.out (by omega) (by omega))
          have O8 := Lib.hid hown3
          refine hK.out _ _ ⟨K8.out.cell 0, Y8.out.cell 0, Y8.out.cell 1, Y8.out.cell 2, Y8.out.cell 3⟩ ?_
          clear hK K hgrow hown3 hat hlt3 KZ YZ GZ OZ NZ SZ hgfl
          refine wpAnyM_ready [20] (by kernel_rfl) (by simp) ?_
          refine AllReadyM.last (by rfl) (by omega) (fun K hK => ?_)
          go_simp
          refine hK.out _ _ ?_
          clear hK K
          refine wpAnyM_ready [21] (by kernel_rfl) (by simp) ?_
          refine AllReadyM.last (by rfl) (by omega) (fun K hK => ?_)
          go_simp
          refine hK.out _ _ ?_
          clear hK K
          have k8 := K8.out.cell
          have f8 := K8.out.frozen
          refine wpAnyM_ready [22] (by kernel_rfl) (by simp) ?_
          refine AllReadyM.last (by rfl) (by omega) (fun K hK => ?_)
          go_simp
          refine hK.out _ _ ?_
          clear hK K k8 f8
          refine wpAnyM_done (by kernel_rfl) ?_ _
          have K9 := Lib.hid (K8.out.set_ 0 (.slice (some ⟨gg, 0, none⟩) (ne + 1) cap))
          have Y9 := Lib.hid (Y8.out.far (p := ⟨gf, 0, none⟩) (by show gx ≠ gf; omega) (.slice (some ⟨gg, 0, none⟩) (ne + 1) cap))
          have G9 := Lib.hid (G8.out.setCell (p := ⟨gf, 0, none⟩) (Nat.le_refl _) (.slice (some ⟨gg, 0, none⟩) (ne + 1) cap))
          have O9 := Lib.hid (own_far O8.out (p := ⟨gf, 0, none⟩) (Nat.lt_succ_self _) (.slice (some ⟨gg, 0, none⟩) (ne + 1) cap))
          clear K8 Y8 G8 O8 Q1 Q2 hes hi0 hz0 hz1 hz2
          generalize w8.setCell ⟨gf, 0, none⟩ (.slice (some ⟨gg, 0, none⟩) (ne + 1) cap) = w9 at *
          go_wp2_with fail
          go_roundw
          case rel => exact ⟨k + 1, some ⟨gg, 0, none⟩, ne + 1, cap, by omega, by go_num, by show _ = _; rw [HST.out, List.length_append, HNE.out]; rfl, K9, by rw [HST.out, List.flatMap_append, HED]; exact O9, G9⟩
          case measure => simp [intOf]; omega
        · simp only [Bool.not_true, Bool.and_false] at HSH
          rw [if_neg (by rw [HSH.out]; simp), List.append_nil] at HST
          go_wp2_with fail
          refine (C1S.out _ FR1.out).mono ?_
          rintro e w1 ⟨rfl, rfl⟩
          clear kb hlb
          go_wp2_with fail
          go_roundw
          case rel => exact ⟨k + 1, Ae, ne, ce, by omega, by go_num, by show _ = _; rw [HST.out]; exact HNE.out, KR1, by rw [HST.out]; exact OR1, GR1⟩
          case measure => simp [intOf]; omega
      · simp only [Bool.not_true, Bool.false_and] at HSH
        rw [if_neg (by rw [HSH.out]; simp), List.append_nil] at HST
        go_wp2_with fail
        go_roundw
        case rel => exact ⟨k + 1, Ae, ne, ce, by omega, by go_num, by show _ = _; rw [HST.out]; exact HNE.out, KR1, by rw [HST.out]; exact OR1, GR1⟩
        case measure => simp [intOf]; omega
    · have hke : k = n1 := by omega
      rw [List.take_of_length_le (by have := L1.out; omega)] at HNE ORR
      have FD0 : Hid (Pl.fldB N open_ br part 0 = ((n0 : Int), Pl.edgesS N.nodes open_ N.switches)) := by
        show Pl.fldB N open_ br part 0 = _
        unfold Pl.fldB
        rw [L0.out]; rfl
      generalize Pl.edgesS N.nodes open_ N.switches = es at *
      have kb := BR.out.cell
      clear hke
      go_wp2_with fail
      clear kb FR BR PR
      go_loopw [70] (fun i wr => ∃ (k : Nat) (Ae : Option Addr) (ne ce : Nat) (pl : Int) (es : List Pl.Edg), k ≤ n2 ∧ i = .int .i64 k ∧ Hid (Pl.fldB N open_ br part k = (pl, es)) ∧ Hid (es.length = ne) ∧ Hid (Blk wr gf 130 #[.slice Ae ne ce, .int .i64 pl, .slice none 0 0, .int .i64 ((n0 : Int) + 1)]) ∧ Hid (wr.ownsRow (gf + 1) 132 5 (.slice Ae ne ce) ne (es.flatMap edgC)) ∧ Hid (Below gf w3 wr)) (fun i _ => n2 - (intOf i).toNat)
      case atStart => exact ⟨0, _, _, _, _, _, Nat.zero_le _, rfl, FD0, HNE, KR, ORR, GR⟩
      case round =>
        clear FD0 HNE KR ORR GR
        obtain ⟨k, Ae, ne, ce, pl, es, hk, rfl, HFD, HNE, KR, ORR, GR⟩ := hrel
        have FR : Hid (Below w.heap.size w wr) := FN.out.trans (GR.out.mono (by have := HGN.out; omega))
        have BR := Lib.hid (BN.out.below GR.out HGN.out.2.1)
        have PR := Lib.hid (PN.out.below GR.out HGN.out.2.2.1)
        by_cases hkn : k < n2
        · have hms := (HM.out.r2.below FR.out)
          obtain ⟨bs, os, rfl, hls, s0, s1, s2, s3, s4, s5, s6, s7, s8⟩ := bra_at hms hkn
          clear hms
          have HST := Lib.hid (Pl.fldB_succ N open_ br part k hls)
          rw [HFD.out] at HST
          have HNB : Hid (es.length ≤ 100) := by
            show _ ≤ _
            have := Pl.fldB_len N open_ br part k (Nat.le_of_lt hls)
            rw [HFD.out] at this
            have := L1.out
            simp only at *
            omega
          have HPL := Lib.hid (Pl.fldB_place N open_ br part k (Nat.le_of_lt hls))
          rw [HFD.out, L0.out] at HPL
          generalize N.branches[k] = bra at *
          have HWB : Hid (Pl.wholeB br part bra = (decide (Pl.lst bra.name ≠ Pl.lst br) || decide (part = 0) || decide (part = 1000))) := rfl
          have HSB : Hid (Pl.stepB N.nodes br part (pl, es) bra = if Pl.wholeB br part bra = true then ((if Pl.lst bra.name = Pl.lst br then (if 0 < part then Pl.idxT N.nodes bra.to_ else Pl.idxT N.nodes bra.from_) else pl), es ++ [⟨Pl.idxT N.nodes bra.from_, Pl.idxT N.nodes bra.to_, bra.name, false, 0⟩])
            else (pl, es ++ [⟨pl, Pl.idxT N.nodes bra.from_, bra.name, false, 0⟩, ⟨pl, Pl.idxT N.nodes bra.to_, bra.name, false, 0⟩])) := rfl
          rw [HSB.out] at HST
          clear HSB
          generalize Pl.wholeB br part bra = wb at *
          obtain ⟨bn, bf, bt, e3, e4, e5, e6, e7, e8⟩ := bra
          simp only at *
          have X1 := Lib.hid (Blk.new_ wr wr.heap.size 42 #[.string bn, .string bf, .string bt, .int .i64 e3, .int .i64 e4, .int .i64 e5, .int .i64 e6, .int .i64 e7, .int .i64 e8] rfl)
          have KR1 := Lib.hid (KR.out.alloc (.cells #[.string bn, .string bf, .string bt, .int .i64 e3, .int .i64 e4, .int .i64 e5, .int .i64 e6, .int .i64 e7, .int .i64 e8] 42))
          have BR1 := Lib.hid (BR.out.alloc (.cells #[.string bn, .string bf, .string bt, .int .i64 e3, .int .i64 e4, .int .i64 e5, .int .i64 e6, .int .i64 e7, .int .i64 e8] 42))
          have PR1 := Lib.hid (PR.out.alloc (.cells #[.string bn, .string bf, .string bt, .int .i64 e3, .int .i64 e4, .int .i64 e5, .int .i64 e6, .int .i64 e7, .int .i64 e8] 42))
          have FR1 := Lib.hid (FR.out.alloc FR.out.size (.cells #[.string bn, .string bf, .string bt, .int .i64 e3, .int .i64 e4, .int .i64 e5, .int .i64 e6, .int .i64 e7, .int .i64 e8] 42))
          have GR1 := Lib.hid (GR.out.alloc (by have := KR.out.lt; omega) (.cells #[.string bn, .string bf, .string bt, .int .i64 e3, .int .i64 e4, .int .i64 e5, .int .i64 e6, .int .i64 e7, .int .i64 e8] 42))
          have OR1 := Lib.hid (own_go ORR.out ((Below.refl wr.heap.size wr).alloc (Nat.le_refl _) (.cells #[.string bn, .string bf, .string bt, .int .i64 e3, .int .i64 e4, .int .i64 e5, .int .i64 e6, .int .i64 e7, .int .i64 e8] 42)))
          have HXL : Hid (gf < wr.heap.size) := KR.out.lt
          have kp := PR.out.cell
          have hlb : wr.heap.size < wr.heap.size + 1 := Nat.lt_succ_self _
          have hgpl : gp < wr.heap.size := PR.out.lt
          have HXN : Hid (some wr.heap.size ≠ (Value.slice Ae ne ce).ownBlock) := own_ne ORR.out (.inr (Nat.le_refl _))
          obtain ⟨gx, hgx⟩ : ∃ g, g = wr.heap.size := ⟨_, rfl⟩
          have HGX := Lib.hid hgx
          clear hgx
          by_cases hnm : bn = br
          · by_cases hp : part = 0 ∨ part = 1000
            · have HWT : Hid (wb = true) := by
                show _ = _
                rw [HWB.out]
                rcases hp with h | h <;> simp [h]
              have hnn : (bn.toList == br.toList) = true := by rw [hnm]; simp
              have HNM := Lib.hid hnm
              clear hnm
              rcases hp with rfl | rfl
              · go_wp2_with fail
                have hgx := HGX.out
                rw [← hgx] at X1 HXN HXL ⊢
                clear hgx HGX
                have Y1 := Lib.hid X1.out.drew
                have KY := Lib.hid KR1.out.drew
                have BY := Lib.hid BR1.out.drew
                have PY := Lib.hid PR1.out.drew
                have FY := Lib.hid FR1.out.drew
                have GY := Lib.hid GR1.out.drew
                have OY := Lib.hid OR1.out.drew
                have HXG := HXL.out
                clear X1 KR1 BR1 PR1 FR1 GR1 OR1 kp KR ORR GR FR BR PR HXL hlb hgpl s0 s1 s2 s3 s4 s5 s6 s7 s8
                generalize (wr.alloc (.cells #[.string bn, .string bf, .string bt, .int .i64 e3, .int .i64 e4, .int .i64 e5, .int .i64 e6, .int .i64 e7, .int .i64 e8] 42)) = wc at *
                have cc := C0.out _ FY.out (BY.out.cell 0)
                have ya := cc bf
                have yb := cc bt
                have CA := Lib.hid ya
                have CB := Lib.hid yb
                have CF := Lib.hid (fun (w' : World) hb hc => C0.out w' hb hc bf)
                have CT := Lib.hid (fun (w' : World) hb hc => C0.out w' hb hc bt)
                generalize Pl.idxT N.nodes bf = ia at *
                generalize Pl.idxT N.nodes bt = ib at *
                clear ya yb cc
                have hgfl : gf < wc.heap.size := KY.out.lt
                have KZ : Hid (Blk (wc.alloc (.cells #[.int .i64 ia, .int .i64 ib, .string bn, .bool false, .int .i64 0] 132)).drew gf 130 #[.slice Ae ne ce, .int .i64 pl, .slice none 0 0, .int .i64 ((n0 : Int) + 1)]) := KY.out.alloc _
                have YZ : Hid (Blk (wc.alloc (.cells #[.int .i64 ia, .int .i64 ib, .string bn, .bool false, .int .i64 0] 132)).drew gx 42 #[.string bn, .string bf, .string bt, .int .i64 e3, .int .i64 e4, .int .i64 e5, .int .i64 e6, .int .i64 e7, .int .i64 e8]) := Y1.out.alloc _
                have GZ : Hid (Below gf w3 (wc.alloc (.cells #[.int .i64 ia, .int .i64 ib, .string bn, .bool false, .int .i64 0] 132)).drew) := GY.out.alloc (by show gf ≤ wc.heap.size; omega) _
                have OZ : Hid ((wc.alloc (.cells #[.int .i64 ia, .int .i64 ib, .string bn, .bool false, .int .i64 0] 132)).drew.ownsRow (gf + 1) 132 5 (.slice Ae ne ce) ne (es.flatMap edgC)) := own_go OY.out ((Below.refl wc.heap.size wc.drew).alloc (Nat.le_refl _) _)
                have NZ : Hid (∀ j u, ([.int .i64 ia, .int .i64 ib, .string bn, .bool false, .int .i64 0] : List Value)[j]? = some u → (wc.alloc (.cells #[.int .i64 ia, .int .i64 ib, .string bn, .bool false, .int .i64 0] 132)).drew.cell? ((⟨wc.heap.size, 0, none⟩ : Addr).add j) = some u) := World.news_of_block (cs := #[.int .i64 ia, .int .i64 ib, .string bn, .bool false, .int .i64 0]) (t := 132) (fr := (0, 0)) (heap_alloc_new wc _)
                have SZ : (wc.alloc (.cells #[.int .i64 ia, .int .i64 ib, .string bn, .bool false, .int .i64 0] 132)).drew.heap.size = wc.heap.size + 1 := by simp
                have hes : es.length = ne := HNE.out
                have hnb := HNB.out
                have Q1 : ne + 1 ≤ maxLen := by unfold maxLen; omega
                have Q2 : (ne + 1) * 48 ≤ 140737488355328 := by omega
                have hi0 := HI0.out
                have hz0 := HZ0.out
                have hz1 := HZ1.out
                have hz2 := HZ2.out
                have hSw : (fun w' => w'.cell? ⟨gf, 0, none⟩ = some (.slice Ae ne ce) ∧ w'.cell? ⟨gx, 0, none⟩ = some (.string bn) ∧ w'.cell? ⟨gx, 1, none⟩ = some (.string bf) ∧ w'.cell? ⟨gx, 2, none⟩ = some (.string bt)) wc.drew := ⟨KY.out.cell 0, Y1.out.cell 0, Y1.out.cell 1, Y1.out.cell 2⟩
                refine wp_region_mid (fun w' => w'.cell? ⟨gf, 0, none⟩ = some (.slice Ae ne ce) ∧ w'.cell? ⟨gx, 0, none⟩ = some (.string bn) ∧ w'.cell? ⟨gx, 1, none⟩ = some (.string bf) ∧ w'.cell? ⟨gx, 2, none⟩ = some (.string bt)) 18 (by kernel_rfl) ?_
                refine wpAnyM_take 0 rfl (by kernel_rfl) (by kernel_rfl) (by kernel_rfl) (by kernel_rfl) (by kernel_rfl) (fun _ _ _ h => h) hSw (by rfl) (fun w' hSx => by (try dsimp only at hSx); go_simp; first | done | with_reducible rfl) ?_
                simp only [Act.put, List.setIfInBounds_toArray]
                refine wpAnyM_take 1 rfl (by kernel_rfl) (by kernel_rfl) (by kernel_rfl) (by kernel_rfl) (by kernel_rfl) (fun _ _ _ h => h) hSw (by rfl) (fun w' hSx => by (try dsimp only at hSx); go_simp; first | done | with_reducible rfl) ?_
                simp only [Act.put]
                refine wpAnyM_take 2 rfl (by kernel_rfl) (by kernel_rfl) (by kernel_rfl) (by kernel_rfl) (by kernel_rfl) (fun _ _ _ h => h) hSw (by rfl) (fun w' hSx => by (try dsimp only at hSx); go_simp; first | done | with_reducible rfl) ?_
                simp only [Act.put]
                refine wpAnyM_take 3 rfl (by kernel_rfl) (by kernel_rfl) (by kernel_rfl) (by kernel_rfl) (by kernel_rfl) (fun _ _ _ h => h) hSw (by rfl) (fun w' hSx => by (try dsimp only at hSx); go_simp; first | done | with_reducible rfl) ?_
                simp only [Act.put]
                refine wpAnyM_take 4 rfl (by kernel_rfl) (by kernel_rfl) (by kernel_rfl) (by kernel_rfl) (by kernel_rfl) (fun _ _ _ h => h) hSw (by rfl) (fun w' hSx => by (try dsimp only at hSx); go_simp; first | done | with_reducible rfl) ?_
                simp only [Act.put]
                refine wpAnyM_take 5 rfl (by kernel_rfl) (by kernel_rfl) (by kernel_rfl) (by kernel_rfl) (by kernel_rfl) (fun _ _ _ h => h) hSw (by rfl) (fun w' hSx => by (try dsimp only at hSx); go_simp; first | done | with_reducible rfl) ?_
                simp only [Act.put]
                refine wpAnyM_take 6 rfl (by kernel_rfl) (by kernel_rfl) (by kernel_rfl) (by kernel_rfl) (by kernel_rfl) (fun _ _ _ h => h) hSw (by rfl) (fun w' hSx => by (try dsimp only at hSx); go_simp; first | done | with_reducible rfl) ?_
                simp only [Act.put]
                refine wpAnyM_take 7 rfl (by kernel_rfl) (by kernel_rfl) (by kernel_rfl) (by kernel_rfl) (by kernel_rfl) (fun _ _ _ h => h) hSw (by rfl) (fun w' hSx => by (try dsimp only at hSx); go_simp; first | done | with_reducible rfl) ?_
                simp only [Act.put]
                refine wpAnyM_take 9 rfl (by kernel_rfl) (by kernel_rfl) (by kernel_rfl) (by kernel_rfl) (by kernel_rfl) (fun _ _ _ h => h) hSw (by rfl) (fun w' hSx => by (try dsimp only at hSx); go_simp; first | done | with_reducible rfl) ?_
                simp only [Act.put]
                refine wpAnyM_take 10 rfl (by kernel_rfl) (by kernel_rfl) (by kernel_rfl) (by kernel_rfl) (by kernel_rfl) (fun _ _ _ h => h) hSw (by rfl) (fun w' hSx => by (try dsimp only at hSx); go_simp; first | done | with_reducible rfl) ?_
                simp only [Act.put]
                refine wpAnyM_take 11 rfl (by kernel_rfl) (by kernel_rfl) (by kernel_rfl) (by kernel_rfl) (by kernel_rfl) (fun _ _ _ h => h) hSw (by rfl) (fun w' hSx => by (try dsimp only at hSx); go_simp; first | done | with_reducible rfl) ?_
                simp only [Act.put]
                refine wpAnyM_take 13 rfl (by kernel_rfl) (by kernel_rfl) (by kernel_rfl) (by kernel_rfl) (by kernel_rfl) (fun _ _ _ h => h) hSw (by rfl) (fun w' hSx => by (try dsimp only at hSx); go_simp; first | done | with_reducible rfl) ?_
                simp only [Act.put]
                refine wpAnyM_take 14 rfl (by kernel_rfl) (by kernel_rfl) (by kernel_rfl) (by kernel_rfl) (by kernel_rfl) (fun _ _ _ h => h) hSw (by rfl) (fun w' hSx => by (try dsimp only at hSx); go_simp; first | done | with_reducible rfl) ?_
                simp only [Act.put]
                refine wpAnyM_ready [8] (by kernel_rfl) (by simp) ?_
                refine AllReadyM.cons (by rfl) (fun K hK => ?_) AllReadyM.nil
                go_simp
                refine CA.out.mono ?_
                rintro e wz ⟨rfl, rfl⟩
                refine hK.out _ _ hSw ?_
                clear hK K

                refine wpAnyM_ready [12] (by kernel_rfl) (by simp) ?_
                refine AllReadyM.cons (by rfl) (fun K hK => ?_) AllReadyM.nil
                go_simp
                refine CB.out.mono ?_
                rintro e wz ⟨rfl, rfl⟩
                refine hK.out _ _ hSw ?_
                clear hK K
                refine wpAnyM_take 15 rfl (by kernel_rfl) (by kernel_rfl) (by kernel_rfl) (by kernel_rfl) (by kernel_rfl) (fun _ _ _ h => h) hSw (by rfl) (fun w' hSx => by (try dsimp only at hSx); go_simp; first | done | with_reducible rfl) ?_
                simp only [Act.put]
                refine wpAnyM_ready [16] (by kernel_rfl) (by simp) ?_
                refine AllReadyM.cons (by rfl) (fun K hK => ?_) AllReadyM.nil
                go_simp
                generalize (wc.alloc (.cells #[.int .i64 ia, .int .i64 ib, .string bn, .bool false, .int .i64 0] 132)).drew = wz at *
                refine hK.out _ _ ⟨KZ.out.cell 0, YZ.out.cell 0, YZ.out.cell 1, YZ.out.cell 2⟩ ?_
                clear hK K hSw
                refine wpAnyM_ready [17] (by kernel_rfl) (by simp) ?_
                refine AllReadyM.cons (by rfl) (fun K hK => ?_) AllReadyM.nil
                refine step_append_lies _ (by rfl) _ _ _ (by rfl) (gf + 1) 132 i0 _ 5 48 Try.underlying128 hi0 hz0 hz1 hz2 rfl (by omega) (.slice Ae ne ce) ne (es.flatMap edgC) (by rfl) OZ.out ⟨wc.heap.size, 0, none⟩ 1 1 [.int .i64 ia, .int .i64 ib, .string bn, .bool false, .int .i64 0] (by rfl) (by rfl) NZ.out (by simp [Value.oneCell']) (by omega) Q1 Q2 (by omega) (wc.heap.size + 1) SZ ?_
                intro gg cap w8 hown3 hgrow hat hlt3
                have K8 := Lib.hid (KZ.out.grown hgrow (own_ne OZ.out (.inl (Nat.lt_succ_self _))))
                have Y8 := Lib.hid (YZ.out.grown hgrow HXN.out)
                have G8 := Lib.hid (below_grown GZ.out hgrow OZ.out (by omega) (by omega))
                have O8 := Lib.hid hown3
                refine hK.out _ _ ⟨K8.out.cell 0, Y8.out.cell 0, Y8.out.cell 1, Y8.out.cell 2⟩ ?_
                clear hK K hgrow hown3 hat hlt3 KZ YZ GZ OZ NZ SZ hgfl
                refine wpAnyM_ready [18] (by kernel_rfl) (by simp) ?_
                refine AllReadyM.last (by rfl) (by omega) (fun K hK => ?_)
                go_simp
                refine hK.out _ _ ?_
                clear hK K
                refine wpAnyM_ready [19] (by kernel_rfl) (by simp) ?_
                refine AllReadyM.last (by rfl) (by omega) (fun K hK => ?_)
                go_simp
                refine hK.out _ _ ?_
                clear hK K
                have k8 := K8.out.cell
                have f8 := K8.out.frozen
                refine wpAnyM_ready [20] (by kernel_rfl) (by simp) ?_
                refine AllReadyM.last (by rfl) (by omega) (fun K hK => ?_)
                go_simp
                refine hK.out _ _ ?_
                clear hK K k8 f8
                refine wpAnyM_done (by kernel_rfl) ?_ _
                have K9 := Lib.hid (K8.out.set_ 0 (.slice (some ⟨gg, 0, none⟩) (ne + 1) cap))
                have Y9 := Lib.hid (Y8.out.far (p := ⟨gf, 0, none⟩) (by show gx ≠ gf; omega) (.slice (some ⟨gg, 0, none⟩) (ne + 1) cap))
                have G9 := Lib.hid (G8.out.setCell (p := ⟨gf, 0, none⟩) (Nat.le_refl _) (.slice (some ⟨gg, 0, none⟩) (ne + 1) cap))
                have O9 := Lib.hid (own_far O8.out (p := ⟨gf, 0, none⟩) (Nat.lt_succ_self _) (.slice (some ⟨gg, 0, none⟩) (ne + 1) cap))
                clear K8 Y8 G8 O8 Q1 Q2 hes hi0 hz0 hz1 hz2
                generalize w8.setCell ⟨gf, 0, none⟩ (.slice (some ⟨gg, 0, none⟩) (ne + 1) cap) = w9 at *
                rw [HWT.out, if_pos rfl, if_pos (by rw [HNM.out]), if_neg (by omega)] at HST
                have BX9 := Lib.hid (BN.out.below G9.out HGN.out.2.1)
                have P9 := Lib.hid (PN.out.below G9.out HGN.out.2.2.1)
                have y9 := Y9.out.cell
                have p9 := P9.out.cell
                have gl9 : gp < w9.heap.size := P9.out.lt
                have gk9 : gx < w9.heap.size := Y9.out.lt
                have F9 : Hid (Below w.heap.size w w9) := FN.out.trans (G9.out.mono (by have := HGN.out; omega))
                have k9 := K9.out.cell
                have f9 := K9.out.frozen
                go_wp2_with fail
                refine (CF.out w9 F9.out (BX9.out.cell 0)).mono ?_
                rintro e w9 ⟨rfl, rfl⟩
                have K10 := Lib.hid (K9.out.set_ 1 (.int .i64 ia))
                have G10 := Lib.hid (G9.out.setCell (p := ⟨gf, 1, none⟩) (Nat.le_refl _) (.int .i64 ia))
                have O10 := Lib.hid (own_far O9.out (p := ⟨gf, 1, none⟩) (Nat.lt_succ_self _) (.int .i64 ia))
                have Y10 := Lib.hid (Y9.out.far (p := ⟨gf, 1, none⟩) (by show gx ≠ gf; omega) (.int .i64 ia))
                have P10 := Lib.hid (PN.out.below G10.out HGN.out.2.2.1)
                clear y9 p9 gl9 gk9
                have p10 := P10.out.cell
                have y10 := Y10.out.cell
                go_wp2_with fail
                go_roundw
                case rel => exact ⟨k + 1, some ⟨gg, 0, none⟩, ne + 1, cap, ia, es ++ [⟨ia, ib, bn, false, 0⟩], by omega, by go_num, HST, by show _ = _; rw [List.length_append, HNE.out]; rfl, K10, by show World.ownsRow _ _ _ _ _ _ _; rw [List.flatMap_append]; exact O10.out, G10⟩
                case measure => simp [intOf]; omega
              · go_wp2_with fail
                have hgx := HGX.out
                rw [← hgx] at X1 HXN HXL ⊢
                clear hgx HGX
                have Y1 := Lib.hid X1.out.drew
                have KY := Lib.hid KR1.out.drew
                have BY := Lib.hid BR1.out.drew
                have PY := Lib.hid PR1.out.drew
                have FY := Lib.hid FR1.out.drew
                have GY := Lib.hid GR1.out.drew
                have OY := Lib.hid OR1.out.drew
                have HXG := HXL.out
                clear X1 KR1 BR1 PR1 FR1 GR1 OR1 kp KR ORR GR FR BR PR HXL hlb hgpl s0 s1 s2 s3 s4 s5 s6 s7 s8
                generalize (wr.alloc (.cells #[.string bn, .string bf, .string bt, .int .i64 e3, .int .i64 e4, .int .i64 e5, .int .i64 e6, .int .i64 e7, .int .i64 e8] 42)) = wc at *
                have cc := C0.out _ FY.out (BY.out.cell 0)
                have ya := cc bf
                have yb := cc bt
                have CA := Lib.hid ya
                have CB := Lib.hid yb
                have CF := Lib.hid (fun (w' : World) hb hc => C0.out w' hb hc bf)
                have CT := Lib.hid (fun (w' : World) hb hc => C0.out w' hb hc bt)
                generalize Pl.idxT N.nodes bf = ia at *
                generalize Pl.idxT N.nodes bt = ib at *
                clear ya yb cc
                have hgfl : gf < wc.heap.size := KY.out.lt
                have KZ : Hid (Blk (wc.alloc (.cells #[.int .i64 ia, .int .i64 ib, .string bn, .bool false, .int .i64 0] 132)).drew gf 130 #[.slice Ae ne ce, .int .i64 pl, .slice none 0 0, .int .i64 ((n0 : Int) + 1)]) := KY.out.alloc _
                have YZ : Hid (Blk (wc.alloc (.cells #[.int .i64 ia, .int .i64 ib, .string bn, .bool false, .int .i64 0] 132)).drew gx 42 #[.string bn, .string bf, .string bt, .int .i64 e3, .int .i64 e4, .int .i64 e5, .int .i64 e6, .int .i64 e7, .int .i64 e8]) := Y1.out.alloc _
                have GZ : Hid (Below gf w3 (wc.alloc (.cells #[.int .i64 ia, .int .i64 ib, .string bn, .bool false, .int .i64 0] 132)).drew) := GY.out.alloc (by show gf ≤ wc.heap.size; omega) _
                have OZ : Hid ((wc.alloc (.cells #[.int .i64 ia, .int .i64 ib, .string bn, .bool false, .int .i64 0] 132)).drew.ownsRow (gf + 1) 132 5 (.slice Ae ne ce) ne (es.flatMap edgC)) := own_go OY.out ((Below.refl wc.heap.size wc.drew).alloc (Nat.le_refl _) _)
                have NZ : Hid (∀ j u, ([.int .i64 ia, .int .i64 ib, .string bn, .bool false, .int .i64 0] : List Value)[j]? = some u → (wc.alloc (.cells #[.int .i64 ia, .int .i64 ib, .string bn, .bool false, .int .i64 0] 132)).drew.cell? ((⟨wc.heap.size, 0, none⟩ : Addr).add j) = some u) := World.news_of_block (cs := #[.int .i64 ia, .int .i64 ib, .string bn, .bool false, .int .i64 0]) (t := 132) (fr := (0, 0)) (heap_alloc_new wc _)
                have SZ : (wc.alloc (.cells #[.int .i64 ia, .int .i64 ib, .string bn, .bool false, .int .i64 0] 132)).drew.heap.size = wc.heap.size + 1 := by simp
                have hes : es.length = ne := HNE.out
                have hnb := HNB.out
                have Q1 : ne + 1 ≤ maxLen := by unfold maxLen; omega
                have Q2 : (ne + 1) * 48 ≤ 140737488355328 := by omega
                have hi0 := HI0.out
                have hz0 := HZ0.out
                have hz1 := HZ1.out
                have hz2 := HZ2.out
                have hSw : (fun w' => w'.cell? ⟨gf, 0, none⟩ = some (.slice Ae ne ce) ∧ w'.cell? ⟨gx, 0, none⟩ = some (.string bn) ∧ w'.cell? ⟨gx, 1, none⟩ = some (.string bf) ∧ w'.cell? ⟨gx, 2, none⟩ = some (.string bt)) wc.drew := ⟨KY.out.cell 0, Y1.out.cell 0, Y1.out.cell 1, Y1.out.cell 2⟩
                refine wp_region_mid (fun w' => w'.cell? ⟨gf, 0, none⟩ = some (.slice Ae ne ce) ∧ w'.cell? ⟨gx, 0, none⟩ = some (.string bn) ∧ w'.cell? ⟨gx, 1, none⟩ = some (.string bf) ∧ w'.cell? ⟨gx, 2, none⟩ = some (.string bt)) 18 (by kernel_rfl) ?_
                refine wpAnyM_take 0 rfl (by kernel_rfl) (by kernel_rfl) (by kernel_rfl) (by kernel_rfl) (by kernel_rfl) (fun _ _ _ h => h) hSw (by rfl) (fun w' hSx => by (try dsimp only at hSx); go_simp; first | done | with_reducible rfl) ?_
                simp only [Act.put, List.setIfInBounds_toArray]
                refine wpAnyM_take 1 rfl (by kernel_rfl) (by kernel_rfl) (by kernel_rfl) (by kernel_rfl) (by kernel_rfl) (fun _ _ _ h => h) hSw (by rfl) (fun w' hSx => by (try dsimp only at hSx); go_simp; first | done | with_reducible rfl) ?_
                simp only [Act.put]
                refine wpAnyM_take 2 rfl (by kernel_rfl) (by kernel_rfl) (by kernel_rfl) (by kernel_rfl) (by kernel_rfl) (fun _ _ _ h => h) hSw (by rfl) (fun w' hSx => by (try dsimp only at hSx); go_simp; first | done | with_reducible rfl) ?_
                simp only [Act.put]
                refine wpAnyM_take 3 rfl (by kernel_rfl) (by kernel_rfl) (by kernel_rfl) (by kernel_rfl) (by kernel_rfl) (fun _ _ _ h => h) hSw (by rfl) (fun w' hSx => by (try dsimp only at hSx); go_simp; first | done | with_reducible rfl) ?_
                simp only [Act.put]
                refine wpAnyM_take 4 rfl (by kernel_rfl) (by kernel_rfl) (by kernel_rfl) (by kernel_rfl) (by kernel_rfl) (fun _ _ _ h => h) hSw (by rfl) (fun w' hSx => by (try dsimp only at hSx); go_simp; first | done | with_reducible rfl) ?_
                simp only [Act.put]
                refine wpAnyM_take 5 rfl (by kernel_rfl) (by kernel_rfl) (by kernel_rfl) (by kernel_rfl) (by kernel_rfl) (fun _ _ _ h => h) hSw (by rfl) (fun w' hSx => by (try dsimp only at hSx); go_simp; first | done | with_reducible rfl) ?_
                simp only [Act.put]
                refine wpAnyM_take 6 rfl (by kernel_rfl) (by kernel_rfl) (by kernel_rfl) (by kernel_rfl) (by kernel_rfl) (fun _ _ _ h => h) hSw (by rfl) (fun w' hSx => by (try dsimp only at hSx); go_simp; first | done | with_reducible rfl) ?_
                simp only [Act.put]
                refine wpAnyM_take 7 rfl (by kernel_rfl) (by kernel_rfl) (by kernel_rfl) (by kernel_rfl) (by kernel_rfl) (fun _ _ _ h => h) hSw (by rfl) (fun w' hSx => by (try dsimp only at hSx); go_simp; first | done | with_reducible rfl) ?_
                simp only [Act.put]
                refine wpAnyM_take 9 rfl (by kernel_rfl) (by kernel_rfl) (by kernel_rfl) (by kernel_rfl) (by kernel_rfl) (fun _ _ _ h => h) hSw (by rfl) (fun w' hSx => by (try dsimp only at hSx); go_simp; first | done | with_reducible rfl) ?_
                simp only [Act.put]
                refine wpAnyM_take 10 rfl (by kernel_rfl) (by kernel_rfl) (by kernel_rfl) (by kernel_rfl) (by kernel_rfl) (fun _ _ _ h => h) hSw (by rfl) (fun w' hSx => by (try dsimp only at hSx); go_simp; first | done | with_reducible rfl) ?_
                simp only [Act.put]
                refine wpAnyM_take 11 rfl (by kernel_rfl) (by kernel_rfl) (by kernel_rfl) (by kernel_rfl) (by kernel_rfl) (fun _ _ _ h => h) hSw (by rfl) (fun w' hSx => by (try dsimp only at hSx); go_simp; first | done | with_reducible rfl) ?_
                simp only [Act.put]
                refine wpAnyM_take 13 rfl (by kernel_rfl) (by kernel_rfl) (by kernel_rfl) (by kernel_rfl) (by kernel_rfl) (fun _ _ _ h => h) hSw (by rfl) (fun w' hSx => by (try dsimp only at hSx); go_simp; first | done | with_reducible rfl) ?_
                simp only [Act.put]
                refine wpAnyM_take 14 rfl (by kernel_rfl) (by kernel_rfl) (by kernel_rfl) (by kernel_rfl) (by kernel_rfl) (fun _ _ _ h => h) hSw (by rfl) (fun w' hSx => by (try dsimp only at hSx); go_simp; first | done | with_reducible rfl) ?_
                simp only [Act.put]
                refine wpAnyM_ready [8] (by kernel_rfl) (by simp) ?_
                refine AllReadyM.cons (by rfl) (fun K hK => ?_) AllReadyM.nil
                go_simp
                refine CA.out.mono ?_
                rintro e wz ⟨rfl, rfl⟩
                refine hK.out _ _ hSw ?_
                clear hK K

                refine wpAnyM_ready [12] (by kernel_rfl) (by simp) ?_
                refine AllReadyM.cons (by rfl) (fun K hK => ?_) AllReadyM.nil
                go_simp
                refine CB.out.mono ?_
                rintro e wz ⟨rfl, rfl⟩
                refine hK.out _ _ hSw ?_
                clear hK K
                refine wpAnyM_take 15 rfl (by kernel_rfl) (by kernel_rfl) (by kernel_rfl) (by kernel_rfl) (by kernel_rfl) (fun _ _ _ h => h) hSw (by rfl) (fun w' hSx => by (try dsimp only at hSx); go_simp; first | done | with_reducible rfl) ?_
                simp only [Act.put]
                refine wpAnyM_ready [16] (by kernel_rfl) (by simp) ?_
                refine AllReadyM.cons (by rfl) (fun K hK => ?_) AllReadyM.nil
                go_simp
                generalize (wc.alloc (.cells #[.int .i64 ia, .int .i64 ib, .string bn, .bool false, .int .i64 0] 132)).drew = wz at *
                refine hK.out _ _ ⟨KZ.out.cell 0, YZ.out.cell 0, YZ.out.cell 1, YZ.out.cell 2⟩ ?_
                clear hK K hSw
                refine wpAnyM_ready [17] (by kernel_rfl) (by simp) ?_
                refine AllReadyM.cons (by rfl) (fun K hK => ?_) AllReadyM.nil
                refine step_append_lies _ (by rfl) _ _ _ (by rfl) (gf + 1) 132 i0 _ 5 48 Try.underlying128 hi0 hz0 hz1 hz2 rfl (by omega) (.slice Ae ne ce) ne (es.flatMap edgC) (by rfl) OZ.out ⟨wc.heap.size, 0, none⟩ 1 1 [.int .i64 ia, .int .i64 ib, .string bn, .bool false, .int .i64 0] (by rfl) (by rfl) NZ.out (by simp [Value.oneCell']) (by omega) Q1 Q2 (by omega) (wc.heap.size + 1) SZ ?_
                intro gg cap w8 hown3 hgrow hat hlt3
                have K8 := Lib.hid (KZ.out.grown hgrow (own_ne OZ.out (.inl (Nat.lt_succ_self _))))
                have Y8 := Lib.hid (YZ.out.grown hgrow HXN.out)
                have G8 := Lib.hid (below_grown GZ.out hgrow OZ.out (by omega) (by omega))
                have O8 := Lib.hid hown3
                refine hK.out _ _ ⟨K8.out.cell 0, Y8.out.cell 0, Y8.out.cell 1, Y8.out.cell 2⟩ ?_
                clear hK K hgrow hown3 hat hlt3 KZ YZ GZ OZ NZ SZ hgfl
                refine wpAnyM_ready [18] (by kernel_rfl) (by simp) ?_
                refine AllReadyM.last (by rfl) (by omega) (fun K hK => ?_)
                go_simp
                refine hK.out _ _ ?_
                clear hK K
                refine wpAnyM_ready [19] (by kernel_rfl) (by simp) ?_
                refine AllReadyM.last (by rfl) (by omega) (fun K hK => ?_)
                go_simp
                refine hK.out _ _ ?_
                clear hK K
                have k8 := K8.out.cell
                have f8 := K8.out.frozen
                refine wpAnyM_ready [20] (by kernel_rfl) (by simp) ?_
                refine AllReadyM.last (by rfl) (by omega) (fun K hK => ?_)
                go_simp
                refine hK.out _ _ ?_
                clear hK K k8 f8
                refine wpAnyM_done (by kernel_rfl) ?_ _
                have K9 := Lib.hid (K8.out.set_ 0 (.slice (some ⟨gg, 0, none⟩) (ne + 1) cap))
                have Y9 := Lib.hid (Y8.out.far (p := ⟨gf, 0, none⟩) (by show gx ≠ gf; omega) (.slice (some ⟨gg, 0, none⟩) (ne + 1) cap))
                have G9 := Lib.hid (G8.out.setCell (p := ⟨gf, 0, none⟩) (Nat.le_refl _) (.slice (some ⟨gg, 0, none⟩) (ne + 1) cap))
                have O9 := Lib.hid (own_far O8.out (p := ⟨gf, 0, none⟩) (Nat.lt_succ_self _) (.slice (some ⟨gg, 0, none⟩) (ne + 1) cap))
                clear K8 Y8 G8 O8 Q1 Q2 hes hi0 hz0 hz1 hz2
                generalize w8.setCell ⟨gf, 0, none⟩ (.slice (some ⟨gg, 0, none⟩) (ne + 1) cap) = w9 at *
                rw [HWT.out, if_pos rfl, if_pos (by rw [HNM.out]), if_pos (by omega)] at HST
                have BX9 := Lib.hid (BN.out.below G9.out HGN.out.2.1)
                have P9 := Lib.hid (PN.out.below G9.out HGN.out.2.2.1)
                have y9 := Y9.out.cell
                have p9 := P9.out.cell
                have gl9 : gp < w9.heap.size := P9.out.lt
                have gk9 : gx < w9.heap.size := Y9.out.lt
                have F9 : Hid (Below w.heap.size w w9) := FN.out.trans (G9.out.mono (by have := HGN.out; omega))
                have k9 := K9.out.cell
                have f9 := K9.out.frozen
                go_wp2_with fail
                refine (CF.out w9 F9.out (BX9.out.cell 0)).mono ?_
                rintro e w9 ⟨rfl, rfl⟩
                have K10 := Lib.hid (K9.out.set_ 1 (.int .i64 ia))
                have G10 := Lib.hid (G9.out.setCell (p := ⟨gf, 1, none⟩) (Nat.le_refl _) (.int .i64 ia))
                have O10 := Lib.hid (own_far O9.out (p := ⟨gf, 1, none⟩) (Nat.lt_succ_self _) (.int .i64 ia))
                have Y10 := Lib.hid (Y9.out.far (p := ⟨gf, 1, none⟩) (by show gx ≠ gf; omega) (.int .i64 ia))
                have P10 := Lib.hid (PN.out.below G10.out HGN.out.2.2.1)
                clear y9 p9 gl9 gk9
                have p10 := P10.out.cell
                have y10 := Y10.out.cell
                go_wp2_with fail
                generalize w9.setCell ⟨gf, 1, none⟩ (.int .i64 ia) = w10 at *
                have B10 := Lib.hid (BN.out.below G10.out HGN.out.2.1)
                have F10 : Hid (Below w.heap.size w w10) := FN.out.trans (G10.out.mono (by have := HGN.out; omega))
                have k10 := K10.out.cell
                have f10 := K10.out.frozen
                refine (CT.out w10 F10.out (B10.out.cell 0)).mono ?_
                rintro e w10 ⟨rfl, rfl⟩
                have K11 := Lib.hid (K10.out.set_ 1 (.int .i64 ib))
                have G11 := Lib.hid (G10.out.setCell (p := ⟨gf, 1, none⟩) (Nat.le_refl _) (.int .i64 ib))
                have O11 := Lib.hid (own_far O10.out (p := ⟨gf, 1, none⟩) (Nat.lt_succ_self _) (.int .i64 ib))
                go_wp2_with fail
                go_roundw
                case rel => exact ⟨k + 1, some ⟨gg, 0, none⟩, ne + 1, cap, ib, es ++ [⟨ia, ib, bn, false, 0⟩], by omega, by go_num, HST, by show _ = _; rw [List.length_append, HNE.out]; rfl, K11, by show World.ownsRow _ _ _ _ _ _ _; rw [List.flatMap_append]; exact O11.out, G11⟩
                case measure => simp [intOf]; omega
            · have HWF : Hid (wb = false) := by
                show _ = _
                rw [HWB.out]
                simp [hnm]; omega
              have hnn : (bn.toList == br.toList) = true := by rw [hnm]; simp
              have HNM := Lib.hid hnm
              clear hnm
              have hp0 : (part == 0) = false := by simp; omega
              have hp1 : (part == 1000) = false := by simp; omega
              have hpl : pl = (n0 : Int) := HPL.out (by omega) (by omega)
              subst hpl
              go_wp2_with fail
              have hgx := HGX.out
              rw [← hgx] at X1 HXN HXL ⊢
              clear hgx HGX
              have Y1 := Lib.hid X1.out.drew
              have KY := Lib.hid KR1.out.drew
              have BY := Lib.hid BR1.out.drew
              have PY := Lib.hid PR1.out.drew
              have FY := Lib.hid FR1.out.drew
              have GY := Lib.hid GR1.out.drew
              have OY := Lib.hid OR1.out.drew
              have HXG := HXL.out
              clear X1 KR1 BR1 PR1 FR1 GR1 OR1 kp KR ORR GR FR BR PR HXL hlb hgpl s0 s1 s2 s3 s4 s5 s6 s7 s8
              generalize (wr.alloc (.cells #[.string bn, .string bf, .string bt, .int .i64 e3, .int .i64 e4, .int .i64 e5, .int .i64 e6, .int .i64 e7, .int .i64 e8] 42)) = wc at *
              have cc := C0.out _ FY.out (BY.out.cell 0)
              have ya := cc bf
              have yb := cc bt
              have CA := Lib.hid ya
              have CB := Lib.hid yb
              have CF := Lib.hid (fun (w' : World) hb hc => C0.out w' hb hc bf)
              have CT := Lib.hid (fun (w' : World) hb hc => C0.out w' hb hc bt)
              generalize Pl.idxT N.nodes bf = ia at *
              generalize Pl.idxT N.nodes bt = ib at *
              clear ya yb cc
              have hgfl : gf < wc.heap.size := KY.out.lt
              have KZ : Hid (Blk (wc.alloc (.cells #[.int .i64 (n0 : Int), .int .i64 ia, .string bn, .bool false, .int .i64 0, .int .i64 (n0 : Int), .int .i64 ib, .string bn, .bool false, .int .i64 0] 132)).drew gf 130 #[.slice Ae ne ce, .int .i64 n0, .slice none 0 0, .int .i64 ((n0 : Int) + 1)]) := KY.out.alloc _
              have YZ : Hid (Blk (wc.alloc (.cells #[.int .i64 (n0 : Int), .int .i64 ia, .string bn, .bool false, .int .i64 0, .int .i64 (n0 : Int), .int .i64 ib, .string bn, .bool false, .int .i64 0] 132)).drew gx 42 #[.string bn, .string bf, .string bt, .int .i64 e3, .int .i64 e4, .int .i64 e5, .int .i64 e6, .int .i64 e7, .int .i64 e8]) := Y1.out.alloc _
              have GZ : Hid (Below gf w3 (wc.alloc (.cells #[.int .i64 (n0 : Int), .int .i64 ia, .string bn, .bool false, .int .i64 0, .int .i64 (n0 : Int), .int .i64 ib, .string bn, .bool false, .int .i64 0] 132)).drew) := GY.out.alloc (by show gf ≤ wc.heap.size; omega) _
              have OZ : Hid ((wc.alloc (.cells #[.int .i64 (n0 : Int), .int .i64 ia, .string bn, .bool false, .int .i64 0, .int .i64 (n0 : Int), .int .i64 ib, .string bn, .bool false, .int .i64 0] 132)).drew.ownsRow (gf + 1) 132 5 (.slice Ae ne ce) ne (es.flatMap edgC)) := own_go OY.out ((Below.refl wc.heap.size wc.drew).alloc (Nat.le_refl _) _)
              have NZ : Hid (∀ j u, ([.int .i64 (n0 : Int), .int .i64 ia, .string bn, .bool false, .int .i64 0, .int .i64 (n0 : Int), .int .i64 ib, .string bn, .bool false, .int .i64 0] : List Value)[j]? = some u → (wc.alloc (.cells #[.int .i64 (n0 : Int), .int .i64 ia, .string bn, .bool false, .int .i64 0, .int .i64 (n0 : Int), .int .i64 ib, .string bn, .bool false, .int .i64 0] 132)).drew.cell? ((⟨wc.heap.size, 0, none⟩ : Addr).add j) = some u) := World.news_of_block (cs := #[.int .i64 (n0 : Int), .int .i64 ia, .string bn, .bool false, .int .i64 0, .int .i64 (n0 : Int), .int .i64 ib, .string bn, .bool false, .int .i64 0]) (t := 132) (fr := (0, 0)) (heap_alloc_new wc _)
              have SZ : (wc.alloc (.cells #[.int .i64 (n0 : Int), .int .i64 ia, .string bn, .bool false, .int .i64 0, .int .i64 (n0 : Int), .int .i64 ib, .string bn, .bool false, .int .i64 0] 132)).drew.heap.size = wc.heap.size + 1 := by simp
              have hes : es.length = ne := HNE.out
              have hnb := HNB.out
              have Q1 : ne + 2 ≤ maxLen := by unfold maxLen; omega
              have Q2 : (ne + 2) * 48 ≤ 140737488355328 := by omega
              have hi0 := HI0.out
              have hz0 := HZ0.out
              have hz1 := HZ1.out
              have hz2 := HZ2.out
              have hSw : (fun w' => w'.cell? ⟨gf, 0, none⟩ = some (.slice Ae ne ce) ∧ w'.cell? ⟨gf, 1, none⟩ = some (.int .i64 n0) ∧ w'.cell? ⟨gx, 0, none⟩ = some (.string bn) ∧ w'.cell? ⟨gx, 1, none⟩ = some (.string bf) ∧ w'.cell? ⟨gx, 2, none⟩ = some (.string bt)) wc.drew := ⟨KY.out.cell 0, KY.out.cell 1, Y1.out.cell 0, Y1.out.cell 1, Y1.out.cell 2⟩
              refine wp_region_mid (fun w' => w'.cell? ⟨gf, 0, none⟩ = some (.slice Ae ne ce) ∧ w'.cell? ⟨gf, 1, none⟩ = some (.int .i64 n0) ∧ w'.cell? ⟨gx, 0, none⟩ = some (.string bn) ∧ w'.cell? ⟨gx, 1, none⟩ = some (.string bf) ∧ w'.cell? ⟨gx, 2, none⟩ = some (.string bt)) 29 (by kernel_rfl) ?_
              refine wpAnyM_take 0 rfl (by kernel_rfl) (by kernel_rfl) (by kernel_rfl) (by kernel_rfl) (by kernel_rfl) (fun _ _ _ h => h) hSw (by rfl) (fun w' hSx => by (try dsimp only at hSx); go_simp; first | done | with_reducible rfl) ?_
              simp only [Act.put, List.setIfInBounds_toArray]
              refine wpAnyM_take 1 rfl (by kernel_rfl) (by kernel_rfl) (by kernel_rfl) (by kernel_rfl) (by kernel_rfl) (fun _ _ _ h => h) hSw (by rfl) (fun w' hSx => by (try dsimp only at hSx); go_simp; first | done | with_reducible rfl) ?_
              simp only [Act.put]
              refine wpAnyM_take 2 rfl (by kernel_rfl) (by kernel_rfl) (by kernel_rfl) (by kernel_rfl) (by kernel_rfl) (fun _ _ _ h => h) hSw (by rfl) (fun w' hSx => by (try dsimp only at hSx); go_simp; first | done | with_reducible rfl) ?_
              simp only [Act.put]
              refine wpAnyM_take 3 rfl (by kernel_rfl) (by kernel_rfl) (by kernel_rfl) (by kernel_rfl) (by kernel_rfl) (fun _ _ _ h => h) hSw (by rfl) (fun w' hSx => by (try dsimp only at hSx); go_simp; first | done | with_reducible rfl) ?_
              simp only [Act.put]
              refine wpAnyM_take 4 rfl (by kernel_rfl) (by kernel_rfl) (by kernel_rfl) (by kernel_rfl) (by kernel_rfl) (fun _ _ _ h => h) hSw (by rfl) (fun w' hSx => by (try dsimp only at hSx); go_simp; first | done | with_reducible rfl) ?_
              simp only [Act.put]
              refine wpAnyM_take 5 rfl (by kernel_rfl) (by kernel_rfl) (by kernel_rfl) (by kernel_rfl) (by kernel_rfl) (fun _ _ _ h => h) hSw (by rfl) (fun w' hSx => by (try dsimp only at hSx); go_simp; first | done | with_reducible rfl) ?_
              simp only [Act.put]
              refine wpAnyM_take 6 rfl (by kernel_rfl) (by kernel_rfl) (by kernel_rfl) (by kernel_rfl) (by kernel_rfl) (fun _ _ _ h => h) hSw (by rfl) (fun w' hSx => by (try dsimp only at hSx); go_simp; first | done | with_reducible rfl) ?_
              simp only [Act.put]
              refine wpAnyM_take 7 rfl (by kernel_rfl) (by kernel_rfl) (by kernel_rfl) (by kernel_rfl) (by kernel_rfl) (fun _ _ _ h => h) hSw (by rfl) (fun w' hSx => by (try dsimp only at hSx); go_simp; first | done | with_reducible rfl) ?_
              simp only [Act.put]
              refine wpAnyM_take 8 rfl (by kernel_rfl) (by kernel_rfl) (by kernel_rfl) (by kernel_rfl) (by kernel_rfl) (fun _ _ _ h => h) hSw (by rfl) (fun w' hSx => by (try dsimp only at hSx); go_simp; first | done | with_reducible rfl) ?_
              simp only [Act.put]
              refine wpAnyM_take 9 rfl (by kernel_rfl) (by kernel_rfl) (by kernel_rfl) (by kernel_rfl) (by kernel_rfl) (fun _ _ _ h => h) hSw (by rfl) (fun w' hSx => by (try dsimp only at hSx); go_simp; first | done | with_reducible rfl) ?_
              simp only [Act.put]
              refine wpAnyM_take 10 rfl (by kernel_rfl) (by kernel_rfl) (by kernel_rfl) (by kernel_rfl) (by kernel_rfl) (fun _ _ _ h => h) hSw (by rfl) (fun w' hSx => by (try dsimp only at hSx); go_simp; first | done | with_reducible rfl) ?_
              simp only [Act.put]
              refine wpAnyM_take 11 rfl (by kernel_rfl) (by kernel_rfl) (by kernel_rfl) (by kernel_rfl) (by kernel_rfl) (fun _ _ _ h => h) hSw (by rfl) (fun w' hSx => by (try dsimp only at hSx); go_simp; first | done | with_reducible rfl) ?_
              simp only [Act.put]
              refine wpAnyM_take 13 rfl (by kernel_rfl) (by kernel_rfl) (by kernel_rfl) (by kernel_rfl) (by kernel_rfl) (fun _ _ _ h => h) hSw (by rfl) (fun w' hSx => by (try dsimp only at hSx); go_simp; first | done | with_reducible rfl) ?_
              simp only [Act.put]
              refine wpAnyM_take 14 rfl (by kernel_rfl) (by kernel_rfl) (by kernel_rfl) (by kernel_rfl) (by kernel_rfl) (fun _ _ _ h => h) hSw (by rfl) (fun w' hSx => by (try dsimp only at hSx); go_simp; first | done | with_reducible rfl) ?_
              simp only [Act.put]
              refine wpAnyM_take 16 rfl (by kernel_rfl) (by kernel_rfl) (by kernel_rfl) (by kernel_rfl) (by kernel_rfl) (fun _ _ _ h => h) hSw (by rfl) (fun w' hSx => by (try dsimp only at hSx); go_simp; first | done | with_reducible rfl) ?_
              simp only [Act.put]
              refine wpAnyM_take 17 rfl (by kernel_rfl) (by kernel_rfl) (by kernel_rfl) (by kernel_rfl) (by kernel_rfl) (fun _ _ _ h => h) hSw (by rfl) (fun w' hSx => by (try dsimp only at hSx); go_simp; first | done | with_reducible rfl) ?_
              simp only [Act.put]
              refine wpAnyM_take 18 rfl (by kernel_rfl) (by kernel_rfl) (by kernel_rfl) (by kernel_rfl) (by kernel_rfl) (fun _ _ _ h => h) hSw (by rfl) (fun w' hSx => by (try dsimp only at hSx); go_simp; first | done | with_reducible rfl) ?_
              simp only [Act.put]
              refine wpAnyM_take 19 rfl (by kernel_rfl) (by kernel_rfl) (by kernel_rfl) (by kernel_rfl) (by kernel_rfl) (fun _ _ _ h => h) hSw (by rfl) (fun w' hSx => by (try dsimp only at hSx); go_simp; first | done | with_reducible rfl) ?_
              simp only [Act.put]
              refine wpAnyM_take 20 rfl (by kernel_rfl) (by kernel_rfl) (by kernel_rfl) (by kernel_rfl) (by kernel_rfl) (fun _ _ _ h => h) hSw (by rfl) (fun w' hSx => by (try dsimp only at hSx); go_simp; first | done | with_reducible rfl) ?_
              simp only [Act.put]
              refine wpAnyM_take 21 rfl (by kernel_rfl) (by kernel_rfl) (by kernel_rfl) (by kernel_rfl) (by kernel_rfl) (fun _ _ _ h => h) hSw (by rfl) (fun w' hSx => by (try dsimp only at hSx); go_simp; first | done | with_reducible rfl) ?_
              simp only [Act.put]
              refine wpAnyM_take 22 rfl (by kernel_rfl) (by kernel_rfl) (by kernel_rfl) (by kernel_rfl) (by kernel_rfl) (fun _ _ _ h => h) hSw (by rfl) (fun w' hSx => by (try dsimp only at hSx); go_simp; first | done | with_reducible rfl) ?_
              simp only [Act.put]
              refine wpAnyM_take 24 rfl (by kernel_rfl) (by kernel_rfl) (by kernel_rfl) (by kernel_rfl) (by kernel_rfl) (fun _ _ _ h => h) hSw (by rfl) (fun w' hSx => by (try dsimp only at hSx); go_simp; first | done | with_reducible rfl) ?_
              simp only [Act.put]
              refine wpAnyM_take 25 rfl (by kernel_rfl) (by kernel_rfl) (by kernel_rfl) (by kernel_rfl) (by kernel_rfl) (fun _ _ _ h => h) hSw (by rfl) (fun w' hSx => by (try dsimp only at hSx); go_simp; first | done | with_reducible rfl) ?_
              simp only [Act.put]
              refine wpAnyM_ready [12] (by kernel_rfl) (by simp) ?_
              refine AllReadyM.cons (by rfl) (fun K hK => ?_) AllReadyM.nil
              go_simp
              refine CA.out.mono ?_
              rintro e wz ⟨rfl, rfl⟩
              refine hK.out _ _ hSw ?_
              clear hK K
              refine wpAnyM_take 15 rfl (by kernel_rfl) (by kernel_rfl) (by kernel_rfl) (by kernel_rfl) (by kernel_rfl) (fun _ _ _ h => h) hSw (by rfl) (fun w' hSx => by (try dsimp only at hSx); go_simp; first | done | with_reducible rfl) ?_
              simp only [Act.put]
              refine wpAnyM_ready [23] (by kernel_rfl) (by simp) ?_
              refine AllReadyM.cons (by rfl) (fun K hK => ?_) AllReadyM.nil
              go_simp
              refine CB.out.mono ?_
              rintro e wz ⟨rfl, rfl⟩
              refine hK.out _ _ hSw ?_
              clear hK K
              refine wpAnyM_take 26 rfl (by kernel_rfl) (by kernel_rfl) (by kernel_rfl) (by kernel_rfl) (by kernel_rfl) (fun _ _ _ h => h) hSw (by rfl) (fun w' hSx => by (try dsimp only at hSx); go_simp; first | done | with_reducible rfl) ?_
              simp only [Act.put]
              refine wpAnyM_ready [27] (by kernel_rfl) (by simp) ?_
              refine AllReadyM.cons (by rfl) (fun K hK => ?_) AllReadyM.nil
              go_simp
              generalize (wc.alloc (.cells #[.int .i64 (n0 : Int), .int .i64 ia, .string bn, .bool false, .int .i64 0, .int .i64 (n0 : Int), .int .i64 ib, .string bn, .bool false, .int .i64 0] 132)).drew = wz at *
              refine hK.out _ _ ⟨KZ.out.cell 0, KZ.out.cell 1, YZ.out.cell 0, YZ.out.cell 1, YZ.out.cell 2⟩ ?_
              clear hK K hSw
              refine wpAnyM_ready [28] (by kernel_rfl) (by simp) ?_
              refine AllReadyM.cons (by rfl) (fun K hK => ?_) AllReadyM.nil
              refine step_append_lies _ (by rfl) _ _ _ (by rfl) (gf + 1) 132 i0 _ 5 48 Try.underlying128 hi0 hz0 hz1 hz2 rfl (by omega) (.slice Ae ne ce) ne (es.flatMap edgC) (by rfl) OZ.out ⟨wc.heap.size, 0, none⟩ 2 2 [.int .i64 (n0 : Int), .int .i64 ia, .string bn, .bool false, .int .i64 0, .int .i64 (n0 : Int), .int .i64 ib, .string bn, .bool false, .int .i64 0] (by rfl) (by rfl) NZ.out (by simp [Value.oneCell']) (by omega) Q1 Q2 (by omega) (wc.heap.size + 1) SZ ?_
              intro gg cap w8 hown3 hgrow hat hlt3
              have K8 := Lib.hid (KZ.out.grown hgrow (own_ne OZ.out (.inl (Nat.lt_succ_self _))))
              have Y8 := Lib.hid (YZ.out.grown hgrow HXN.out)
              have G8 := Lib.hid (below_grown GZ.out hgrow OZ.out (by omega) (by omega))
              have O8 := Lib.hid hown3
              refine hK.out _ _ ⟨K8.out.cell 0, K8.out.cell 1, Y8.out.cell 0, Y8.out.cell 1, Y8.out.cell 2⟩ ?_
              clear hK K hgrow hown3 hat hlt3 KZ YZ GZ OZ NZ SZ hgfl
              refine wpAnyM_ready [29] (by kernel_rfl) (by simp) ?_
              refine AllReadyM.last (by rfl) (by omega) (fun K hK => ?_)
              go_simp
              refine hK.out _ _ ?_
              clear hK K
              refine wpAnyM_ready [30] (by kernel_rfl) (by simp) ?_
              refine AllReadyM.last (by rfl) (by omega) (fun K hK => ?_)
              go_simp
              refine hK.out _ _ ?_
              clear hK K
              have k8 := K8.out.cell
              have f8 := K8.out.frozen
              refine wpAnyM_ready [31] (by kernel_rfl) (by simp) ?_
              refine AllReadyM.last (by rfl) (by omega) (fun K hK => ?_)
              go_simp
              refine hK.out _ _ ?_
              clear hK K k8 f8
              refine wpAnyM_done (by kernel_rfl) ?_ _
              have K9 := Lib.hid (K8.out.set_ 0 (.slice (some ⟨gg, 0, none⟩) (ne + 2) cap))
              have Y9 := Lib.hid (Y8.out.far (p := ⟨gf, 0, none⟩) (by show gx ≠ gf; omega) (.slice (some ⟨gg, 0, none⟩) (ne + 2) cap))
              have G9 := Lib.hid (G8.out.setCell (p := ⟨gf, 0, none⟩) (Nat.le_refl _) (.slice (some ⟨gg, 0, none⟩) (ne + 2) cap))
              have O9 := Lib.hid (own_far O8.out (p := ⟨gf, 0, none⟩) (Nat.lt_succ_self _) (.slice (some ⟨gg, 0, none⟩) (ne + 2) cap))
              clear K8 Y8 G8 O8 Q1 Q2 hes hi0 hz0 hz1 hz2
              generalize w8.setCell ⟨gf, 0, none⟩ (.slice (some ⟨gg, 0, none⟩) (ne + 2) cap) = w9 at *
              rw [HWF.out, if_neg (by simp)] at HST
              have P9 := Lib.hid (PN.out.below G9.out HGN.out.2.2.1)
              have y9 := Y9.out.cell
              have p9 := P9.out.cell
              have gl9 : gp < w9.heap.size := P9.out.lt
              have gk9 : gx < w9.heap.size := Y9.out.lt
              go_wp2_with fail
              go_roundw
              case rel => exact ⟨k + 1, some ⟨gg, 0, none⟩, ne + 2, cap, (n0 : Int), es ++ [⟨(n0 : Int), ia, bn, false, 0⟩, ⟨(n0 : Int), ib, bn, false, 0⟩], by omega, by go_num, HST, by show _ = _; rw [List.length_append, HNE.out]; rfl, K9, by show World.ownsRow _ _ _ _ _ _ _; rw [List.flatMap_append]; exact O9.out, G9⟩
              case measure => simp [intOf]; omega
          · have HWT : Hid (wb = true) := by
              show _ = _
              rw [HWB.out]
              have h : ¬ Pl.lst bn = Pl.lst br := fun e => hnm (Pl.lst_inj e)
              simp [h]
            have hne : (bn.toList == br.toList) = false := by
              rw [beq_eq_false_iff_ne, ByteArray.toList_eq, ByteArray.toList_eq]
              exact fun e => hnm (Pl.lst_inj e)
            go_wp2_with fail
            have hgx := HGX.out
            rw [← hgx] at X1 HXN HXL ⊢
            clear hgx HGX
            have Y1 := Lib.hid X1.out.drew
            have KY := Lib.hid KR1.out.drew
            have BY := Lib.hid BR1.out.drew
            have PY := Lib.hid PR1.out.drew
            have FY := Lib.hid FR1.out.drew
            have GY := Lib.hid GR1.out.drew
            have OY := Lib.hid OR1.out.drew
            have HXG := HXL.out
            clear X1 KR1 BR1 PR1 FR1 GR1 OR1 kp KR ORR GR FR BR PR HXL hlb hgpl s0 s1 s2 s3 s4 s5 s6 s7 s8
            generalize (wr.alloc (.cells #[.string bn, .string bf, .string bt, .int .i64 e3, .int .i64 e4, .int .i64 e5, .int .i64 e6, .int .i64 e7, .int .i64 e8] 42)) = wc at *
            have cc := C0.out _ FY.out (BY.out.cell 0)
            have ya := cc bf
            have yb := cc bt
            have CA := Lib.hid ya
            have CB := Lib.hid yb
            have CF := Lib.hid (fun (w' : World) hb hc => C0.out w' hb hc bf)
            have CT := Lib.hid (fun (w' : World) hb hc => C0.out w' hb hc bt)
            generalize Pl.idxT N.nodes bf = ia at *
            generalize Pl.idxT N.nodes bt = ib at *
            clear ya yb cc
            have hgfl : gf < wc.heap.size := KY.out.lt
            have KZ : Hid (Blk (wc.alloc (.cells #[.int .i64 ia, .int .i64 ib, .string bn, .bool false, .int .i64 0] 132)).drew gf 130 #[.slice Ae ne ce, .int .i64 pl, .slice none 0 0, .int .i64 ((n0 : Int) + 1)]) := KY.out.alloc _
            have YZ : Hid (Blk (wc.alloc (.cells #[.int .i64 ia, .int .i64 ib, .string bn, .bool false, .int .i64 0] 132)).drew gx 42 #[.string bn, .string bf, .string bt, .int .i64 e3, .int .i64 e4, .int .i64 e5, .int .i64 e6, .int .i64 e7, .int .i64 e8]) := Y1.out.alloc _
            have GZ : Hid (Below gf w3 (wc.alloc (.cells #[.int .i64 ia, .int .i64 ib, .string bn, .bool false, .int .i64 0] 132)).drew) := GY.out.alloc (by show gf ≤ wc.heap.size; omega) _
            have OZ : Hid ((wc.alloc (.cells #[.int .i64 ia, .int .i64 ib, .string bn, .bool false, .int .i64 0] 132)).drew.ownsRow (gf + 1) 132 5 (.slice Ae ne ce) ne (es.flatMap edgC)) := own_go OY.out ((Below.refl wc.heap.size wc.drew).alloc (Nat.le_refl _) _)
            have NZ : Hid (∀ j u, ([.int .i64 ia, .int .i64 ib, .string bn, .bool false, .int .i64 0] : List Value)[j]? = some u → (wc.alloc (.cells #[.int .i64 ia, .int .i64 ib, .string bn, .bool false, .int .i64 0] 132)).drew.cell? ((⟨wc.heap.size, 0, none⟩ : Addr).add j) = some u) := World.news_of_block (cs := #[.int .i64 ia, .int .i64 ib, .string bn, .bool false, .int .i64 0]) (t := 132) (fr := (0, 0)) (heap_alloc_new wc _)
            have SZ : (wc.alloc (.cells #[.int .i64 ia, .int .i64 ib, .string bn, .bool false, .int .i64 0] 132)).drew.heap.size = wc.heap.size + 1 := by simp
            have hes : es.length = ne := HNE.out
            have hnb := HNB.out
            have Q1 : ne + 1 ≤ maxLen := by unfold maxLen; omega
            have Q2 : (ne + 1) * 48 ≤ 140737488355328 := by omega
            have hi0 := HI0.out
            have hz0 := HZ0.out
            have hz1 := HZ1.out
            have hz2 := HZ2.out
            have hSw : (fun w' => w'.cell? ⟨gf, 0, none⟩ = some (.slice Ae ne ce) ∧ w'.cell? ⟨gx, 0, none⟩ = some (.string bn) ∧ w'.cell? ⟨gx, 1, none⟩ = some (.string bf) ∧ w'.cell? ⟨gx, 2, none⟩ = some (.string bt)) wc.drew := ⟨KY.out.cell 0, Y1.out.cell 0, Y1.out.cell 1, Y1.out.cell 2⟩
            refine wp_region_mid (fun w' => w'.cell? ⟨gf, 0, none⟩ = some (.slice Ae ne ce) ∧ w'.cell? ⟨gx, 0, none⟩ = some (.string bn) ∧ w'.cell? ⟨gx, 1, none⟩ = some (.string bf) ∧ w'.cell? ⟨gx, 2, none⟩ = some (.string bt)) 18 (by kernel_rfl) ?_
            refine wpAnyM_take 0 rfl (by kernel_rfl) (by kernel_rfl) (by kernel_rfl) (by kernel_rfl) (by kernel_rfl) (fun _ _ _ h => h) hSw (by rfl) (fun w' hSx => by (try dsimp only at hSx); go_simp; first | done | with_reducible rfl) ?_
            simp only [Act.put, List.setIfInBounds_toArray]
            refine wpAnyM_take 1 rfl (by kernel_rfl) (by kernel_rfl) (by kernel_rfl) (by kernel_rfl) (by kernel_rfl) (fun _ _ _ h => h) hSw (by rfl) (fun w' hSx => by (try dsimp only at hSx); go_simp; first | done | with_reducible rfl) ?_
            simp only [Act.put]
            refine wpAnyM_take 2 rfl (by kernel_rfl) (by kernel_rfl) (by kernel_rfl) (by kernel_rfl) (by kernel_rfl) (fun _ _ _ h => h) hSw (by rfl) (fun w' hSx => by (try dsimp only at hSx); go_simp; first | done | with_reducible rfl) ?_
            simp only [Act.put]
            refine wpAnyM_take 3 rfl (by kernel_rfl) (by kernel_rfl) (by kernel_rfl) (by kernel_rfl) (by kernel_rfl) (fun _ _ _ h => h) hSw (by rfl) (fun w' hSx => by (try dsimp only at hSx); go_simp; first | done | with_reducible rfl) ?_
            simp only [Act.put]
            refine wpAnyM_take 4 rfl (by kernel_rfl) (by kernel_rfl) (by kernel_rfl) (by kernel_rfl) (by kernel_rfl) (fun _ _ _ h => h) hSw (by rfl) (fun w' hSx => by (try dsimp only at hSx); go_simp; first | done | with_reducible rfl) ?_
            simp only [Act.put]
            refine wpAnyM_take 5 rfl (by kernel_rfl) (by kernel_rfl) (by kernel_rfl) (by kernel_rfl) (by kernel_rfl) (fun _ _ _ h => h) hSw (by rfl) (fun w' hSx => by (try dsimp only at hSx); go_simp; first | done | with_reducible rfl) ?_
            simp only [Act.put]
            refine wpAnyM_take 6 rfl (by kernel_rfl) (by kernel_rfl) (by kernel_rfl) (by kernel_rfl) (by kernel_rfl) (fun _ _ _ h => h) hSw (by rfl) (fun w' hSx => by (try dsimp only at hSx); go_simp; first | done | with_reducible rfl) ?_
            simp only [Act.put]
            refine wpAnyM_take 7 rfl (by kernel_rfl) (by kernel_rfl) (by kernel_rfl) (by kernel_rfl) (by kernel_rfl) (fun _ _ _ h => h) hSw (by rfl) (fun w' hSx => by (try dsimp only at hSx); go_simp; first | done | with_reducible rfl) ?_
            simp only [Act.put]
            refine wpAnyM_take 9 rfl (by kernel_rfl) (by kernel_rfl) (by kernel_rfl) (by kernel_rfl) (by kernel_rfl) (fun _ _ _ h => h) hSw (by rfl) (fun w' hSx => by (try dsimp only at hSx); go_simp; first | done | with_reducible rfl) ?_
            simp only [Act.put]
            refine wpAnyM_take 10 rfl (by kernel_rfl) (by kernel_rfl) (by kernel_rfl) (by kernel_rfl) (by kernel_rfl) (fun _ _ _ h => h) hSw (by rfl) (fun w' hSx => by (try dsimp only at hSx); go_simp; first | done | with_reducible rfl) ?_
            simp only [Act.put]
            refine wpAnyM_take 11 rfl (by kernel_rfl) (by kernel_rfl) (by kernel_rfl) (by kernel_rfl) (by kernel_rfl) (fun _ _ _ h => h) hSw (by rfl) (fun w' hSx => by (try dsimp only at hSx); go_simp; first | done | with_reducible rfl) ?_
            simp only [Act.put]
            refine wpAnyM_take 13 rfl (by kernel_rfl) (by kernel_rfl) (by kernel_rfl) (by kernel_rfl) (by kernel_rfl) (fun _ _ _ h => h) hSw (by rfl) (fun w' hSx => by (try dsimp only at hSx); go_simp; first | done | with_reducible rfl) ?_
            simp only [Act.put]
            refine wpAnyM_take 14 rfl (by kernel_rfl) (by kernel_rfl) (by kernel_rfl) (by kernel_rfl) (by kernel_rfl) (fun _ _ _ h => h) hSw (by rfl) (fun w' hSx => by (try dsimp only at hSx); go_simp; first | done | with_reducible rfl) ?_
            simp only [Act.put]
            refine wpAnyM_ready [8] (by kernel_rfl) (by simp) ?_
            refine AllReadyM.cons (by rfl) (fun K hK => ?_) AllReadyM.nil
            go_simp
            refine CA.out.mono ?_
            rintro e wz ⟨rfl, rfl⟩
            refine hK.out _ _ hSw ?_
            clear hK K

            refine wpAnyM_ready [12] (by kernel_rfl) (by simp) ?_
            refine AllReadyM.cons (by rfl) (fun K hK => ?_) AllReadyM.nil
            go_simp
            refine CB.out.mono ?_
            rintro e wz ⟨rfl, rfl⟩
            refine hK.out _ _ hSw ?_
            clear hK K
            refine wpAnyM_take 15 rfl (by kernel_rfl) (by kernel_rfl) (by kernel_rfl) (by kernel_rfl) (by kernel_rfl) (fun _ _ _ h => h) hSw (by rfl) (fun w' hSx => by (try dsimp only at hSx); go_simp; first | done | with_reducible rfl) ?_
            simp only [Act.put]
            refine wpAnyM_ready [16] (by kernel_rfl) (by simp) ?_
            refine AllReadyM.cons (by rfl) (fun K hK => ?_) AllReadyM.nil
            go_simp
            generalize (wc.alloc (.cells #[.int .i64 ia, .int .i64 ib, .string bn, .bool false, .int .i64 0] 132)).drew = wz at *
            refine hK.out _ _ ⟨KZ.out.cell 0, YZ.out.cell 0, YZ.out.cell 1, YZ.out.cell 2⟩ ?_
            clear hK K hSw
            refine wpAnyM_ready [17] (by kernel_rfl) (by simp) ?_
            refine AllReadyM.cons (by rfl) (fun K hK => ?_) AllReadyM.nil
            refine step_append_lies _ (by rfl) _ _ _ (by rfl) (gf + 1) 132 i0 _ 5 48 Try.underlying128 hi0 hz0 hz1 hz2 rfl (by omega) (.slice Ae ne ce) ne (es.flatMap edgC) (by rfl) OZ.out ⟨wc.heap.size, 0, none⟩ 1 1 [.int .i64 ia, .int .i64 ib, .string bn, .bool false, .int .i64 0] (by rfl) (by rfl) NZ.out (by simp [Value.oneCell']) (by omega) Q1 Q2 (by omega) (wc.heap.size + 1) SZ ?_
            intro gg cap w8 hown3 hgrow hat hlt3
            have K8 := Lib.hid (KZ.out.grown hgrow (own_ne OZ.out (.inl (Nat.lt_succ_self _))))
            have Y8 := Lib.hid (YZ.out.grown hgrow HXN.out)
            have G8 := Lib.hid (below_grown GZ.out hgrow OZ.out (by omega) (by omega))
            have O8 := Lib.hid hown3
            refine hK.out _ _ ⟨K8.out.cell 0, Y8.out.cell 0, Y8.out.cell 1, Y8.out.cell 2⟩ ?_
            clear hK K hgrow hown3 hat hlt3 KZ YZ GZ OZ NZ SZ hgfl
            refine wpAnyM_ready [18] (by kernel_rfl) (by simp) ?_
            refine AllReadyM.last (by rfl) (by omega) (fun K hK => ?_)
            go_simp
            refine hK.out _ _ ?_
            clear hK K
            refine wpAnyM_ready [19] (by kernel_rfl) (by simp) ?_
            refine AllReadyM.last (by rfl) (by omega) (fun K hK => ?_)
            go_simp
            refine hK.out _ _ ?_
            clear hK K
            have k8 := K8.out.cell
            have f8 := K8.out.frozen
            refine wpAnyM_ready [20] (by kernel_rfl) (by simp) ?_
            refine AllReadyM.last (by rfl) (by omega) (fun K hK => ?_)
            go_simp
            refine hK.out _ _ ?_
            clear hK K k8 f8
            refine wpAnyM_done (by kernel_rfl) ?_ _
            have K9 := Lib.hid (K8.out.set_ 0 (.slice (some ⟨gg, 0, none⟩) (ne + 1) cap))
            have Y9 := Lib.hid (Y8.out.far (p := ⟨gf, 0, none⟩) (by show gx ≠ gf; omega) (.slice (some ⟨gg, 0, none⟩) (ne + 1) cap))
            have G9 := Lib.hid (G8.out.setCell (p := ⟨gf, 0, none⟩) (Nat.le_refl _) (.slice (some ⟨gg, 0, none⟩) (ne + 1) cap))
            have O9 := Lib.hid (own_far O8.out (p := ⟨gf, 0, none⟩) (Nat.lt_succ_self _) (.slice (some ⟨gg, 0, none⟩) (ne + 1) cap))
            clear K8 Y8 G8 O8 Q1 Q2 hes hi0 hz0 hz1 hz2
            generalize w8.setCell ⟨gf, 0, none⟩ (.slice (some ⟨gg, 0, none⟩) (ne + 1) cap) = w9 at *
            rw [HWT.out, if_pos rfl, if_neg (fun e => hnm (Pl.lst_inj e))] at HST
            have P9 := Lib.hid (PN.out.below G9.out HGN.out.2.2.1)
            have y9 := Y9.out.cell
            have p9 := P9.out.cell
            have gl9 : gp < w9.heap.size := P9.out.lt
            have gk9 : gx < w9.heap.size := Y9.out.lt
            go_wp2_with fail
            go_roundw
            case rel => exact ⟨k + 1, some ⟨gg, 0, none⟩, ne + 1, cap, pl, es ++ [⟨ia, ib, bn, false, 0⟩], by omega, by go_num, HST, by show _ = _; rw [List.length_append, HNE.out]; rfl, K9, by show World.ownsRow _ _ _ _ _ _ _; rw [List.flatMap_append]; exact O9.out, G9⟩
            case measure => simp [intOf]; omega
        · have hke : k = n2 := by omega
          rw [hke] at HFD
          clear hke
          have HFE : Hid (Pl.fEdges N open_ br part = es ∧ Pl.fPlace N open_ br part = pl) := by
            show _ ∧ _
            unfold Pl.fEdges Pl.fPlace
            rw [L2.out, HFD.out]
            exact ⟨rfl, rfl⟩
          obtain ⟨j0, ji0, jz0, jz1, jz2⟩ := info_parts info_bool2
          have hmk : ∀ w, (Instr.makeSlice 110 (.int .i64 ((n0 : Int) + 1)) (.int .i64 ((n0 : Int) + 1))).run Try.prog w = .ok (.slice (some ⟨w.heap.size, 0, none⟩) (n0 + 1) (n0 + 1)) (w.alloc (.cells (bools (List.replicate (n0 + 1) false)).toArray 4)) := fun w => by
            have := run_make (P := Try.prog) w 110 4 j0 (.bool false) Try.underlying110 ji0 jz0 .i64 .i64 (n0 + 1) (n0 + 1) (by omega) (by omega) (by rw [jz2]; omega) (by omega)
            rw [jz1, show (Value.bool false).cells = #[.bool false] from rfl] at this
            rw [show (bools (List.replicate (n0 + 1) false)).toArray = madeCells #[.bool false] (n0 + 1) from by
              apply Array.ext'
              rw [toList_madeCells_one]
              unfold bools; simp]
            simpa using this
          clear ji0 jz0 jz1 jz2
          have kb := BR.out.cell
          have kf := KR.out.cell
          have kz := KR.out.frozen
          have K1 := Lib.hid (KR.out.alloc (.cells (bools (List.replicate (n0 + 1) false)).toArray 4))
          have kf1 := K1.out.cell
          have kz1 := K1.out.frozen
          have SX : Hid (Blk (wr.alloc (.cells (bools (List.replicate (n0 + 1) false)).toArray 4)) wr.heap.size 4 (bools (List.replicate (n0 + 1) false)).toArray) := Blk.new_ _ _ _ _ rfl
          have HON : Hid (some wr.heap.size ≠ (Value.slice Ae ne ce).ownBlock) := own_ne ORR.out (.inr (Nat.le_refl _))
          have HKL : Hid (gf < wr.heap.size) := KR.out.lt
          have hgn1 : gn < wr.heap.size := BR.out.lt
          have hgn2 : gf ≠ gn := by have := HGN.out; omega
          go_wp2_with fail
          have K5 := Lib.hid (K1.out.set_ 2 (.slice (some ⟨wr.heap.size, 0, none⟩) (n0 + 1) (n0 + 1)))
          have SK := Lib.hid (SX.out.far (p := ⟨gf, 2, none⟩) (by show wr.heap.size ≠ gf; have := HKL.out; omega) (.slice (some ⟨wr.heap.size, 0, none⟩) (n0 + 1) (n0 + 1)))
          have G5 := Lib.hid ((GR.out.alloc (by have := HKL.out; omega) (.cells (bools (List.replicate (n0 + 1) false)).toArray 4)).setCell (p := ⟨gf, 2, none⟩) (Nat.le_refl _) (.slice (some ⟨wr.heap.size, 0, none⟩) (n0 + 1) (n0 + 1)))
          have O5 := Lib.hid (own_far (own_go ORR.out ((Below.refl wr.heap.size wr).alloc (Nat.le_refl _) (.cells (bools (List.replicate (n0 + 1) false)).toArray 4))) (p := ⟨gf, 2, none⟩) (Nat.lt_succ_self _) (.slice (some ⟨wr.heap.size, 0, none⟩) (n0 + 1) (n0 + 1)))
          have HGS : Hid (gf < wr.heap.size ∧ some wr.heap.size ≠ (Value.slice Ae ne ce).ownBlock) := ⟨HKL.out, HON.out⟩
          have SZ5 : Hid (((wr.alloc (.cells (bools (List.replicate (n0 + 1) false)).toArray 4)).setCell ⟨gf, 2, none⟩ (.slice (some ⟨wr.heap.size, 0, none⟩) (n0 + 1) (n0 + 1))).heap.size = wr.heap.size + 1) := by show _ = _; simp
          obtain ⟨gs, hgs⟩ : ∃ g, g = wr.heap.size := ⟨_, rfl⟩
          clear kb kf kz kf1 kz1 K1 SX HON HKL hgn1 hgn2 KR ORR GR FR BR PR hmk
          rw [← hgs] at K5 SK G5 O5 HGS SZ5 ⊢
          clear hgs
          have SL : Hid ((List.replicate (n0 + 1) false).length = n0 + 1) := List.length_replicate
          generalize (wr.alloc (.cells (bools (List.replicate (n0 + 1) false)).toArray 4)).setCell ⟨gf, 2, none⟩ (.slice (some ⟨gs, 0, none⟩) (n0 + 1) (n0 + 1)) = w5 at *
          have B5 := Lib.hid (BN.out.below G5.out HGN.out.2.1)
          have F5 : Hid (Below w.heap.size w w5) := FN.out.trans (G5.out.mono (by have := HGN.out; omega))
          have SG : Hid (Below gs w5 w5) := Below.refl _ _
          go_loopw [175] (fun i wr => ∃ (k : Nat) (src : List Bool), k ≤ n3 ∧ i = .int .i64 k ∧ Hid (src = Pl.setS N.nodes ((N.gens.map Pl.Gen.node).take k) (List.replicate (n0 + 1) false)) ∧ Hid (src.length = n0 + 1) ∧ Hid (Blk wr gs 4 (bools src).toArray) ∧ Hid (Below gs w5 wr)) (fun i _ => n3 - (intOf i).toNat)
          case atStart => exact ⟨0, _, Nat.zero_le _, rfl, rfl, SL, SK, SG⟩
          case round =>
            clear SL SK SG
            obtain ⟨k, src, hk, rfl, HSE, SL, SK, SG⟩ := hrel
            have FR : Hid (Below w.heap.size w wr) := F5.out.trans (SG.out.mono (by have := HGN.out; have := HGS.out; omega))
            have BR := Lib.hid (B5.out.below SG.out (by have := HGN.out; have := HGS.out; omega))
            have KR := Lib.hid (K5.out.below SG.out HGS.out.1)
            by_cases hkn : k < n3
            · have hms := (HM.out.r3.below FR.out)
              obtain ⟨bs, os, rfl, hls, s0, s1, s2, s3, s4⟩ := gen_at hms hkn
              clear hms
              have HST := Lib.hid (Pl.setS_succ N.nodes (N.gens.map Pl.Gen.node) (List.replicate (n0 + 1) false) k (by simpa using hls))
              rw [← HSE.out] at HST
              have hnd := (HOK.out.gen _ (List.getElem_mem hls)).1
              simp only [List.getElem_map] at HST
              generalize N.gens[k] = dv at *
              obtain ⟨gnm, gnd, h2, h3, h4⟩ := dv
              simp only at *
              obtain ⟨hi0, hi1, _⟩ := Pl.idxT_mem hnd
              rw [L0.out] at hi1
              clear hnd
              have X1 := Lib.hid (Blk.new_ wr wr.heap.size 89 #[.string gnm, .string gnd, .int .i64 h2, .int .i64 h3, .int .i64 h4] rfl)
              have KR1 := Lib.hid (KR.out.alloc (.cells #[.string gnm, .string gnd, .int .i64 h2, .int .i64 h3, .int .i64 h4] 89))
              have SK1 := Lib.hid (SK.out.alloc (.cells #[.string gnm, .string gnd, .int .i64 h2, .int .i64 h3, .int .i64 h4] 89))
              have BR1 := Lib.hid (BR.out.alloc (.cells #[.string gnm, .string gnd, .int .i64 h2, .int .i64 h3, .int .i64 h4] 89))
              have FR1 := Lib.hid (FR.out.alloc FR.out.size (.cells #[.string gnm, .string gnd, .int .i64 h2, .int .i64 h3, .int .i64 h4] 89))
              have SG1 := Lib.hid (SG.out.alloc (by have := SK.out.lt; omega) (.cells #[.string gnm, .string gnd, .int .i64 h2, .int .i64 h3, .int .i64 h4] 89))
              have HXL : Hid (gs < wr.heap.size) := SK.out.lt
              obtain ⟨gx, hgx⟩ : ∃ g, g = wr.heap.size := ⟨_, rfl⟩
              have HGX := Lib.hid hgx
              clear hgx
              have hlb : wr.heap.size < wr.heap.size + 1 := Nat.lt_succ_self _
              go_wp2_with fail
              have hgx := HGX.out
              rw [← hgx] at X1 HXL ⊢
              clear hgx HGX hlb s0 s1 s2 s3 s4
              generalize (wr.alloc (.cells #[.string gnm, .string gnd, .int .i64 h2, .int .i64 h3, .int .i64 h4] 89)) = wc at *
              have CA := Lib.hid (C0.out wc.drew FR1.out.drew (BR1.out.drew.cell 0) gnd)
              generalize Pl.idxT N.nodes gnd = ia at *
              have hia : (ia.toNat : Int) = ia := by omega
              have hi2 : ia < (n0 : Int) + 1 := by omega
              have hSw : (fun w' : World => w'.cell? ⟨gf, 2, none⟩ = some (.slice (some ⟨gs, 0, none⟩) (n0 + 1) (n0 + 1)) ∧ w'.cell? ⟨gx, 1, none⟩ = some (.string gnd)) wc.drew := ⟨KR1.out.cell 2, X1.out.cell 1⟩
              refine wp_region_mid (fun w' : World => w'.cell? ⟨gf, 2, none⟩ = some (.slice (some ⟨gs, 0, none⟩) (n0 + 1) (n0 + 1)) ∧ w'.cell? ⟨gx, 1, none⟩ = some (.string gnd)) 9 (by kernel_rfl) ?_
              refine wpAnyM_take 0 rfl (by kernel_rfl) (by kernel_rfl) (by kernel_rfl) (by kernel_rfl) (by kernel_rfl) (fun _ _ _ h => h) hSw (by rfl) (fun w' hSx => by (try dsimp only at hSx); go_simp; first | done | with_reducible rfl) ?_
              simp only [Act.put, List.setIfInBounds_toArray]
              refine wpAnyM_take 1 rfl (by kernel_rfl) (by kernel_rfl) (by kernel_rfl) (by kernel_rfl) (by kernel_rfl) (fun _ _ _ h => h) hSw (by rfl) (fun w' hSx => by (try dsimp only at hSx); go_simp; first | done | with_reducible rfl) ?_
              simp only [Act.put]
              refine wpAnyM_take 2 rfl (by kernel_rfl) (by kernel_rfl) (by kernel_rfl) (by kernel_rfl) (by kernel_rfl) (fun _ _ _ h => h) hSw (by rfl) (fun w' hSx => by (try dsimp only at hSx); go_simp; first | done | with_reducible rfl) ?_
              simp only [Act.put]
              refine wpAnyM_take 3 rfl (by kernel_rfl) (by kernel_rfl) (by kernel_rfl) (by kernel_rfl) (by kernel_rfl) (fun _ _ _ h => h) hSw (by rfl) (fun w' hSx => by (try dsimp only at hSx); go_simp; first | done | with_reducible rfl) ?_
              simp only [Act.put]
              refine wpAnyM_take 4 rfl (by kernel_rfl) (by kernel_rfl) (by kernel_rfl) (by kernel_rfl) (by kernel_rfl) (fun _ _ _ h => h) hSw (by rfl) (fun w' hSx => by (try dsimp only at hSx); go_simp; first | done | with_reducible rfl) ?_
              simp only [Act.put]
              refine wpAnyM_take 5 rfl (by kernel_rfl) (by kernel_rfl) (by kernel_rfl) (by kernel_rfl) (by kernel_rfl) (fun _ _ _ h => h) hSw (by rfl) (fun w' hSx => by (try dsimp only at hSx); go_simp; first | done | with_reducible rfl) ?_
              simp only [Act.put]
              refine wpAnyM_take 6 rfl (by kernel_rfl) (by kernel_rfl) (by kernel_rfl) (by kernel_rfl) (by kernel_rfl) (fun _ _ _ h => h) hSw (by rfl) (fun w' hSx => by (try dsimp only at hSx); go_simp; first | done | with_reducible rfl) ?_
              simp only [Act.put]
              refine wpAnyM_ready [7] (by kernel_rfl) (by simp) ?_
              refine AllReadyM.cons (by rfl) (fun K hK => ?_) AllReadyM.nil
              go_simp
              refine CA.out.mono ?_
              rintro e wz ⟨rfl, rfl⟩
              refine hK.out _ _ hSw ?_
              clear hK K
              refine wpAnyM_take 8 rfl (by kernel_rfl) (by kernel_rfl) (by kernel_rfl) (by kernel_rfl) (by kernel_rfl) (fun _ _ _ h => h) hSw (by rfl) (fun w' hSx => by (try dsimp only at hSx); go_simp; first | done | with_reducible rfl) ?_
              simp only [Act.put]
              have hsl : ia.toNat < src.length := by have := SL.out; omega
              have kk : wc.drew.cell? ⟨gs, ia.toNat, none⟩ = some (.bool src[ia.toNat]) := by
                have := SK1.out.cell ia.toNat
                refine this.trans ?_
                unfold bools
                simp [hsl]
              have kf := SK1.out.drew.frozen
              refine wpAnyM_ready [9] (by kernel_rfl) (by simp) ?_
              refine AllReadyM.last (by rfl) (by omega) (fun K hK => ?_)
              go_simp
              refine hK.out _ _ ?_
              clear hK K
              refine wpAnyM_done (by kernel_rfl) ?_ _
              have e : (bools src).toArray.setIfInBounds ia.toNat (.bool true) = (bools (src.set ia.toNat true)).toArray := by unfold bools; simp [List.map_set]
              have SK2 := SK1.out.drew.set_ ia.toNat (.bool true)
              rw [e] at SK2
              have SK2 := Lib.hid SK2
              have SG2 := Lib.hid (SG1.out.drew.setCell (p := ⟨gs, ia.toNat, none⟩) (Nat.le_refl _) (.bool true))
              clear kk kf hsl e hSw hia hi0 hi1 hi2
              go_wp2_with fail
              go_roundw
              case rel => exact ⟨k + 1, src.set ia.toNat true, by omega, by go_num, HST.out.symm, by show _ = _; rw [List.length_set]; exact SL.out, SK2, SG2⟩
              case measure => simp [intOf]; omega
            · have hke : k = n3 := by omega
              rw [hke, List.take_of_length_le (by simp only [List.length_map]; have := L3.out; omega)] at HSE
              clear hke
              have kb := BR.out.cell
              go_wp2_with fail
              clear kb KR FR BR
              rw [HSE.out] at SL SK
              clear HSE
              go_loopw [192] (fun i wr => ∃ (k : Nat) (src : List Bool), k ≤ n5 ∧ i = .int .i64 k ∧ Hid (src = Pl.setS N.nodes ((N.stores.map Pl.Sto.node).take k) (Pl.setS N.nodes (N.gens.map Pl.Gen.node) (List.replicate (n0 + 1) false))) ∧ Hid (src.length = n0 + 1) ∧ Hid (Blk wr gs 4 (bools src).toArray) ∧ Hid (Below gs w5 wr)) (fun i _ => n5 - (intOf i).toNat)
              case atStart => exact ⟨0, _, Nat.zero_le _, rfl, rfl, SL, SK, SG⟩
              case round =>
                clear SL SK SG
                obtain ⟨k, src, hk, rfl, HSE, SL, SK, SG⟩ := hrel
                have FR : Hid (Below w.heap.size w wr) := F5.out.trans (SG.out.mono (by have := HGN.out; have := HGS.out; omega))
                have BR := Lib.hid (B5.out.below SG.out (by have := HGN.out; have := HGS.out; omega))
                have KR := Lib.hid (K5.out.below SG.out HGS.out.1)
                by_cases hkn : k < n5
                · have hms := (HM.out.r5.below FR.out)
                  obtain ⟨bs, os, rfl, hls, s0, s1, s2, s3, s4⟩ := sto_at hms hkn
                  clear hms
                  have HST := Lib.hid (Pl.setS_succ N.nodes (N.stores.map Pl.Sto.node) (Pl.setS N.nodes (N.gens.map Pl.Gen.node) (List.replicate (n0 + 1) false)) k (by simpa using hls))
                  rw [← HSE.out] at HST
                  have hnd := (HOK.out.sto _ (List.getElem_mem hls)).1
                  simp only [List.getElem_map] at HST
                  generalize N.stores[k] = dv at *
                  obtain ⟨gnm, gnd, h2, h3, h4⟩ := dv
                  simp only at *
                  obtain ⟨hi0, hi1, _⟩ := Pl.idxT_mem hnd
                  rw [L0.out] at hi1
                  clear hnd
                  have X1 := Lib.hid (Blk.new_ wr wr.heap.size 91 #[.string gnm, .string gnd, .int .i64 h2, .int .i64 h3, .int .i64 h4] rfl)
                  have KR1 := Lib.hid (KR.out.alloc (.cells #[.string gnm, .string gnd, .int .i64 h2, .int .i64 h3, .int .i64 h4] 91))
                  have SK1 := Lib.hid (SK.out.alloc (.cells #[.string gnm, .string gnd, .int .i64 h2, .int .i64 h3, .int .i64 h4] 91))
                  have BR1 := Lib.hid (BR.out.alloc (.cells #[.string gnm, .string gnd, .int .i64 h2, .int .i64 h3, .int .i64 h4] 91))
                  have FR1 := Lib.hid (FR.out.alloc FR.out.size (.cells #[.string gnm, .string gnd, .int .i64 h2, .int .i64 h3, .int .i64 h4] 91))
                  have SG1 := Lib.hid (SG.out.alloc (by have := SK.out.lt; omega) (.cells #[.string gnm, .string gnd, .int .i64 h2, .int .i64 h3, .int .i64 h4] 91))
                  have HXL : Hid (gs < wr.heap.size) := SK.out.lt
                  obtain ⟨gx, hgx⟩ : ∃ g, g = wr.heap.size := ⟨_, rfl⟩
                  have HGX := Lib.hid hgx
                  clear hgx
                  have hlb : wr.heap.size < wr.heap.size + 1 := Nat.lt_succ_self _
                  go_wp2_with fail
                  have hgx := HGX.out
                  rw [← hgx] at X1 HXL ⊢
                  clear hgx HGX hlb s0 s1 s2 s3 s4
                  generalize (wr.alloc (.cells #[.string gnm, .string gnd, .int .i64 h2, .int .i64 h3, .int .i64 h4] 91)) = wc at *
                  have CA := Lib.hid (C0.out wc.drew FR1.out.drew (BR1.out.drew.cell 0) gnd)
                  generalize Pl.idxT N.nodes gnd = ia at *
                  have hia : (ia.toNat : Int) = ia := by omega
                  have hi2 : ia < (n0 : Int) + 1 := by omega
                  have hSw : (fun w' : World => w'.cell? ⟨gf, 2, none⟩ = some (.slice (some ⟨gs, 0, none⟩) (n0 + 1) (n0 + 1)) ∧ w'.cell? ⟨gx, 1, none⟩ = some (.string gnd)) wc.drew := ⟨KR1.out.cell 2, X1.out.cell 1⟩
                  refine wp_region_mid (fun w' : World => w'.cell? ⟨gf, 2, none⟩ = some (.slice (some ⟨gs, 0, none⟩) (n0 + 1) (n0 + 1)) ∧ w'.cell? ⟨gx, 1, none⟩ = some (.string gnd)) 9 (by kernel_rfl) ?_
                  refine wpAnyM_take 0 rfl (by kernel_rfl) (by kernel_rfl) (by kernel_rfl) (by kernel_rfl) (by kernel_rfl) (fun _ _ _ h => h) hSw (by rfl) (fun w' hSx => by (try dsimp only at hSx); go_simp; first | done | with_reducible rfl) ?_
                  simp only [Act.put, List.setIfInBounds_toArray]
                  refine wpAnyM_take 1 rfl (by kernel_rfl) (by kernel_rfl) (by kernel_rfl) (by kernel_rfl) (by kernel_rfl) (fun _ _ _ h => h) hSw (by rfl) (fun w' hSx => by (try dsimp only at hSx); go_simp; first | done | with_reducible rfl) ?_
                  simp only [Act.put]
                  refine wpAnyM_take 2 rfl (by kernel_rfl) (by kernel_rfl) (by kernel_rfl) (by kernel_rfl) (by kernel_rfl) (fun _ _ _ h => h) hSw (by rfl) (fun w' hSx => by (try dsimp only at hSx); go_simp; first | done | with_reducible rfl) ?_
                  simp only [Act.put]
                  refine wpAnyM_take 3 rfl (by kernel_rfl) (by kernel_rfl) (by kernel_rfl) (by kernel_rfl) (by kernel_rfl) (fun _ _ _ h => h) hSw (by rfl) (fun w' hSx => by (try dsimp only at hSx); go_simp; first | done | with_reducible rfl) ?_
                  simp only [Act.put]
                  refine wpAnyM_take 4 rfl (by kernel_rfl) (by kernel_rfl) (by kernel_rfl) (by kernel_rfl) (by kernel_rfl) (fun _ _ _ h => h) hSw (by rfl) (fun w' hSx => by (try dsimp only at hSx); go_simp; first | done | with_reducible rfl) ?_
                  simp only [Act.put]
                  refine wpAnyM_take 5 rfl (by kernel_rfl) (by kernel_rfl) (by kernel_rfl) (by kernel_rfl) (by kernel_rfl) (fun _ _ _ h => h) hSw (by rfl) (fun w' hSx => by (try dsimp only at hSx); go_simp; first | done | with_reducible rfl) ?_
                  simp only [Act.put]
                  refine wpAnyM_take 6 rfl (by kernel_rfl) (by kernel_rfl) (by kernel_rfl) (by kernel_rfl) (by kernel_rfl) (fun _ _ _ h => h) hSw (by rfl) (fun w' hSx => by (try dsimp only at hSx); go_simp; first | done | with_reducible rfl) ?_
                  simp only [Act.put]
                  refine wpAnyM_ready [7] (by kernel_rfl) (by simp) ?_
                  refine AllReadyM.cons (by rfl) (fun K hK => ?_) AllReadyM.nil
                  go_simp
                  refine CA.out.mono ?_
                  rintro e wz ⟨rfl, rfl⟩
                  refine hK.out _ _ hSw ?_
                  clear hK K
                  refine wpAnyM_take 8 rfl (by kernel_rfl) (by kernel_rfl) (by kernel_rfl) (by kernel_rfl) (by kernel_rfl) (fun _ _ _ h => h) hSw (by rfl) (fun w' hSx => by (try dsimp only at hSx); go_simp; first | done | with_reducible rfl) ?_
                  simp only [Act.put]
                  have hsl : ia.toNat < src.length := by have := SL.out; omega
                  have kk : wc.drew.cell? ⟨gs, ia.toNat, none⟩ = some (.bool src[ia.toNat]) := by
                    have := SK1.out.cell ia.toNat
                    refine this.trans ?_
                    unfold bools
                    simp [hsl]
                  have kf := SK1.out.drew.frozen
                  refine wpAnyM_ready [9] (by kernel_rfl) (by simp) ?_
                  refine AllReadyM.last (by rfl) (by omega) (fun K hK => ?_)
                  go_simp
                  refine hK.out _ _ ?_
                  clear hK K
                  refine wpAnyM_done (by kernel_rfl) ?_ _
                  have e : (bools src).toArray.setIfInBounds ia.toNat (.bool true) = (bools (src.set ia.toNat true)).toArray := by unfold bools; simp [List.map_set]
                  have SK2 := SK1.out.drew.set_ ia.toNat (.bool true)
                  rw [e] at SK2
                  have SK2 := Lib.hid SK2
                  have SG2 := Lib.hid (SG1.out.drew.setCell (p := ⟨gs, ia.toNat, none⟩) (Nat.le_refl _) (.bool true))
                  clear kk kf hsl e hSw hia hi0 hi1 hi2
                  go_wp2_with fail
                  go_roundw
                  case rel => exact ⟨k + 1, src.set ia.toNat true, by omega, by go_num, HST.out.symm, by show _ = _; rw [List.length_set]; exact SL.out, SK2, SG2⟩
                  case measure => simp [intOf]; omega
                · have hke : k = n5 := by omega
                  rw [hke, List.take_of_length_le (by simp only [List.length_map]; have := L5.out; omega)] at HSE
                  clear hke
                  have kb := BR.out.cell
                  go_wp2_with fail
                  go_ret
                  have hcast : ((n0 + 1 : Nat) : Int) = (n0 : Int) + 1 := by omega
                  rw [HFE.out.1, HFE.out.2, L0.out]
                  refine ⟨gf, rfl, ⟨Ae, gs, ne, ce, ?_, ?_, HNE.out, ?_, ?_, HGS.out.1, ?_, by have := HGN.out; omega⟩, FR.out⟩
                  · rw [hcast]; exact KR.out
                  · refine O5.out.kept (row := some gs) ⟨SG.out.os, SG.out.tape, SG.out.output, SG.out.size, fun i hi hne => SG.out.block i (by have := SZ5.out; have : i ≠ gs := fun e => hne (by rw [e]); omega)⟩ (.inr HGS.out.2.symm)
                  · unfold Pl.fSrc
                    rw [L0.out, ← HSE.out]
                    exact SK.out
                  · exact HGS.out.2
                  · unfold Pl.fSrc
                    rw [L0.out, ← HSE.out]
                    exact SL.out
end Go.Proofs.Ytpamgeemmbbkkaa
