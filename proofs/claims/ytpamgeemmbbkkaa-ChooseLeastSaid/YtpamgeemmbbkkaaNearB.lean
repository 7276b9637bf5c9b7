/- The reference's Near gives the nodes that the place is connected with. Condition: the network is a good one and reads, the place is on a branch. -/
import Derived.Deep.LoopGhost
import Derived.Test.YtpamgeemmbbkkaaNearA
import Derived.Test.YtpamgeemmbbkkaaMid
import Derived.Test.YtpamgeemmbbkkaaFaultP
namespace Go.Proofs.Ytpamgeemmbbkkaa
open Go.RowKit
set_option maxRecDepth 100000
theorem bra_idx {N : Pl.Net} (hok : Pl.NetOk N) {br : ByteArray} {part : Int} {b : Pl.Bra} (hp : Pl.PlaceOk N br part b) :
    ∃ q : Nat, Pl.idxOf (fun z : Pl.Bra => z.name.toList == br.toList) N.branches = q ∧ ∃ h : q < N.branches.length, N.branches[q] = b := by
  unfold Pl.idxOf
  cases e : N.branches.findIdx? (fun z => z.name.toList == br.toList) with
  | none =>
    rw [List.findIdx?_eq_none_iff] at e
    have := e b hp.mem
    rw [hp.name] at this
    simp at this
  | some i =>
    rw [List.findIdx?_eq_some_iff_getElem] at e
    obtain ⟨hi, h1, _⟩ := e
    refine ⟨i, rfl, hi, Pl.bra_unique hok (List.getElem_mem hi) hp.mem ?_⟩
    rw [beq_iff_eq, ByteArray.toList_eq, ByteArray.toList_eq] at h1
    rw [Pl.lst_inj h1, hp.name]
theorem own_apart3 {w : World} {base n size : Nat} {e : TypeId} {v : Value} {xs : List Value} (h : w.ownsRow base e size v n xs) {g : Nat} (hne : some g ≠ v.ownBlock) (u : Value) : (w.setCell ⟨g, 0, none⟩ u).ownsRow base e size v n xs :=
  h.kept (row := some g) ⟨rfl, rfl, rfl, by simp, fun k _ hk => heap_setCell_other w ⟨g, 0, none⟩ k u (fun e => hk (by simp [e]))⟩ (.inr hne.symm)
/-- what Near leaves -/
def NearSaid (N : Pl.Net) (open_ : List ByteArray) (br : ByteArray) (part : Int) (b : Pl.Bra) (w : World) : Ending → World → Prop :=
  fun e w' => ∃ (A : Option Addr) (m c : Nat) (l : List Int), e = .returned (.slice A m c) ∧ Reads w' w'.heap.size 1 A m (ints l) ∧ l.Nodup ∧ (∀ v, v ∈ l ↔ Pl.NearR (Pl.PairN N open_ br part) (Pl.starts N part b) v) ∧ m ≤ 24 ∧ Below w.heap.size w w'
set_option maxHeartbeats 6400000 in
theorem near_any (M : MNet) (Ao : Option Addr) (no co : Nat) (open_ : List ByteArray) (br : ByteArray) (part : Int) (b : Pl.Bra) (w : World) (hM : NetIn w w.heap.size M) (hok : Pl.NetOk M.N) (hp : Pl.PlaceOk M.N br part b) (ho : Reads w w.heap.size 1 Ao no (txts open_)) (hno : no ≤ 9223372036854775807) :
    Calls Try.prog 38 #[vNet M, .slice Ao no co, vPlace br part] w (NearSaid M.N open_ br part b w) := by
  obtain ⟨q, hq, hql, hqb⟩ := bra_idx hok hp
  have CB := Lib.hid (fun (w1 : World) (hb : Below w.heap.size w w1) => branch_any M br w1 (hM.go hb))
  rw [hq] at CB
  have CN := Lib.hid (fun (x : ByteArray) (w1 : World) (hb : Below w.heap.size w w1) => node_any M x w1 (hM.go hb))
  have CH := Lib.hid (fun (x : ByteArray) (w1 : World) (hb : Below w.heap.size w w1) => hasText_any Ao no co open_ x w1 hno (ho.go hb))
  have CA := Lib.hid (fun (gn ga gk : Nat) (A : Option Addr) (m c : Nat) (l : List Int) (k : Nat) (x y : ByteArray) (w1 : World) (hb : Below w.heap.size w w1) => near1_any M gn ga gk A m c l k x y w1 (hM.go hb))
  have F0 := ((Below.refl w.heap.size w).alloc (Nat.le_refl _) (.cells (netC M) 29)).alloc (by simp) (.cells #[.string br, .int .i64 part] 34)
  have B0 := (Blk.new_ w w.heap.size 29 (netC M) rfl).alloc (.cells #[.string br, .int .i64 part] 34)
  have P0 := Blk.new_ (w.alloc (.cells (netC M) 29)) (w.heap.size + 1) 34 #[.string br, .int .i64 part] (by simp)
  have HM := Lib.hid hM
  have HOK := Lib.hid hok
  have HPK := Lib.hid hp
  have HQ : Hid (∃ h : q < M.N.branches.length, M.N.branches[q] = b) := ⟨hql, hqb⟩
  have hm2 := hM.r2.2
  have hm1 := hM.r1.2
  have hm0 := txts_len hM.r0
  have hq2 : q < M.n2 := by omega
  have hn0 : M.n0 ≤ 24 := by have := hok.nn; omega
  have hn1 : M.n1 ≤ 32 := by have := hok.ns; omega
  have hn2 : M.n2 ≤ 24 := by have := hok.nb; omega
  have HL0 := Lib.hid hm0
  have HL1 := Lib.hid hm1
  have HL2 := Lib.hid hm2
  clear hM hok hp ho hq hql hqb hm2 hm1 hm0
  unfold vNet vPlace at *
  obtain ⟨N, A0, n0, c0, A1, n1, c1, A2, n2, c2, A3, n3, c3, A4, n4, c4, A5, n5, c5⟩ := M
  unfold netC at *
  simp only at *
  have FW := Lib.hid (F0.alloc F0.size (.cells #[.slice none 0 0] 45))
  clear F0
  have BN := Lib.hid (B0.alloc (.cells #[.slice none 0 0] 45))
  have PN := Lib.hid (P0.alloc (.cells #[.slice none 0 0] 45))
  have VN : Hid (VRow (((w.alloc (.cells #[.slice A0 n0 c0, .slice A1 n1 c1, .slice A2 n2 c2, .slice A3 n3 c3, .slice A4 n4 c4, .slice A5 n5 c5] 29)).alloc (.cells #[.string br, .int .i64 part] 34)).alloc (.cells #[.slice none 0 0] 45)) (w.heap.size + 1 + 1) none 0 0 []) := ⟨Blk.new_ _ _ _ _ (by simp), World.ownsRow_nil _ _ _ _, rfl⟩
  clear B0 P0
  have k0 := BN.out.cell
  go_enter Try.func38, Try.ntmps38
  go_wp2_with fail
  generalize ((w.alloc (.cells #[.slice A0 n0 c0, .slice A1 n1 c1, .slice A2 n2 c2, .slice A3 n3 c3, .slice A4 n4 c4, .slice A5 n5 c5] 29)).alloc (.cells #[.string br, .int .i64 part] 34)).alloc (.cells #[.slice none 0 0] 45) = w3 at *
  clear k0
  obtain ⟨gn, hgn⟩ : ∃ g, g = w.heap.size := ⟨_, rfl⟩
  obtain ⟨gp, hgp⟩ : ∃ g, g = w.heap.size + 1 := ⟨_, rfl⟩
  obtain ⟨ga, hga⟩ : ∃ g, g = w.heap.size + 1 + 1 := ⟨_, rfl⟩
  have HG : Hid (w.heap.size ≤ gn ∧ gn < ga ∧ w.heap.size ≤ gp ∧ gp < ga ∧ gn ≠ gp) := ⟨by omega, by omega, by omega, by omega, by omega⟩
  rw [← hga, ← hgp, ← hgn]
  rw [← hga] at VN
  rw [← hgn] at BN
  rw [← hgp] at PN
  clear hga hgp hgn
  have HGL : Hid (ga < w3.heap.size) := VN.out.1.lt
  obtain ⟨hbq, hbe⟩ := HQ.out
  obtain ⟨b2, o2, rfl, hb2l, s0, s1, s2, s3, s4, s5, s6, s7, s8⟩ := bra_at (HM.out.r2.below FW.out) hq2
  rw [hbe] at s0 s1 s2 s3 s4 s5 s6 s7 s8
  have e0 := Wd.cell (BN.out.cell 0 : w3.cell? ⟨gn, 0, none⟩ = some (.slice A0 n0 c0))
  have e1 := Wd.cell (BN.out.cell 1 : w3.cell? ⟨gn, 1, none⟩ = some (.slice A1 n1 c1))
  have e2 := Wd.cell (BN.out.cell 2 : w3.cell? ⟨gn, 2, none⟩ = some (.slice (some ⟨b2, o2, none⟩) n2 c2))
  have e3 := Wd.cell (BN.out.cell 3 : w3.cell? ⟨gn, 3, none⟩ = some (.slice A3 n3 c3))
  have e4 := Wd.cell (BN.out.cell 4 : w3.cell? ⟨gn, 4, none⟩ = some (.slice A4 n4 c4))
  have e5 := Wd.cell (BN.out.cell 5 : w3.cell? ⟨gn, 5, none⟩ = some (.slice A5 n5 c5))
  have f0 := Wd.cell (PN.out.cell 0 : w3.cell? ⟨gp, 0, none⟩ = some (.string br))
  have t0 := Wd.cell s0
  have t1 := Wd.cell s1
  have t2 := Wd.cell s2
  have t3 := Wd.cell s3
  have t4 := Wd.cell s4
  have t5 := Wd.cell s5
  have t6 := Wd.cell s6
  have t7 := Wd.cell s7
  have t8 := Wd.cell s8
  have hq0 : (0 : Int) ≤ (q : Int) := by omega
  have hq1 : (q : Int) < (n2 : Int) := by omega
  clear s0 s1 s2 s3 s4 s5 s6 s7 s8
  apply wp_join (fun gb w' => Blk w' gb 42 #[.string b.name, .string b.from_, .string b.to_, .int .i64 b.x, .int .i64 b.tap, .int .i64 b.shift, .int .i64 b.limit, .int .i64 b.short, .int .i64 b.hold] ∧ w3.heap.size ≤ gb ∧ Below w3.heap.size w3 w')
  · have hSw : (fun w' => ∃ x : Wd w3, w' = x.val) w3.drew := ⟨⟨w3.drew, (Below.refl _ _).drew⟩, rfl⟩
    refine wp_region_mid (fun w' => ∃ x : Wd w3, w' = x.val) 10 (by kernel_rfl) ?_
    refine wpAnyM_take 0 rfl (by kernel_rfl) (by kernel_rfl) (by kernel_rfl) (by kernel_rfl) (by kernel_rfl) (fun _ _ _ h => by obtain ⟨_, h, _⟩ := h; cases h) hSw (by rfl) (fun w' hSx => by obtain ⟨xw, rfl⟩ := hSx; go_simp; first | done | with_reducible rfl) ?_
    simp only [Act.put, List.setIfInBounds_toArray]
    refine wpAnyM_take 1 rfl (by kernel_rfl) (by kernel_rfl) (by kernel_rfl) (by kernel_rfl) (by kernel_rfl) (fun _ _ _ h => by obtain ⟨_, h, _⟩ := h; cases h) hSw (by rfl) (fun w' hSx => by obtain ⟨xw, rfl⟩ := hSx; go_simp; first | done | with_reducible rfl) ?_
    simp only [Act.put]
    refine wpAnyM_take 2 rfl (by kernel_rfl) (by kernel_rfl) (by kernel_rfl) (by kernel_rfl) (by kernel_rfl) (fun _ _ _ h => by obtain ⟨_, h, _⟩ := h; cases h) hSw (by rfl) (fun w' hSx => by obtain ⟨xw, rfl⟩ := hSx; go_simp; first | done | with_reducible rfl) ?_
    simp only [Act.put]
    refine wpAnyM_take 3 rfl (by kernel_rfl) (by kernel_rfl) (by kernel_rfl) (by kernel_rfl) (by kernel_rfl) (fun _ _ _ h => by obtain ⟨_, h, _⟩ := h; cases h) hSw (by rfl) (fun w' hSx => by obtain ⟨xw, rfl⟩ := hSx; go_simp; first | done | with_reducible rfl) ?_
    simp only [Act.put]
    refine wpAnyM_take 4 rfl (by kernel_rfl) (by kernel_rfl) (by kernel_rfl) (by kernel_rfl) (by kernel_rfl) (fun _ _ _ h => by obtain ⟨_, h, _⟩ := h; cases h) hSw (by rfl) (fun w' hSx => by obtain ⟨xw, rfl⟩ := hSx; go_simp; first | done | with_reducible rfl) ?_
    simp only [Act.put]
    refine wpAnyM_ready [5, 8] (by kernel_rfl) (by simp) ?_
    refine AllReadyM.cons (by rfl) (fun K hK => ?_) (AllReadyM.cons (by rfl) (fun K hK => ?_) AllReadyM.nil)
    · go_simp
      refine (CB.out _ FW.out.drew).mono ?_
      rintro e w5 ⟨rfl, hb5⟩
      have b5 : Below w3.heap.size w3 w5 := (Below.refl w3.heap.size w3).drew.trans (hb5.mono (Nat.le_refl _))
      have hSw : (fun w' => ∃ x : Wd w3, w' = x.val) w5 := ⟨⟨w5, b5⟩, rfl⟩
      refine hK.out _ _ hSw ?_
      clear hK K hb5
      refine wpAnyM_take 6 rfl (by kernel_rfl) (by kernel_rfl) (by kernel_rfl) (by kernel_rfl) (by kernel_rfl) (fun _ _ _ h => by obtain ⟨_, h, _⟩ := h; cases h) hSw (by rfl) (fun w' hSx => by obtain ⟨xw, rfl⟩ := hSx; go_simp; first | done | with_reducible rfl) ?_
      simp only [Act.put]
      refine wpAnyM_take 7 rfl (by kernel_rfl) (by kernel_rfl) (by kernel_rfl) (by kernel_rfl) (by kernel_rfl) (fun _ _ _ h => by obtain ⟨_, h, _⟩ := h; cases h) hSw (by rfl) (fun w' hSx => by obtain ⟨xw, rfl⟩ := hSx; go_simp; first | done | with_reducible rfl) ?_
      simp only [Act.put]
      refine wpAnyM_ready [8] (by kernel_rfl) (by simp) ?_
      refine AllReadyM.cons (by rfl) (fun K hK => ?_) AllReadyM.nil
      go_simp
      have X6 := Blk.new_ w5 w5.heap.size 42 #[.string ⟨#[]⟩, .string ⟨#[]⟩, .string ⟨#[]⟩, .int .i64 0, .int .i64 0, .int .i64 0, .int .i64 0, .int .i64 0, .int .i64 0] rfl
      have b6 := b5.alloc b5.size (.cells #[.string ⟨#[]⟩, .string ⟨#[]⟩, .string ⟨#[]⟩, .int .i64 0, .int .i64 0, .int .i64 0, .int .i64 0, .int .i64 0, .int .i64 0] 42)
      have hg6 := b5.size
      generalize hgb : w5.heap.size = gb at *
      generalize w5.alloc (.cells #[.string ⟨#[]⟩, .string ⟨#[]⟩, .string ⟨#[]⟩, .int .i64 0, .int .i64 0, .int .i64 0, .int .i64 0, .int .i64 0, .int .i64 0] 42) = w6 at *
      have hSw : (fun w' => ∃ x : Wd w3, w' = x.val) w6 := ⟨⟨w6, b6⟩, rfl⟩
      refine hK.out _ _ hSw ?_
      clear hK K
      have k6 := X6.cell
      have z6 := X6.frozen
      refine wpAnyM_ready [9] (by kernel_rfl) (by simp) ?_
      refine AllReadyM.cons (by rfl) (fun K hK => ?_) AllReadyM.nil
      go_simp
      have X8 := (((((((((X6.set_ 0 (.string b.name)).set_ 1 (.string b.from_)).set_ 2 (.string b.to_)).set_ 3 (.int .i64 b.x)).set_ 4 (.int .i64 b.tap)).set_ 5 (.int .i64 b.shift)).set_ 6 (.int .i64 b.limit)).set_ 7 (.int .i64 b.short)).set_ 8 (.int .i64 b.hold))
      simp only [List.setIfInBounds_toArray, List.set_cons_zero, List.set_cons_succ] at X8
      have X9 := X8
      clear X8
      have b9 := (((((((((b6.setCell (p := ⟨gb, 0, none⟩) hg6 (.string b.name)).setCell (p := ⟨gb, 1, none⟩) hg6 (.string b.from_)).setCell (p := ⟨gb, 2, none⟩) hg6 (.string b.to_)).setCell (p := ⟨gb, 3, none⟩) hg6 (.int .i64 b.x)).setCell (p := ⟨gb, 4, none⟩) hg6 (.int .i64 b.tap)).setCell (p := ⟨gb, 5, none⟩) hg6 (.int .i64 b.shift)).setCell (p := ⟨gb, 6, none⟩) hg6 (.int .i64 b.limit)).setCell (p := ⟨gb, 7, none⟩) hg6 (.int .i64 b.short)).setCell (p := ⟨gb, 8, none⟩) hg6 (.int .i64 b.hold))
      refine hK.out _ _ ⟨⟨_, b9⟩, rfl⟩ ?_
      clear hK K
      exact wpAnyM_done (by kernel_rfl) ⟨gb, rfl, rfl, X9, hg6, b9⟩ _
    · go_simp
      have X6 := Blk.new_ w3 w3.heap.size 42 #[.string ⟨#[]⟩, .string ⟨#[]⟩, .string ⟨#[]⟩, .int .i64 0, .int .i64 0, .int .i64 0, .int .i64 0, .int .i64 0, .int .i64 0] rfl
      have b6 := ((Below.refl w3.heap.size w3).alloc (Nat.le_refl _) (.cells #[.string ⟨#[]⟩, .string ⟨#[]⟩, .string ⟨#[]⟩, .int .i64 0, .int .i64 0, .int .i64 0, .int .i64 0, .int .i64 0, .int .i64 0] 42)).drew
      have X6 : Blk (w3.alloc (.cells #[.string ⟨#[]⟩, .string ⟨#[]⟩, .string ⟨#[]⟩, .int .i64 0, .int .i64 0, .int .i64 0, .int .i64 0, .int .i64 0, .int .i64 0] 42)).drew w3.heap.size 42 #[.string ⟨#[]⟩, .string ⟨#[]⟩, .string ⟨#[]⟩, .int .i64 0, .int .i64 0, .int .i64 0, .int .i64 0, .int .i64 0, .int .i64 0] := X6
      generalize (w3.alloc (.cells #[.string ⟨#[]⟩, .string ⟨#[]⟩, .string ⟨#[]⟩, .int .i64 0, .int .i64 0, .int .i64 0, .int .i64 0, .int .i64 0, .int .i64 0] 42)).drew = w4 at *
      have hSw : (fun w' => ∃ x : Wd w3, w' = x.val) w4 := ⟨⟨w4, b6⟩, rfl⟩
      refine hK.out _ _ hSw ?_
      clear hK K
      refine wpAnyM_ready [5] (by kernel_rfl) (by simp) ?_
      refine AllReadyM.cons (by rfl) (fun K hK => ?_) AllReadyM.nil
      go_simp
      refine (CB.out _ (FW.out.trans (b6.mono FW.out.size))).mono ?_
      rintro e w5 ⟨rfl, hb5⟩
      have X7 := X6.go hb5
      have b7 := b6.trans (hb5.mono b6.size)
      have hSw : (fun w' => ∃ x : Wd w3, w' = x.val) w5 := ⟨⟨w5, b7⟩, rfl⟩
      refine hK.out _ _ hSw ?_
      clear hK K hb5 X6 b6
      refine wpAnyM_take 6 rfl (by kernel_rfl) (by kernel_rfl) (by kernel_rfl) (by kernel_rfl) (by kernel_rfl) (fun _ _ _ h => by obtain ⟨_, h, _⟩ := h; cases h) hSw (by rfl) (fun w' hSx => by obtain ⟨xw, rfl⟩ := hSx; go_simp; first | done | with_reducible rfl) ?_
      simp only [Act.put]
      refine wpAnyM_take 7 rfl (by kernel_rfl) (by kernel_rfl) (by kernel_rfl) (by kernel_rfl) (by kernel_rfl) (fun _ _ _ h => by obtain ⟨_, h, _⟩ := h; cases h) hSw (by rfl) (fun w' hSx => by obtain ⟨xw, rfl⟩ := hSx; go_simp; first | done | with_reducible rfl) ?_
      simp only [Act.put]
      have hg6 : w3.heap.size ≤ w3.heap.size := Nat.le_refl _
      have hgl : w3.heap.size < w5.heap.size := X7.lt
      have k6 := X7.cell
      have z6 := X7.frozen
      refine wpAnyM_ready [9] (by kernel_rfl) (by simp) ?_
      refine AllReadyM.cons (by rfl) (fun K hK => ?_) AllReadyM.nil
      go_simp
      have X8 := (((((((((X7.set_ 0 (.string b.name)).set_ 1 (.string b.from_)).set_ 2 (.string b.to_)).set_ 3 (.int .i64 b.x)).set_ 4 (.int .i64 b.tap)).set_ 5 (.int .i64 b.shift)).set_ 6 (.int .i64 b.limit)).set_ 7 (.int .i64 b.short)).set_ 8 (.int .i64 b.hold))
      simp only [List.setIfInBounds_toArray, List.set_cons_zero, List.set_cons_succ] at X8
      have X9 := X8
      clear X8
      have b9 := (((((((((b7.setCell (p := ⟨w3.heap.size, 0, none⟩) hg6 (.string b.name)).setCell (p := ⟨w3.heap.size, 1, none⟩) hg6 (.string b.from_)).setCell (p := ⟨w3.heap.size, 2, none⟩) hg6 (.string b.to_)).setCell (p := ⟨w3.heap.size, 3, none⟩) hg6 (.int .i64 b.x)).setCell (p := ⟨w3.heap.size, 4, none⟩) hg6 (.int .i64 b.tap)).setCell (p := ⟨w3.heap.size, 5, none⟩) hg6 (.int .i64 b.shift)).setCell (p := ⟨w3.heap.size, 6, none⟩) hg6 (.int .i64 b.limit)).setCell (p := ⟨w3.heap.size, 7, none⟩) hg6 (.int .i64 b.short)).setCell (p := ⟨w3.heap.size, 8, none⟩) hg6 (.int .i64 b.hold))
      refine hK.out _ _ ⟨⟨_, b9⟩, rfl⟩ ?_
      clear hK K
      exact wpAnyM_done (by kernel_rfl) ⟨w3.heap.size, rfl, rfl, X9, hg6, b9⟩ _
  · intro gb w4 hgb
    obtain ⟨hxb, hgl4, hb4⟩ := hgb
    have X4 := Lib.hid hxb
    have V4 := Lib.hid (VN.out.go hb4)
    have B4 := Lib.hid (BN.out.go hb4)
    have P4 := Lib.hid (PN.out.go hb4)
    have F4 := Lib.hid (FW.out.trans (hb4.mono FW.out.size))
    have HGB : Hid (ga < gb) := by show _ < _; have := HGL.out; omega
    clear e0 e1 e2 e3 e4 e5 f0 t0 t1 t2 t3 t4 t5 t6 t7 t8 hxb hb4 hgl4 VN BN PN FW CB hq0 hq1 hq2 hbe hbq HQ HGL
    have k0 := P4.out.cell
    have hplo := HPK.out.low
    have hphi := HPK.out.high
    have HID : Hid (∀ y, y = b.from_ ∨ y = b.to_ → 0 ≤ Pl.idxT N.nodes y ∧ Pl.idxT N.nodes y < n0) := fun y hy => by
      obtain ⟨h1, h2, _⟩ := HOK.out.bra b HPK.out.mem
      have h0 := HL0.out
      rcases hy with rfl | rfl
      · have := Pl.idxT_mem h1; exact ⟨this.1, by omega⟩
      · have := Pl.idxT_mem h2; exact ⟨this.1, by omega⟩
    have HNE : Hid (Pl.idxT N.nodes b.from_ ≠ Pl.idxT N.nodes b.to_) := fun e => by obtain ⟨h1, h2, h3, _⟩ := HOK.out.bra b HPK.out.mem; exact h3 (Pl.idxT_inj h1 h2 e)
    by_cases hpa : part < 1000
    · have hpa2 : (part : Int) < 1000 := hpa
      go_wp2_with fail
      have hSw : (fun w' => Blk w' ga 45 #[.slice none 0 0] ∧ Blk w' gn 29 #[.slice A0 n0 c0, .slice A1 n1 c1, .slice (some ⟨b2, o2, none⟩) n2 c2, .slice A3 n3 c3, .slice A4 n4 c4, .slice A5 n5 c5] ∧ Blk w' gb 42 #[.string b.name, .string b.from_, .string b.to_, .int .i64 b.x, .int .i64 b.tap, .int .i64 b.shift, .int .i64 b.limit, .int .i64 b.short, .int .i64 b.hold]) w4.drew := ⟨V4.out.1.drew, B4.out.drew, X4.out.drew⟩
      refine wp_region_mid (fun w' => Blk w' ga 45 #[.slice none 0 0] ∧ Blk w' gn 29 #[.slice A0 n0 c0, .slice A1 n1 c1, .slice (some ⟨b2, o2, none⟩) n2 c2, .slice A3 n3 c3, .slice A4 n4 c4, .slice A5 n5 c5] ∧ Blk w' gb 42 #[.string b.name, .string b.from_, .string b.to_, .int .i64 b.x, .int .i64 b.tap, .int .i64 b.shift, .int .i64 b.limit, .int .i64 b.short, .int .i64 b.hold]) 7 (by kernel_rfl) ?_
      refine wpAnyM_take 0 rfl (by kernel_rfl) (by kernel_rfl) (by kernel_rfl) (by kernel_rfl) (by kernel_rfl) (fun _ _ _ h => h) hSw (by rfl) (fun w' hSx => by obtain ⟨ha, hn, hb⟩ := hSx; have ha := ha.cell; have hn := hn.cell; have hb := hb.cell; go_simp; first | done | with_reducible rfl) ?_
      simp only [Act.put, List.setIfInBounds_toArray]
      refine wpAnyM_take 1 rfl (by kernel_rfl) (by kernel_rfl) (by kernel_rfl) (by kernel_rfl) (by kernel_rfl) (fun _ _ _ h => h) hSw (by rfl) (fun w' hSx => by obtain ⟨ha, hn, hb⟩ := hSx; have ha := ha.cell; have hn := hn.cell; have hb := hb.cell; go_simp; first | done | with_reducible rfl) ?_
      simp only [Act.put]
      refine wpAnyM_take 2 rfl (by kernel_rfl) (by kernel_rfl) (by kernel_rfl) (by kernel_rfl) (by kernel_rfl) (fun _ _ _ h => h) hSw (by rfl) (fun w' hSx => by obtain ⟨ha, hn, hb⟩ := hSx; have ha := ha.cell; have hn := hn.cell; have hb := hb.cell; go_simp; first | done | with_reducible rfl) ?_
      simp only [Act.put]
      refine wpAnyM_take 3 rfl (by kernel_rfl) (by kernel_rfl) (by kernel_rfl) (by kernel_rfl) (by kernel_rfl) (fun _ _ _ h => h) hSw (by rfl) (fun w' hSx => by obtain ⟨ha, hn, hb⟩ := hSx; have ha := ha.cell; have hn := hn.cell; have hb := hb.cell; go_simp; first | done | with_reducible rfl) ?_
      simp only [Act.put]
      refine wpAnyM_ready [4] (by kernel_rfl) (by simp) ?_
      refine AllReadyM.cons (by rfl) (fun K hK => ?_) AllReadyM.nil
      go_simp
      refine (CN.out b.from_ _ F4.out.drew).mono ?_
      rintro e w5 ⟨rfl, hb5⟩
      have d5 := (Below.refl w4.heap.size w4).drew.trans (hb5.mono (Nat.le_refl _))
      have V5 := Lib.hid (V4.out.go d5)
      have B5 := Lib.hid (B4.out.go d5)
      have X5 := Lib.hid (X4.out.go d5)
      have P5 := Lib.hid (P4.out.go d5)
      have F5 := Lib.hid (F4.out.trans (d5.mono F4.out.size))
      have hSw : (fun w' => Blk w' ga 45 #[.slice none 0 0] ∧ Blk w' gn 29 #[.slice A0 n0 c0, .slice A1 n1 c1, .slice (some ⟨b2, o2, none⟩) n2 c2, .slice A3 n3 c3, .slice A4 n4 c4, .slice A5 n5 c5] ∧ Blk w' gb 42 #[.string b.name, .string b.from_, .string b.to_, .int .i64 b.x, .int .i64 b.tap, .int .i64 b.shift, .int .i64 b.limit, .int .i64 b.short, .int .i64 b.hold]) w5 := ⟨V5.out.1, B5.out, X5.out⟩
      refine hK.out _ _ hSw ?_
      clear hK K hb5 d5
      refine wpAnyM_ready [5] (by kernel_rfl) (by simp) ?_
      refine AllReadyM.cons (by rfl) (fun K hK => ?_) AllReadyM.nil
      go_simp
      have d6 := (Below.refl w5.heap.size w5).alloc (Nat.le_refl _) (.cells #[.int .i64 (Pl.idxT N.nodes b.from_)] 3)
      have V6 := Lib.hid (V5.out.go d6)
      have B6 := Lib.hid (B5.out.go d6)
      have X6 := Lib.hid (X5.out.go d6)
      have P6 := Lib.hid (P5.out.go d6)
      have F6 := Lib.hid (F5.out.trans (d6.mono F5.out.size))
      have SZ : (w5.alloc (.cells #[.int .i64 (Pl.idxT N.nodes b.from_)] 3)).heap.size = w5.heap.size + 1 := by simp
      have NZ : Hid (∀ j u, [Value.int .i64 (Pl.idxT N.nodes b.from_)][j]? = some u → (w5.alloc (.cells #[.int .i64 (Pl.idxT N.nodes b.from_)] 3)).cell? ((⟨w5.heap.size, 0, none⟩ : Addr).add j) = some u) := World.news_of_block (cs := #[.int .i64 (Pl.idxT N.nodes b.from_)]) (t := 3) (fr := (0, 0)) (heap_alloc_new w5 _)
      generalize w5.alloc (.cells #[.int .i64 (Pl.idxT N.nodes b.from_)] 3) = w6 at *
      have hSw : (fun w' => Blk w' ga 45 #[.slice none 0 0] ∧ Blk w' gn 29 #[.slice A0 n0 c0, .slice A1 n1 c1, .slice (some ⟨b2, o2, none⟩) n2 c2, .slice A3 n3 c3, .slice A4 n4 c4, .slice A5 n5 c5] ∧ Blk w' gb 42 #[.string b.name, .string b.from_, .string b.to_, .int .i64 b.x, .int .i64 b.tap, .int .i64 b.shift, .int .i64 b.limit, .int .i64 b.short, .int .i64 b.hold]) w6 := ⟨V6.out.1, B6.out, X6.out⟩
      refine hK.out _ _ hSw ?_
      clear hK K d6 V5 B5 X5 P5 F5
      obtain ⟨j0, hj0, hjz0, hjz1, hjz2⟩ := info_parts info_int
      refine wpAnyM_ready [6] (by kernel_rfl) (by simp) ?_
      refine AllReadyM.cons (by rfl) (fun K hK => ?_) AllReadyM.nil
      refine step_append_lies _ (by rfl) _ _ _ (by rfl) (ga + 1) 3 j0 _ 1 8 Try.underlying45 hj0 hjz0 hjz1 hjz2 rfl (by omega) (.slice none 0 0) 0 (ints []) (by rfl) V6.out.2.1 ⟨w5.heap.size, 0, none⟩ 1 1 [.int .i64 (Pl.idxT N.nodes b.from_)] (by rfl) (by rfl) NZ.out (by simp [Value.oneCell']) (by omega) (by unfold maxLen; omega) (by omega) (by have := V6.out.1.lt; omega) (w5.heap.size + 1) SZ ?_
      intro gg cap w7 hown hgr hat hlt
      have hne : some ga ≠ (Value.slice none 0 0).ownBlock := own_ne V6.out.2.1 (.inl (Nat.lt_succ_self _))
      have hnn : some gn ≠ (Value.slice none 0 0).ownBlock := own_ne V6.out.2.1 (.inl (by have := HG.out; omega))
      have hnp : some gp ≠ (Value.slice none 0 0).ownBlock := own_ne V6.out.2.1 (.inl (by have := HG.out; omega))
      have hnb : some gb ≠ (Value.slice none 0 0).ownBlock := by simp [Value.ownBlock]
      have A7 := Lib.hid (V6.out.1.grown hgr hne)
      have B7 := Lib.hid (B6.out.grown hgr hnn)
      have X7 := Lib.hid (X6.out.grown hgr hnb)
      refine hK.out _ _ ⟨A7.out, B7.out, X7.out⟩ ?_
      clear hK K hSw
      have k7 := A7.out.cell
      have z7 := A7.out.frozen
      obtain ⟨A8, c18, hve, V8, O8⟩ := V6.out.push hown hgr (by rcases hat with h | h; exact .inl h.symm; exact .inr (by rw [SZ, ← h]; rfl))
      injection hve with hv1 _ hv3
      subst hv1 hv3
      have B8 := Lib.hid (O8.blk B6.out (by have := HG.out; omega) hnn)
      have P8 := Lib.hid (O8.blk P6.out (by have := HG.out; omega) hnp)
      have X8 := Lib.hid (O8.blk X6.out (by have := HGB.out; omega) hnb)
      have HNB : Hid (some gb ≠ (Value.slice (some ⟨gg, 0, none⟩) (0 + 1) cap).ownBlock) := fun e => by rcases O8.own gb e.symm with h | h; exact hnb h.symm; have := X6.out.lt; omega
      have F8 : Hid (Below w.heap.size w (w7.setCell ⟨ga, 0, none⟩ (.slice (some ⟨gg, 0, none⟩) (0 + 1) cap))) := F6.out.trans (O8.below (by have := HG.out; omega) F6.out.size (fun g hg => by have := (V6.out.2.1.lt g hg).1; have := HG.out; omega))
      have V8 := Lib.hid V8
      refine wpAnyM_ready [7] (by kernel_rfl) (by simp) ?_
      refine AllReadyM.last (by rfl) (by omega) (fun K hK => ?_)
      go_simp
      refine hK.out _ _ ?_
      clear hK K k7 z7 A7 B7 X7 V6 B6 X6 P6 F6 NZ SZ hown hgr hat hlt O8 hne hnn hnp hnb
      refine wpAnyM_done (by kernel_rfl) ?_ _
      generalize w7.setCell ⟨ga, 0, none⟩ (.slice (some ⟨gg, 0, none⟩) (0 + 1) cap) = w8 at *
      clear k0
      have k0 := P8.out.cell
      by_cases hpb : 0 < part
      · go_wp2_with fail
        have hSw : (fun w' => Blk w' ga 45 #[.slice (some ⟨gg, 0, none⟩) (0 + 1) cap] ∧ Blk w' gn 29 #[.slice A0 n0 c0, .slice A1 n1 c1, .slice (some ⟨b2, o2, none⟩) n2 c2, .slice A3 n3 c3, .slice A4 n4 c4, .slice A5 n5 c5] ∧ Blk w' gb 42 #[.string b.name, .string b.from_, .string b.to_, .int .i64 b.x, .int .i64 b.tap, .int .i64 b.shift, .int .i64 b.limit, .int .i64 b.short, .int .i64 b.hold]) w8.drew := ⟨V8.out.1.drew, B8.out.drew, X8.out.drew⟩
        refine wp_region_mid (fun w' => Blk w' ga 45 #[.slice (some ⟨gg, 0, none⟩) (0 + 1) cap] ∧ Blk w' gn 29 #[.slice A0 n0 c0, .slice A1 n1 c1, .slice (some ⟨b2, o2, none⟩) n2 c2, .slice A3 n3 c3, .slice A4 n4 c4, .slice A5 n5 c5] ∧ Blk w' gb 42 #[.string b.name, .string b.from_, .string b.to_, .int .i64 b.x, .int .i64 b.tap, .int .i64 b.shift, .int .i64 b.limit, .int .i64 b.short, .int .i64 b.hold]) 7 (by kernel_rfl) ?_
        refine wpAnyM_take 0 rfl (by kernel_rfl) (by kernel_rfl) (by kernel_rfl) (by kernel_rfl) (by kernel_rfl) (fun _ _ _ h => h) hSw (by rfl) (fun w' hSx => by obtain ⟨ha, hn, hb⟩ := hSx; have ha := ha.cell; have hn := hn.cell; have hb := hb.cell; go_simp; first | done | with_reducible rfl) ?_
        simp only [Act.put, List.setIfInBounds_toArray]
        refine wpAnyM_take 1 rfl (by kernel_rfl) (by kernel_rfl) (by kernel_rfl) (by kernel_rfl) (by kernel_rfl) (fun _ _ _ h => h) hSw (by rfl) (fun w' hSx => by obtain ⟨ha, hn, hb⟩ := hSx; have ha := ha.cell; have hn := hn.cell; have hb := hb.cell; go_simp; first | done | with_reducible rfl) ?_
        simp only [Act.put]
        refine wpAnyM_take 2 rfl (by kernel_rfl) (by kernel_rfl) (by kernel_rfl) (by kernel_rfl) (by kernel_rfl) (fun _ _ _ h => h) hSw (by rfl) (fun w' hSx => by obtain ⟨ha, hn, hb⟩ := hSx; have ha := ha.cell; have hn := hn.cell; have hb := hb.cell; go_simp; first | done | with_reducible rfl) ?_
        simp only [Act.put]
        refine wpAnyM_take 3 rfl (by kernel_rfl) (by kernel_rfl) (by kernel_rfl) (by kernel_rfl) (by kernel_rfl) (fun _ _ _ h => h) hSw (by rfl) (fun w' hSx => by obtain ⟨ha, hn, hb⟩ := hSx; have ha := ha.cell; have hn := hn.cell; have hb := hb.cell; go_simp; first | done | with_reducible rfl) ?_
        simp only [Act.put]
        refine wpAnyM_ready [4] (by kernel_rfl) (by simp) ?_
        refine AllReadyM.cons (by rfl) (fun K hK => ?_) AllReadyM.nil
        go_simp
        refine (CN.out b.to_ _ F8.out.drew).mono ?_
        rintro e w5 ⟨rfl, hb5⟩
        have d5 := (Below.refl w8.heap.size w8).drew.trans (hb5.mono (Nat.le_refl _))
        have V5 := Lib.hid (V8.out.go d5)
        have B5 := Lib.hid (B8.out.go d5)
        have X5 := Lib.hid (X8.out.go d5)
        have P5 := Lib.hid (P8.out.go d5)
        have F5 := Lib.hid (F8.out.trans (d5.mono F8.out.size))
        have hSw : (fun w' => Blk w' ga 45 #[.slice (some ⟨gg, 0, none⟩) (0 + 1) cap] ∧ Blk w' gn 29 #[.slice A0 n0 c0, .slice A1 n1 c1, .slice (some ⟨b2, o2, none⟩) n2 c2, .slice A3 n3 c3, .slice A4 n4 c4, .slice A5 n5 c5] ∧ Blk w' gb 42 #[.string b.name, .string b.from_, .string b.to_, .int .i64 b.x, .int .i64 b.tap, .int .i64 b.shift, .int .i64 b.limit, .int .i64 b.short, .int .i64 b.hold]) w5 := ⟨V5.out.1, B5.out, X5.out⟩
        refine hK.out _ _ hSw ?_
        clear hK K hb5 d5
        refine wpAnyM_ready [5] (by kernel_rfl) (by simp) ?_
        refine AllReadyM.cons (by rfl) (fun K hK => ?_) AllReadyM.nil
        go_simp
        have d6 := (Below.refl w5.heap.size w5).alloc (Nat.le_refl _) (.cells #[.int .i64 (Pl.idxT N.nodes b.to_)] 3)
        have V6 := Lib.hid (V5.out.go d6)
        have B6 := Lib.hid (B5.out.go d6)
        have X6 := Lib.hid (X5.out.go d6)
        have P6 := Lib.hid (P5.out.go d6)
        have F6 := Lib.hid (F5.out.trans (d6.mono F5.out.size))
        have SZ : (w5.alloc (.cells #[.int .i64 (Pl.idxT N.nodes b.to_)] 3)).heap.size = w5.heap.size + 1 := by simp
        have NZ : Hid (∀ j u, [Value.int .i64 (Pl.idxT N.nodes b.to_)][j]? = some u → (w5.alloc (.cells #[.int .i64 (Pl.idxT N.nodes b.to_)] 3)).cell? ((⟨w5.heap.size, 0, none⟩ : Addr).add j) = some u) := World.news_of_block (cs := #[.int .i64 (Pl.idxT N.nodes b.to_)]) (t := 3) (fr := (0, 0)) (heap_alloc_new w5 _)
        generalize w5.alloc (.cells #[.int .i64 (Pl.idxT N.nodes b.to_)] 3) = w6 at *
        have hSw : (fun w' => Blk w' ga 45 #[.slice (some ⟨gg, 0, none⟩) (0 + 1) cap] ∧ Blk w' gn 29 #[.slice A0 n0 c0, .slice A1 n1 c1, .slice (some ⟨b2, o2, none⟩) n2 c2, .slice A3 n3 c3, .slice A4 n4 c4, .slice A5 n5 c5] ∧ Blk w' gb 42 #[.string b.name, .string b.from_, .string b.to_, .int .i64 b.x, .int .i64 b.tap, .int .i64 b.shift, .int .i64 b.limit, .int .i64 b.short, .int .i64 b.hold]) w6 := ⟨V6.out.1, B6.out, X6.out⟩
        refine hK.out _ _ hSw ?_
        clear hK K d6 V5 B5 X5 P5 F5
        obtain ⟨j0, hj0, hjz0, hjz1, hjz2⟩ := info_parts info_int
        refine wpAnyM_ready [6] (by kernel_rfl) (by simp) ?_
        refine AllReadyM.cons (by rfl) (fun K hK => ?_) AllReadyM.nil
        refine step_append_lies _ (by rfl) _ _ _ (by rfl) (ga + 1) 3 j0 _ 1 8 Try.underlying45 hj0 hjz0 hjz1 hjz2 rfl (by omega) (.slice (some ⟨gg, 0, none⟩) (0 + 1) cap) (0 + 1) (ints ([] ++ [Pl.idxT N.nodes b.from_])) (by rfl) V6.out.2.1 ⟨w5.heap.size, 0, none⟩ 1 1 [.int .i64 (Pl.idxT N.nodes b.to_)] (by rfl) (by rfl) NZ.out (by simp [Value.oneCell']) (by omega) (by unfold maxLen; omega) (by omega) (by have := V6.out.1.lt; omega) (w5.heap.size + 1) SZ ?_
        intro gg9 cap9 w7 hown hgr hat hlt
        have hne : some ga ≠ (Value.slice (some ⟨gg, 0, none⟩) (0 + 1) cap).ownBlock := own_ne V6.out.2.1 (.inl (Nat.lt_succ_self _))
        have hnn : some gn ≠ (Value.slice (some ⟨gg, 0, none⟩) (0 + 1) cap).ownBlock := own_ne V6.out.2.1 (.inl (by have := HG.out; omega))
        have hnp : some gp ≠ (Value.slice (some ⟨gg, 0, none⟩) (0 + 1) cap).ownBlock := own_ne V6.out.2.1 (.inl (by have := HG.out; omega))
        have hnb : some gb ≠ (Value.slice (some ⟨gg, 0, none⟩) (0 + 1) cap).ownBlock := HNB.out
        have A7 := Lib.hid (V6.out.1.grown hgr hne)
        have B7 := Lib.hid (B6.out.grown hgr hnn)
        have X7 := Lib.hid (X6.out.grown hgr hnb)
        refine hK.out _ _ ⟨A7.out, B7.out, X7.out⟩ ?_
        clear hK K hSw
        have k7 := A7.out.cell
        have z7 := A7.out.frozen
        obtain ⟨A9, c19, hve, V9, O9⟩ := V6.out.push hown hgr (by rcases hat with h | h; exact .inl h.symm; exact .inr (by rw [SZ, ← h]; rfl))
        injection hve with hv1 _ hv3
        subst hv1 hv3
        have B9 := Lib.hid (O9.blk B6.out (by have := HG.out; omega) hnn)
        have P9 := Lib.hid (O9.blk P6.out (by have := HG.out; omega) hnp)
        have X9 := Lib.hid (O9.blk X6.out (by have := HGB.out; omega) hnb)
        have HNB : Hid (some gb ≠ (Value.slice (some ⟨gg9, 0, none⟩) ((0 + 1) + 1) cap9).ownBlock) := fun e => by rcases O9.own gb e.symm with h | h; exact hnb h.symm; have := X6.out.lt; omega
        have F9 : Hid (Below w.heap.size w (w7.setCell ⟨ga, 0, none⟩ (.slice (some ⟨gg9, 0, none⟩) ((0 + 1) + 1) cap9))) := F6.out.trans (O9.below (by have := HG.out; omega) F6.out.size (fun g hg => by have := (V6.out.2.1.lt g hg).1; have := HG.out; omega))
        have V9 := Lib.hid V9
        refine wpAnyM_ready [7] (by kernel_rfl) (by simp) ?_
        refine AllReadyM.last (by rfl) (by omega) (fun K hK => ?_)
        go_simp
        refine hK.out _ _ ?_
        clear hK K k7 z7 A7 B7 X7 V6 B6 X6 P6 F6 NZ SZ hown hgr hat hlt O9 hne hnn hnp hnb
        refine wpAnyM_done (by kernel_rfl) ?_ _
        generalize w7.setCell ⟨ga, 0, none⟩ (.slice (some ⟨gg9, 0, none⟩) ((0 + 1) + 1) cap9) = w9 at *
        clear k0
        have k0 := P9.out.cell
        have HGO : Hid (ga < w9.heap.size ∧ some w9.heap.size ≠ (Value.slice (some ⟨gg9, 0, none⟩) (0 + 1 + 1) cap9).ownBlock) := ⟨V9.out.1.lt, own_ne V9.out.2.1 (.inr (Nat.le_refl _))⟩
        have HTL : Hid (Pl.NTree (Pl.PairN N open_ br part) (Pl.starts N part b) n0 (([] ++ [Pl.idxT N.nodes b.from_]) ++ [Pl.idxT N.nodes b.to_])) := by
          have hid := HID.out b.from_ (.inl rfl)
          have hid2 := HID.out b.to_ (.inr rfl)
          have hs : Pl.starts N part b = [Pl.idxT N.nodes b.from_, Pl.idxT N.nodes b.to_] := by unfold Pl.starts; rw [if_pos hpa, if_pos hpb]; rfl
          rw [hs]
          exact ⟨by simpa using HNE.out, fun v hv => .start (by simpa using hv), fun v hv => by simpa using hv, fun v hv => by simp at hv; rcases hv with rfl | rfl; exact hid; exact hid2⟩
        have HDL : Hid (Pl.NDone (Pl.PairN N open_ br part) (([] ++ [Pl.idxT N.nodes b.from_]) ++ [Pl.idxT N.nodes b.to_]) 0) := fun i u h => absurd h (by omega)
        generalize (([] ++ [Pl.idxT N.nodes b.from_]) ++ [Pl.idxT N.nodes b.to_] : List Int) = l0 at *
        have KL := Lib.hid (Blk.new_ w9 w9.heap.size 3 #[.int .i64 0] rfl)
        have d5 := (Below.refl w9.heap.size w9).alloc (Nat.le_refl _) (.cells #[.int .i64 0] 3)
        have VL := Lib.hid (V9.out.go d5)
        have BL := Lib.hid (B9.out.go d5)
        have PL := Lib.hid (P9.out.go d5)
        have FL := Lib.hid (F9.out.trans (d5.mono F9.out.size))
        clear d5 hpa V9 B9 P9 F9
        go_wp2_with fail
        clear k0 hpb
        go_loopg [9] 25 (fun gg v wr => ∃ (gk k m c : Nat) (A : Option Addr) (l : List Int), k ≤ l.length ∧ 25 - k ≤ gg ∧ v = .pointer (some ⟨gk, 0, none⟩) ∧ Hid (VRow wr ga A m c l) ∧ Hid (Pl.NTree (Pl.PairN N open_ br part) (Pl.starts N part b) n0 l) ∧ Hid (Pl.NDone (Pl.PairN N open_ br part) l k) ∧ Hid (Blk wr gk 3 #[.int .i64 k]) ∧ Hid (ga < gk ∧ some gk ≠ (Value.slice A m c).ownBlock) ∧ Hid (Blk wr gn 29 #[.slice A0 n0 c0, .slice A1 n1 c1, .slice (some ⟨b2, o2, none⟩) n2 c2, .slice A3 n3 c3, .slice A4 n4 c4, .slice A5 n5 c5]) ∧ Hid (Blk wr gp 34 #[.string br, .int .i64 part]) ∧ Hid (Below w.heap.size w wr))
        case atStart => exact ⟨_, 0, _, _, _, l0, Nat.zero_le _, by omega, rfl, VL, HTL, HDL, KL, HGO, BL, PL, FL⟩
        case round =>
          clear VL HTL HDL KL HGO BL PL FL
          obtain ⟨gk, k, m, c, A, l, hkl, hgg, rfl, VL, HTL, HDL, KL, HGK, BL, PL, FL⟩ := hrel
          have hlm : l.length = m := VL.out.2.2
          have hsh := HTL.out.short
          have kv : wr.cell? ⟨ga, 0, none⟩ = some (.slice A m c) := VL.out.1.cell 0
          have kk : wr.cell? ⟨gk, 0, none⟩ = some (.int .i64 k) := KL.out.cell 0
          have kb := BL.out.cell
          by_cases hkm0 : k < m
          · go_wp2_with fail
            clear kv kk kb
            go_loopw [53] (fun i wr => ∃ (j m c : Nat) (A : Option Addr) (l2 : List Int), j ≤ n1 ∧ i = .int .i64 j ∧ Hid (VRow wr ga A m c l2) ∧ Hid (Pl.NTree (Pl.PairN N open_ br part) (Pl.starts N part b) n0 l2) ∧ Hid (∃ r, l2 = l ++ r) ∧ Hid (∀ j' (h : j' < N.switches.length), j' < j → Pl.shutS open_ N.switches[j'] = true → (Pl.idxT N.nodes N.switches[j'].a = l.getD k 0 → Pl.idxT N.nodes N.switches[j'].b ∈ l2) ∧ (Pl.idxT N.nodes N.switches[j'].b = l.getD k 0 → Pl.idxT N.nodes N.switches[j'].a ∈ l2)) ∧ Hid (Blk wr gk 3 #[.int .i64 k]) ∧ Hid (ga < gk ∧ some gk ≠ (Value.slice A m c).ownBlock) ∧ Hid (Blk wr gn 29 #[.slice A0 n0 c0, .slice A1 n1 c1, .slice (some ⟨b2, o2, none⟩) n2 c2, .slice A3 n3 c3, .slice A4 n4 c4, .slice A5 n5 c5]) ∧ Hid (Blk wr gp 34 #[.string br, .int .i64 part]) ∧ Hid (Below w.heap.size w wr)) (fun i _ => n1 - (intOf i).toNat)
            case atStart => exact ⟨0, _, _, _, l, Nat.zero_le _, rfl, VL, HTL, ⟨[], by simp⟩, (fun j' h h2 => absurd h2 (by omega)), KL, HGK, BL, PL, FL⟩
            case round =>
              clear VL KL HGK BL PL FL
              obtain ⟨j, m, c, A, l2, hj, rfl, VR, HT, HX, HSW, KR, HGK, BR, PR, FR⟩ := hrel
              have kb := BR.out.cell
              have hl2 : l2.length = m := VR.out.2.2
              have hkm : k < m := by obtain ⟨r, hr⟩ := HX.out; rw [hr] at hl2; simp at hl2; omega
              have hm9 : m ≤ 1000 := by have := HT.out.short; omega
              have HU : Hid (l.getD k 0 ∈ l2) := by obtain ⟨r, hr⟩ := HX.out; show _ ∈ _; rw [hr, List.getD_eq_getElem?_getD, List.getElem?_eq_getElem (by omega : k < l.length)]; exact List.mem_append_left _ (List.getElem_mem _)
              by_cases hjn : j < n1
              · have hms := (HM.out.r1.below FR.out)
                obtain ⟨bs, os, rfl, hls, s0, s1, s2, s3, s4⟩ := swi_at hms hjn
                clear hms
                have HMEM : Hid (N.switches[j] ∈ N.switches) := List.getElem_mem hls
                have HJE : Hid (∃ sw, sw = N.switches[j]) := ⟨_, rfl⟩
                obtain ⟨sw, hsw⟩ := HJE.out
                rw [← hsw] at s0 s1 s2 s3 s4 HMEM
                have HSWE := Lib.hid hsw
                clear hsw HJE
                have HSH : Hid (Pl.shutS open_ sw = (!sw.opened && !Pl.inB open_ sw.name)) := rfl
                have HOKS := Lib.hid (HOK.out.swi sw HMEM.out)
                have HPR : Hid (Pl.shutS open_ sw = true → Pl.PairN N open_ br part (Pl.idxT N.nodes sw.a) (Pl.idxT N.nodes sw.b)) := fun h => .inl ⟨sw, HMEM.out, h, rfl, rfl⟩
                have HI : Hid (0 ≤ Pl.idxT N.nodes sw.a ∧ Pl.idxT N.nodes sw.a < n0) := by have := Pl.idxT_mem HOKS.out.1; have h0 := HL0.out; exact ⟨this.1, by omega⟩
                have HJ : Hid (0 ≤ Pl.idxT N.nodes sw.b ∧ Pl.idxT N.nodes sw.b < n0) := by have := Pl.idxT_mem HOKS.out.2.1; have h0 := HL0.out; exact ⟨this.1, by omega⟩
                have CHS := Lib.hid (fun (w' : World) (hb : Below w.heap.size w w') => CH.out sw.name w' hb)
                generalize hib : Pl.inB open_ sw.name = ib at *
                clear hib
                have HSS : Hid (∀ x, x = Pl.shutS open_ sw → x = Pl.shutS open_ N.switches[j]) := fun x h => by rw [h, HSWE.out]
                obtain ⟨sn, sa, sb, sk, so⟩ := sw
                simp only at *
                have d5 := (Below.refl wr.heap.size wr).alloc (Nat.le_refl _) (.cells #[.string sn, .string sa, .string sb, .bool sk, .bool so] 50)
                have V5 := Lib.hid (VR.out.go d5)
                have K5 := Lib.hid (KR.out.go d5)
                have B5 := Lib.hid (BR.out.go d5)
                have P5 := Lib.hid (PR.out.go d5)
                have F5 := Lib.hid (FR.out.trans (d5.mono FR.out.size))
                have hlb : wr.heap.size < wr.heap.size + 1 := Nat.lt_succ_self _
                clear d5
                cases so
                · cases ib
                  · have hsh : Pl.shutS open_ ⟨sn, sa, sb, sk, false⟩ = true := by rw [HSH.out]; rfl
                    have HPR := Lib.hid (HPR.out hsh)
                    clear hsh
                    go_wp2_with fail
                    refine (CHS.out _ F5.out).mono ?_
                    rintro e w5 ⟨rfl, rfl⟩
                    go_wp2_with fail
                    refine (CA.out gn ga gk A m c l2 k sa sb _ F5.out B5.out V5.out K5.out hkm hm9 HG.out.2.1 (by have := HGK.out; omega) HGK.out.2).mono ?_
                    rintro e w7 ⟨rfl, A7, m7, c7, hv7, hm7, ho7⟩
                    have V7 := Lib.hid hv7
                    have K7 := Lib.hid (ho7.blk K5.out (by have := HGK.out; omega) HGK.out.2)
                    have B7 := Lib.hid (ho7.blk B5.out (by have := HG.out; omega) (own_ne V5.out.2.1 (.inl (by have := HG.out; omega))))
                    have P7 := Lib.hid (ho7.blk P5.out (by have := HG.out; omega) (own_ne V5.out.2.1 (.inl (by have := HG.out; omega))))
                    have F7 : Hid (Below w.heap.size w w7) := F5.out.trans (ho7.below (by have := HG.out; omega) F5.out.size (fun g hg => by have := (V5.out.2.1.lt g hg).1; have := HG.out; omega))
                    have HG7 : Hid (ga < gk ∧ some gk ≠ (Value.slice A7 m7 c7).ownBlock) := ⟨HGK.out.1, fun e => by rcases ho7.own gk e.symm with h | h; exact HGK.out.2 h.symm; have := K5.out.lt; omega⟩
                    have HT7 := Lib.hid (Pl.nearAdd_tree HT.out HU.out (i := Pl.idxT N.nodes sa) (j := Pl.idxT N.nodes sb) HPR.out HI.out HJ.out)
                    have HX7 : Hid (∃ r, Pl.nearAdd l2 (l.getD k 0) (Pl.idxT N.nodes sa) (Pl.idxT N.nodes sb) = l ++ r) := by
                      obtain ⟨r, hr⟩ := HX.out
                      obtain ⟨r2, hr2⟩ := Pl.nearAdd_pre l2 (l.getD k 0) (Pl.idxT N.nodes sa) (Pl.idxT N.nodes sb)
                      exact ⟨r ++ r2, by rw [hr2, hr, List.append_assoc]⟩
                    have HH7 := Lib.hid (Pl.nearAdd_has l2 (l.getD k 0) (Pl.idxT N.nodes sa) (Pl.idxT N.nodes sb))
                    have HSB : Hid (∀ v, v ∈ l2 → v ∈ Pl.nearAdd l2 (l.getD k 0) (Pl.idxT N.nodes sa) (Pl.idxT N.nodes sb)) := fun v hv => by obtain ⟨r2, hr2⟩ := Pl.nearAdd_pre l2 (l.getD k 0) (Pl.idxT N.nodes sa) (Pl.idxT N.nodes sb); rw [hr2]; exact List.mem_append_left _ hv
                    have HLU : Hid (l2.getD k 0 = l.getD k 0) := by obtain ⟨r, hr⟩ := HX.out; show _ = _; rw [hr, List.getD_eq_getElem?_getD, List.getElem?_append_left (by omega), List.getD_eq_getElem?_getD]
                    rw [HLU.out] at V7
                    clear hv7 ho7
                    clear s0 s1 s2 s3 s4 hlb kb
                    go_wp2_with fail
                    go_roundw
                    case rel => exact ⟨j + 1, m7, c7, A7, _, by omega, by go_num, V7, HT7, HX7, (fun j' h h2 h3 => by
                      by_cases e : j' = j
                      · subst e; rw [← HSWE.out]; exact HH7.out
                      · have := HSW.out j' h (by omega) h3; exact ⟨fun h4 => HSB.out _ (this.1 h4), fun h4 => HSB.out _ (this.2 h4)⟩), K7, HG7, B7, P7, F7⟩
                    case measure => simp [intOf]; omega
                  · go_wp2_with fail
                    refine (CHS.out _ F5.out).mono ?_
                    rintro e w5 ⟨rfl, rfl⟩
                    go_wp2_with fail
                    go_roundw
                    case rel => exact ⟨j + 1, m, c, A, l2, by omega, by go_num, V5, HT, HX, (fun j' h h2 h3 => by
                      by_cases e : j' = j
                      · subst e; rw [← HSWE.out, HSH.out] at h3; simp at h3
                      · exact HSW.out j' h (by omega) h3), K5, HGK, B5, P5, F5⟩
                    case measure => simp [intOf]; omega
                · go_wp2_with fail
                  go_roundw
                  case rel => exact ⟨j + 1, m, c, A, l2, by omega, by go_num, V5, HT, HX, (fun j' h h2 h3 => by
                    by_cases e : j' = j
                    · subst e; rw [← HSWE.out, HSH.out] at h3; simp at h3
                    · exact HSW.out j' h (by omega) h3), K5, HGK, B5, P5, F5⟩
                  case measure => simp [intOf]; omega
              · skip
                have HSA : Hid (∀ j' (h : j' < N.switches.length), Pl.shutS open_ N.switches[j'] = true → (Pl.idxT N.nodes N.switches[j'].a = l.getD k 0 → Pl.idxT N.nodes N.switches[j'].b ∈ l2) ∧ (Pl.idxT N.nodes N.switches[j'].b = l.getD k 0 → Pl.idxT N.nodes N.switches[j'].a ∈ l2)) := fun j' h => HSW.out j' h (by have := HL1.out; omega)
                clear HSW
                go_wp2_with fail
                clear kb hl2 hkm hm9 HU
                go_loopw [77] (fun i wr => ∃ (j m c : Nat) (A : Option Addr) (l2 : List Int), j ≤ n2 ∧ i = .int .i64 j ∧ Hid (VRow wr ga A m c l2) ∧ Hid (Pl.NTree (Pl.PairN N open_ br part) (Pl.starts N part b) n0 l2) ∧ Hid (∃ r, l2 = l ++ r) ∧ Hid (∀ j' (h : j' < N.switches.length), Pl.shutS open_ N.switches[j'] = true → (Pl.idxT N.nodes N.switches[j'].a = l.getD k 0 → Pl.idxT N.nodes N.switches[j'].b ∈ l2) ∧ (Pl.idxT N.nodes N.switches[j'].b = l.getD k 0 → Pl.idxT N.nodes N.switches[j'].a ∈ l2)) ∧ Hid (∀ j' (h : j' < N.branches.length), j' < j → Pl.wholeB br part N.branches[j'] = true → (Pl.idxT N.nodes N.branches[j'].from_ = l.getD k 0 → Pl.idxT N.nodes N.branches[j'].to_ ∈ l2) ∧ (Pl.idxT N.nodes N.branches[j'].to_ = l.getD k 0 → Pl.idxT N.nodes N.branches[j'].from_ ∈ l2)) ∧ Hid (Blk wr gk 3 #[.int .i64 k]) ∧ Hid (ga < gk ∧ some gk ≠ (Value.slice A m c).ownBlock) ∧ Hid (Blk wr gn 29 #[.slice A0 n0 c0, .slice A1 n1 c1, .slice (some ⟨b2, o2, none⟩) n2 c2, .slice A3 n3 c3, .slice A4 n4 c4, .slice A5 n5 c5]) ∧ Hid (Blk wr gp 34 #[.string br, .int .i64 part]) ∧ Hid (Below w.heap.size w wr)) (fun i _ => n2 - (intOf i).toNat)
                case atStart => exact ⟨0, _, _, _, l2, Nat.zero_le _, rfl, VR, HT, HX, HSA, (fun j' h h2 => absurd h2 (by omega)), KR, HGK, BR, PR, FR⟩
                case round =>
                  clear VR HT HX HSA KR HGK BR PR FR
                  obtain ⟨j, m, c, A, l2, hj, rfl, VR, HT, HX, HSA, HBA, KR, HGK, BR, PR, FR⟩ := hrel
                  have hl2 : l2.length = m := VR.out.2.2
                  have hkm : k < m := by obtain ⟨r, hr⟩ := HX.out; rw [hr] at hl2; simp at hl2; omega
                  have hm9 : m ≤ 1000 := by have := HT.out.short; omega
                  have HU : Hid (l.getD k 0 ∈ l2) := by obtain ⟨r, hr⟩ := HX.out; show _ ∈ _; rw [hr, List.getD_eq_getElem?_getD, List.getElem?_eq_getElem (by omega : k < l.length)]; exact List.mem_append_left _ (List.getElem_mem _)
                  by_cases hjn : j < n2
                  · have hms := (HM.out.r2.below FR.out)
                    obtain ⟨bs, os, hae, hls, s0, s1, s2, s3, s4, s5, s6, s7, s8⟩ := bra_at hms hjn
                    injection hae with hae
                    injection hae with ha1 ha2
                    subst ha1 ha2
                    clear hms
                    have HMEM : Hid (N.branches[j] ∈ N.branches) := List.getElem_mem hls
                    have HJE : Hid (∃ sw, sw = N.branches[j]) := ⟨_, rfl⟩
                    obtain ⟨sw, hsw⟩ := HJE.out
                    rw [← hsw] at s0 s1 s2 s3 s4 s5 s6 s7 s8 HMEM
                    have HSWE := Lib.hid hsw
                    clear hsw HJE
                    have HSH : Hid (Pl.wholeB br part sw = (decide (Pl.lst sw.name ≠ Pl.lst br) || decide (part = 0) || decide (part = 1000))) := rfl
                    have HOKS := Lib.hid (HOK.out.bra sw HMEM.out)
                    have HPR : Hid (Pl.wholeB br part sw = true → Pl.PairN N open_ br part (Pl.idxT N.nodes sw.from_) (Pl.idxT N.nodes sw.to_)) := fun h => .inr ⟨sw, HMEM.out, h, rfl, rfl⟩
                    have HI : Hid (0 ≤ Pl.idxT N.nodes sw.from_ ∧ Pl.idxT N.nodes sw.from_ < n0) := by have := Pl.idxT_mem HOKS.out.1; have h0 := HL0.out; exact ⟨this.1, by omega⟩
                    have HJ : Hid (0 ≤ Pl.idxT N.nodes sw.to_ ∧ Pl.idxT N.nodes sw.to_ < n0) := by have := Pl.idxT_mem HOKS.out.2.1; have h0 := HL0.out; exact ⟨this.1, by omega⟩
                    obtain ⟨bn, bf, bt, e3, e4, e5, e6, e7, e8⟩ := sw
                    simp only at *
                    have d5 := (Below.refl wr.heap.size wr).alloc (Nat.le_refl _) (.cells #[.string bn, .string bf, .string bt, .int .i64 e3, .int .i64 e4, .int .i64 e5, .int .i64 e6, .int .i64 e7, .int .i64 e8] 42)
                    have V5 := Lib.hid (VR.out.go d5)
                    have K5 := Lib.hid (KR.out.go d5)
                    have B5 := Lib.hid (BR.out.go d5)
                    have P5 := Lib.hid (PR.out.go d5)
                    have F5 := Lib.hid (FR.out.trans (d5.mono FR.out.size))
                    have hlb : wr.heap.size < wr.heap.size + 1 := Nat.lt_succ_self _
                    have kp := PR.out.cell
                    have hgpl : gp < wr.heap.size := PR.out.lt
                    clear d5
                    by_cases hnm : bn = br
                    · have hnn : (bn.toList == br.toList) = true := by rw [hnm]; simp
                      have HNM := Lib.hid hnm
                      clear hnm
                      by_cases hp0 : part = 0
                      · have hq0 : (part == 0) = true := by simp [hp0]
                        have HP0 := Lib.hid hp0
                        clear hp0
                        have HPR := Lib.hid (HPR.out (by rw [HSH.out]; simp [HP0.out]))
                        go_wp2_with fail
                        refine (CA.out gn ga gk A m c l2 k bf bt _ F5.out B5.out V5.out K5.out hkm hm9 HG.out.2.1 (by have := HGK.out; omega) HGK.out.2).mono ?_
                        rintro e w7 ⟨rfl, A7, m7, c7, hv7, hm7, ho7⟩
                        have V7 := Lib.hid hv7
                        have K7 := Lib.hid (ho7.blk K5.out (by have := HGK.out; omega) HGK.out.2)
                        have B7 := Lib.hid (ho7.blk B5.out (by have := HG.out; omega) (own_ne V5.out.2.1 (.inl (by have := HG.out; omega))))
                        have P7 := Lib.hid (ho7.blk P5.out (by have := HG.out; omega) (own_ne V5.out.2.1 (.inl (by have := HG.out; omega))))
                        have F7 : Hid (Below w.heap.size w w7) := F5.out.trans (ho7.below (by have := HG.out; omega) F5.out.size (fun g hg => by have := (V5.out.2.1.lt g hg).1; have := HG.out; omega))
                        have HG7 : Hid (ga < gk ∧ some gk ≠ (Value.slice A7 m7 c7).ownBlock) := ⟨HGK.out.1, fun e => by rcases ho7.own gk e.symm with h | h; exact HGK.out.2 h.symm; have := K5.out.lt; omega⟩
                        have HT7 := Lib.hid (Pl.nearAdd_tree HT.out HU.out (i := Pl.idxT N.nodes bf) (j := Pl.idxT N.nodes bt) HPR.out HI.out HJ.out)
                        have HX7 : Hid (∃ r, Pl.nearAdd l2 (l.getD k 0) (Pl.idxT N.nodes bf) (Pl.idxT N.nodes bt) = l ++ r) := by
                          obtain ⟨r, hr⟩ := HX.out
                          obtain ⟨r2, hr2⟩ := Pl.nearAdd_pre l2 (l.getD k 0) (Pl.idxT N.nodes bf) (Pl.idxT N.nodes bt)
                          exact ⟨r ++ r2, by rw [hr2, hr, List.append_assoc]⟩
                        have HH7 := Lib.hid (Pl.nearAdd_has l2 (l.getD k 0) (Pl.idxT N.nodes bf) (Pl.idxT N.nodes bt))
                        have HSB : Hid (∀ v, v ∈ l2 → v ∈ Pl.nearAdd l2 (l.getD k 0) (Pl.idxT N.nodes bf) (Pl.idxT N.nodes bt)) := fun v hv => by obtain ⟨r2, hr2⟩ := Pl.nearAdd_pre l2 (l.getD k 0) (Pl.idxT N.nodes bf) (Pl.idxT N.nodes bt); rw [hr2]; exact List.mem_append_left _ hv
                        have HLU : Hid (l2.getD k 0 = l.getD k 0) := by obtain ⟨r, hr⟩ := HX.out; show _ = _; rw [hr, List.getD_eq_getElem?_getD, List.getElem?_append_left (by omega), List.getD_eq_getElem?_getD]
                        rw [HLU.out] at V7
                        clear hv7 ho7
                        clear s0 s1 s2 s3 s4 s5 s6 s7 s8 hlb kp hgpl
                        go_wp2_with fail
                        go_roundw
                        case rel => exact ⟨j + 1, m7, c7, A7, _, by omega, by go_num, V7, HT7, HX7, (fun j' h h3 => by have := HSA.out j' h h3; exact ⟨fun h4 => HSB.out _ (this.1 h4), fun h4 => HSB.out _ (this.2 h4)⟩), (fun j' h h2 h3 => by
                          by_cases e : j' = j
                          · subst e; rw [← HSWE.out]; exact HH7.out
                          · have := HBA.out j' h (by omega) h3; exact ⟨fun h4 => HSB.out _ (this.1 h4), fun h4 => HSB.out _ (this.2 h4)⟩), K7, HG7, B7, P7, F7⟩
                        case measure => simp [intOf]; omega
                      · have hq0 : (part == 0) = false := by simp [hp0]
                        by_cases hp1 : part = 1000
                        · have hq1 : (part == 1000) = true := by simp [hp1]
                          have HP1 := Lib.hid hp1
                          clear hp1 hp0
                          have HPR := Lib.hid (HPR.out (by rw [HSH.out]; simp [HP1.out]))
                          go_wp2_with fail
                          refine (CA.out gn ga gk A m c l2 k bf bt _ F5.out B5.out V5.out K5.out hkm hm9 HG.out.2.1 (by have := HGK.out; omega) HGK.out.2).mono ?_
                          rintro e w7 ⟨rfl, A7, m7, c7, hv7, hm7, ho7⟩
                          have V7 := Lib.hid hv7
                          have K7 := Lib.hid (ho7.blk K5.out (by have := HGK.out; omega) HGK.out.2)
                          have B7 := Lib.hid (ho7.blk B5.out (by have := HG.out; omega) (own_ne V5.out.2.1 (.inl (by have := HG.out; omega))))
                          have P7 := Lib.hid (ho7.blk P5.out (by have := HG.out; omega) (own_ne V5.out.2.1 (.inl (by have := HG.out; omega))))
                          have F7 : Hid (Below w.heap.size w w7) := F5.out.trans (ho7.below (by have := HG.out; omega) F5.out.size (fun g hg => by have := (V5.out.2.1.lt g hg).1; have := HG.out; omega))
                          have HG7 : Hid (ga < gk ∧ some gk ≠ (Value.slice A7 m7 c7).ownBlock) := ⟨HGK.out.1, fun e => by rcases ho7.own gk e.symm with h | h; exact HGK.out.2 h.symm; have := K5.out.lt; omega⟩
                          have HT7 := Lib.hid (Pl.nearAdd_tree HT.out HU.out (i := Pl.idxT N.nodes bf) (j := Pl.idxT N.nodes bt) HPR.out HI.out HJ.out)
                          have HX7 : Hid (∃ r, Pl.nearAdd l2 (l.getD k 0) (Pl.idxT N.nodes bf) (Pl.idxT N.nodes bt) = l ++ r) := by
                            obtain ⟨r, hr⟩ := HX.out
                            obtain ⟨r2, hr2⟩ := Pl.nearAdd_pre l2 (l.getD k 0) (Pl.idxT N.nodes bf) (Pl.idxT N.nodes bt)
                            exact ⟨r ++ r2, by rw [hr2, hr, List.append_assoc]⟩
                          have HH7 := Lib.hid (Pl.nearAdd_has l2 (l.getD k 0) (Pl.idxT N.nodes bf) (Pl.idxT N.nodes bt))
                          have HSB : Hid (∀ v, v ∈ l2 → v ∈ Pl.nearAdd l2 (l.getD k 0) (Pl.idxT N.nodes bf) (Pl.idxT N.nodes bt)) := fun v hv => by obtain ⟨r2, hr2⟩ := Pl.nearAdd_pre l2 (l.getD k 0) (Pl.idxT N.nodes bf) (Pl.idxT N.nodes bt); rw [hr2]; exact List.mem_append_left _ hv
                          have HLU : Hid (l2.getD k 0 = l.getD k 0) := by obtain ⟨r, hr⟩ := HX.out; show _ = _; rw [hr, List.getD_eq_getElem?_getD, List.getElem?_append_left (by omega), List.getD_eq_getElem?_getD]
                          rw [HLU.out] at V7
                          clear hv7 ho7
                          clear s0 s1 s2 s3 s4 s5 s6 s7 s8 hlb kp hgpl
                          go_wp2_with fail
                          go_roundw
                          case rel => exact ⟨j + 1, m7, c7, A7, _, by omega, by go_num, V7, HT7, HX7, (fun j' h h3 => by have := HSA.out j' h h3; exact ⟨fun h4 => HSB.out _ (this.1 h4), fun h4 => HSB.out _ (this.2 h4)⟩), (fun j' h h2 h3 => by
                            by_cases e : j' = j
                            · subst e; rw [← HSWE.out]; exact HH7.out
                            · have := HBA.out j' h (by omega) h3; exact ⟨fun h4 => HSB.out _ (this.1 h4), fun h4 => HSB.out _ (this.2 h4)⟩), K7, HG7, B7, P7, F7⟩
                          case measure => simp [intOf]; omega
                        · have hq1 : (part == 1000) = false := by simp [hp1]
                          have HNW : Hid (Pl.wholeB br part ⟨bn, bf, bt, e3, e4, e5, e6, e7, e8⟩ = false) := by show _ = _; rw [HSH.out]; simp [HNM.out, hp0, hp1]
                          clear hp0 hp1
                          go_wp2_with fail
                          go_roundw
                          case rel => exact ⟨j + 1, m, c, A, l2, by omega, by go_num, V5, HT, HX, HSA, (fun j' h h2 h3 => by
                            by_cases e : j' = j
                            · subst e; rw [← HSWE.out, HNW.out] at h3; cases h3
                            · exact HBA.out j' h (by omega) h3), K5, HGK, B5, P5, F5⟩
                          case measure => simp [intOf]; omega
                    · have hnn : (bn.toList == br.toList) = false := by rw [lst_beq]; exact decide_eq_false (fun e => hnm (Pl.lst_inj e))
                      have HNM : Hid (¬ Pl.lst bn = Pl.lst br) := fun e => hnm (Pl.lst_inj e)
                      clear hnm
                      have HPR := Lib.hid (HPR.out (by rw [HSH.out]; simp [HNM.out]))
                      go_wp2_with fail
                      refine (CA.out gn ga gk A m c l2 k bf bt _ F5.out B5.out V5.out K5.out hkm hm9 HG.out.2.1 (by have := HGK.out; omega) HGK.out.2).mono ?_
                      rintro e w7 ⟨rfl, A7, m7, c7, hv7, hm7, ho7⟩
                      have V7 := Lib.hid hv7
                      have K7 := Lib.hid (ho7.blk K5.out (by have := HGK.out; omega) HGK.out.2)
                      have B7 := Lib.hid (ho7.blk B5.out (by have := HG.out; omega) (own_ne V5.out.2.1 (.inl (by have := HG.out; omega))))
                      have P7 := Lib.hid (ho7.blk P5.out (by have := HG.out; omega) (own_ne V5.out.2.1 (.inl (by have := HG.out; omega))))
                      have F7 : Hid (Below w.heap.size w w7) := F5.out.trans (ho7.below (by have := HG.out; omega) F5.out.size (fun g hg => by have := (V5.out.2.1.lt g hg).1; have := HG.out; omega))
                      have HG7 : Hid (ga < gk ∧ some gk ≠ (Value.slice A7 m7 c7).ownBlock) := ⟨HGK.out.1, fun e => by rcases ho7.own gk e.symm with h | h; exact HGK.out.2 h.symm; have := K5.out.lt; omega⟩
                      have HT7 := Lib.hid (Pl.nearAdd_tree HT.out HU.out (i := Pl.idxT N.nodes bf) (j := Pl.idxT N.nodes bt) HPR.out HI.out HJ.out)
                      have HX7 : Hid (∃ r, Pl.nearAdd l2 (l.getD k 0) (Pl.idxT N.nodes bf) (Pl.idxT N.nodes bt) = l ++ r) := by
                        obtain ⟨r, hr⟩ := HX.out
                        obtain ⟨r2, hr2⟩ := Pl.nearAdd_pre l2 (l.getD k 0) (Pl.idxT N.nodes bf) (Pl.idxT N.nodes bt)
                        exact ⟨r ++ r2, by rw [hr2, hr, List.append_assoc]⟩
                      have HH7 := Lib.hid (Pl.nearAdd_has l2 (l.getD k 0) (Pl.idxT N.nodes bf) (Pl.idxT N.nodes bt))
                      have HSB : Hid (∀ v, v ∈ l2 → v ∈ Pl.nearAdd l2 (l.getD k 0) (Pl.idxT N.nodes bf) (Pl.idxT N.nodes bt)) := fun v hv => by obtain ⟨r2, hr2⟩ := Pl.nearAdd_pre l2 (l.getD k 0) (Pl.idxT N.nodes bf) (Pl.idxT N.nodes bt); rw [hr2]; exact List.mem_append_left _ hv
                      have HLU : Hid (l2.getD k 0 = l.getD k 0) := by obtain ⟨r, hr⟩ := HX.out; show _ = _; rw [hr, List.getD_eq_getElem?_getD, List.getElem?_append_left (by omega), List.getD_eq_getElem?_getD]
                      rw [HLU.out] at V7
                      clear hv7 ho7
                      clear s0 s1 s2 s3 s4 s5 s6 s7 s8 hlb kp hgpl
                      go_wp2_with fail
                      go_roundw
                      case rel => exact ⟨j + 1, m7, c7, A7, _, by omega, by go_num, V7, HT7, HX7, (fun j' h h3 => by have := HSA.out j' h h3; exact ⟨fun h4 => HSB.out _ (this.1 h4), fun h4 => HSB.out _ (this.2 h4)⟩), (fun j' h h2 h3 => by
                        by_cases e : j' = j
                        · subst e; rw [← HSWE.out]; exact HH7.out
                        · have := HBA.out j' h (by omega) h3; exact ⟨fun h4 => HSB.out _ (this.1 h4), fun h4 => HSB.out _ (this.2 h4)⟩), K7, HG7, B7, P7, F7⟩
                      case measure => simp [intOf]; omega
                  · have HDN : Hid (Pl.NDone (Pl.PairN N open_ br part) l2 (k + 1)) := by
                      intro i u hi hu v
                      obtain ⟨r, hr⟩ := HX.out
                      by_cases hik : i < k
                      · rw [hr] at hu ⊢
                        exact HDL.out.more hkl i u hik hu v
                      · have : i = k := by omega
                        subst this
                        have hue : u = l.getD i 0 := by
                          rw [hr, List.getElem?_append_left (by omega), List.getElem?_eq_getElem (by omega)] at hu
                          injection hu with hu
                          rw [List.getD_eq_getElem?_getD, List.getElem?_eq_getElem (by omega)]; exact hu.symm
                        subst hue
                        refine ⟨fun hp => ?_, fun hp => ?_⟩
                        · rcases hp with ⟨s, hs, h1, h2, h3⟩ | ⟨x, hx, h1, h2, h3⟩
                          · obtain ⟨j', hj', rfl⟩ := List.getElem_of_mem hs
                            rw [h3]; exact (HSA.out j' hj' h1).1 h2.symm
                          · obtain ⟨j', hj', rfl⟩ := List.getElem_of_mem hx
                            rw [h3]; exact (HBA.out j' hj' (by have := HL2.out; omega) h1).1 h2.symm
                        · rcases hp with ⟨s, hs, h1, h2, h3⟩ | ⟨x, hx, h1, h2, h3⟩
                          · obtain ⟨j', hj', rfl⟩ := List.getElem_of_mem hs
                            rw [h2]; exact (HSA.out j' hj' h1).2 h3.symm
                          · obtain ⟨j', hj', rfl⟩ := List.getElem_of_mem hx
                            rw [h2]; exact (HBA.out j' hj' (by have := HL2.out; omega) h1).2 h3.symm
                    have kk : wr.cell? ⟨gk, 0, none⟩ = some (.int .i64 k) := KR.out.cell 0
                    have X6 := Lib.hid (Blk.new_ wr wr.heap.size 3 #[.int .i64 ((k + 1 : Nat) : Int)] rfl)
                    have d6 := (Below.refl wr.heap.size wr).alloc (Nat.le_refl _) (.cells #[.int .i64 ((k + 1 : Nat) : Int)] 3)
                    have V6 := Lib.hid (VR.out.go d6)
                    have B6 := Lib.hid (BR.out.go d6)
                    have P6 := Lib.hid (PR.out.go d6)
                    have F6 := Lib.hid (FR.out.trans (d6.mono FR.out.size))
                    have HG6 : Hid (ga < wr.heap.size ∧ some wr.heap.size ≠ (Value.slice A m c).ownBlock) := ⟨VR.out.1.lt, own_ne VR.out.2.1 (.inr (Nat.le_refl _))⟩
                    have wk : IntKind.i64.wrap ((k : Int) + 1) = (k : Int) + 1 := IntWalk.i64_in _ (by omega)
                    have hlb : wr.heap.size < wr.heap.size + 1 := Nat.lt_succ_self _
                    have ek : ((k + 1 : Nat) : Int) = (k : Int) + 1 := by omega
                    rw [ek] at V6 B6 P6 F6
                    clear d6 ek
                    go_wp2_with fail
                    go_roundg (25 - (k + 1))
                    case rel => exact ⟨wr.heap.size, k + 1, m, c, A, l2, by omega, Nat.le_refl _, rfl, V6, HT, HDN, X6, HG6, B6, P6, F6⟩
                    case measure => omega
          · have hke : k = l.length := by omega
            have HNI := Lib.hid (Pl.near_iff HTL.out (by rw [hke] at HDL; exact HDL.out))
            clear hke
            go_wp2_with fail
            go_ret
            exact ⟨A, m, c, l, rfl, Reads.of_own VL.out.2.1, HTL.out.nodup, HNI.out, by omega, FL.out⟩
      · skip
        have HGO : Hid (ga < w8.heap.size ∧ some w8.heap.size ≠ (Value.slice (some ⟨gg, 0, none⟩) (0 + 1) cap).ownBlock) := ⟨V8.out.1.lt, own_ne V8.out.2.1 (.inr (Nat.le_refl _))⟩
        have HTL : Hid (Pl.NTree (Pl.PairN N open_ br part) (Pl.starts N part b) n0 ([] ++ [Pl.idxT N.nodes b.from_])) := by
          have hid := HID.out b.from_ (.inl rfl)
          have hs : Pl.starts N part b = [Pl.idxT N.nodes b.from_] := by unfold Pl.starts; rw [if_pos hpa, if_neg hpb]; rfl
          rw [hs]
          exact ⟨by simp, fun v hv => .start (by simpa using hv), fun v hv => by simpa using hv, fun v hv => by simp at hv; subst hv; exact hid⟩
        have HDL : Hid (Pl.NDone (Pl.PairN N open_ br part) ([] ++ [Pl.idxT N.nodes b.from_]) 0) := fun i u h => absurd h (by omega)
        generalize ([] ++ [Pl.idxT N.nodes b.from_] : List Int) = l0 at *
        have KL := Lib.hid (Blk.new_ w8 w8.heap.size 3 #[.int .i64 0] rfl)
        have d5 := (Below.refl w8.heap.size w8).alloc (Nat.le_refl _) (.cells #[.int .i64 0] 3)
        have VL := Lib.hid (V8.out.go d5)
        have BL := Lib.hid (B8.out.go d5)
        have PL := Lib.hid (P8.out.go d5)
        have FL := Lib.hid (F8.out.trans (d5.mono F8.out.size))
        clear d5 hpa V8 B8 P8 F8
        go_wp2_with fail
        clear k0 hpb
        go_loopg [9] 25 (fun gg v wr => ∃ (gk k m c : Nat) (A : Option Addr) (l : List Int), k ≤ l.length ∧ 25 - k ≤ gg ∧ v = .pointer (some ⟨gk, 0, none⟩) ∧ Hid (VRow wr ga A m c l) ∧ Hid (Pl.NTree (Pl.PairN N open_ br part) (Pl.starts N part b) n0 l) ∧ Hid (Pl.NDone (Pl.PairN N open_ br part) l k) ∧ Hid (Blk wr gk 3 #[.int .i64 k]) ∧ Hid (ga < gk ∧ some gk ≠ (Value.slice A m c).ownBlock) ∧ Hid (Blk wr gn 29 #[.slice A0 n0 c0, .slice A1 n1 c1, .slice (some ⟨b2, o2, none⟩) n2 c2, .slice A3 n3 c3, .slice A4 n4 c4, .slice A5 n5 c5]) ∧ Hid (Blk wr gp 34 #[.string br, .int .i64 part]) ∧ Hid (Below w.heap.size w wr))
        case atStart => exact ⟨_, 0, _, _, _, l0, Nat.zero_le _, by omega, rfl, VL, HTL, HDL, KL, HGO, BL, PL, FL⟩
        case round =>
          clear VL HTL HDL KL HGO BL PL FL
          obtain ⟨gk, k, m, c, A, l, hkl, hgg, rfl, VL, HTL, HDL, KL, HGK, BL, PL, FL⟩ := hrel
          have hlm : l.length = m := VL.out.2.2
          have hsh := HTL.out.short
          have kv : wr.cell? ⟨ga, 0, none⟩ = some (.slice A m c) := VL.out.1.cell 0
          have kk : wr.cell? ⟨gk, 0, none⟩ = some (.int .i64 k) := KL.out.cell 0
          have kb := BL.out.cell
          by_cases hkm0 : k < m
          · go_wp2_with fail
            clear kv kk kb
            go_loopw [53] (fun i wr => ∃ (j m c : Nat) (A : Option Addr) (l2 : List Int), j ≤ n1 ∧ i = .int .i64 j ∧ Hid (VRow wr ga A m c l2) ∧ Hid (Pl.NTree (Pl.PairN N open_ br part) (Pl.starts N part b) n0 l2) ∧ Hid (∃ r, l2 = l ++ r) ∧ Hid (∀ j' (h : j' < N.switches.length), j' < j → Pl.shutS open_ N.switches[j'] = true → (Pl.idxT N.nodes N.switches[j'].a = l.getD k 0 → Pl.idxT N.nodes N.switches[j'].b ∈ l2) ∧ (Pl.idxT N.nodes N.switches[j'].b = l.getD k 0 → Pl.idxT N.nodes N.switches[j'].a ∈ l2)) ∧ Hid (Blk wr gk 3 #[.int .i64 k]) ∧ Hid (ga < gk ∧ some gk ≠ (Value.slice A m c).ownBlock) ∧ Hid (Blk wr gn 29 #[.slice A0 n0 c0, .slice A1 n1 c1, .slice (some ⟨b2, o2, none⟩) n2 c2, .slice A3 n3 c3, .slice A4 n4 c4, .slice A5 n5 c5]) ∧ Hid (Blk wr gp 34 #[.string br, .int .i64 part]) ∧ Hid (Below w.heap.size w wr)) (fun i _ => n1 - (intOf i).toNat)
            case atStart => exact ⟨0, _, _, _, l, Nat.zero_le _, rfl, VL, HTL, ⟨[], by simp⟩, (fun j' h h2 => absurd h2 (by omega)), KL, HGK, BL, PL, FL⟩
            case round =>
              clear VL KL HGK BL PL FL
              obtain ⟨j, m, c, A, l2, hj, rfl, VR, HT, HX, HSW, KR, HGK, BR, PR, FR⟩ := hrel
              have kb := BR.out.cell
              have hl2 : l2.length = m := VR.out.2.2
              have hkm : k < m := by obtain ⟨r, hr⟩ := HX.out; rw [hr] at hl2; simp at hl2; omega
              have hm9 : m ≤ 1000 := by have := HT.out.short; omega
              have HU : Hid (l.getD k 0 ∈ l2) := by obtain ⟨r, hr⟩ := HX.out; show _ ∈ _; rw [hr, List.getD_eq_getElem?_getD, List.getElem?_eq_getElem (by omega : k < l.length)]; exact List.mem_append_left _ (List.getElem_mem _)
              by_cases hjn : j < n1
              · have hms := (HM.out.r1.below FR.out)
                obtain ⟨bs, os, rfl, hls, s0, s1, s2, s3, s4⟩ := swi_at hms hjn
                clear hms
                have HMEM : Hid (N.switches[j] ∈ N.switches) := List.getElem_mem hls
                have HJE : Hid (∃ sw, sw = N.switches[j]) := ⟨_, rfl⟩
                obtain ⟨sw, hsw⟩ := HJE.out
                rw [← hsw] at s0 s1 s2 s3 s4 HMEM
                have HSWE := Lib.hid hsw
                clear hsw HJE
                have HSH : Hid (Pl.shutS open_ sw = (!sw.opened && !Pl.inB open_ sw.name)) := rfl
                have HOKS := Lib.hid (HOK.out.swi sw HMEM.out)
                have HPR : Hid (Pl.shutS open_ sw = true → Pl.PairN N open_ br part (Pl.idxT N.nodes sw.a) (Pl.idxT N.nodes sw.b)) := fun h => .inl ⟨sw, HMEM.out, h, rfl, rfl⟩
                have HI : Hid (0 ≤ Pl.idxT N.nodes sw.a ∧ Pl.idxT N.nodes sw.a < n0) := by have := Pl.idxT_mem HOKS.out.1; have h0 := HL0.out; exact ⟨this.1, by omega⟩
                have HJ : Hid (0 ≤ Pl.idxT N.nodes sw.b ∧ Pl.idxT N.nodes sw.b < n0) := by have := Pl.idxT_mem HOKS.out.2.1; have h0 := HL0.out; exact ⟨this.1, by omega⟩
                have CHS := Lib.hid (fun (w' : World) (hb : Below w.heap.size w w') => CH.out sw.name w' hb)
                generalize hib : Pl.inB open_ sw.name = ib at *
                clear hib
                have HSS : Hid (∀ x, x = Pl.shutS open_ sw → x = Pl.shutS open_ N.switches[j]) := fun x h => by rw [h, HSWE.out]
                obtain ⟨sn, sa, sb, sk, so⟩ := sw
                simp only at *
                have d5 := (Below.refl wr.heap.size wr).alloc (Nat.le_refl _) (.cells #[.string sn, .string sa, .string sb, .bool sk, .bool so] 50)
                have V5 := Lib.hid (VR.out.go d5)
                have K5 := Lib.hid (KR.out.go d5)
                have B5 := Lib.hid (BR.out.go d5)
                have P5 := Lib.hid (PR.out.go d5)
                have F5 := Lib.hid (FR.out.trans (d5.mono FR.out.size))
                have hlb : wr.heap.size < wr.heap.size + 1 := Nat.lt_succ_self _
                clear d5
                cases so
                · cases ib
                  · have hsh : Pl.shutS open_ ⟨sn, sa, sb, sk, false⟩ = true := by rw [HSH.out]; rfl
                    have HPR := Lib.hid (HPR.out hsh)
                    clear hsh
                    go_wp2_with fail
                    refine (CHS.out _ F5.out).mono ?_
                    rintro e w5 ⟨rfl, rfl⟩
                    go_wp2_with fail
                    refine (CA.out gn ga gk A m c l2 k sa sb _ F5.out B5.out V5.out K5.out hkm hm9 HG.out.2.1 (by have := HGK.out; omega) HGK.out.2).mono ?_
                    rintro e w7 ⟨rfl, A7, m7, c7, hv7, hm7, ho7⟩
                    have V7 := Lib.hid hv7
                    have K7 := Lib.hid (ho7.blk K5.out (by have := HGK.out; omega) HGK.out.2)
                    have B7 := Lib.hid (ho7.blk B5.out (by have := HG.out; omega) (own_ne V5.out.2.1 (.inl (by have := HG.out; omega))))
                    have P7 := Lib.hid (ho7.blk P5.out (by have := HG.out; omega) (own_ne V5.out.2.1 (.inl (by have := HG.out; omega))))
                    have F7 : Hid (Below w.heap.size w w7) := F5.out.trans (ho7.below (by have := HG.out; omega) F5.out.size (fun g hg => by have := (V5.out.2.1.lt g hg).1; have := HG.out; omega))
                    have HG7 : Hid (ga < gk ∧ some gk ≠ (Value.slice A7 m7 c7).ownBlock) := ⟨HGK.out.1, fun e => by rcases ho7.own gk e.symm with h | h; exact HGK.out.2 h.symm; have := K5.out.lt; omega⟩
                    have HT7 := Lib.hid (Pl.nearAdd_tree HT.out HU.out (i := Pl.idxT N.nodes sa) (j := Pl.idxT N.nodes sb) HPR.out HI.out HJ.out)
                    have HX7 : Hid (∃ r, Pl.nearAdd l2 (l.getD k 0) (Pl.idxT N.nodes sa) (Pl.idxT N.nodes sb) = l ++ r) := by
                      obtain ⟨r, hr⟩ := HX.out
                      obtain ⟨r2, hr2⟩ := Pl.nearAdd_pre l2 (l.getD k 0) (Pl.idxT N.nodes sa) (Pl.idxT N.nodes sb)
                      exact ⟨r ++ r2, by rw [hr2, hr, List.append_assoc]⟩
                    have HH7 := Lib.hid (Pl.nearAdd_has l2 (l.getD k 0) (Pl.idxT N.nodes sa) (Pl.idxT N.nodes sb))
                    have HSB : Hid (∀ v, v ∈ l2 → v ∈ Pl.nearAdd l2 (l.getD k 0) (Pl.idxT N.nodes sa) (Pl.idxT N.nodes sb)) := fun v hv => by obtain ⟨r2, hr2⟩ := Pl.nearAdd_pre l2 (l.getD k 0) (Pl.idxT N.nodes sa) (Pl.idxT N.nodes sb); rw [hr2]; exact List.mem_append_left _ hv
                    have HLU : Hid (l2.getD k 0 = l.getD k 0) := by obtain ⟨r, hr⟩ := HX.out; show _ = _; rw [hr, List.getD_eq_getElem?_getD, List.getElem?_append_left (by omega), List.getD_eq_getElem?_getD]
                    rw [HLU.out] at V7
                    clear hv7 ho7
                    clear s0 s1 s2 s3 s4 hlb kb
                    go_wp2_with fail
                    go_roundw
                    case rel => exact ⟨j + 1, m7, c7, A7, _, by omega, by go_num, V7, HT7, HX7, (fun j' h h2 h3 => by
                      by_cases e : j' = j
                      · subst e; rw [← HSWE.out]; exact HH7.out
                      · have := HSW.out j' h (by omega) h3; exact ⟨fun h4 => HSB.out _ (this.1 h4), fun h4 => HSB.out _ (this.2 h4)⟩), K7, HG7, B7, P7, F7⟩
                    case measure => simp [intOf]; omega
                  · go_wp2_with fail
                    refine (CHS.out _ F5.out).mono ?_
                    rintro e w5 ⟨rfl, rfl⟩
                    go_wp2_with fail
                    go_roundw
                    case rel => exact ⟨j + 1, m, c, A, l2, by omega, by go_num, V5, HT, HX, (fun j' h h2 h3 => by
                      by_cases e : j' = j
                      · subst e; rw [← HSWE.out, HSH.out] at h3; simp at h3
                      · exact HSW.out j' h (by omega) h3), K5, HGK, B5, P5, F5⟩
                    case measure => simp [intOf]; omega
                · go_wp2_with fail
                  go_roundw
                  case rel => exact ⟨j + 1, m, c, A, l2, by omega, by go_num, V5, HT, HX, (fun j' h h2 h3 => by
                    by_cases e : j' = j
                    · subst e; rw [← HSWE.out, HSH.out] at h3; simp at h3
                    · exact HSW.out j' h (by omega) h3), K5, HGK, B5, P5, F5⟩
                  case measure => simp [intOf]; omega
              · skip
                have HSA : Hid (∀ j' (h : j' < N.switches.length), Pl.shutS open_ N.switches[j'] = true → (Pl.idxT N.nodes N.switches[j'].a = l.getD k 0 → Pl.idxT N.nodes N.switches[j'].b ∈ l2) ∧ (Pl.idxT N.nodes N.switches[j'].b = l.getD k 0 → Pl.idxT N.nodes N.switches[j'].a ∈ l2)) := fun j' h => HSW.out j' h (by have := HL1.out; omega)
                clear HSW
                go_wp2_with fail
                clear kb hl2 hkm hm9 HU
                go_loopw [77] (fun i wr => ∃ (j m c : Nat) (A : Option Addr) (l2 : List Int), j ≤ n2 ∧ i = .int .i64 j ∧ Hid (VRow wr ga A m c l2) ∧ Hid (Pl.NTree (Pl.PairN N open_ br part) (Pl.starts N part b) n0 l2) ∧ Hid (∃ r, l2 = l ++ r) ∧ Hid (∀ j' (h : j' < N.switches.length), Pl.shutS open_ N.switches[j'] = true → (Pl.idxT N.nodes N.switches[j'].a = l.getD k 0 → Pl.idxT N.nodes N.switches[j'].b ∈ l2) ∧ (Pl.idxT N.nodes N.switches[j'].b = l.getD k 0 → Pl.idxT N.nodes N.switches[j'].a ∈ l2)) ∧ Hid (∀ j' (h : j' < N.branches.length), j' < j → Pl.wholeB br part N.branches[j'] = true → (Pl.idxT N.nodes N.branches[j'].from_ = l.getD k 0 → Pl.idxT N.nodes N.branches[j'].to_ ∈ l2) ∧ (Pl.idxT N.nodes N.branches[j'].to_ = l.getD k 0 → Pl.idxT N.nodes N.branches[j'].from_ ∈ l2)) ∧ Hid (Blk wr gk 3 #[.int .i64 k]) ∧ Hid (ga < gk ∧ some gk ≠ (Value.slice A m c).ownBlock) ∧ Hid (Blk wr gn 29 #[.slice A0 n0 c0, .slice A1 n1 c1, .slice (some ⟨b2, o2, none⟩) n2 c2, .slice A3 n3 c3, .slice A4 n4 c4, .slice A5 n5 c5]) ∧ Hid (Blk wr gp 34 #[.string br, .int .i64 part]) ∧ Hid (Below w.heap.size w wr)) (fun i _ => n2 - (intOf i).toNat)
                case atStart => exact ⟨0, _, _, _, l2, Nat.zero_le _, rfl, VR, HT, HX, HSA, (fun j' h h2 => absurd h2 (by omega)), KR, HGK, BR, PR, FR⟩
                case round =>
                  clear VR HT HX HSA KR HGK BR PR FR
                  obtain ⟨j, m, c, A, l2, hj, rfl, VR, HT, HX, HSA, HBA, KR, HGK, BR, PR, FR⟩ := hrel
                  have hl2 : l2.length = m := VR.out.2.2
                  have hkm : k < m := by obtain ⟨r, hr⟩ := HX.out; rw [hr] at hl2; simp at hl2; omega
                  have hm9 : m ≤ 1000 := by have := HT.out.short; omega
                  have HU : Hid (l.getD k 0 ∈ l2) := by obtain ⟨r, hr⟩ := HX.out; show _ ∈ _; rw [hr, List.getD_eq_getElem?_getD, List.getElem?_eq_getElem (by omega : k < l.length)]; exact List.mem_append_left _ (List.getElem_mem _)
                  by_cases hjn : j < n2
                  · have hms := (HM.out.r2.below FR.out)
                    obtain ⟨bs, os, hae, hls, s0, s1, s2, s3, s4, s5, s6, s7, s8⟩ := bra_at hms hjn
                    injection hae with hae
                    injection hae with ha1 ha2
                    subst ha1 ha2
                    clear hms
                    have HMEM : Hid (N.branches[j] ∈ N.branches) := List.getElem_mem hls
                    have HJE : Hid (∃ sw, sw = N.branches[j]) := ⟨_, rfl⟩
                    obtain ⟨sw, hsw⟩ := HJE.out
                    rw [← hsw] at s0 s1 s2 s3 s4 s5 s6 s7 s8 HMEM
                    have HSWE := Lib.hid hsw
                    clear hsw HJE
                    have HSH : Hid (Pl.wholeB br part sw = (decide (Pl.lst sw.name ≠ Pl.lst br) || decide (part = 0) || decide (part = 1000))) := rfl
                    have HOKS := Lib.hid (HOK.out.bra sw HMEM.out)
                    have HPR : Hid (Pl.wholeB br part sw = true → Pl.PairN N open_ br part (Pl.idxT N.nodes sw.from_) (Pl.idxT N.nodes sw.to_)) := fun h => .inr ⟨sw, HMEM.out, h, rfl, rfl⟩
                    have HI : Hid (0 ≤ Pl.idxT N.nodes sw.from_ ∧ Pl.idxT N.nodes sw.from_ < n0) := by have := Pl.idxT_mem HOKS.out.1; have h0 := HL0.out; exact ⟨this.1, by omega⟩
                    have HJ : Hid (0 ≤ Pl.idxT N.nodes sw.to_ ∧ Pl.idxT N.nodes sw.to_ < n0) := by have := Pl.idxT_mem HOKS.out.2.1; have h0 := HL0.out; exact ⟨this.1, by omega⟩
                    obtain ⟨bn, bf, bt, e3, e4, e5, e6, e7, e8⟩ := sw
                    simp only at *
                    have d5 := (Below.refl wr.heap.size wr).alloc (Nat.le_refl _) (.cells #[.string bn, .string bf, .string bt, .int .i64 e3, .int .i64 e4, .int .i64 e5, .int .i64 e6, .int .i64 e7, .int .i64 e8] 42)
                    have V5 := Lib.hid (VR.out.go d5)
                    have K5 := Lib.hid (KR.out.go d5)
                    have B5 := Lib.hid (BR.out.go d5)
                    have P5 := Lib.hid (PR.out.go d5)
                    have F5 := Lib.hid (FR.out.trans (d5.mono FR.out.size))
                    have hlb : wr.heap.size < wr.heap.size + 1 := Nat.lt_succ_self _
                    have kp := PR.out.cell
                    have hgpl : gp < wr.heap.size := PR.out.lt
                    clear d5
                    by_cases hnm : bn = br
                    · have hnn : (bn.toList == br.toList) = true := by rw [hnm]; simp
                      have HNM := Lib.hid hnm
                      clear hnm
                      by_cases hp0 : part = 0
                      · have hq0 : (part == 0) = true := by simp [hp0]
                        have HP0 := Lib.hid hp0
                        clear hp0
                        have HPR := Lib.hid (HPR.out (by rw [HSH.out]; simp [HP0.out]))
                        go_wp2_with fail
                        refine (CA.out gn ga gk A m c l2 k bf bt _ F5.out B5.out V5.out K5.out hkm hm9 HG.out.2.1 (by have := HGK.out; omega) HGK.out.2).mono ?_
                        rintro e w7 ⟨rfl, A7, m7, c7, hv7, hm7, ho7⟩
                        have V7 := Lib.hid hv7
                        have K7 := Lib.hid (ho7.blk K5.out (by have := HGK.out; omega) HGK.out.2)
                        have B7 := Lib.hid (ho7.blk B5.out (by have := HG.out; omega) (own_ne V5.out.2.1 (.inl (by have := HG.out; omega))))
                        have P7 := Lib.hid (ho7.blk P5.out (by have := HG.out; omega) (own_ne V5.out.2.1 (.inl (by have := HG.out; omega))))
                        have F7 : Hid (Below w.heap.size w w7) := F5.out.trans (ho7.below (by have := HG.out; omega) F5.out.size (fun g hg => by have := (V5.out.2.1.lt g hg).1; have := HG.out; omega))
                        have HG7 : Hid (ga < gk ∧ some gk ≠ (Value.slice A7 m7 c7).ownBlock) := ⟨HGK.out.1, fun e => by rcases ho7.own gk e.symm with h | h; exact HGK.out.2 h.symm; have := K5.out.lt; omega⟩
                        have HT7 := Lib.hid (Pl.nearAdd_tree HT.out HU.out (i := Pl.idxT N.nodes bf) (j := Pl.idxT N.nodes bt) HPR.out HI.out HJ.out)
                        have HX7 : Hid (∃ r, Pl.nearAdd l2 (l.getD k 0) (Pl.idxT N.nodes bf) (Pl.idxT N.nodes bt) = l ++ r) := by
                          obtain ⟨r, hr⟩ := HX.out
                          obtain ⟨r2, hr2⟩ := Pl.nearAdd_pre l2 (l.getD k 0) (Pl.idxT N.nodes bf) (Pl.idxT N.nodes bt)
                          exact ⟨r ++ r2, by rw [hr2, hr, List.append_assoc]⟩
                        have HH7 := Lib.hid (Pl.nearAdd_has l2 (l.getD k 0) (Pl.idxT N.nodes bf) (Pl.idxT N.nodes bt))
                        have HSB : Hid (∀ v, v ∈ l2 → v ∈ Pl.nearAdd l2 (l.getD k 0) (Pl.idxT N.nodes bf) (Pl.idxT N.nodes bt)) := fun v hv => by obtain ⟨r2, hr2⟩ := Pl.nearAdd_pre l2 (l.getD k 0) (Pl.idxT N.nodes bf) (Pl.idxT N.nodes bt); rw [hr2]; exact List.mem_append_left _ hv
                        have HLU : Hid (l2.getD k 0 = l.getD k 0) := by obtain ⟨r, hr⟩ := HX.out; show _ = _; rw [hr, List.getD_eq_getElem?_getD, List.getElem?_append_left (by omega), List.getD_eq_getElem?_getD]
                        rw [HLU.out] at V7
                        clear hv7 ho7
                        clear s0 s1 s2 s3 s4 s5 s6 s7 s8 hlb kp hgpl
                        go_wp2_with fail
                        go_roundw
                        case rel => exact ⟨j + 1, m7, c7, A7, _, by omega, by go_num, V7, HT7, HX7, (fun j' h h3 => by have := HSA.out j' h h3; exact ⟨fun h4 => HSB.out _ (this.1 h4), fun h4 => HSB.out _ (this.2 h4)⟩), (fun j' h h2 h3 => by
                          by_cases e : j' = j
                          · subst e; rw [← HSWE.out]; exact HH7.out
                          · have := HBA.out j' h (by omega) h3; exact ⟨fun h4 => HSB.out _ (this.1 h4), fun h4 => HSB.out _ (this.2 h4)⟩), K7, HG7, B7, P7, F7⟩
                        case measure => simp [intOf]; omega
                      · have hq0 : (part == 0) = false := by simp [hp0]
                        by_cases hp1 : part = 1000
                        · have hq1 : (part == 1000) = true := by simp [hp1]
                          have HP1 := Lib.hid hp1
                          clear hp1 hp0
                          have HPR := Lib.hid (HPR.out (by rw [HSH.out]; simp [HP1.out]))
                          go_wp2_with fail
                          refine (CA.out gn ga gk A m c l2 k bf bt _ F5.out B5.out V5.out K5.out hkm hm9 HG.out.2.1 (by have := HGK.out; omega) HGK.out.2).mono ?_
                          rintro e w7 ⟨rfl, A7, m7, c7, hv7, hm7, ho7⟩
                          have V7 := Lib.hid hv7
                          have K7 := Lib.hid (ho7.blk K5.out (by have := HGK.out; omega) HGK.out.2)
                          have B7 := Lib.hid (ho7.blk B5.out (by have := HG.out; omega) (own_ne V5.out.2.1 (.inl (by have := HG.out; omega))))
                          have P7 := Lib.hid (ho7.blk P5.out (by have := HG.out; omega) (own_ne V5.out.2.1 (.inl (by have := HG.out; omega))))
                          have F7 : Hid (Below w.heap.size w w7) := F5.out.trans (ho7.below (by have := HG.out; omega) F5.out.size (fun g hg => by have := (V5.out.2.1.lt g hg).1; have := HG.out; omega))
                          have HG7 : Hid (ga < gk ∧ some gk ≠ (Value.slice A7 m7 c7).ownBlock) := ⟨HGK.out.1, fun e => by rcases ho7.own gk e.symm with h | h; exact HGK.out.2 h.symm; have := K5.out.lt; omega⟩
                          have HT7 := Lib.hid (Pl.nearAdd_tree HT.out HU.out (i := Pl.idxT N.nodes bf) (j := Pl.idxT N.nodes bt) HPR.out HI.out HJ.out)
                          have HX7 : Hid (∃ r, Pl.nearAdd l2 (l.getD k 0) (Pl.idxT N.nodes bf) (Pl.idxT N.nodes bt) = l ++ r) := by
                            obtain ⟨r, hr⟩ := HX.out
                            obtain ⟨r2, hr2⟩ := Pl.nearAdd_pre l2 (l.getD k 0) (Pl.idxT N.nodes bf) (Pl.idxT N.nodes bt)
                            exact ⟨r ++ r2, by rw [hr2, hr, List.append_assoc]⟩
                          have HH7 := Lib.hid (Pl.nearAdd_has l2 (l.getD k 0) (Pl.idxT N.nodes bf) (Pl.idxT N.nodes bt))
                          have HSB : Hid (∀ v, v ∈ l2 → v ∈ Pl.nearAdd l2 (l.getD k 0) (Pl.idxT N.nodes bf) (Pl.idxT N.nodes bt)) := fun v hv => by obtain ⟨r2, hr2⟩ := Pl.nearAdd_pre l2 (l.getD k 0) (Pl.idxT N.nodes bf) (Pl.idxT N.nodes bt); rw [hr2]; exact List.mem_append_left _ hv
                          have HLU : Hid (l2.getD k 0 = l.getD k 0) := by obtain ⟨r, hr⟩ := HX.out; show _ = _; rw [hr, List.getD_eq_getElem?_getD, List.getElem?_append_left (by omega), List.getD_eq_getElem?_getD]
                          rw [HLU.out] at V7
                          clear hv7 ho7
                          clear s0 s1 s2 s3 s4 s5 s6 s7 s8 hlb kp hgpl
                          go_wp2_with fail
                          go_roundw
                          case rel => exact ⟨j + 1, m7, c7, A7, _, by omega, by go_num, V7, HT7, HX7, (fun j' h h3 => by have := HSA.out j' h h3; exact ⟨fun h4 => HSB.out _ (this.1 h4), fun h4 => HSB.out _ (this.2 h4)⟩), (fun j' h h2 h3 => by
                            by_cases e : j' = j
                            · subst e; rw [← HSWE.out]; exact HH7.out
                            · have := HBA.out j' h (by omega) h3; exact ⟨fun h4 => HSB.out _ (this.1 h4), fun h4 => HSB.out _ (this.2 h4)⟩), K7, HG7, B7, P7, F7⟩
                          case measure => simp [intOf]; omega
                        · have hq1 : (part == 1000) = false := by simp [hp1]
                          have HNW : Hid (Pl.wholeB br part ⟨bn, bf, bt, e3, e4, e5, e6, e7, e8⟩ = false) := by show _ = _; rw [HSH.out]; simp [HNM.out, hp0, hp1]
                          clear hp0 hp1
                          go_wp2_with fail
                          go_roundw
                          case rel => exact ⟨j + 1, m, c, A, l2, by omega, by go_num, V5, HT, HX, HSA, (fun j' h h2 h3 => by
                            by_cases e : j' = j
                            · subst e; rw [← HSWE.out, HNW.out] at h3; cases h3
                            · exact HBA.out j' h (by omega) h3), K5, HGK, B5, P5, F5⟩
                          case measure => simp [intOf]; omega
                    · have hnn : (bn.toList == br.toList) = false := by rw [lst_beq]; exact decide_eq_false (fun e => hnm (Pl.lst_inj e))
                      have HNM : Hid (¬ Pl.lst bn = Pl.lst br) := fun e => hnm (Pl.lst_inj e)
                      clear hnm
                      have HPR := Lib.hid (HPR.out (by rw [HSH.out]; simp [HNM.out]))
                      go_wp2_with fail
                      refine (CA.out gn ga gk A m c l2 k bf bt _ F5.out B5.out V5.out K5.out hkm hm9 HG.out.2.1 (by have := HGK.out; omega) HGK.out.2).mono ?_
                      rintro e w7 ⟨rfl, A7, m7, c7, hv7, hm7, ho7⟩
                      have V7 := Lib.hid hv7
                      have K7 := Lib.hid (ho7.blk K5.out (by have := HGK.out; omega) HGK.out.2)
                      have B7 := Lib.hid (ho7.blk B5.out (by have := HG.out; omega) (own_ne V5.out.2.1 (.inl (by have := HG.out; omega))))
                      have P7 := Lib.hid (ho7.blk P5.out (by have := HG.out; omega) (own_ne V5.out.2.1 (.inl (by have := HG.out; omega))))
                      have F7 : Hid (Below w.heap.size w w7) := F5.out.trans (ho7.below (by have := HG.out; omega) F5.out.size (fun g hg => by have := (V5.out.2.1.lt g hg).1; have := HG.out; omega))
                      have HG7 : Hid (ga < gk ∧ some gk ≠ (Value.slice A7 m7 c7).ownBlock) := ⟨HGK.out.1, fun e => by rcases ho7.own gk e.symm with h | h; exact HGK.out.2 h.symm; have := K5.out.lt; omega⟩
                      have HT7 := Lib.hid (Pl.nearAdd_tree HT.out HU.out (i := Pl.idxT N.nodes bf) (j := Pl.idxT N.nodes bt) HPR.out HI.out HJ.out)
                      have HX7 : Hid (∃ r, Pl.nearAdd l2 (l.getD k 0) (Pl.idxT N.nodes bf) (Pl.idxT N.nodes bt) = l ++ r) := by
                        obtain ⟨r, hr⟩ := HX.out
                        obtain ⟨r2, hr2⟩ := Pl.nearAdd_pre l2 (l.getD k 0) (Pl.idxT N.nodes bf) (Pl.idxT N.nodes bt)
                        exact ⟨r ++ r2, by rw [hr2, hr, List.append_assoc]⟩
                      have HH7 := Lib.hid (Pl.nearAdd_has l2 (l.getD k 0) (Pl.idxT N.nodes bf) (Pl.idxT N.nodes bt))
                      have HSB : Hid (∀ v, v ∈ l2 → v ∈ Pl.nearAdd l2 (l.getD k 0) (Pl.idxT N.nodes bf) (Pl.idxT N.nodes bt)) := fun v hv => by obtain ⟨r2, hr2⟩ := Pl.nearAdd_pre l2 (l.getD k 0) (Pl.idxT N.nodes bf) (Pl.idxT N.nodes bt); rw [hr2]; exact List.mem_append_left _ hv
                      have HLU : Hid (l2.getD k 0 = l.getD k 0) := by obtain ⟨r, hr⟩ := HX.out; show _ = _; rw [hr, List.getD_eq_getElem?_getD, List.getElem?_append_left (by omega), List.getD_eq_getElem?_getD]
                      rw [HLU.out] at V7
                      clear hv7 ho7
                      clear s0 s1 s2 s3 s4 s5 s6 s7 s8 hlb kp hgpl
                      go_wp2_with fail
                      go_roundw
                      case rel => exact ⟨j + 1, m7, c7, A7, _, by omega, by go_num, V7, HT7, HX7, (fun j' h h3 => by have := HSA.out j' h h3; exact ⟨fun h4 => HSB.out _ (this.1 h4), fun h4 => HSB.out _ (this.2 h4)⟩), (fun j' h h2 h3 => by
                        by_cases e : j' = j
                        · subst e; rw [← HSWE.out]; exact HH7.out
                        · have := HBA.out j' h (by omega) h3; exact ⟨fun h4 => HSB.out _ (this.1 h4), fun h4 => HSB.out _ (this.2 h4)⟩), K7, HG7, B7, P7, F7⟩
                      case measure => simp [intOf]; omega
                  · have HDN : Hid (Pl.NDone (Pl.PairN N open_ br part) l2 (k + 1)) := by
                      intro i u hi hu v
                      obtain ⟨r, hr⟩ := HX.out
                      by_cases hik : i < k
                      · rw [hr] at hu ⊢
                        exact HDL.out.more hkl i u hik hu v
                      · have : i = k := by omega
                        subst this
                        have hue : u = l.getD i 0 := by
                          rw [hr, List.getElem?_append_left (by omega), List.getElem?_eq_getElem (by omega)] at hu
                          injection hu with hu
                          rw [List.getD_eq_getElem?_getD, List.getElem?_eq_getElem (by omega)]; exact hu.symm
                        subst hue
                        refine ⟨fun hp => ?_, fun hp => ?_⟩
                        · rcases hp with ⟨s, hs, h1, h2, h3⟩ | ⟨x, hx, h1, h2, h3⟩
                          · obtain ⟨j', hj', rfl⟩ := List.getElem_of_mem hs
                            rw [h3]; exact (HSA.out j' hj' h1).1 h2.symm
                          · obtain ⟨j', hj', rfl⟩ := List.getElem_of_mem hx
                            rw [h3]; exact (HBA.out j' hj' (by have := HL2.out; omega) h1).1 h2.symm
                        · rcases hp with ⟨s, hs, h1, h2, h3⟩ | ⟨x, hx, h1, h2, h3⟩
                          · obtain ⟨j', hj', rfl⟩ := List.getElem_of_mem hs
                            rw [h2]; exact (HSA.out j' hj' h1).2 h3.symm
                          · obtain ⟨j', hj', rfl⟩ := List.getElem_of_mem hx
                            rw [h2]; exact (HBA.out j' hj' (by have := HL2.out; omega) h1).2 h3.symm
                    have kk : wr.cell? ⟨gk, 0, none⟩ = some (.int .i64 k) := KR.out.cell 0
                    have X6 := Lib.hid (Blk.new_ wr wr.heap.size 3 #[.int .i64 ((k + 1 : Nat) : Int)] rfl)
                    have d6 := (Below.refl wr.heap.size wr).alloc (Nat.le_refl _) (.cells #[.int .i64 ((k + 1 : Nat) : Int)] 3)
                    have V6 := Lib.hid (VR.out.go d6)
                    have B6 := Lib.hid (BR.out.go d6)
                    have P6 := Lib.hid (PR.out.go d6)
                    have F6 := Lib.hid (FR.out.trans (d6.mono FR.out.size))
                    have HG6 : Hid (ga < wr.heap.size ∧ some wr.heap.size ≠ (Value.slice A m c).ownBlock) := ⟨VR.out.1.lt, own_ne VR.out.2.1 (.inr (Nat.le_refl _))⟩
                    have wk : IntKind.i64.wrap ((k : Int) + 1) = (k : Int) + 1 := IntWalk.i64_in _ (by omega)
                    have hlb : wr.heap.size < wr.heap.size + 1 := Nat.lt_succ_self _
                    have ek : ((k + 1 : Nat) : Int) = (k : Int) + 1 := by omega
                    rw [ek] at V6 B6 P6 F6
                    clear d6 ek
                    go_wp2_with fail
                    go_roundg (25 - (k + 1))
                    case rel => exact ⟨wr.heap.size, k + 1, m, c, A, l2, by omega, Nat.le_refl _, rfl, V6, HT, HDN, X6, HG6, B6, P6, F6⟩
                    case measure => omega
          · have hke : k = l.length := by omega
            have HNI := Lib.hid (Pl.near_iff HTL.out (by rw [hke] at HDL; exact HDL.out))
            clear hke
            go_wp2_with fail
            go_ret
            exact ⟨A, m, c, l, rfl, Reads.of_own VL.out.2.1, HTL.out.nodup, HNI.out, by omega, FL.out⟩
    · have hpb : 0 < part := by omega
      go_wp2_with fail
      have hSw : (fun w' => Blk w' ga 45 #[.slice none 0 0] ∧ Blk w' gn 29 #[.slice A0 n0 c0, .slice A1 n1 c1, .slice (some ⟨b2, o2, none⟩) n2 c2, .slice A3 n3 c3, .slice A4 n4 c4, .slice A5 n5 c5] ∧ Blk w' gb 42 #[.string b.name, .string b.from_, .string b.to_, .int .i64 b.x, .int .i64 b.tap, .int .i64 b.shift, .int .i64 b.limit, .int .i64 b.short, .int .i64 b.hold]) w4.drew := ⟨V4.out.1.drew, B4.out.drew, X4.out.drew⟩
      refine wp_region_mid (fun w' => Blk w' ga 45 #[.slice none 0 0] ∧ Blk w' gn 29 #[.slice A0 n0 c0, .slice A1 n1 c1, .slice (some ⟨b2, o2, none⟩) n2 c2, .slice A3 n3 c3, .slice A4 n4 c4, .slice A5 n5 c5] ∧ Blk w' gb 42 #[.string b.name, .string b.from_, .string b.to_, .int .i64 b.x, .int .i64 b.tap, .int .i64 b.shift, .int .i64 b.limit, .int .i64 b.short, .int .i64 b.hold]) 7 (by kernel_rfl) ?_
      refine wpAnyM_take 0 rfl (by kernel_rfl) (by kernel_rfl) (by kernel_rfl) (by kernel_rfl) (by kernel_rfl) (fun _ _ _ h => h) hSw (by rfl) (fun w' hSx => by obtain ⟨ha, hn, hb⟩ := hSx; have ha := ha.cell; have hn := hn.cell; have hb := hb.cell; go_simp; first | done | with_reducible rfl) ?_
      simp only [Act.put, List.setIfInBounds_toArray]
      refine wpAnyM_take 1 rfl (by kernel_rfl) (by kernel_rfl) (by kernel_rfl) (by kernel_rfl) (by kernel_rfl) (fun _ _ _ h => h) hSw (by rfl) (fun w' hSx => by obtain ⟨ha, hn, hb⟩ := hSx; have ha := ha.cell; have hn := hn.cell; have hb := hb.cell; go_simp; first | done | with_reducible rfl) ?_
      simp only [Act.put]
      refine wpAnyM_take 2 rfl (by kernel_rfl) (by kernel_rfl) (by kernel_rfl) (by kernel_rfl) (by kernel_rfl) (fun _ _ _ h => h) hSw (by rfl) (fun w' hSx => by obtain ⟨ha, hn, hb⟩ := hSx; have ha := ha.cell; have hn := hn.cell; have hb := hb.cell; go_simp; first | done | with_reducible rfl) ?_
      simp only [Act.put]
      refine wpAnyM_take 3 rfl (by kernel_rfl) (by kernel_rfl) (by kernel_rfl) (by kernel_rfl) (by kernel_rfl) (fun _ _ _ h => h) hSw (by rfl) (fun w' hSx => by obtain ⟨ha, hn, hb⟩ := hSx; have ha := ha.cell; have hn := hn.cell; have hb := hb.cell; go_simp; first | done | with_reducible rfl) ?_
      simp only [Act.put]
      refine wpAnyM_ready [4] (by kernel_rfl) (by simp) ?_
      refine AllReadyM.cons (by rfl) (fun K hK => ?_) AllReadyM.nil
      go_simp
      refine (CN.out b.to_ _ F4.out.drew).mono ?_
      rintro e w5 ⟨rfl, hb5⟩
      have d5 := (Below.refl w4.heap.size w4).drew.trans (hb5.mono (Nat.le_refl _))
      have V5 := Lib.hid (V4.out.go d5)
      have B5 := Lib.hid (B4.out.go d5)
      have X5 := Lib.hid (X4.out.go d5)
      have P5 := Lib.hid (P4.out.go d5)
      have F5 := Lib.hid (F4.out.trans (d5.mono F4.out.size))
      have hSw : (fun w' => Blk w' ga 45 #[.slice none 0 0] ∧ Blk w' gn 29 #[.slice A0 n0 c0, .slice A1 n1 c1, .slice (some ⟨b2, o2, none⟩) n2 c2, .slice A3 n3 c3, .slice A4 n4 c4, .slice A5 n5 c5] ∧ Blk w' gb 42 #[.string b.name, .string b.from_, .string b.to_, .int .i64 b.x, .int .i64 b.tap, .int .i64 b.shift, .int .i64 b.limit, .int .i64 b.short, .int .i64 b.hold]) w5 := ⟨V5.out.1, B5.out, X5.out⟩
      refine hK.out _ _ hSw ?_
      clear hK K hb5 d5
      refine wpAnyM_ready [5] (by kernel_rfl) (by simp) ?_
      refine AllReadyM.cons (by rfl) (fun K hK => ?_) AllReadyM.nil
      go_simp
      have d6 := (Below.refl w5.heap.size w5).alloc (Nat.le_refl _) (.cells #[.int .i64 (Pl.idxT N.nodes b.to_)] 3)
      have V6 := Lib.hid (V5.out.go d6)
      have B6 := Lib.hid (B5.out.go d6)
      have X6 := Lib.hid (X5.out.go d6)
      have P6 := Lib.hid (P5.out.go d6)
      have F6 := Lib.hid (F5.out.trans (d6.mono F5.out.size))
      have SZ : (w5.alloc (.cells #[.int .i64 (Pl.idxT N.nodes b.to_)] 3)).heap.size = w5.heap.size + 1 := by simp
      have NZ : Hid (∀ j u, [Value.int .i64 (Pl.idxT N.nodes b.to_)][j]? = some u → (w5.alloc (.cells #[.int .i64 (Pl.idxT N.nodes b.to_)] 3)).cell? ((⟨w5.heap.size, 0, none⟩ : Addr).add j) = some u) := World.news_of_block (cs := #[.int .i64 (Pl.idxT N.nodes b.to_)]) (t := 3) (fr := (0, 0)) (heap_alloc_new w5 _)
      generalize w5.alloc (.cells #[.int .i64 (Pl.idxT N.nodes b.to_)] 3) = w6 at *
      have hSw : (fun w' => Blk w' ga 45 #[.slice none 0 0] ∧ Blk w' gn 29 #[.slice A0 n0 c0, .slice A1 n1 c1, .slice (some ⟨b2, o2, none⟩) n2 c2, .slice A3 n3 c3, .slice A4 n4 c4, .slice A5 n5 c5] ∧ Blk w' gb 42 #[.string b.name, .string b.from_, .string b.to_, .int .i64 b.x, .int .i64 b.tap, .int .i64 b.shift, .int .i64 b.limit, .int .i64 b.short, .int .i64 b.hold]) w6 := ⟨V6.out.1, B6.out, X6.out⟩
      refine hK.out _ _ hSw ?_
      clear hK K d6 V5 B5 X5 P5 F5
      obtain ⟨j0, hj0, hjz0, hjz1, hjz2⟩ := info_parts info_int
      refine wpAnyM_ready [6] (by kernel_rfl) (by simp) ?_
      refine AllReadyM.cons (by rfl) (fun K hK => ?_) AllReadyM.nil
      refine step_append_lies _ (by rfl) _ _ _ (by rfl) (ga + 1) 3 j0 _ 1 8 Try.underlying45 hj0 hjz0 hjz1 hjz2 rfl (by omega) (.slice none 0 0) 0 (ints []) (by rfl) V6.out.2.1 ⟨w5.heap.size, 0, none⟩ 1 1 [.int .i64 (Pl.idxT N.nodes b.to_)] (by rfl) (by rfl) NZ.out (by simp [Value.oneCell']) (by omega) (by unfold maxLen; omega) (by omega) (by have := V6.out.1.lt; omega) (w5.heap.size + 1) SZ ?_
      intro gg cap w7 hown hgr hat hlt
      have hne : some ga ≠ (Value.slice none 0 0).ownBlock := own_ne V6.out.2.1 (.inl (Nat.lt_succ_self _))
      have hnn : some gn ≠ (Value.slice none 0 0).ownBlock := own_ne V6.out.2.1 (.inl (by have := HG.out; omega))
      have hnp : some gp ≠ (Value.slice none 0 0).ownBlock := own_ne V6.out.2.1 (.inl (by have := HG.out; omega))
      have hnb : some gb ≠ (Value.slice none 0 0).ownBlock := by simp [Value.ownBlock]
      have A7 := Lib.hid (V6.out.1.grown hgr hne)
      have B7 := Lib.hid (B6.out.grown hgr hnn)
      have X7 := Lib.hid (X6.out.grown hgr hnb)
      refine hK.out _ _ ⟨A7.out, B7.out, X7.out⟩ ?_
      clear hK K hSw
      have k7 := A7.out.cell
      have z7 := A7.out.frozen
      obtain ⟨A8, c18, hve, V8, O8⟩ := V6.out.push hown hgr (by rcases hat with h | h; exact .inl h.symm; exact .inr (by rw [SZ, ← h]; rfl))
      injection hve with hv1 _ hv3
      subst hv1 hv3
      have B8 := Lib.hid (O8.blk B6.out (by have := HG.out; omega) hnn)
      have P8 := Lib.hid (O8.blk P6.out (by have := HG.out; omega) hnp)
      have X8 := Lib.hid (O8.blk X6.out (by have := HGB.out; omega) hnb)
      have HNB : Hid (some gb ≠ (Value.slice (some ⟨gg, 0, none⟩) (0 + 1) cap).ownBlock) := fun e => by rcases O8.own gb e.symm with h | h; exact hnb h.symm; have := X6.out.lt; omega
      have F8 : Hid (Below w.heap.size w (w7.setCell ⟨ga, 0, none⟩ (.slice (some ⟨gg, 0, none⟩) (0 + 1) cap))) := F6.out.trans (O8.below (by have := HG.out; omega) F6.out.size (fun g hg => by have := (V6.out.2.1.lt g hg).1; have := HG.out; omega))
      have V8 := Lib.hid V8
      refine wpAnyM_ready [7] (by kernel_rfl) (by simp) ?_
      refine AllReadyM.last (by rfl) (by omega) (fun K hK => ?_)
      go_simp
      refine hK.out _ _ ?_
      clear hK K k7 z7 A7 B7 X7 V6 B6 X6 P6 F6 NZ SZ hown hgr hat hlt O8 hne hnn hnp hnb
      refine wpAnyM_done (by kernel_rfl) ?_ _
      generalize w7.setCell ⟨ga, 0, none⟩ (.slice (some ⟨gg, 0, none⟩) (0 + 1) cap) = w8 at *
      clear k0
      have k0 := P8.out.cell
      have HGO : Hid (ga < w8.heap.size ∧ some w8.heap.size ≠ (Value.slice (some ⟨gg, 0, none⟩) (0 + 1) cap).ownBlock) := ⟨V8.out.1.lt, own_ne V8.out.2.1 (.inr (Nat.le_refl _))⟩
      have HTL : Hid (Pl.NTree (Pl.PairN N open_ br part) (Pl.starts N part b) n0 ([] ++ [Pl.idxT N.nodes b.to_])) := by
        have hid := HID.out b.to_ (.inr rfl)
        have hs : Pl.starts N part b = [Pl.idxT N.nodes b.to_] := by unfold Pl.starts; rw [if_neg (by omega), if_pos hpb]; rfl
        rw [hs]
        exact ⟨by simp, fun v hv => .start (by simpa using hv), fun v hv => by simpa using hv, fun v hv => by simp at hv; subst hv; exact hid⟩
      have HDL : Hid (Pl.NDone (Pl.PairN N open_ br part) ([] ++ [Pl.idxT N.nodes b.to_]) 0) := fun i u h => absurd h (by omega)
      generalize ([] ++ [Pl.idxT N.nodes b.to_] : List Int) = l0 at *
      have KL := Lib.hid (Blk.new_ w8 w8.heap.size 3 #[.int .i64 0] rfl)
      have d5 := (Below.refl w8.heap.size w8).alloc (Nat.le_refl _) (.cells #[.int .i64 0] 3)
      have VL := Lib.hid (V8.out.go d5)
      have BL := Lib.hid (B8.out.go d5)
      have PL := Lib.hid (P8.out.go d5)
      have FL := Lib.hid (F8.out.trans (d5.mono F8.out.size))
      clear d5 hpa V8 B8 P8 F8
      go_wp2_with fail
      clear k0 hpb
      go_loopg [9] 25 (fun gg v wr => ∃ (gk k m c : Nat) (A : Option Addr) (l : List Int), k ≤ l.length ∧ 25 - k ≤ gg ∧ v = .pointer (some ⟨gk, 0, none⟩) ∧ Hid (VRow wr ga A m c l) ∧ Hid (Pl.NTree (Pl.PairN N open_ br part) (Pl.starts N part b) n0 l) ∧ Hid (Pl.NDone (Pl.PairN N open_ br part) l k) ∧ Hid (Blk wr gk 3 #[.int .i64 k]) ∧ Hid (ga < gk ∧ some gk ≠ (Value.slice A m c).ownBlock) ∧ Hid (Blk wr gn 29 #[.slice A0 n0 c0, .slice A1 n1 c1, .slice (some ⟨b2, o2, none⟩) n2 c2, .slice A3 n3 c3, .slice A4 n4 c4, .slice A5 n5 c5]) ∧ Hid (Blk wr gp 34 #[.string br, .int .i64 part]) ∧ Hid (Below w.heap.size w wr))
      case atStart => exact ⟨_, 0, _, _, _, l0, Nat.zero_le _, by omega, rfl, VL, HTL, HDL, KL, HGO, BL, PL, FL⟩
      case round =>
        clear VL HTL HDL KL HGO BL PL FL
        obtain ⟨gk, k, m, c, A, l, hkl, hgg, rfl, VL, HTL, HDL, KL, HGK, BL, PL, FL⟩ := hrel
        have hlm : l.length = m := VL.out.2.2
        have hsh := HTL.out.short
        have kv : wr.cell? ⟨ga, 0, none⟩ = some (.slice A m c) := VL.out.1.cell 0
        have kk : wr.cell? ⟨gk, 0, none⟩ = some (.int .i64 k) := KL.out.cell 0
        have kb := BL.out.cell
        by_cases hkm0 : k < m
        · go_wp2_with fail
          clear kv kk kb
          go_loopw [53] (fun i wr => ∃ (j m c : Nat) (A : Option Addr) (l2 : List Int), j ≤ n1 ∧ i = .int .i64 j ∧ Hid (VRow wr ga A m c l2) ∧ Hid (Pl.NTree (Pl.PairN N open_ br part) (Pl.starts N part b) n0 l2) ∧ Hid (∃ r, l2 = l ++ r) ∧ Hid (∀ j' (h : j' < N.switches.length), j' < j → Pl.shutS open_ N.switches[j'] = true → (Pl.idxT N.nodes N.switches[j'].a = l.getD k 0 → Pl.idxT N.nodes N.switches[j'].b ∈ l2) ∧ (Pl.idxT N.nodes N.switches[j'].b = l.getD k 0 → Pl.idxT N.nodes N.switches[j'].a ∈ l2)) ∧ Hid (Blk wr gk 3 #[.int .i64 k]) ∧ Hid (ga < gk ∧ some gk ≠ (Value.slice A m c).ownBlock) ∧ Hid (Blk wr gn 29 #[.slice A0 n0 c0, .slice A1 n1 c1, .slice (some ⟨b2, o2, none⟩) n2 c2, .slice A3 n3 c3, .slice A4 n4 c4, .slice A5 n5 c5]) ∧ Hid (Blk wr gp 34 #[.string br, .int .i64 part]) ∧ Hid (Below w.heap.size w wr)) (fun i _ => n1 - (intOf i).toNat)
          case atStart => exact ⟨0, _, _, _, l, Nat.zero_le _, rfl, VL, HTL, ⟨[], by simp⟩, (fun j' h h2 => absurd h2 (by omega)), KL, HGK, BL, PL, FL⟩
          case round =>
            clear VL KL HGK BL PL FL
            obtain ⟨j, m, c, A, l2, hj, rfl, VR, HT, HX, HSW, KR, HGK, BR, PR, FR⟩ := hrel
            have kb := BR.out.cell
            have hl2 : l2.length = m := VR.out.2.2
            have hkm : k < m := by obtain ⟨r, hr⟩ := HX.out; rw [hr] at hl2; simp at hl2; omega
            have hm9 : m ≤ 1000 := by have := HT.out.short; omega
            have HU : Hid (l.getD k 0 ∈ l2) := by obtain ⟨r, hr⟩ := HX.out; show _ ∈ _; rw [hr, List.getD_eq_getElem?_getD, List.getElem?_eq_getElem (by omega : k < l.length)]; exact List.mem_append_left _ (List.getElem_mem _)
            by_cases hjn : j < n1
            · have hms := (HM.out.r1.below FR.out)
              obtain ⟨bs, os, rfl, hls, s0, s1, s2, s3, s4⟩ := swi_at hms hjn
              clear hms
              have HMEM : Hid (N.switches[j] ∈ N.switches) := List.getElem_mem hls
              have HJE : Hid (∃ sw, sw = N.switches[j]) := ⟨_, rfl⟩
              obtain ⟨sw, hsw⟩ := HJE.out
              rw [← hsw] at s0 s1 s2 s3 s4 HMEM
              have HSWE := Lib.hid hsw
              clear hsw HJE
              have HSH : Hid (Pl.shutS open_ sw = (!sw.opened && !Pl.inB open_ sw.name)) := rfl
              have HOKS := Lib.hid (HOK.out.swi sw HMEM.out)
              have HPR : Hid (Pl.shutS open_ sw = true → Pl.PairN N open_ br part (Pl.idxT N.nodes sw.a) (Pl.idxT N.nodes sw.b)) := fun h => .inl ⟨sw, HMEM.out, h, rfl, rfl⟩
              have HI : Hid (0 ≤ Pl.idxT N.nodes sw.a ∧ Pl.idxT N.nodes sw.a < n0) := by have := Pl.idxT_mem HOKS.out.1; have h0 := HL0.out; exact ⟨this.1, by omega⟩
              have HJ : Hid (0 ≤ Pl.idxT N.nodes sw.b ∧ Pl.idxT N.nodes sw.b < n0) := by have := Pl.idxT_mem HOKS.out.2.1; have h0 := HL0.out; exact ⟨this.1, by omega⟩
              have CHS := Lib.hid (fun (w' : World) (hb : Below w.heap.size w w') => CH.out sw.name w' hb)
              generalize hib : Pl.inB open_ sw.name = ib at *
              clear hib
              have HSS : Hid (∀ x, x = Pl.shutS open_ sw → x = Pl.shutS open_ N.switches[j]) := fun x h => by rw [h, HSWE.out]
              obtain ⟨sn, sa, sb, sk, so⟩ := sw
              simp only at *
              have d5 := (Below.refl wr.heap.size wr).alloc (Nat.le_refl _) (.cells #[.string sn, .string sa, .string sb, .bool sk, .bool so] 50)
              have V5 := Lib.hid (VR.out.go d5)
              have K5 := Lib.hid (KR.out.go d5)
              have B5 := Lib.hid (BR.out.go d5)
              have P5 := Lib.hid (PR.out.go d5)
              have F5 := Lib.hid (FR.out.trans (d5.mono FR.out.size))
              have hlb : wr.heap.size < wr.heap.size + 1 := Nat.lt_succ_self _
              clear d5
              cases so
              · cases ib
                · have hsh : Pl.shutS open_ ⟨sn, sa, sb, sk, false⟩ = true := by rw [HSH.out]; rfl
                  have HPR := Lib.hid (HPR.out hsh)
                  clear hsh
                  go_wp2_with fail
                  refine (CHS.out _ F5.out).mono ?_
                  rintro e w5 ⟨rfl, rfl⟩
                  go_wp2_with fail
                  refine (CA.out gn ga gk A m c l2 k sa sb _ F5.out B5.out V5.out K5.out hkm hm9 HG.out.2.1 (by have := HGK.out; omega) HGK.out.2).mono ?_
                  rintro e w7 ⟨rfl, A7, m7, c7, hv7, hm7, ho7⟩
                  have V7 := Lib.hid hv7
                  have K7 := Lib.hid (ho7.blk K5.out (by have := HGK.out; omega) HGK.out.2)
                  have B7 := Lib.hid (ho7.blk B5.out (by have := HG.out; omega) (own_ne V5.out.2.1 (.inl (by have := HG.out; omega))))
                  have P7 := Lib.hid (ho7.blk P5.out (by have := HG.out; omega) (own_ne V5.out.2.1 (.inl (by have := HG.out; omega))))
                  have F7 : Hid (Below w.heap.size w w7) := F5.out.trans (ho7.below (by have := HG.out; omega) F5.out.size (fun g hg => by have := (V5.out.2.1.lt g hg).1; have := HG.out; omega))
                  have HG7 : Hid (ga < gk ∧ some gk ≠ (Value.slice A7 m7 c7).ownBlock) := ⟨HGK.out.1, fun e => by rcases ho7.own gk e.symm with h | h; exact HGK.out.2 h.symm; have := K5.out.lt; omega⟩
                  have HT7 := Lib.hid (Pl.nearAdd_tree HT.out HU.out (i := Pl.idxT N.nodes sa) (j := Pl.idxT N.nodes sb) HPR.out HI.out HJ.out)
                  have HX7 : Hid (∃ r, Pl.nearAdd l2 (l.getD k 0) (Pl.idxT N.nodes sa) (Pl.idxT N.nodes sb) = l ++ r) := by
                    obtain ⟨r, hr⟩ := HX.out
                    obtain ⟨r2, hr2⟩ := Pl.nearAdd_pre l2 (l.getD k 0) (Pl.idxT N.nodes sa) (Pl.idxT N.nodes sb)
                    exact ⟨r ++ r2, by rw [hr2, hr, List.append_assoc]⟩
                  have HH7 := Lib.hid (Pl.nearAdd_has l2 (l.getD k 0) (Pl.idxT N.nodes sa) (Pl.idxT N.nodes sb))
                  have HSB : Hid (∀ v, v ∈ l2 → v ∈ Pl.nearAdd l2 (l.getD k 0) (Pl.idxT N.nodes sa) (Pl.idxT N.nodes sb)) := fun v hv => by obtain ⟨r2, hr2⟩ := Pl.nearAdd_pre l2 (l.getD k 0) (Pl.idxT N.nodes sa) (Pl.idxT N.nodes sb); rw [hr2]; exact List.mem_append_left _ hv
                  have HLU : Hid (l2.getD k 0 = l.getD k 0) := by obtain ⟨r, hr⟩ := HX.out; show _ = _; rw [hr, List.getD_eq_getElem?_getD, List.getElem?_append_left (by omega), List.getD_eq_getElem?_getD]
                  rw [HLU.out] at V7
                  clear hv7 ho7
                  clear s0 s1 s2 s3 s4 hlb kb
                  go_wp2_with fail
                  go_roundw
                  case rel => exact ⟨j + 1, m7, c7, A7, _, by omega, by go_num, V7, HT7, HX7, (fun j' h h2 h3 => by
                    by_cases e : j' = j
                    · subst e; rw [← HSWE.out]; exact HH7.out
                    · have := HSW.out j' h (by omega) h3; exact ⟨fun h4 => HSB.out _ (this.1 h4), fun h4 => HSB.out _ (this.2 h4)⟩), K7, HG7, B7, P7, F7⟩
                  case measure => simp [intOf]; omega
                · go_wp2_with fail
                  refine (CHS.out _ F5.out).mono ?_
                  rintro e w5 ⟨rfl, rfl⟩
                  go_wp2_with fail
                  go_roundw
                  case rel => exact ⟨j + 1, m, c, A, l2, by omega, by go_num, V5, HT, HX, (fun j' h h2 h3 => by
                    by_cases e : j' = j
                    · subst e; rw [← HSWE.out, HSH.out] at h3; simp at h3
                    · exact HSW.out j' h (by omega) h3), K5, HGK, B5, P5, F5⟩
                  case measure => simp [intOf]; omega
              · go_wp2_with fail
                go_roundw
                case rel => exact ⟨j + 1, m, c, A, l2, by omega, by go_num, V5, HT, HX, (fun j' h h2 h3 => by
                  by_cases e : j' = j
                  · subst e; rw [← HSWE.out, HSH.out] at h3; simp at h3
                  · exact HSW.out j' h (by omega) h3), K5, HGK, B5, P5, F5⟩
                case measure => simp [intOf]; omega
            · skip
              have HSA : Hid (∀ j' (h : j' < N.switches.length), Pl.shutS open_ N.switches[j'] = true → (Pl.idxT N.nodes N.switches[j'].a = l.getD k 0 → Pl.idxT N.nodes N.switches[j'].b ∈ l2) ∧ (Pl.idxT N.nodes N.switches[j'].b = l.getD k 0 → Pl.idxT N.nodes N.switches[j'].a ∈ l2)) := fun j' h => HSW.out j' h (by have := HL1.out; omega)
              clear HSW
              go_wp2_with fail
              clear kb hl2 hkm hm9 HU
              go_loopw [77] (fun i wr => ∃ (j m c : Nat) (A : Option Addr) (l2 : List Int), j ≤ n2 ∧ i = .int .i64 j ∧ Hid (VRow wr ga A m c l2) ∧ Hid (Pl.NTree (Pl.PairN N open_ br part) (Pl.starts N part b) n0 l2) ∧ Hid (∃ r, l2 = l ++ r) ∧ Hid (∀ j' (h : j' < N.switches.length), Pl.shutS open_ N.switches[j'] = true → (Pl.idxT N.nodes N.switches[j'].a = l.getD k 0 → Pl.idxT N.nodes N.switches[j'].b ∈ l2) ∧ (Pl.idxT N.nodes N.switches[j'].b = l.getD k 0 → Pl.idxT N.nodes N.switches[j'].a ∈ l2)) ∧ Hid (∀ j' (h : j' < N.branches.length), j' < j → Pl.wholeB br part N.branches[j'] = true → (Pl.idxT N.nodes N.branches[j'].from_ = l.getD k 0 → Pl.idxT N.nodes N.branches[j'].to_ ∈ l2) ∧ (Pl.idxT N.nodes N.branches[j'].to_ = l.getD k 0 → Pl.idxT N.nodes N.branches[j'].from_ ∈ l2)) ∧ Hid (Blk wr gk 3 #[.int .i64 k]) ∧ Hid (ga < gk ∧ some gk ≠ (Value.slice A m c).ownBlock) ∧ Hid (Blk wr gn 29 #[.slice A0 n0 c0, .slice A1 n1 c1, .slice (some ⟨b2, o2, none⟩) n2 c2, .slice A3 n3 c3, .slice A4 n4 c4, .slice A5 n5 c5]) ∧ Hid (Blk wr gp 34 #[.string br, .int .i64 part]) ∧ Hid (Below w.heap.size w wr)) (fun i _ => n2 - (intOf i).toNat)
              case atStart => exact ⟨0, _, _, _, l2, Nat.zero_le _, rfl, VR, HT, HX, HSA, (fun j' h h2 => absurd h2 (by omega)), KR, HGK, BR, PR, FR⟩
              case round =>
                clear VR HT HX HSA KR HGK BR PR FR
                obtain ⟨j, m, c, A, l2, hj, rfl, VR, HT, HX, HSA, HBA, KR, HGK, BR, PR, FR⟩ := hrel
                have hl2 : l2.length = m := VR.out.2.2
                have hkm : k < m := by obtain ⟨r, hr⟩ := HX.out; rw [hr] at hl2; simp at hl2; omega
                have hm9 : m ≤ 1000 := by have := HT.out.short; omega
                have HU : Hid (l.getD k 0 ∈ l2) := by obtain ⟨r, hr⟩ := HX.out; show _ ∈ _; rw [hr, List.getD_eq_getElem?_getD, List.getElem?_eq_getElem (by omega : k < l.length)]; exact List.mem_append_left _ (List.getElem_mem _)
                by_cases hjn : j < n2
                · have hms := (HM.out.r2.below FR.out)
                  obtain ⟨bs, os, hae, hls, s0, s1, s2, s3, s4, s5, s6, s7, s8⟩ := bra_at hms hjn
                  injection hae with hae
                  injection hae with ha1 ha2
                  subst ha1 ha2
                  clear hms
                  have HMEM : Hid (N.branches[j] ∈ N.branches) := List.getElem_mem hls
                  have HJE : Hid (∃ sw, sw = N.branches[j]) := ⟨_, rfl⟩
                  obtain ⟨sw, hsw⟩ := HJE.out
                  rw [← hsw] at s0 s1 s2 s3 s4 s5 s6 s7 s8 HMEM
                  have HSWE := Lib.hid hsw
                  clear hsw HJE
                  have HSH : Hid (Pl.wholeB br part sw = (decide (Pl.lst sw.name ≠ Pl.lst br) || decide (part = 0) || decide (part = 1000))) := rfl
                  have HOKS := Lib.hid (HOK.out.bra sw HMEM.out)
                  have HPR : Hid (Pl.wholeB br part sw = true → Pl.PairN N open_ br part (Pl.idxT N.nodes sw.from_) (Pl.idxT N.nodes sw.to_)) := fun h => .inr ⟨sw, HMEM.out, h, rfl, rfl⟩
                  have HI : Hid (0 ≤ Pl.idxT N.nodes sw.from_ ∧ Pl.idxT N.nodes sw.from_ < n0) := by have := Pl.idxT_mem HOKS.out.1; have h0 := HL0.out; exact ⟨this.1, by omega⟩
                  have HJ : Hid (0 ≤ Pl.idxT N.nodes sw.to_ ∧ Pl.idxT N.nodes sw.to_ < n0) := by have := Pl.idxT_mem HOKS.out.2.1; have h0 := HL0.out; exact ⟨this.1, by omega⟩
                  obtain ⟨bn, bf, bt, e3, e4, e5, e6, e7, e8⟩ := sw
                  simp only at *
                  have d5 := (Below.refl wr.heap.size wr).alloc (Nat.le_refl _) (.cells #[.string bn, .string bf, .string bt, .int .i64 e3, .int .i64 e4, .int .i64 e5, .int .i64 e6, .int .i64 e7, .int .i64 e8] 42)
                  have V5 := Lib.hid (VR.out.go d5)
                  have K5 := Lib.hid (KR.out.go d5)
                  have B5 := Lib.hid (BR.out.go d5)
                  have P5 := Lib.hid (PR.out.go d5)
                  have F5 := Lib.hid (FR.out.trans (d5.mono FR.out.size))
                  have hlb : wr.heap.size < wr.heap.size + 1 := Nat.lt_succ_self _
                  have kp := PR.out.cell
                  have hgpl : gp < wr.heap.size := PR.out.lt
                  clear d5
                  by_cases hnm : bn = br
                  · have hnn : (bn.toList == br.toList) = true := by rw [hnm]; simp
                    have HNM := Lib.hid hnm
                    clear hnm
                    by_cases hp0 : part = 0
                    · have hq0 : (part == 0) = true := by simp [hp0]
                      have HP0 := Lib.hid hp0
                      clear hp0
                      have HPR := Lib.hid (HPR.out (by rw [HSH.out]; simp [HP0.out]))
                      go_wp2_with fail
                      refine (CA.out gn ga gk A m c l2 k bf bt _ F5.out B5.out V5.out K5.out hkm hm9 HG.out.2.1 (by have := HGK.out; omega) HGK.out.2).mono ?_
                      rintro e w7 ⟨rfl, A7, m7, c7, hv7, hm7, ho7⟩
                      have V7 := Lib.hid hv7
                      have K7 := Lib.hid (ho7.blk K5.out (by have := HGK.out; omega) HGK.out.2)
                      have B7 := Lib.hid (ho7.blk B5.out (by have := HG.out; omega) (own_ne V5.out.2.1 (.inl (by have := HG.out; omega))))
                      have P7 := Lib.hid (ho7.blk P5.out (by have := HG.out; omega) (own_ne V5.out.2.1 (.inl (by have := HG.out; omega))))
                      have F7 : Hid (Below w.heap.size w w7) := F5.out.trans (ho7.below (by have := HG.out; omega) F5.out.size (fun g hg => by have := (V5.out.2.1.lt g hg).1; have := HG.out; omega))
                      have HG7 : Hid (ga < gk ∧ some gk ≠ (Value.slice A7 m7 c7).ownBlock) := ⟨HGK.out.1, fun e => by rcases ho7.own gk e.symm with h | h; exact HGK.out.2 h.symm; have := K5.out.lt; omega⟩
                      have HT7 := Lib.hid (Pl.nearAdd_tree HT.out HU.out (i := Pl.idxT N.nodes bf) (j := Pl.idxT N.nodes bt) HPR.out HI.out HJ.out)
                      have HX7 : Hid (∃ r, Pl.nearAdd l2 (l.getD k 0) (Pl.idxT N.nodes bf) (Pl.idxT N.nodes bt) = l ++ r) := by
                        obtain ⟨r, hr⟩ := HX.out
                        obtain ⟨r2, hr2⟩ := Pl.nearAdd_pre l2 (l.getD k 0) (Pl.idxT N.nodes bf) (Pl.idxT N.nodes bt)
                        exact ⟨r ++ r2, by rw [hr2, hr, List.append_assoc]⟩
                      have HH7 := Lib.hid (Pl.nearAdd_has l2 (l.getD k 0) (Pl.idxT N.nodes bf) (Pl.idxT N.nodes bt))
                      have HSB : Hid (∀ v, v ∈ l2 → v ∈ Pl.nearAdd l2 (l.getD k 0) (Pl.idxT N.nodes bf) (Pl.idxT N.nodes bt)) := fun v hv => by obtain ⟨r2, hr2⟩ := Pl.nearAdd_pre l2 (l.getD k 0) (Pl.idxT N.nodes bf) (Pl.idxT N.nodes bt); rw [hr2]; exact List.mem_append_left _ hv
                      have HLU : Hid (l2.getD k 0 = l.getD k 0) := by obtain ⟨r, hr⟩ := HX.out; show _ = _; rw [hr, List.getD_eq_getElem?_getD, List.getElem?_append_left (by omega), List.getD_eq_getElem?_getD]
                      rw [HLU.out] at V7
                      clear hv7 ho7
                      clear s0 s1 s2 s3 s4 s5 s6 s7 s8 hlb kp hgpl
                      go_wp2_with fail
                      go_roundw
                      case rel => exact ⟨j + 1, m7, c7, A7, _, by omega, by go_num, V7, HT7, HX7, (fun j' h h3 => by have := HSA.out j' h h3; exact ⟨fun h4 => HSB.out _ (this.1 h4), fun h4 => HSB.out _ (this.2 h4)⟩), (fun j' h h2 h3 => by
                        by_cases e : j' = j
                        · subst e; rw [← HSWE.out]; exact HH7.out
                        · have := HBA.out j' h (by omega) h3; exact ⟨fun h4 => HSB.out _ (this.1 h4), fun h4 => HSB.out _ (this.2 h4)⟩), K7, HG7, B7, P7, F7⟩
                      case measure => simp [intOf]; omega
                    · have hq0 : (part == 0) = false := by simp [hp0]
                      by_cases hp1 : part = 1000
                      · have hq1 : (part == 1000) = true := by simp [hp1]
                        have HP1 := Lib.hid hp1
                        clear hp1 hp0
                        have HPR := Lib.hid (HPR.out (by rw [HSH.out]; simp [HP1.out]))
                        go_wp2_with fail
                        refine (CA.out gn ga gk A m c l2 k bf bt _ F5.out B5.out V5.out K5.out hkm hm9 HG.out.2.1 (by have := HGK.out; omega) HGK.out.2).mono ?_
                        rintro e w7 ⟨rfl, A7, m7, c7, hv7, hm7, ho7⟩
                        have V7 := Lib.hid hv7
                        have K7 := Lib.hid (ho7.blk K5.out (by have := HGK.out; omega) HGK.out.2)
                        have B7 := Lib.hid (ho7.blk B5.out (by have := HG.out; omega) (own_ne V5.out.2.1 (.inl (by have := HG.out; omega))))
                        have P7 := Lib.hid (ho7.blk P5.out (by have := HG.out; omega) (own_ne V5.out.2.1 (.inl (by have := HG.out; omega))))
                        have F7 : Hid (Below w.heap.size w w7) := F5.out.trans (ho7.below (by have := HG.out; omega) F5.out.size (fun g hg => by have := (V5.out.2.1.lt g hg).1; have := HG.out; omega))
                        have HG7 : Hid (ga < gk ∧ some gk ≠ (Value.slice A7 m7 c7).ownBlock) := ⟨HGK.out.1, fun e => by rcases ho7.own gk e.symm with h | h; exact HGK.out.2 h.symm; have := K5.out.lt; omega⟩
                        have HT7 := Lib.hid (Pl.nearAdd_tree HT.out HU.out (i := Pl.idxT N.nodes bf) (j := Pl.idxT N.nodes bt) HPR.out HI.out HJ.out)
                        have HX7 : Hid (∃ r, Pl.nearAdd l2 (l.getD k 0) (Pl.idxT N.nodes bf) (Pl.idxT N.nodes bt) = l ++ r) := by
                          obtain ⟨r, hr⟩ := HX.out
                          obtain ⟨r2, hr2⟩ := Pl.nearAdd_pre l2 (l.getD k 0) (Pl.idxT N.nodes bf) (Pl.idxT N.nodes bt)
                          exact ⟨r ++ r2, by rw [hr2, hr, List.append_assoc]⟩
                        have HH7 := Lib.hid (Pl.nearAdd_has l2 (l.getD k 0) (Pl.idxT N.nodes bf) (Pl.idxT N.nodes bt))
                        have HSB : Hid (∀ v, v ∈ l2 → v ∈ Pl.nearAdd l2 (l.getD k 0) (Pl.idxT N.nodes bf) (Pl.idxT N.nodes bt)) := fun v hv => by obtain ⟨r2, hr2⟩ := Pl.nearAdd_pre l2 (l.getD k 0) (Pl.idxT N.nodes bf) (Pl.idxT N.nodes bt); rw [hr2]; exact List.mem_append_left _ hv
                        have HLU : Hid (l2.getD k 0 = l.getD k 0) := by obtain ⟨r, hr⟩ := HX.out; show _ = _; rw [hr, List.getD_eq_getElem?_getD, List.getElem?_append_left (by omega), List.getD_eq_getElem?_getD]
                        rw [HLU.out] at V7
                        clear hv7 ho7
                        clear s0 s1 s2 s3 s4 s5 s6 s7 s8 hlb kp hgpl
                        go_wp2_with fail
                        go_roundw
                        case rel => exact ⟨j + 1, m7, c7, A7, _, by omega, by go_num, V7, HT7, HX7, (fun j' h h3 => by have := HSA.out j' h h3; exact ⟨fun h4 => HSB.out _ (this.1 h4), fun h4 => HSB.out _ (this.2 h4)⟩), (fun j' h h2 h3 => by
                          by_cases e : j' = j
                          · subst e; rw [← HSWE.out]; exact HH7.out
                          · have := HBA.out j' h (by omega) h3; exact ⟨fun h4 => HSB.out _ (this.1 h4), fun h4 => HSB.out _ (this.2 h4)⟩), K7, HG7, B7, P7, F7⟩
                        case measure => simp [intOf]; omega
                      · have hq1 : (part == 1000) = false := by simp [hp1]
                        have HNW : Hid (Pl.wholeB br part ⟨bn, bf, bt, e3, e4, e5, e6, e7, e8⟩ = false) := by show _ = _; rw [HSH.out]; simp [HNM.out, hp0, hp1]
                        clear hp0 hp1
                        go_wp2_with fail
                        go_roundw
                        case rel => exact ⟨j + 1, m, c, A, l2, by omega, by go_num, V5, HT, HX, HSA, (fun j' h h2 h3 => by
                          by_cases e : j' = j
                          · subst e; rw [← HSWE.out, HNW.out] at h3; cases h3
                          · exact HBA.out j' h (by omega) h3), K5, HGK, B5, P5, F5⟩
                        case measure => simp [intOf]; omega
                  · have hnn : (bn.toList == br.toList) = false := by rw [lst_beq]; exact decide_eq_false (fun e => hnm (Pl.lst_inj e))
                    have HNM : Hid (¬ Pl.lst bn = Pl.lst br) := fun e => hnm (Pl.lst_inj e)
                    clear hnm
                    have HPR := Lib.hid (HPR.out (by rw [HSH.out]; simp [HNM.out]))
                    go_wp2_with fail
                    refine (CA.out gn ga gk A m c l2 k bf bt _ F5.out B5.out V5.out K5.out hkm hm9 HG.out.2.1 (by have := HGK.out; omega) HGK.out.2).mono ?_
                    rintro e w7 ⟨rfl, A7, m7, c7, hv7, hm7, ho7⟩
                    have V7 := Lib.hid hv7
                    have K7 := Lib.hid (ho7.blk K5.out (by have := HGK.out; omega) HGK.out.2)
                    have B7 := Lib.hid (ho7.blk B5.out (by have := HG.out; omega) (own_ne V5.out.2.1 (.inl (by have := HG.out; omega))))
                    have P7 := Lib.hid (ho7.blk P5.out (by have := HG.out; omega) (own_ne V5.out.2.1 (.inl (by have := HG.out; omega))))
                    have F7 : Hid (Below w.heap.size w w7) := F5.out.trans (ho7.below (by have := HG.out; omega) F5.out.size (fun g hg => by have := (V5.out.2.1.lt g hg).1; have := HG.out; omega))
                    have HG7 : Hid (ga < gk ∧ some gk ≠ (Value.slice A7 m7 c7).ownBlock) := ⟨HGK.out.1, fun e => by rcases ho7.own gk e.symm with h | h; exact HGK.out.2 h.symm; have := K5.out.lt; omega⟩
                    have HT7 := Lib.hid (Pl.nearAdd_tree HT.out HU.out (i := Pl.idxT N.nodes bf) (j := Pl.idxT N.nodes bt) HPR.out HI.out HJ.out)
                    have HX7 : Hid (∃ r, Pl.nearAdd l2 (l.getD k 0) (Pl.idxT N.nodes bf) (Pl.idxT N.nodes bt) = l ++ r) := by
                      obtain ⟨r, hr⟩ := HX.out
                      obtain ⟨r2, hr2⟩ := Pl.nearAdd_pre l2 (l.getD k 0) (Pl.idxT N.nodes bf) (Pl.idxT N.nodes bt)
                      exact ⟨r ++ r2, by rw [hr2, hr, List.append_assoc]⟩
                    have HH7 := Lib.hid (Pl.nearAdd_has l2 (l.getD k 0) (Pl.idxT N.nodes bf) (Pl.idxT N.nodes bt))
                    have HSB : Hid (∀ v, v ∈ l2 → v ∈ Pl.nearAdd l2 (l.getD k 0) (Pl.idxT N.nodes bf) (Pl.idxT N.nodes bt)) := fun v hv => by obtain ⟨r2, hr2⟩ := Pl.nearAdd_pre l2 (l.getD k 0) (Pl.idxT N.nodes bf) (Pl.idxT N.nodes bt); rw [hr2]; exact List.mem_append_left _ hv
                    have HLU : Hid (l2.getD k 0 = l.getD k 0) := by obtain ⟨r, hr⟩ := HX.out; show _ = _; rw [hr, List.getD_eq_getElem?_getD, List.getElem?_append_left (by omega), List.getD_eq_getElem?_getD]
                    rw [HLU.out] at V7
                    clear hv7 ho7
                    clear s0 s1 s2 s3 s4 s5 s6 s7 s8 hlb kp hgpl
                    go_wp2_with fail
                    go_roundw
                    case rel => exact ⟨j + 1, m7, c7, A7, _, by omega, by go_num, V7, HT7, HX7, (fun j' h h3 => by have := HSA.out j' h h3; exact ⟨fun h4 => HSB.out _ (this.1 h4), fun h4 => HSB.out _ (this.2 h4)⟩), (fun j' h h2 h3 => by
                      by_cases e : j' = j
                      · subst e; rw [← HSWE.out]; exact HH7.out
                      · have := HBA.out j' h (by omega) h3; exact ⟨fun h4 => HSB.out _ (this.1 h4), fun h4 => HSB.out _ (this.2 h4)⟩), K7, HG7, B7, P7, F7⟩
                    case measure => simp [intOf]; omega
                · have HDN : Hid (Pl.NDone (Pl.PairN N open_ br part) l2 (k + 1)) := by
                    intro i u hi hu v
                    obtain ⟨r, hr⟩ := HX.out
                    by_cases hik : i < k
                    · rw [hr] at hu ⊢
                      exact HDL.out.more hkl i u hik hu v
                    · have : i = k := by omega
                      subst this
                      have hue : u = l.getD i 0 := by
                        rw [hr, List.getElem?_append_left (by omega), List.getElem?_eq_getElem (by omega)] at hu
                        injection hu with hu
                        rw [List.getD_eq_getElem?_getD, List.getElem?_eq_getElem (by omega)]; exact hu.symm
                      subst hue
                      refine ⟨fun hp => ?_, fun hp => ?_⟩
                      · rcases hp with ⟨s, hs, h1, h2, h3⟩ | ⟨x, hx, h1, h2, h3⟩
                        · obtain ⟨j', hj', rfl⟩ := List.getElem_of_mem hs
                          rw [h3]; exact (HSA.out j' hj' h1).1 h2.symm
                        · obtain ⟨j', hj', rfl⟩ := List.getElem_of_mem hx
                          rw [h3]; exact (HBA.out j' hj' (by have := HL2.out; omega) h1).1 h2.symm
                      · rcases hp with ⟨s, hs, h1, h2, h3⟩ | ⟨x, hx, h1, h2, h3⟩
                        · obtain ⟨j', hj', rfl⟩ := List.getElem_of_mem hs
                          rw [h2]; exact (HSA.out j' hj' h1).2 h3.symm
                        · obtain ⟨j', hj', rfl⟩ := List.getElem_of_mem hx
                          rw [h2]; exact (HBA.out j' hj' (by have := HL2.out; omega) h1).2 h3.symm
                  have kk : wr.cell? ⟨gk, 0, none⟩ = some (.int .i64 k) := KR.out.cell 0
                  have X6 := Lib.hid (Blk.new_ wr wr.heap.size 3 #[.int .i64 ((k + 1 : Nat) : Int)] rfl)
                  have d6 := (Below.refl wr.heap.size wr).alloc (Nat.le_refl _) (.cells #[.int .i64 ((k + 1 : Nat) : Int)] 3)
                  have V6 := Lib.hid (VR.out.go d6)
                  have B6 := Lib.hid (BR.out.go d6)
                  have P6 := Lib.hid (PR.out.go d6)
                  have F6 := Lib.hid (FR.out.trans (d6.mono FR.out.size))
                  have HG6 : Hid (ga < wr.heap.size ∧ some wr.heap.size ≠ (Value.slice A m c).ownBlock) := ⟨VR.out.1.lt, own_ne VR.out.2.1 (.inr (Nat.le_refl _))⟩
                  have wk : IntKind.i64.wrap ((k : Int) + 1) = (k : Int) + 1 := IntWalk.i64_in _ (by omega)
                  have hlb : wr.heap.size < wr.heap.size + 1 := Nat.lt_succ_self _
                  have ek : ((k + 1 : Nat) : Int) = (k : Int) + 1 := by omega
                  rw [ek] at V6 B6 P6 F6
                  clear d6 ek
                  go_wp2_with fail
                  go_roundg (25 - (k + 1))
                  case rel => exact ⟨wr.heap.size, k + 1, m, c, A, l2, by omega, Nat.le_refl _, rfl, V6, HT, HDN, X6, HG6, B6, P6, F6⟩
                  case measure => omega
        · have hke : k = l.length := by omega
          have HNI := Lib.hid (Pl.near_iff HTL.out (by rw [hke] at HDL; exact HDL.out))
          clear hke
          go_wp2_with fail
          go_ret
          exact ⟨A, m, c, l, rfl, Reads.of_own VL.out.2.1, HTL.out.nodup, HNI.out, by omega, FL.out⟩
end Go.Proofs.Ytpamgeemmbbkkaa
