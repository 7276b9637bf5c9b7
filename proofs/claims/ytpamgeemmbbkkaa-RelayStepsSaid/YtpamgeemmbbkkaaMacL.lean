/- NewMachine: a machine of the reference's for a program. Condition: the program reads. -/
import Derived.Test.YtpamgeemmbbkkaaMacK
namespace Go.Proofs.Ytpamgeemmbbkkaa
open Go.RowKit
set_option maxRecDepth 100000
def NewMSaid (A : Option Addr) (n : Nat) (l : List MRul) (w : World) (e : Ending) (w' : World) : Prop :=
  ∃ M : MC, e = .returned (.pointer (some ⟨M.mm, 0, none⟩)) ∧ M.A = A ∧ M.n = n ∧ M.l = l ∧ M.H = w.heap.size ∧ MS0 M w' (fun _ _ => (false, 0)) (List.replicate n false) ∧ Below w.heap.size w w'
set_option maxHeartbeats 6400000 in
theorem newm_any (A : Option Addr) (n c : Nat) (l : List MRul) (w : World) (hn : n ≤ 16) (h : Ruls w w.heap.size A n l) (hl64 : ∀ o ∈ l, o.n ≤ 64) :
    Calls Try.prog 24 #[.slice A n c] w (NewMSaid A n l w) := by
  have H := Lib.hid h
  have H64 := Lib.hid hl64
  obtain ⟨j0, ji0, jz0, jz1, jz2⟩ := info_parts info_bm
  obtain ⟨k0, ki0, kz0, kz1, kz2⟩ := info_parts info_im
  have hmkB : ∀ (q : Nat), q ≤ 64 → ∀ w, (Instr.makeSlice 110 (.int .i64 (q : Int)) (.int .i64 (q : Int))).run Try.prog w = .ok (.slice (some ⟨w.heap.size, 0, none⟩) q q) (w.alloc (.cells (Array.replicate q (Value.bool false)) 4)) := fun q hq w => by
    have := run_make (P := Try.prog) w 110 4 j0 (.bool false) Try.underlying110 ji0 jz0 .i64 .i64 q q (by omega) (by omega) (by rw [jz2]; omega) (by omega)
    rw [jz1, show (Value.bool false).cells = #[.bool false] from rfl] at this
    rw [show Array.replicate q (Value.bool false) = madeCells #[.bool false] q from by
      apply Array.ext'
      rw [toList_madeCells_one]
      simp]
    simpa using this
  have hmkI : ∀ (q : Nat), q ≤ 64 → ∀ w, (Instr.makeSlice 45 (.int .i64 (q : Int)) (.int .i64 (q : Int))).run Try.prog w = .ok (.slice (some ⟨w.heap.size, 0, none⟩) q q) (w.alloc (.cells (Array.replicate q (Value.int .i64 0)) 3)) := fun q hq w => by
    have := run_make (P := Try.prog) w 45 3 k0 (.int .i64 0) Try.underlying45 ki0 kz0 .i64 .i64 q q (by omega) (by omega) (by rw [kz2]; omega) (by omega)
    rw [kz1, show (Value.int .i64 0).cells = #[.int .i64 0] from rfl] at this
    rw [show Array.replicate q (Value.int .i64 0) = madeCells #[.int .i64 0] q from by
      apply Array.ext'
      rw [toList_madeCells_one]
      simp]
    simpa using this
  have HMB := Lib.hid hmkB
  have HMI := Lib.hid hmkI
  have hmk := hmkB n (by omega)
  clear h hl64 hmkB hmkI ji0 jz0 jz1 jz2 ki0 kz0 kz1 kz2
  go_enter Try.func24, Try.ntmps24
  go_wp2_with fail
  have B0 := Lib.hid ((Blk.new_ w w.heap.size 4 (Array.replicate n (Value.bool false)) rfl).alloc (.cells #[.slice A n c, .slice none 0 0, .slice none 0 0, .slice (some ⟨w.heap.size, 0, none⟩) n n, .slice none 0 0] 114))
  have BM := Lib.hid (Blk.new_ (w.alloc (.cells (Array.replicate n (Value.bool false)) 4)) (w.heap.size + 1) 114 #[.slice A n c, .slice none 0 0, .slice none 0 0, .slice (some ⟨w.heap.size, 0, none⟩) n n, .slice none 0 0] (by simp))
  have D0 := Lib.hid (((Below.refl w.heap.size w).alloc (Nat.le_refl _) (.cells (Array.replicate n (Value.bool false)) 4)).alloc (by simp) (.cells #[.slice A n c, .slice none 0 0, .slice none 0 0, .slice (some ⟨w.heap.size, 0, none⟩) n n, .slice none 0 0] 114))
  have S0 : Hid (((w.alloc (.cells (Array.replicate n (Value.bool false)) 4)).alloc (.cells #[.slice A n c, .slice none 0 0, .slice none 0 0, .slice (some ⟨w.heap.size, 0, none⟩) n n, .slice none 0 0] 114)).heap.size = w.heap.size + 2) := by show _ = _; simp
  generalize ((w.alloc (.cells (Array.replicate n (Value.bool false)) 4)).alloc (.cells #[.slice A n c, .slice none 0 0, .slice none 0 0, .slice (some ⟨w.heap.size, 0, none⟩) n n, .slice none 0 0] 114)) = w1 at *
  have hs1 : w.heap.size + 2 ≤ w1.heap.size := by have := S0.out; omega
  clear hmk
  obtain ⟨i0, hi0, hz0, hz1, hz2⟩ := info_parts info_slb
  obtain ⟨m0, mi0, mz0, mz1, mz2⟩ := info_parts info_sli
  have HIA := Lib.hid (And.intro hi0 (And.intro hz0 (And.intro hz1 hz2)))
  have HIB := Lib.hid (And.intro mi0 (And.intro mz0 (And.intro mz1 mz2)))
  clear hi0 hz0 hz1 hz2 mi0 mz0 mz1 mz2
  go_loopw [14] (fun i wr => ∃ (j : Nat) (oV tV : Value) (bo bt : List Nat), j ≤ n ∧ i = .int .i64 j ∧ Hid (Blk wr (w.heap.size + 1) 114 #[.slice A n c, oV, tV, .slice (some ⟨w.heap.size, 0, none⟩) n n, .slice none 0 0]) ∧ Hid (Blk wr w.heap.size 4 (Array.replicate n (Value.bool false))) ∧ Hid (Rows_ wr (w.heap.size + 2) l 4 (.bool false) 110 oV bo ∧ bo.length = j) ∧ Hid (Rows_ wr (w.heap.size + 2) l 3 (.int .i64 0) 45 tV bt ∧ bt.length = j) ∧ Hid (Below w.heap.size w wr) ∧ w.heap.size + 2 ≤ wr.heap.size) (fun i _ => n - (intOf i).toNat)
  case atStart => exact ⟨0, _, _, [], [], Nat.zero_le _, rfl, BM.out, B0.out, Lib.hid ⟨⟨World.ownsRow_nil _ _ _ _, fun k b h => by simp at h, by simp⟩, rfl⟩, Lib.hid ⟨⟨World.ownsRow_nil _ _ _ _, fun k b h => by simp at h, by simp⟩, rfl⟩, D0.out, hs1⟩
  case round =>
    obtain ⟨j, oV, tV, bo, bt, hj, rfl, HMM, HGV, HRO, HRT, HB, hsz⟩ := hrel
    by_cases hlt : j < n
    · have hru := H.out.below HB.out
      obtain ⟨b0, o0, rfl, hb0, hlk, p0, p1, hri⟩ := rul_at hru hlt
      have hb1 := cell_lt p0
      have hb2 : b0 < wr.heap.size := hb1
      have hq64 := H64.out _ (List.getElem_mem hlk)
      have hlen : Hid (lenOf l j = (l[j]).n) := by
        show _ = _
        unfold lenOf
        rw [List.getElem?_eq_getElem hlk]
        exact hri.2.2.1.2
      obtain ⟨oA, oC, hoS⟩ := HRO.out.1.shape
      obtain ⟨tA, tC, htS⟩ := HRT.out.1.shape
      subst hoS htS
      have D1 := Lib.hid ((Below.refl wr.heap.size wr).alloc (Nat.le_refl _) (.cells #[.string l[j].nm, .slice l[j].A l[j].n l[j].c] 96))
      have B1 := Lib.hid (Blk.new_ wr wr.heap.size 96 #[.string l[j].nm, .slice l[j].A l[j].n l[j].c] rfl)
      have M1 := Lib.hid (HMM.out.go D1.out)
      clear hri hru
      generalize l[j].nm = nn at *
      generalize l[j].A = rA at *
      generalize l[j].n = rN at *
      generalize l[j].c = rC at *
      go_wp2_with fail
      have M1N := M1
      have szw : w.heap.size + 2 ≤ (wr.alloc (.cells #[.string nn, .slice rA rN rC] 96)).heap.size := by simp; omega
      have GG1 := Lib.hid (HGV.out.go D1.out)
      have RR1 := Lib.hid (HRO.out.1.go D1.out)
      have QQ1 := Lib.hid (HRT.out.1.go D1.out)
      have DD1 : Hid (Below w.heap.size w (wr.alloc (.cells #[.string nn, .slice rA rN rC] 96))) := HB.out.trans (D1.out.mono HB.out.size)
      generalize (wr.alloc (.cells #[.string nn, .slice rA rN rC] 96)) = wb at *
      have hSw : (fun w' : World => w'.cell? ⟨w.heap.size + 1, 1, none⟩ = some (.slice oA bo.length oC) ∧ w'.cell? ⟨wr.heap.size, 1, none⟩ = some (.slice rA rN rC)) wb.drew := ⟨M1.out.cell 1, B1.out.cell 1⟩
      have hmk := HMB.out rN hq64
      have Mzx : Hid (Blk wb.drew (w.heap.size + 1) 114 #[.slice (some ⟨b0, o0, none⟩) n c, (.slice oA bo.length oC), (.slice tA bt.length tC), .slice (some ⟨w.heap.size, 0, none⟩) n n, .slice none 0 0]) := M1.out
      have Bzx : Hid (Blk wb.drew wr.heap.size 96 #[.string nn, .slice rA rN rC]) := B1.out
      have Gzx : Hid (Blk wb.drew w.heap.size 4 (Array.replicate n (Value.bool false))) := GG1.out
      have Rzx : Hid (Rows_ wb.drew (w.heap.size + 2) l 4 (Value.bool false) 110 (.slice oA bo.length oC) bo) := RR1.out.go ((Below.refl _ _).drew)
      have Qzx : Hid (Rows_ wb.drew (w.heap.size + 2) l 3 (.int .i64 0) 45 (.slice tA bt.length tC) bt) := QQ1.out.go ((Below.refl _ _).drew)
      have Dzx : Hid (Below w.heap.size w wb.drew) := DD1.out.drew
      have szx : w.heap.size + 2 ≤ wb.drew.heap.size := szw
      have sbx : wr.heap.size < wb.drew.heap.size := Bzx.out.lt
      refine wp_region_mid (fun w' : World => w'.cell? ⟨w.heap.size + 1, 1, none⟩ = some (.slice oA bo.length oC) ∧ w'.cell? ⟨wr.heap.size, 1, none⟩ = some (.slice rA rN rC)) 11 (by kernel_rfl) ?_
      generalize wb.drew = wzx at *
      refine wpAnyM_take 0 rfl (by kernel_rfl) (by kernel_rfl) (by kernel_rfl) (by kernel_rfl) (by kernel_rfl) (fun _ _ _ h => h) hSw (by rfl) (fun w' hSx => by (try dsimp only at hSx); go_simp; first | done | with_reducible rfl) ?_
      simp only [Act.put, List.setIfInBounds_toArray]
      refine wpAnyM_take 1 rfl (by kernel_rfl) (by kernel_rfl) (by kernel_rfl) (by kernel_rfl) (by kernel_rfl) (fun _ _ _ h => h) hSw (by rfl) (fun w' hSx => by (try dsimp only at hSx); go_simp; first | done | with_reducible rfl) ?_
      simp only [Act.put]
      refine wpAnyM_take 2 rfl (by kernel_rfl) (by kernel_rfl) (by kernel_rfl) (by kernel_rfl) (by kernel_rfl) (fun _ _ _ h => h) hSw (by rfl) (fun w' hSx => by (try dsimp only at hSx); go_simp; first | done | with_reducible rfl) ?_
      simp only [Act.put]
      refine wpAnyM_take 3 rfl (by kernel_rfl) (by kernel_rfl) (by kernel_rfl) (by kernel_rfl) (by kernel_rfl) (fun _ _ _ h => h) hSw (by rfl) (fun w' hSx => by (try dsimp only at hSx); go_simp; first | done | with_reducible rfl) ?_
      simp only [Act.put]
      refine wpAnyM_take 4 rfl (by kernel_rfl) (by kernel_rfl) (by kernel_rfl) (by kernel_rfl) (by kernel_rfl) (fun _ _ _ h => h) hSw (by rfl) (fun w' hSx => by (try dsimp only at hSx); go_simp; first | done | with_reducible rfl) ?_
      simp only [Act.put]
      refine wpAnyM_take 5 rfl (by kernel_rfl) (by kernel_rfl) (by kernel_rfl) (by kernel_rfl) (by kernel_rfl) (fun _ _ _ h => h) hSw (by rfl) (fun w' hSx => by (try dsimp only at hSx); go_simp; first | done | with_reducible rfl) ?_
      simp only [Act.put]
      refine wpAnyM_take 6 rfl (by kernel_rfl) (by kernel_rfl) (by kernel_rfl) (by kernel_rfl) (by kernel_rfl) (fun _ _ _ h => h) hSw (by rfl) (fun w' hSx => by (try dsimp only at hSx); go_simp; first | done | with_reducible rfl) ?_
      simp only [Act.put]
      refine wpAnyM_take 7 rfl (by kernel_rfl) (by kernel_rfl) (by kernel_rfl) (by kernel_rfl) (by kernel_rfl) (fun _ _ _ h => h) hSw (by rfl) (fun w' hSx => by (try dsimp only at hSx); go_simp; first | done | with_reducible rfl) ?_
      simp only [Act.put]
      have D2x := Lib.hid ((Below.refl wzx.heap.size wzx).alloc (Nat.le_refl _) (.cells (Array.replicate rN (Value.bool false)) 4))
      have E2x := Lib.hid (Blk.new_ wzx wzx.heap.size 4 (Array.replicate rN (Value.bool false)) rfl)
      have S2x : (wzx.alloc (.cells (Array.replicate rN (Value.bool false)) 4)).heap.size = wzx.heap.size + 1 := by simp
      refine wpAnyM_ready [8] (by kernel_rfl) (by simp) ?_
      refine AllReadyM.cons (by rfl) (fun K hK => ?_) AllReadyM.nil
      go_simp
      generalize (wzx.alloc (.cells (Array.replicate rN (Value.bool false)) 4)) = wcx at *
      refine hK.out _ _ ⟨(Mzx.out.go D2x.out).cell 1, (Bzx.out.go D2x.out).cell 1⟩ ?_
      clear hK K hSw
      have HS2x := Lib.hid S2x
      clear S2x
      have D3x := Lib.hid ((Below.refl wcx.heap.size wcx).alloc (Nat.le_refl _) (.cells #[.slice (some ⟨wzx.heap.size, 0, none⟩) rN rN] 110))
      have L3x := Lib.hid (Blk.new_ wcx wcx.heap.size 110 #[.slice (some ⟨wzx.heap.size, 0, none⟩) rN rN] rfl)
      refine wpAnyM_ready [9] (by kernel_rfl) (by simp) ?_
      refine AllReadyM.cons (by rfl) (fun K hK => ?_) AllReadyM.nil
      go_simp
      generalize (wcx.alloc (.cells #[.slice (some ⟨wzx.heap.size, 0, none⟩) rN rN] 110)) = wdx at *
      have Dbx : Hid (Below wzx.heap.size wzx wdx) := D2x.out.trans (D3x.out.mono D2x.out.size)
      have Mdx := Lib.hid (Mzx.out.go Dbx.out)
      have Bdx := Lib.hid (Bzx.out.go Dbx.out)
      have Gdx := Lib.hid (Gzx.out.go Dbx.out)
      have Rdx := Lib.hid (Rzx.out.go Dbx.out)
      have Qdx := Lib.hid (Qzx.out.go Dbx.out)
      have Edx := Lib.hid (E2x.out.go D3x.out)
      have Ddx : Hid (Below w.heap.size w wdx) := Dzx.out.trans (Dbx.out.mono (by omega))
      refine hK.out _ _ ⟨Mdx.out.cell 1, Bdx.out.cell 1⟩ ?_
      clear hK K
      have sdbx := Dbx.out.size
      obtain ⟨g0, g1, g2, g3⟩ := HIA.out
      have hrx : Reads wdx wdx.heap.size 1 (some ⟨wcx.heap.size, 0, none⟩) 1 [.slice (some ⟨wzx.heap.size, 0, none⟩) rN rN] := by
        have := Reads.lit wcx #[.slice (some ⟨wzx.heap.size, 0, none⟩) rN rN] 110 1 1 wcx.heap.size rfl rfl
        exact ⟨rfl, fun _ => ⟨_, rfl, L3x.out.lt, fun i u hu => by
          match i, hu with
          | 0, hu => simp at hu; subst hu; exact L3x.out.cell 0
          | i + 1, hu => simp at hu⟩⟩
      obtain ⟨v4x, w4x, hru4, ho4, hg4, hob4⟩ := run_append_any (P := Try.prog) wdx (w.heap.size + 2) 111 111 110 _ _ 1 24 Try.underlying111 g0 g1 g2 g3 rfl (by omega) (.slice oA bo.length oC) bo.length _ Rdx.out.out wdx.heap.size (some ⟨wcx.heap.size, 0, none⟩) 1 1 [.slice (some ⟨wzx.heap.size, 0, none⟩) rN rN] hrx (by simp [Value.oneCell']) (by unfold maxLen; have := HRO.out.2; omega) (by have := HRO.out.2; omega) (by omega)
      obtain ⟨v4A, v4C, hv4, _⟩ := own_slice ho4
      subst hv4
      have htyx : ∀ ty, (Builtin.append_ #[111, 111] ty #[(.slice oA bo.length oC), .slice (some ⟨wcx.heap.size, 0, none⟩) 1 1]).run Try.prog wdx = .ok (.slice v4A (bo.length + 1) v4C) w4x := by
        intro ty
        assumption
      have M4x := Lib.hid (Mdx.out.grown hg4 (own_nt Rdx.out.out Mdx.out (by decide)))
      have B4x := Lib.hid (Bdx.out.grown hg4 (own_nt Rdx.out.out Bdx.out (by decide)))
      have G4x := Lib.hid (Gdx.out.grown hg4 (own_nt Rdx.out.out Gdx.out (by decide)))
      have Q4x := Lib.hid (Qdx.out.past Rdx.out.out (by decide) (by decide) hg4)
      have HLBx : Hid (lenOf l bo.length = rN) := by rw [HRO.out.2]; exact hlen
      have R4x := Lib.hid (Rzx.out.push (by decide) Dbx.out rfl (by omega) (by rw [HLBx.out]; exact Edx.out) (by rw [HLBx.out]; exact ho4) hg4)
      have D4x : Hid (Below w.heap.size w w4x) := below_grown Ddx.out hg4 Rdx.out.out (by omega) (by omega)
      have s4x : w.heap.size + 2 ≤ w4x.heap.size := by have := hg4.size; omega
      clear hru4 ho4 hg4 hob4 g0 g1 g2 g3 hrx Mzx Bzx Gzx Rzx Qzx Dzx E2x Edx Mdx Bdx Gdx Rdx Qdx Dbx Ddx L3x D2x D3x hmk
      refine wpAnyM_ready [10] (by kernel_rfl) (by simp) ?_
      refine AllReadyM.cons (by rfl) (fun K hK => ?_) AllReadyM.nil
      refine step_append_run (by rfl) _ _ _ (by rfl) _ _ _ (by rfl) (by rfl) htyx ?_
      simp only [Act.put]
      refine hK.out _ _ ⟨M4x.out.cell 1, B4x.out.cell 1⟩ ?_
      clear hK K htyx
      have m4 := M4x.out.cell 1
      have m4f := M4x.out.frozen 1
      have m4l := M4x.out.lt
      refine wpAnyM_ready [11] (by kernel_rfl) (by simp) ?_
      refine AllReadyM.last (by rfl) (by omega) (fun K hK => ?_)
      go_simp
      refine hK.out _ _ ?_
      clear hK K
      refine wpAnyM_ready [12] (by kernel_rfl) (by simp) ?_
      refine AllReadyM.last (by rfl) (by omega) (fun K hK => ?_)
      go_simp
      refine hK.out _ _ ?_
      clear hK K
      refine wpAnyM_ready [13] (by kernel_rfl) (by simp) ?_
      refine AllReadyM.last (by rfl) (by omega) (fun K hK => ?_)
      go_simp
      refine hK.out _ _ ?_
      clear hK K m4 m4f m4l
      refine wpAnyM_done (by kernel_rfl) ?_ _
      have M5x := Lib.hid (M4x.out.set_ 1 (.slice v4A (bo.length + 1) v4C))
      have B5x := Lib.hid (B4x.out.far (p := ⟨w.heap.size + 1, 1, none⟩) (by show wr.heap.size ≠ w.heap.size + 1; omega) (.slice v4A (bo.length + 1) v4C))
      have G5x := Lib.hid (G4x.out.far (p := ⟨w.heap.size + 1, 1, none⟩) (by show w.heap.size ≠ w.heap.size + 1; omega) (.slice v4A (bo.length + 1) v4C))
      have R5x := Lib.hid (R4x.out.set_ ⟨w.heap.size + 1, 1, none⟩ (by show w.heap.size + 1 < w.heap.size + 2; omega) (.slice v4A (bo.length + 1) v4C))
      have Q5x := Lib.hid (Q4x.out.set_ ⟨w.heap.size + 1, 1, none⟩ (by show w.heap.size + 1 < w.heap.size + 2; omega) (.slice v4A (bo.length + 1) v4C))
      have D5x : Hid (Below w.heap.size w (w4x.setCell ⟨w.heap.size + 1, 1, none⟩ (.slice v4A (bo.length + 1) v4C))) := D4x.out.setCell (p := ⟨w.heap.size + 1, 1, none⟩) (by show w.heap.size ≤ w.heap.size + 1; omega) _
      have s5x : w.heap.size + 2 ≤ (w4x.setCell ⟨w.heap.size + 1, 1, none⟩ (.slice v4A (bo.length + 1) v4C)).heap.size := by simpa using s4x
      generalize w4x.setCell ⟨w.heap.size + 1, 1, none⟩ (.slice v4A (bo.length + 1) v4C) = w5x at *
      clear M4x B4x G4x R4x Q4x D4x s4x
      go_wp2_with fail
      have hSw : (fun w' : World => w'.cell? ⟨w.heap.size + 1, 2, none⟩ = some (.slice tA bt.length tC) ∧ w'.cell? ⟨wr.heap.size, 1, none⟩ = some (.slice rA rN rC)) w5x.drew := ⟨M5x.out.cell 2, B5x.out.cell 1⟩
      have hmk := HMI.out rN hq64
      have Mzy : Hid (Blk w5x.drew (w.heap.size + 1) 114 #[.slice (some ⟨b0, o0, none⟩) n c, (.slice v4A (bo.length + 1) v4C), (.slice tA bt.length tC), .slice (some ⟨w.heap.size, 0, none⟩) n n, .slice none 0 0]) := M5x.out
      have Bzy : Hid (Blk w5x.drew wr.heap.size 96 #[.string nn, .slice rA rN rC]) := B5x.out
      have Gzy : Hid (Blk w5x.drew w.heap.size 4 (Array.replicate n (Value.bool false))) := G5x.out
      have Rzy : Hid (Rows_ w5x.drew (w.heap.size + 2) l 3 (Value.int .i64 0) 45 (.slice tA bt.length tC) bt) := Q5x.out.go ((Below.refl _ _).drew)
      have Qzy : Hid (Rows_ w5x.drew (w.heap.size + 2) l 4 (.bool false) 110 (.slice v4A (bo.length + 1) v4C) (bo ++ [wzx.heap.size])) := R5x.out.go ((Below.refl _ _).drew)
      have Dzy : Hid (Below w.heap.size w w5x.drew) := D5x.out.drew
      have szy : w.heap.size + 2 ≤ w5x.drew.heap.size := s5x
      have sby : wr.heap.size < w5x.drew.heap.size := Bzy.out.lt
      refine wp_region_mid (fun w' : World => w'.cell? ⟨w.heap.size + 1, 2, none⟩ = some (.slice tA bt.length tC) ∧ w'.cell? ⟨wr.heap.size, 1, none⟩ = some (.slice rA rN rC)) 11 (by kernel_rfl) ?_
      generalize w5x.drew = wzy at *
      refine wpAnyM_take 0 rfl (by kernel_rfl) (by kernel_rfl) (by kernel_rfl) (by kernel_rfl) (by kernel_rfl) (fun _ _ _ h => h) hSw (by rfl) (fun w' hSx => by (try dsimp only at hSx); go_simp; first | done | with_reducible rfl) ?_
      simp only [Act.put, List.setIfInBounds_toArray]
      refine wpAnyM_take 1 rfl (by kernel_rfl) (by kernel_rfl) (by kernel_rfl) (by kernel_rfl) (by kernel_rfl) (fun _ _ _ h => h) hSw (by rfl) (fun w' hSx => by (try dsimp only at hSx); go_simp; first | done | with_reducible rfl) ?_
      simp only [Act.put]
      refine wpAnyM_take 2 rfl (by kernel_rfl) (by kernel_rfl) (by kernel_rfl) (by kernel_rfl) (by kernel_rfl) (fun _ _ _ h => h) hSw (by rfl) (fun w' hSx => by (try dsimp only at hSx); go_simp; first | done | with_reducible rfl) ?_
      simp only [Act.put]
      refine wpAnyM_take 3 rfl (by kernel_rfl) (by kernel_rfl) (by kernel_rfl) (by kernel_rfl) (by kernel_rfl) (fun _ _ _ h => h) hSw (by rfl) (fun w' hSx => by (try dsimp only at hSx); go_simp; first | done | with_reducible rfl) ?_
      simp only [Act.put]
      refine wpAnyM_take 4 rfl (by kernel_rfl) (by kernel_rfl) (by kernel_rfl) (by kernel_rfl) (by kernel_rfl) (fun _ _ _ h => h) hSw (by rfl) (fun w' hSx => by (try dsimp only at hSx); go_simp; first | done | with_reducible rfl) ?_
      simp only [Act.put]
      refine wpAnyM_take 5 rfl (by kernel_rfl) (by kernel_rfl) (by kernel_rfl) (by kernel_rfl) (by kernel_rfl) (fun _ _ _ h => h) hSw (by rfl) (fun w' hSx => by (try dsimp only at hSx); go_simp; first | done | with_reducible rfl) ?_
      simp only [Act.put]
      refine wpAnyM_take 6 rfl (by kernel_rfl) (by kernel_rfl) (by kernel_rfl) (by kernel_rfl) (by kernel_rfl) (fun _ _ _ h => h) hSw (by rfl) (fun w' hSx => by (try dsimp only at hSx); go_simp; first | done | with_reducible rfl) ?_
      simp only [Act.put]
      refine wpAnyM_take 7 rfl (by kernel_rfl) (by kernel_rfl) (by kernel_rfl) (by kernel_rfl) (by kernel_rfl) (fun _ _ _ h => h) hSw (by rfl) (fun w' hSx => by (try dsimp only at hSx); go_simp; first | done | with_reducible rfl) ?_
      simp only [Act.put]
      have D2y := Lib.hid ((Below.refl wzy.heap.size wzy).alloc (Nat.le_refl _) (.cells (Array.replicate rN (Value.int .i64 0)) 3))
      have E2y := Lib.hid (Blk.new_ wzy wzy.heap.size 3 (Array.replicate rN (Value.int .i64 0)) rfl)
      have S2y : (wzy.alloc (.cells (Array.replicate rN (Value.int .i64 0)) 3)).heap.size = wzy.heap.size + 1 := by simp
      refine wpAnyM_ready [8] (by kernel_rfl) (by simp) ?_
      refine AllReadyM.cons (by rfl) (fun K hK => ?_) AllReadyM.nil
      go_simp
      generalize (wzy.alloc (.cells (Array.replicate rN (Value.int .i64 0)) 3)) = wcy at *
      refine hK.out _ _ ⟨(Mzy.out.go D2y.out).cell 2, (Bzy.out.go D2y.out).cell 1⟩ ?_
      clear hK K hSw
      have HS2y := Lib.hid S2y
      clear S2y
      have D3y := Lib.hid ((Below.refl wcy.heap.size wcy).alloc (Nat.le_refl _) (.cells #[.slice (some ⟨wzy.heap.size, 0, none⟩) rN rN] 45))
      have L3y := Lib.hid (Blk.new_ wcy wcy.heap.size 45 #[.slice (some ⟨wzy.heap.size, 0, none⟩) rN rN] rfl)
      refine wpAnyM_ready [9] (by kernel_rfl) (by simp) ?_
      refine AllReadyM.cons (by rfl) (fun K hK => ?_) AllReadyM.nil
      go_simp
      generalize (wcy.alloc (.cells #[.slice (some ⟨wzy.heap.size, 0, none⟩) rN rN] 45)) = wdy at *
      have Dby : Hid (Below wzy.heap.size wzy wdy) := D2y.out.trans (D3y.out.mono D2y.out.size)
      have Mdy := Lib.hid (Mzy.out.go Dby.out)
      have Bdy := Lib.hid (Bzy.out.go Dby.out)
      have Gdy := Lib.hid (Gzy.out.go Dby.out)
      have Rdy := Lib.hid (Rzy.out.go Dby.out)
      have Qdy := Lib.hid (Qzy.out.go Dby.out)
      have Edy := Lib.hid (E2y.out.go D3y.out)
      have Ddy : Hid (Below w.heap.size w wdy) := Dzy.out.trans (Dby.out.mono (by omega))
      refine hK.out _ _ ⟨Mdy.out.cell 2, Bdy.out.cell 1⟩ ?_
      clear hK K
      have sdby := Dby.out.size
      obtain ⟨g0, g1, g2, g3⟩ := HIB.out
      have hry : Reads wdy wdy.heap.size 1 (some ⟨wcy.heap.size, 0, none⟩) 1 [.slice (some ⟨wzy.heap.size, 0, none⟩) rN rN] := by
        have := Reads.lit wcy #[.slice (some ⟨wzy.heap.size, 0, none⟩) rN rN] 45 1 1 wcy.heap.size rfl rfl
        exact ⟨rfl, fun _ => ⟨_, rfl, L3y.out.lt, fun i u hu => by
          match i, hu with
          | 0, hu => simp at hu; subst hu; exact L3y.out.cell 0
          | i + 1, hu => simp at hu⟩⟩
      obtain ⟨v4y, w4y, hru4, ho4, hg4, hob4⟩ := run_append_any (P := Try.prog) wdy (w.heap.size + 2) 112 112 45 _ _ 1 24 Try.underlying112 g0 g1 g2 g3 rfl (by omega) (.slice tA bt.length tC) bt.length _ Rdy.out.out wdy.heap.size (some ⟨wcy.heap.size, 0, none⟩) 1 1 [.slice (some ⟨wzy.heap.size, 0, none⟩) rN rN] hry (by simp [Value.oneCell']) (by unfold maxLen; have := HRT.out.2; omega) (by have := HRT.out.2; omega) (by omega)
      obtain ⟨v6A, v6C, hv4, _⟩ := own_slice ho4
      subst hv4
      have htyy : ∀ ty, (Builtin.append_ #[112, 112] ty #[(.slice tA bt.length tC), .slice (some ⟨wcy.heap.size, 0, none⟩) 1 1]).run Try.prog wdy = .ok (.slice v6A (bt.length + 1) v6C) w4y := by
        intro ty
        assumption
      have M4y := Lib.hid (Mdy.out.grown hg4 (own_nt Rdy.out.out Mdy.out (by decide)))
      have B4y := Lib.hid (Bdy.out.grown hg4 (own_nt Rdy.out.out Bdy.out (by decide)))
      have G4y := Lib.hid (Gdy.out.grown hg4 (own_nt Rdy.out.out Gdy.out (by decide)))
      have Q4y := Lib.hid (Qdy.out.past Rdy.out.out (by decide) (by decide) hg4)
      have HLBy : Hid (lenOf l bt.length = rN) := by rw [HRT.out.2]; exact hlen
      have R4y := Lib.hid (Rzy.out.push (by decide) Dby.out rfl (by omega) (by rw [HLBy.out]; exact Edy.out) (by rw [HLBy.out]; exact ho4) hg4)
      have D4y : Hid (Below w.heap.size w w4y) := below_grown Ddy.out hg4 Rdy.out.out (by omega) (by omega)
      have s4y : w.heap.size + 2 ≤ w4y.heap.size := by have := hg4.size; omega
      clear hru4 ho4 hg4 hob4 g0 g1 g2 g3 hry Mzy Bzy Gzy Rzy Qzy Dzy E2y Edy Mdy Bdy Gdy Rdy Qdy Dby Ddy L3y D2y D3y hmk
      refine wpAnyM_ready [10] (by kernel_rfl) (by simp) ?_
      refine AllReadyM.cons (by rfl) (fun K hK => ?_) AllReadyM.nil
      refine step_append_run (by rfl) _ _ _ (by rfl) _ _ _ (by rfl) (by rfl) htyy ?_
      simp only [Act.put]
      refine hK.out _ _ ⟨M4y.out.cell 2, B4y.out.cell 1⟩ ?_
      clear hK K htyy
      have m4 := M4y.out.cell 2
      have m4f := M4y.out.frozen 2
      have m4l := M4y.out.lt
      refine wpAnyM_ready [11] (by kernel_rfl) (by simp) ?_
      refine AllReadyM.last (by rfl) (by omega) (fun K hK => ?_)
      go_simp
      refine hK.out _ _ ?_
      clear hK K
      refine wpAnyM_ready [12] (by kernel_rfl) (by simp) ?_
      refine AllReadyM.last (by rfl) (by omega) (fun K hK => ?_)
      go_simp
      refine hK.out _ _ ?_
      clear hK K
      refine wpAnyM_ready [13] (by kernel_rfl) (by simp) ?_
      refine AllReadyM.last (by rfl) (by omega) (fun K hK => ?_)
      go_simp
      refine hK.out _ _ ?_
      clear hK K m4 m4f m4l
      refine wpAnyM_done (by kernel_rfl) ?_ _
      have M5y := Lib.hid (M4y.out.set_ 2 (.slice v6A (bt.length + 1) v6C))
      have B5y := Lib.hid (B4y.out.far (p := ⟨w.heap.size + 1, 2, none⟩) (by show wr.heap.size ≠ w.heap.size + 1; omega) (.slice v6A (bt.length + 1) v6C))
      have G5y := Lib.hid (G4y.out.far (p := ⟨w.heap.size + 1, 2, none⟩) (by show w.heap.size ≠ w.heap.size + 1; omega) (.slice v6A (bt.length + 1) v6C))
      have R5y := Lib.hid (R4y.out.set_ ⟨w.heap.size + 1, 2, none⟩ (by show w.heap.size + 1 < w.heap.size + 2; omega) (.slice v6A (bt.length + 1) v6C))
      have Q5y := Lib.hid (Q4y.out.set_ ⟨w.heap.size + 1, 2, none⟩ (by show w.heap.size + 1 < w.heap.size + 2; omega) (.slice v6A (bt.length + 1) v6C))
      have D5y : Hid (Below w.heap.size w (w4y.setCell ⟨w.heap.size + 1, 2, none⟩ (.slice v6A (bt.length + 1) v6C))) := D4y.out.setCell (p := ⟨w.heap.size + 1, 2, none⟩) (by show w.heap.size ≤ w.heap.size + 1; omega) _
      have s5y : w.heap.size + 2 ≤ (w4y.setCell ⟨w.heap.size + 1, 2, none⟩ (.slice v6A (bt.length + 1) v6C)).heap.size := by simpa using s4y
      generalize w4y.setCell ⟨w.heap.size + 1, 2, none⟩ (.slice v6A (bt.length + 1) v6C) = w5y at *
      clear M4y B4y G4y R4y Q4y D4y s4y
      have hpo := HRO.out.2
      have hpt := HRT.out.2
      have HLO : Hid ((bo ++ [wzx.heap.size]).length = j + 1 ∧ (bt ++ [wzy.heap.size]).length = j + 1) := ⟨by simp; omega, by simp; omega⟩
      clear hpo hpt
      go_wp2_with fail
      go_roundw
      case rel => exact ⟨j + 1, _, _, _, _, by omega, by go_num, M5y.out, G5y.out, ⟨Q5y.out, HLO.out.1⟩, ⟨R5y.out, HLO.out.2⟩, D5y.out, s5y⟩
      case measure => simp [intOf]; omega
    · have hjj : j = n := by omega
      subst hjj
      have hj1 : ¬ ((j : Int) < (j : Int)) := by omega
      have HFN : Hid (NewMSaid A j l w (.returned (.pointer (some ⟨w.heap.size + 1, 0, none⟩))) wr) := by
        obtain ⟨M, e1, e2, e3, e4, e5, h⟩ := newm_end H.out HMM.out HGV.out HRO.out.1 HRO.out.2 HRT.out.1 HRT.out.2 HB.out
        exact ⟨M, by rw [e1], e2, e3, e4, e5, h, HB.out⟩
      clear HMM HGV HRO HRT
      go_wp2_with fail
      go_ret
      exact HFN.out
end Go.Proofs.Ytpamgeemmbbkkaa
