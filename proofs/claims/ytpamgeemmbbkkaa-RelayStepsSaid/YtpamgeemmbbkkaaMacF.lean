/- The reference's machine evaluates delays. Conditions: the machine reads. -/
import Derived.Test.YtpamgeemmbbkkaaMacE
namespace Go.Proofs.Ytpamgeemmbbkkaa
open Go.RowKit
set_option maxRecDepth 100000
set_option maxHeartbeats 3200000 in
theorem mev_delay_true {M : MC} {F : ByteArray → Bool} {Inv : (Nat → Nat → Pl.Mem) → List Bool → List Bool → Prop} {ms : Int} {Af : Option Addr} {nf cf : Nat} {fs : List ByteArray}
    {k at_ : Nat} {o : MRul} {nm : ByteArray} {v : Int} (hk : M.l[k]? = some o) (hx : o.ex[at_]? = some ⟨6, nm, v⟩) {e : Nat} (a : Pl.RT) (haft : AftOk M k at_ e) (hms : 0 ≤ ms ∧ ms ≤ 100000) (hloc : ∀ κ vs ds us, Inv κ vs ds → Inv (Pl.kapp κ k us) vs ds) :
    ∀ w κ vs ds, MSt M w κ vs ds → Reads w M.H 1 Af nf (txts fs) → Inv κ vs ds → TmL M κ → (κ k at_).1 = true →
    Calls Try.prog 87 #[.pointer (some ⟨M.mm, 0, none⟩), .int .i64 (k : Int), .int .i64 (at_ : Int), .int .i64 ms, .slice Af nf cf] w fun e' w' =>
      e' = .returned (.tuple #[.bool (Pl.val F ms (κ k) (.un at_ ⟨6, nm, v⟩ a)), .int .i64 (e : Int)]) ∧ MPost M Inv w κ k (Pl.upd F ms (κ k) (.un at_ ⟨6, nm, v⟩ a)) w' := by
  intro w κ vs ds h hf hI hT hon
  have HON := Lib.hid hon
  clear hon
  obtain ⟨hkn, han, hlen, b0, o0, b1, o1, hA, hA1, hb0, hb1, p0, p1, r0, r1, r2⟩ := mrul_at h hk hx
  have HM := Lib.hid h
  have HF := Lib.hid hf
  have HI := Lib.hid (And.intro hI hT)
  have HA := Lib.hid hA
  have HLN := Lib.hid hlen
  clear hlen
  have q0 := h.mach.cell 0
  rw [hA] at q0
  have hml := h.mach.lt
  have k0 : (0 : Int) ≤ (k : Int) := by omega
  have k1 : (k : Int) < (M.n : Int) := by omega
  have a0 : (0 : Int) ≤ (at_ : Int) := by omega
  have a1 : (at_ : Int) < (o.n : Int) := by omega
  have N5 := Lib.hid (Blk.new_ w w.heap.size 93 #[.int .i64 6, .string nm, .int .i64 v] rfl)
  have D5 := Lib.hid ((Below.refl w.heap.size w).alloc (Nat.le_refl _) (.cells #[.int .i64 6, .string nm, .int .i64 v] 93))
  have HBD := Lib.hid h.bd
  have HAF := Lib.hid haft
  have HLOC := Lib.hid hloc
  have HX := Lib.hid (And.intro hk hx)
  have hT0 := hT.1 k at_
  have hn0 : 0 < M.n := by omega
  have HM5 := Lib.hid (h.go D5.out)
  clear haft hloc
  clear h hf hI hT hk hx hA hA1 p0
  have y0 := (HM5.out.full hn0).cell 1
  have y1 := (HM5.out.full hn0).cell 2
  obtain ⟨cs, hcs, hck⟩ := HM5.out.outO hn0
  obtain ⟨ct, hct, hcu⟩ := HM5.out.outT hn0
  have W5H : Hid (w.heap.size ≤ (w.alloc (.cells #[.int .i64 6, .string nm, .int .i64 v] 93)).heap.size) := D5.out.size
  have y2 : (w.alloc (.cells #[.int .i64 6, .string nm, .int .i64 v] 93)).cell? ⟨M.gO, k, none⟩ = some (.slice (some ⟨M.rO k, 0, none⟩) (M.len k) (M.len k)) := by rw [hcs.cell k]; exact hck k hkn
  have y3 : (w.alloc (.cells #[.int .i64 6, .string nm, .int .i64 v] 93)).cell? ⟨M.gT, k, none⟩ = some (.slice (some ⟨M.rT k, 0, none⟩) (M.len k) (M.len k)) := by rw [hct.cell k]; exact hcu k hkn
  have y4 : (w.alloc (.cells #[.int .i64 6, .string nm, .int .i64 v] 93)).cell? ⟨M.rO k, at_, none⟩ = some (.bool (κ k at_).1) := by rw [(HM5.out.rowO k hkn).cell, rowB_at (by have := HLN.out; omega)]
  have y5 : (w.alloc (.cells #[.int .i64 6, .string nm, .int .i64 v] 93)).cell? ⟨M.rT k, at_, none⟩ = some (.int .i64 (κ k at_).2) := by rw [(HM5.out.rowT k hkn).cell, rowI_at (by have := HLN.out; omega)]
  have y5f : (w.alloc (.cells #[.int .i64 6, .string nm, .int .i64 v] 93)).frozen? ⟨M.rT k, at_, none⟩ = false := (HM5.out.rowT k hkn).frozen at_
  have hbd := HM5.out.bd
  have z1 := hbd.mm
  have z2 := (hbd.out hn0).1
  have z3 := (hbd.out hn0).2
  have z4 := hbd.sub (M.rO k) (.inr (.inr ⟨k, hkn, .inl rfl⟩))
  have z5 := hbd.sub (M.rT k) (.inr (.inr ⟨k, hkn, .inr rfl⟩))
  have a2 : (at_ : Int) < (M.len k : Int) := by have := HLN.out; omega
  have x0 := N5.out.cell 0
  have x2 := N5.out.cell 2
  have hnl := N5.out.lt
  rw [HON.out] at y4
  have HTE : Hid (∀ T : Int, T = (if true = true then min ((κ k at_).2 + ms) 1000000 else 0) → (Pl.val F ms (κ k) (.un at_ ⟨6, nm, v⟩ a) = (true && decide (v ≤ T))) ∧ Pl.upd F ms (κ k) (.un at_ ⟨6, nm, v⟩ a) = [(at_, (true, T))]) := fun T eT => by
    have e1 := HON.out
    subst eT
    exact ⟨by simp [Pl.val, Pl.tim, e1], by simp [Pl.upd, Pl.tim, e1]⟩
  have HFS : Hid (∀ T : Int, 0 ≤ T → T ≤ 1000000 → ∀ W : World, W.heap = (w.alloc (.cells #[.int .i64 6, .string nm, .int .i64 v] 93)).heap → W.os = (w.alloc (.cells #[.int .i64 6, .string nm, .int .i64 v] 93)).os → W.tape = (w.alloc (.cells #[.int .i64 6, .string nm, .int .i64 v] 93)).tape → W.output = (w.alloc (.cells #[.int .i64 6, .string nm, .int .i64 v] 93)).output → (MSt M (W.setCell ⟨M.rT k, at_, none⟩ (.int .i64 T)) (Pl.kapp κ k [(at_, (true, T))]) vs ds ∧ MPost M Inv w κ k [(at_, (true, T))] (W.setCell ⟨M.rT k, at_, none⟩ (.int .i64 T)))) := fun T hT1 hT2 W e1 e2 e3 e4 => by
    have hb : Below (w.alloc (.cells #[.int .i64 6, .string nm, .int .i64 v] 93)).heap.size (w.alloc (.cells #[.int .i64 6, .string nm, .int .i64 v] 93)) W := ⟨e2, e3, e4, by rw [e1]; exact Nat.le_refl _, fun i _ => by rw [e1]⟩
    have hm := (HM5.out.go hb).setTm hkn at_ T
    rw [HON.out] at hm
    refine ⟨hm, _, vs, ds, hm, HLOC.out _ _ _ _ HI.out.1, by rw [Pl.kapp_self], HI.out.2.put ⟨hT1, hT2⟩ (fun o2 x2 ho2 hx2 h7 => ?_), ?_⟩
    · rw [HX.out.1] at ho2
      injection ho2 with ho2
      subst ho2
      rw [HX.out.2] at hx2
      injection hx2 with hx2
      subst hx2
      simp at h7
    · exact ((Fr.of_below (S := M.S) D5.out).trans (T := fun _ => False) (Fr.of_below (hb)) (fun _ _ h => h.elim)).set_ _ _ (.inr (.inr (.inr ⟨k, hkn, .inr rfl⟩)))
  have NE : Hid (w.heap.size ≠ M.rT k) := fun e => N5.out.ne_ (HM5.out.rowT k hkn) (by decide) e
  have HX9 : Hid (∀ T : Int, ∀ W : World, W.heap = (w.alloc (.cells #[.int .i64 6, .string nm, .int .i64 v] 93)).heap → Blk (W.setCell ⟨M.rT k, at_, none⟩ (.int .i64 T)) w.heap.size 93 #[.int .i64 6, .string nm, .int .i64 v]) := fun T W e1 => by
    have : Blk W w.heap.size 93 #[.int .i64 6, .string nm, .int .i64 v] := by
      have := N5.out
      unfold Blk at this ⊢
      rw [e1]; exact this
    exact this.far NE.out _
  clear hcs hck hct hcu hbd
  go_enter Try.func87, Try.ntmps87
  go_wp2_with fail
  generalize hw5 : (w.alloc (.cells #[.int .i64 6, .string nm, .int .i64 v] 93)) = w5 at *
  clear hw5
  generalize htm : (κ k at_).2 = tm at *
  clear htm
  have hSw : (fun w' : World => w'.cell? ⟨M.mm, 2, none⟩ = some (.slice (some ⟨M.gT, 0, none⟩) M.n M.cT) ∧ w'.cell? ⟨M.gT, k, none⟩ = some (.slice (some ⟨M.rT k, 0, none⟩) (M.len k) (M.len k)) ∧ w'.cell? ⟨M.rT k, at_, none⟩ = some (.int .i64 tm)) w5.drew := ⟨y1, y3, y5⟩
  have yw : IntKind.i64.wrap (tm + ms) = tm + ms := IntWalk.i64_in _ (by omega)
  have hf5 : w5.drew.frozen? ⟨M.rT k, at_, none⟩ = false := y5f
  have z5d : M.rT k < w5.drew.heap.size := z5
  clear y0 y1 y2 y3 y4 y5 y5f x0 x2
  refine wp_region_mid (fun w' : World => w'.cell? ⟨M.mm, 2, none⟩ = some (.slice (some ⟨M.gT, 0, none⟩) M.n M.cT) ∧ w'.cell? ⟨M.gT, k, none⟩ = some (.slice (some ⟨M.rT k, 0, none⟩) (M.len k) (M.len k)) ∧ w'.cell? ⟨M.rT k, at_, none⟩ = some (.int .i64 tm)) 21 (by kernel_rfl) ?_
  have HF1 := Lib.hid (HFS.out (min (tm + ms) 1000000) (by omega) (by omega) w5.drew rfl rfl rfl rfl)
  have HX1 := Lib.hid (HX9.out (min (tm + ms) 1000000) w5.drew rfl)
  have HT1 := Lib.hid (HTE.out (min (tm + ms) 1000000) (by simp))
  generalize w5.drew = wz at *
  refine wpAnyM_take 0 rfl (by kernel_rfl) (by kernel_rfl) (by kernel_rfl) (by kernel_rfl) (by kernel_rfl) (fun _ _ _ h => h) hSw (by rfl) (fun w' hSx => by (try dsimp only at hSx); go_simp; first | done | with_reducible rfl) ?_
  simp only [Act.put, List.setIfInBounds_toArray]
  refine wpAnyM_take 1 rfl (by kernel_rfl) (by kernel_rfl) (by kernel_rfl) (by kernel_rfl) (by kernel_rfl) (fun _ _ _ h => h) hSw (by rfl) (fun w' hSx => by (try dsimp only at hSx); go_simp; first | done | with_reducible rfl) ?_
  simp only [Act.put]
  refine wpAnyM_take 2 rfl (by kernel_rfl) (by kernel_rfl) (by kernel_rfl) (by kernel_rfl) (by kernel_rfl) (fun _ _ _ h => h) hSw (by rfl) (fun w' hSx => by (try dsimp only at hSx); go_simp; first | done | with_reducible rfl) ?_
  simp only [Act.put]
  refine wpAnyM_take 3 rfl (by kernel_rfl) (by kernel_rfl) (by kernel_rfl) (by kernel_rfl) (by kernel_rfl) (fun _ _ _ h => h) hSw (by rfl) (fun w' hSx => by (try dsimp only at hSx); go_simp; first | done | with_reducible rfl) ?_
  simp only [Act.put]
  refine wpAnyM_take 4 rfl (by kernel_rfl) (by kernel_rfl) (by kernel_rfl) (by kernel_rfl) (by kernel_rfl) (fun _ _ _ h => h) hSw (by rfl) (fun w' hSx => by (try dsimp only at hSx); go_simp; first | done | with_reducible rfl) ?_
  simp only [Act.put]
  refine wpAnyM_take 5 rfl (by kernel_rfl) (by kernel_rfl) (by kernel_rfl) (by kernel_rfl) (by kernel_rfl) (fun _ _ _ h => h) hSw (by rfl) (fun w' hSx => by (try dsimp only at hSx); go_simp; first | done | with_reducible rfl) ?_
  simp only [Act.put]
  refine wpAnyM_take 6 rfl (by kernel_rfl) (by kernel_rfl) (by kernel_rfl) (by kernel_rfl) (by kernel_rfl) (fun _ _ _ h => h) hSw (by rfl) (fun w' hSx => by (try dsimp only at hSx); go_simp; first | done | with_reducible rfl) ?_
  simp only [Act.put]
  refine wpAnyM_take 7 rfl (by kernel_rfl) (by kernel_rfl) (by kernel_rfl) (by kernel_rfl) (by kernel_rfl) (fun _ _ _ h => h) hSw (by rfl) (fun w' hSx => by (try dsimp only at hSx); go_simp; first | done | with_reducible rfl) ?_
  simp only [Act.put]
  refine wpAnyM_take 8 rfl (by kernel_rfl) (by kernel_rfl) (by kernel_rfl) (by kernel_rfl) (by kernel_rfl) (fun _ _ _ h => h) hSw (by rfl) (fun w' hSx => by (try dsimp only at hSx); go_simp; first | done | with_reducible rfl) ?_
  simp only [Act.put]
  refine wpAnyM_take 9 rfl (by kernel_rfl) (by kernel_rfl) (by kernel_rfl) (by kernel_rfl) (by kernel_rfl) (fun _ _ _ h => h) hSw (by rfl) (fun w' hSx => by (try dsimp only at hSx); go_simp; first | done | with_reducible rfl) ?_
  simp only [Act.put]
  refine wpAnyM_take 10 rfl (by kernel_rfl) (by kernel_rfl) (by kernel_rfl) (by kernel_rfl) (by kernel_rfl) (fun _ _ _ h => h) hSw (by rfl) (fun w' hSx => by (try dsimp only at hSx); go_simp; first | done | with_reducible rfl) ?_
  simp only [Act.put]
  refine wpAnyM_take 11 rfl (by kernel_rfl) (by kernel_rfl) (by kernel_rfl) (by kernel_rfl) (by kernel_rfl) (fun _ _ _ h => h) hSw (by rfl) (fun w' hSx => by (try dsimp only at hSx); go_simp; first | done | with_reducible rfl) ?_
  simp only [Act.put]
  refine wpAnyM_take 12 rfl (by kernel_rfl) (by kernel_rfl) (by kernel_rfl) (by kernel_rfl) (by kernel_rfl) (fun _ _ _ h => h) hSw (by rfl) (fun w' hSx => by (try dsimp only at hSx); go_simp; first | done | with_reducible rfl) ?_
  simp only [Act.put]
  refine wpAnyM_take 13 rfl (by kernel_rfl) (by kernel_rfl) (by kernel_rfl) (by kernel_rfl) (by kernel_rfl) (fun _ _ _ h => h) hSw (by rfl) (fun w' hSx => by (try dsimp only at hSx); go_simp; first | done | with_reducible rfl) ?_
  simp only [Act.put]
  refine wpAnyM_take 14 rfl (by kernel_rfl) (by kernel_rfl) (by kernel_rfl) (by kernel_rfl) (by kernel_rfl) (fun _ _ _ h => h) hSw (by rfl) (fun w' hSx => by (try dsimp only at hSx); go_simp; first | done | with_reducible rfl) ?_
  simp only [Act.put]
  refine wpAnyM_take 15 rfl (by kernel_rfl) (by kernel_rfl) (by kernel_rfl) (by kernel_rfl) (by kernel_rfl) (fun _ _ _ h => h) hSw (by rfl) (fun w' hSx => by (try dsimp only at hSx); go_simp; first | done | with_reducible rfl) ?_
  simp only [Act.put]
  refine wpAnyM_take 16 rfl (by kernel_rfl) (by kernel_rfl) (by kernel_rfl) (by kernel_rfl) (by kernel_rfl) (fun _ _ _ h => h) hSw (by rfl) (fun w' hSx => by (try dsimp only at hSx); go_simp; first | done | with_reducible rfl) ?_
  simp only [Act.put]
  refine wpAnyM_take 17 rfl (by kernel_rfl) (by kernel_rfl) (by kernel_rfl) (by kernel_rfl) (by kernel_rfl) (fun _ _ _ h => h) hSw (by rfl) (fun w' hSx => by (try dsimp only at hSx); go_simp; first | done | with_reducible rfl) ?_
  simp only [Act.put]
  refine wpAnyM_take 18 rfl (by kernel_rfl) (by kernel_rfl) (by kernel_rfl) (by kernel_rfl) (by kernel_rfl) (fun _ _ _ h => h) hSw (by rfl) (fun w' hSx => by (try dsimp only at hSx); go_simp; first | done | with_reducible rfl) ?_
  simp only [Act.put]
  refine wpAnyM_take 19 rfl (by kernel_rfl) (by kernel_rfl) (by kernel_rfl) (by kernel_rfl) (by kernel_rfl) (fun _ _ _ h => h) hSw (by rfl) (fun w' hSx => by (try dsimp only at hSx); go_simp; first | done | with_reducible rfl) ?_
  simp only [Act.put]
  refine wpAnyM_take 20 rfl (by kernel_rfl) (by kernel_rfl) (by kernel_rfl) (by kernel_rfl) (by kernel_rfl) (fun _ _ _ h => h) hSw (by rfl) (fun w' hSx => by (try dsimp only at hSx); go_simp; first | done | with_reducible rfl) ?_
  simp only [Act.put]
  have y5 := hSw.2.2
  refine wpAnyM_ready [21] (by kernel_rfl) (by simp) ?_
  refine AllReadyM.last (by rfl) (by omega) (fun K hK => ?_)
  go_simp
  refine hK.out _ _ ?_
  clear hK K
  refine wpAnyM_ready [22] (by kernel_rfl) (by simp) ?_
  refine AllReadyM.last (by rfl) (by omega) (fun K hK => ?_)
  go_simp
  refine hK.out _ _ ?_
  clear hK K y5 hSw hf5
  refine wpAnyM_done (by kernel_rfl) ?_ _
  generalize wz.setCell ⟨M.rT k, at_, none⟩ (.int .i64 (min (tm + ms) 1000000)) = w9 at *
  generalize min (tm + ms) 1000000 = TT at *
  have W9H : Hid (w.heap.size ≤ w9.heap.size) := HF1.out.2.choose_spec.choose_spec.choose_spec.2.2.2.2.size
  clear HFS HX9 HTE
  have HM9 := Lib.hid HF1.out.1
  obtain ⟨cs, hcs, hck⟩ := HM9.out.outO hn0
  obtain ⟨ct, hct, hcu⟩ := HM9.out.outT hn0
  have v0 := Wd.cell ((HM9.out.full hn0).cell 1)
  have v1 := Wd.cell ((HM9.out.full hn0).cell 2)
  have v2 := Wd.cell (show w9.cell? ⟨M.gO, k, none⟩ = some (.slice (some ⟨M.rO k, 0, none⟩) (M.len k) (M.len k)) by rw [hcs.cell k]; exact hck k hkn)
  have v3 := Wd.cell (show w9.cell? ⟨M.gT, k, none⟩ = some (.slice (some ⟨M.rT k, 0, none⟩) (M.len k) (M.len k)) by rw [hct.cell k]; exact hcu k hkn)
  have hka : Pl.kapp κ k [(at_, (true, TT))] k at_ = (true, TT) := by rw [Pl.kapp_self]; simp [Pl.app, Pl.put1]
  have v4 := Wd.cell (show w9.cell? ⟨M.rO k, at_, none⟩ = some (.bool true) by rw [(HM9.out.rowO k hkn).cell, rowB_at (by have := HLN.out; omega), hka])
  have v5 := Wd.cell (show w9.cell? ⟨M.rT k, at_, none⟩ = some (.int .i64 TT) by rw [(HM9.out.rowT k hkn).cell, rowI_at (by have := HLN.out; omega), hka])
  have v6 := Wd.cell (HX1.out.cell 2)
  have hbd := HM9.out.bd
  have u1 := hbd.mm
  have u2 := (hbd.out hn0).1
  have u3 := (hbd.out hn0).2
  have u4 := hbd.sub (M.rO k) (.inr (.inr ⟨k, hkn, .inl rfl⟩))
  have u5 := hbd.sub (M.rT k) (.inr (.inr ⟨k, hkn, .inr rfl⟩))
  have u6 := HX1.out.lt
  have CC := Lib.hid (fun (W : World) (hb : Below w9.heap.size w9 W) => HAF.out W _ vs ds (HM9.out.go hb))
  clear hcs hck hct hcu hbd hka
  go_wp2_with fail
  refine wp_region_wd (by kernel_rfl) (by kernel_rfl) ?_
  repeat (go_big_quiet_step ((go_at_call 101; exact Calls.wd_same ((CC.out _ (Wd.ok _)).mono fun e w' h => ⟨h.1, h.2.symm⟩))))
  refine wpQuiet_nil ?_
  rintro _ ⟨w6, rfl⟩
  have HFN : Hid (MPost M Inv w κ k [(at_, (true, TT))] w6.val) := HF1.out.2.tail HBD.out (w6.ok.mono (by have := W9H.out; omega))
  generalize w6.val = w7 at *
  clear v0 v1 v2 v3 v4 v5 v6 CC HF1
  go_wp2_with fail
  go_ret2
  exact ⟨by rw [HT1.out.1]; rfl, by rw [HT1.out.2]; exact HFN.out⟩
set_option maxHeartbeats 3200000 in
theorem mev_delay_false {M : MC} {F : ByteArray → Bool} {Inv : (Nat → Nat → Pl.Mem) → List Bool → List Bool → Prop} {ms : Int} {Af : Option Addr} {nf cf : Nat} {fs : List ByteArray}
    {k at_ : Nat} {o : MRul} {nm : ByteArray} {v : Int} (hk : M.l[k]? = some o) (hx : o.ex[at_]? = some ⟨6, nm, v⟩) {e : Nat} (a : Pl.RT) (haft : AftOk M k at_ e) (_hms : 0 ≤ ms ∧ ms ≤ 100000) (hloc : ∀ κ vs ds us, Inv κ vs ds → Inv (Pl.kapp κ k us) vs ds) :
    ∀ w κ vs ds, MSt M w κ vs ds → Reads w M.H 1 Af nf (txts fs) → Inv κ vs ds → TmL M κ → (κ k at_).1 = false →
    Calls Try.prog 87 #[.pointer (some ⟨M.mm, 0, none⟩), .int .i64 (k : Int), .int .i64 (at_ : Int), .int .i64 ms, .slice Af nf cf] w fun e' w' =>
      e' = .returned (.tuple #[.bool (Pl.val F ms (κ k) (.un at_ ⟨6, nm, v⟩ a)), .int .i64 (e : Int)]) ∧ MPost M Inv w κ k (Pl.upd F ms (κ k) (.un at_ ⟨6, nm, v⟩ a)) w' := by
  intro w κ vs ds h hf hI hT hon
  have HON := Lib.hid hon
  clear hon
  obtain ⟨hkn, han, hlen, b0, o0, b1, o1, hA, hA1, hb0, hb1, p0, p1, r0, r1, r2⟩ := mrul_at h hk hx
  have HM := Lib.hid h
  have HF := Lib.hid hf
  have HI := Lib.hid (And.intro hI hT)
  have HA := Lib.hid hA
  have HLN := Lib.hid hlen
  clear hlen
  have q0 := h.mach.cell 0
  rw [hA] at q0
  have hml := h.mach.lt
  have k0 : (0 : Int) ≤ (k : Int) := by omega
  have k1 : (k : Int) < (M.n : Int) := by omega
  have a0 : (0 : Int) ≤ (at_ : Int) := by omega
  have a1 : (at_ : Int) < (o.n : Int) := by omega
  have N5 := Lib.hid (Blk.new_ w w.heap.size 93 #[.int .i64 6, .string nm, .int .i64 v] rfl)
  have D5 := Lib.hid ((Below.refl w.heap.size w).alloc (Nat.le_refl _) (.cells #[.int .i64 6, .string nm, .int .i64 v] 93))
  have HBD := Lib.hid h.bd
  have HAF := Lib.hid haft
  have HLOC := Lib.hid hloc
  have HX := Lib.hid (And.intro hk hx)
  have hT0 := hT.1 k at_
  have hn0 : 0 < M.n := by omega
  have HM5 := Lib.hid (h.go D5.out)
  clear haft hloc
  clear h hf hI hT hk hx hA hA1 p0
  have y0 := (HM5.out.full hn0).cell 1
  have y1 := (HM5.out.full hn0).cell 2
  obtain ⟨cs, hcs, hck⟩ := HM5.out.outO hn0
  obtain ⟨ct, hct, hcu⟩ := HM5.out.outT hn0
  have W5H : Hid (w.heap.size ≤ (w.alloc (.cells #[.int .i64 6, .string nm, .int .i64 v] 93)).heap.size) := D5.out.size
  have y2 : (w.alloc (.cells #[.int .i64 6, .string nm, .int .i64 v] 93)).cell? ⟨M.gO, k, none⟩ = some (.slice (some ⟨M.rO k, 0, none⟩) (M.len k) (M.len k)) := by rw [hcs.cell k]; exact hck k hkn
  have y3 : (w.alloc (.cells #[.int .i64 6, .string nm, .int .i64 v] 93)).cell? ⟨M.gT, k, none⟩ = some (.slice (some ⟨M.rT k, 0, none⟩) (M.len k) (M.len k)) := by rw [hct.cell k]; exact hcu k hkn
  have y4 : (w.alloc (.cells #[.int .i64 6, .string nm, .int .i64 v] 93)).cell? ⟨M.rO k, at_, none⟩ = some (.bool (κ k at_).1) := by rw [(HM5.out.rowO k hkn).cell, rowB_at (by have := HLN.out; omega)]
  have y5 : (w.alloc (.cells #[.int .i64 6, .string nm, .int .i64 v] 93)).cell? ⟨M.rT k, at_, none⟩ = some (.int .i64 (κ k at_).2) := by rw [(HM5.out.rowT k hkn).cell, rowI_at (by have := HLN.out; omega)]
  have y5f : (w.alloc (.cells #[.int .i64 6, .string nm, .int .i64 v] 93)).frozen? ⟨M.rT k, at_, none⟩ = false := (HM5.out.rowT k hkn).frozen at_
  have hbd := HM5.out.bd
  have z1 := hbd.mm
  have z2 := (hbd.out hn0).1
  have z3 := (hbd.out hn0).2
  have z4 := hbd.sub (M.rO k) (.inr (.inr ⟨k, hkn, .inl rfl⟩))
  have z5 := hbd.sub (M.rT k) (.inr (.inr ⟨k, hkn, .inr rfl⟩))
  have a2 : (at_ : Int) < (M.len k : Int) := by have := HLN.out; omega
  have x0 := N5.out.cell 0
  have x2 := N5.out.cell 2
  have hnl := N5.out.lt
  rw [HON.out] at y4
  have HTE : Hid (∀ T : Int, T = (if false = true then min ((κ k at_).2 + ms) 1000000 else 0) → (Pl.val F ms (κ k) (.un at_ ⟨6, nm, v⟩ a) = (false && decide (v ≤ T))) ∧ Pl.upd F ms (κ k) (.un at_ ⟨6, nm, v⟩ a) = [(at_, (false, T))]) := fun T eT => by
    have e1 := HON.out
    subst eT
    exact ⟨by simp [Pl.val, Pl.tim, e1], by simp [Pl.upd, Pl.tim, e1]⟩
  have HFS : Hid (∀ T : Int, 0 ≤ T → T ≤ 1000000 → ∀ W : World, W.heap = (w.alloc (.cells #[.int .i64 6, .string nm, .int .i64 v] 93)).heap → W.os = (w.alloc (.cells #[.int .i64 6, .string nm, .int .i64 v] 93)).os → W.tape = (w.alloc (.cells #[.int .i64 6, .string nm, .int .i64 v] 93)).tape → W.output = (w.alloc (.cells #[.int .i64 6, .string nm, .int .i64 v] 93)).output → (MSt M (W.setCell ⟨M.rT k, at_, none⟩ (.int .i64 T)) (Pl.kapp κ k [(at_, (false, T))]) vs ds ∧ MPost M Inv w κ k [(at_, (false, T))] (W.setCell ⟨M.rT k, at_, none⟩ (.int .i64 T)))) := fun T hT1 hT2 W e1 e2 e3 e4 => by
    have hb : Below (w.alloc (.cells #[.int .i64 6, .string nm, .int .i64 v] 93)).heap.size (w.alloc (.cells #[.int .i64 6, .string nm, .int .i64 v] 93)) W := ⟨e2, e3, e4, by rw [e1]; exact Nat.le_refl _, fun i _ => by rw [e1]⟩
    have hm := (HM5.out.go hb).setTm hkn at_ T
    rw [HON.out] at hm
    refine ⟨hm, _, vs, ds, hm, HLOC.out _ _ _ _ HI.out.1, by rw [Pl.kapp_self], HI.out.2.put ⟨hT1, hT2⟩ (fun o2 x2 ho2 hx2 h7 => ?_), ?_⟩
    · rw [HX.out.1] at ho2
      injection ho2 with ho2
      subst ho2
      rw [HX.out.2] at hx2
      injection hx2 with hx2
      subst hx2
      simp at h7
    · exact ((Fr.of_below (S := M.S) D5.out).trans (T := fun _ => False) (Fr.of_below (hb)) (fun _ _ h => h.elim)).set_ _ _ (.inr (.inr (.inr ⟨k, hkn, .inr rfl⟩)))
  have NE : Hid (w.heap.size ≠ M.rT k) := fun e => N5.out.ne_ (HM5.out.rowT k hkn) (by decide) e
  have HX9 : Hid (∀ T : Int, ∀ W : World, W.heap = (w.alloc (.cells #[.int .i64 6, .string nm, .int .i64 v] 93)).heap → Blk (W.setCell ⟨M.rT k, at_, none⟩ (.int .i64 T)) w.heap.size 93 #[.int .i64 6, .string nm, .int .i64 v]) := fun T W e1 => by
    have : Blk W w.heap.size 93 #[.int .i64 6, .string nm, .int .i64 v] := by
      have := N5.out
      unfold Blk at this ⊢
      rw [e1]; exact this
    exact this.far NE.out _
  clear hcs hck hct hcu hbd
  go_enter Try.func87, Try.ntmps87
  go_wp2_with fail
  have HF1 := Lib.hid (HFS.out 0 (by omega) (by omega) _ rfl rfl rfl rfl)
  have HX1 := Lib.hid (HX9.out 0 _ rfl)
  have HT1 := Lib.hid (HTE.out 0 (by simp))
  clear y0 y1 y2 y3 y4 y5 y5f x0 x2
  generalize (w.alloc (.cells #[.int .i64 6, .string nm, .int .i64 v] 93)).setCell ⟨M.rT k, at_, none⟩ (.int .i64 0) = w9 at *
  have W9H : Hid (w.heap.size ≤ w9.heap.size) := HF1.out.2.choose_spec.choose_spec.choose_spec.2.2.2.2.size
  clear HFS HX9 HTE
  have HM9 := Lib.hid HF1.out.1
  obtain ⟨cs, hcs, hck⟩ := HM9.out.outO hn0
  obtain ⟨ct, hct, hcu⟩ := HM9.out.outT hn0
  have v0 := Wd.cell ((HM9.out.full hn0).cell 1)
  have v1 := Wd.cell ((HM9.out.full hn0).cell 2)
  have v2 := Wd.cell (show w9.cell? ⟨M.gO, k, none⟩ = some (.slice (some ⟨M.rO k, 0, none⟩) (M.len k) (M.len k)) by rw [hcs.cell k]; exact hck k hkn)
  have v3 := Wd.cell (show w9.cell? ⟨M.gT, k, none⟩ = some (.slice (some ⟨M.rT k, 0, none⟩) (M.len k) (M.len k)) by rw [hct.cell k]; exact hcu k hkn)
  have hka : Pl.kapp κ k [(at_, (false, 0))] k at_ = (false, 0) := by rw [Pl.kapp_self]; simp [Pl.app, Pl.put1]
  have v4 := Wd.cell (show w9.cell? ⟨M.rO k, at_, none⟩ = some (.bool false) by rw [(HM9.out.rowO k hkn).cell, rowB_at (by have := HLN.out; omega), hka])
  have v5 := Wd.cell (show w9.cell? ⟨M.rT k, at_, none⟩ = some (.int .i64 0) by rw [(HM9.out.rowT k hkn).cell, rowI_at (by have := HLN.out; omega), hka])
  have v6 := Wd.cell (HX1.out.cell 2)
  have hbd := HM9.out.bd
  have u1 := hbd.mm
  have u2 := (hbd.out hn0).1
  have u3 := (hbd.out hn0).2
  have u4 := hbd.sub (M.rO k) (.inr (.inr ⟨k, hkn, .inl rfl⟩))
  have u5 := hbd.sub (M.rT k) (.inr (.inr ⟨k, hkn, .inr rfl⟩))
  have u6 := HX1.out.lt
  have CC := Lib.hid (fun (W : World) (hb : Below w9.heap.size w9 W) => HAF.out W _ vs ds (HM9.out.go hb))
  clear hcs hck hct hcu hbd hka
  go_wp2_with fail
  refine wp_region_wd (by kernel_rfl) (by kernel_rfl) ?_
  repeat (go_big_quiet_step ((go_at_call 101; exact Calls.wd_same ((CC.out _ (Wd.ok _)).mono fun e w' h => ⟨h.1, h.2.symm⟩))))
  refine wpQuiet_nil ?_
  rintro _ ⟨w6, rfl⟩
  have HFN : Hid (MPost M Inv w κ k [(at_, (false, 0))] w6.val) := HF1.out.2.tail HBD.out (w6.ok.mono (by have := W9H.out; omega))
  generalize w6.val = w7 at *
  clear v0 v1 v2 v3 v4 v5 v6 CC HF1
  go_wp2_with fail
  go_ret2
  exact ⟨by rw [HT1.out.1]; rfl, by rw [HT1.out.2]; exact HFN.out⟩
def psB (p q e j : Nat) : Nat := if j = 0 then p else if j = 1 then q else e
def tsB (a b : Pl.RT) (j : Nat) : Pl.RT := if j = 0 then a else b
def usB (F : ByteArray → Bool) (ms : Int) (a b : Pl.RT) (m : Nat → Pl.Mem) (j : Nat) : List (Nat × Pl.Mem) := if j = 0 then [] else if j = 1 then Pl.upd F ms m a else Pl.upd F ms m a ++ Pl.upd F ms m b
def vlB (F : ByteArray → Bool) (ms : Int) (a b : Pl.RT) (m : Nat → Pl.Mem) (j : Nat) : Bool := if j = 0 then Pl.val F ms m a else Pl.val F ms m b
/-- every evaluation of the reference's machine -/
theorem mev_any {M : MC} {F : ByteArray → Bool} {Inv : (Nat → Nat → Pl.Mem) → List Bool → List Bool → Prop} {ms : Int} {Af : Option Addr} {nf cf : Nat} {fs NS : List ByteArray} {k : Nat} {o : MRul} (hk : M.l[k]? = some o) (hsm : o.n ≤ 64) (hlen : o.ex.length = o.n) (hns : M.n ≤ 16) (hnf : nf ≤ 256) (hms : 0 ≤ ms ∧ ms ≤ 100000)
    (hop : ∀ x ∈ o.ex, 0 ≤ x.op ∧ x.op ≤ 7 ∧ (x.op = 1 → 0 ≤ x.value)) (hE : Env M F Inv ms Af nf cf fs NS k) {at_ e : Nat} {t : Pl.RT} (h : Pl.IsT o.ex at_ e t) : (∀ nm ∈ Pl.nds t, nm ∈ NS) → EvR M F Inv ms Af nf cf fs k at_ e t := by
  induction h with
  | @leaf at_ x hx h0 =>
    intro hN
    have h1 := hop x (List.mem_of_getElem? hx)
    obtain ⟨op, nm, v⟩ := x
    have h1 : 0 ≤ op ∧ op ≤ 7 ∧ (op = 1 → 0 ≤ v) := h1
    have h0 : Pl.opn op = 0 := h0
    have hc : op = 0 ∨ op = 1 ∨ op = 2 := by
      rcases opn_cases op with ⟨_, h⟩ | ⟨_, h⟩ | ⟨_, h⟩ | ⟨_, h⟩ | ⟨_, h⟩ | ⟨_, _, _, _, _, _⟩ <;> omega
    rcases hc with rfl | rfl | rfl
    · exact mev_flag hk hx hsm hns hnf hE (hN nm (by simp [Pl.nds]))
    · exact mev_above hk hx hsm (h1.2.2 rfl)
    · exact mev_below hk hx hsm
  | @un at_ e x a hx h0 ha ih =>
    intro hN
    have h1 := hop x (List.mem_of_getElem? hx)
    have hle := ha.le
    have hlt := ha.lt
    obtain ⟨op, nm, v⟩ := x
    have h0 : Pl.opn op = 1 := h0
    have hc : op = 3 ∨ op = 6 := by
      rcases opn_cases op with ⟨_, h⟩ | ⟨_, h⟩ | ⟨_, h⟩ | ⟨_, h⟩ | ⟨_, h⟩ | ⟨_, _, _, _, _, _⟩ <;> omega
    rcases hc with rfl | rfl
    · have hN2 : ∀ nm ∈ Pl.nds a, nm ∈ NS := fun n2 hn2 => hN n2 (by simpa [Pl.nds] using hn2)
      exact mev_not hk hx hsm (fun j => if j = 0 then at_ + 1 else e) (fun _ => a) (fun m j => if j = 0 then [] else Pl.upd F ms m a) (fun m _ => Pl.val F ms m a) _ ⟨rfl, fun j hj => by split <;> omega⟩ (fun j hj => by
        have : j = 0 := by omega
        subst this; exact ih hN2) (fun m => ⟨rfl, fun j hj => by
        have : j = 0 := by omega
        subst this; exact ⟨rfl, rfl⟩⟩) (fun m => ⟨by simp [Pl.val], by simp [Pl.upd]⟩)
    · have haft := after_any (M := M) hk hsm hlen (Pl.IsT.un hx h0 ha)
      intro w κ vs ds h1 h2 h3 h4
      cases hon : (κ k at_).1 with
      | true => exact mev_delay_true hk hx a haft hms hE.loc w κ vs ds h1 h2 h3 h4 hon
      | false => exact mev_delay_false hk hx a haft hms hE.loc w κ vs ds h1 h2 h3 h4 hon
  | @bin at_ q e x a b hx h0 ha hb ih1 ih2 =>
    intro hN
    have hle := hb.le
    have hlt := ha.lt
    have hlt2 := hb.lt
    obtain ⟨op, nm, v⟩ := x
    have h0 : Pl.opn op = 2 := h0
    have hc : op = 4 ∨ op = 5 ∨ op = 7 := by
      rcases opn_cases op with ⟨_, h⟩ | ⟨_, h⟩ | ⟨_, h⟩ | ⟨_, h⟩ | ⟨_, h⟩ | ⟨_, _, _, _, _, _⟩ <;> omega
    have hN1 : ∀ nm ∈ Pl.nds a, nm ∈ NS := fun n2 hn2 => hN n2 (by simp [Pl.nds, hn2])
    have hN2 : ∀ nm ∈ Pl.nds b, nm ∈ NS := fun n2 hn2 => hN n2 (by simp [Pl.nds, hn2])
    have hps : psB (at_ + 1) q e 0 = at_ + 1 ∧ ∀ j, j ≤ 2 → psB (at_ + 1) q e j ≤ 64 := ⟨rfl, fun j hj => by unfold psB; split <;> (try split) <;> omega⟩
    have hih : ∀ j, j < 2 → EvR M F Inv ms Af nf cf fs k (psB (at_ + 1) q e j) (psB (at_ + 1) q e (j + 1)) (tsB a b j) := fun j hj => by
      have : j = 0 ∨ j = 1 := by omega
      rcases this with rfl | rfl
      · exact ih1 hN1
      · exact ih2 hN2
    have hus : ∀ m, usB F ms a b m 0 = [] ∧ ∀ j, j < 2 → usB F ms a b m (j + 1) = usB F ms a b m j ++ Pl.upd F ms (Pl.app m (usB F ms a b m j)) (tsB a b j) ∧ Pl.val F ms (Pl.app m (usB F ms a b m j)) (tsB a b j) = vlB F ms a b m j := fun m => ⟨rfl, fun j hj => by
      have : j = 0 ∨ j = 1 := by omega
      have hs := ha.val_second hb F ms m
      rcases this with rfl | rfl
      · exact ⟨rfl, rfl⟩
      · exact ⟨by show _ = Pl.upd F ms m a ++ Pl.upd F ms (Pl.app m (Pl.upd F ms m a)) b; rw [hs.2]; rfl, hs.1⟩⟩
    have e0 : ∀ m, vlB F ms a b m 0 = Pl.val F ms m a := fun _ => rfl
    have e1 : ∀ m, vlB F ms a b m 1 = Pl.val F ms m b := fun _ => rfl
    have e2 : ∀ m, usB F ms a b m 2 = Pl.upd F ms m a ++ Pl.upd F ms m b := fun _ => rfl
    rcases hc with rfl | rfl | rfl
    · exact mev_and hk hx hsm (psB (at_ + 1) q e) (tsB a b) (usB F ms a b) (vlB F ms a b) _ hps hih hus (fun m => ⟨by simp [Pl.val, e0, e1], by simp [Pl.upd, e2]⟩)
    · exact mev_or hk hx hsm (psB (at_ + 1) q e) (tsB a b) (usB F ms a b) (vlB F ms a b) _ hps hih hus (fun m => ⟨by simp [Pl.val, e0, e1], by simp [Pl.upd, e2]⟩)
    · refine mev_latch hk hx hsm hE.loc (psB (at_ + 1) q e) (tsB a b) (usB F ms a b) (vlB F ms a b) _ hps hih hus (fun m => ⟨by simp [Pl.val, e0, e1], by simp [Pl.upd, Pl.val, e0, e1, e2], ?_⟩)
      have := app_apart ha hb (show at_ < at_ + 1 by omega) F ms (fun _ => m) 0 m m
      rw [Pl.kapp_self] at this
      exact this
end Go.Proofs.Ytpamgeemmbbkkaa
