/- The reference's machine evaluates latches. Conditions: the machine reads; what flags ask is known. -/
import Derived.Test.YtpamgeemmbbkkaaBlk17
namespace Go.Proofs.Ytpamgeemmbbkkaa
open Go.RowKit
set_option maxRecDepth 100000
set_option maxHeartbeats 6400000 in
theorem mev_latch {M : MC} {F : ByteArray → Bool} {Inv : (Nat → Nat → Pl.Mem) → List Bool → List Bool → Prop} {ms : Int} {Af : Option Addr} {nf cf : Nat} {fs : List ByteArray}
    {k at_ : Nat} {o : MRul} {nm : ByteArray} {v : Int} (hk : M.l[k]? = some o) (hx : o.ex[at_]? = some ⟨7, nm, v⟩) (hsm : o.n ≤ 64) (hloc : ∀ κ vs ds us, Inv κ vs ds → Inv (Pl.kapp κ k us) vs ds) (ps : Nat → Nat) (ts : Nat → Pl.RT) (us : (Nat → Pl.Mem) → Nat → List (Nat × Pl.Mem)) (vals : (Nat → Pl.Mem) → Nat → Bool) (T : Pl.RT)
    (hps : ps 0 = at_ + 1 ∧ ∀ j, j ≤ 2 → ps j ≤ 64) (ih : ∀ j, j < 2 → EvR M F Inv ms Af nf cf fs k (ps j) (ps (j + 1)) (ts j))
    (hus : ∀ m, us m 0 = [] ∧ ∀ j, j < 2 → us m (j + 1) = us m j ++ Pl.upd F ms (Pl.app m (us m j)) (ts j) ∧ Pl.val F ms (Pl.app m (us m j)) (ts j) = vals m j)
    (hfin : ∀ m, Pl.val F ms m T = (((m at_).1 || vals m 0) && !vals m 1) ∧ Pl.upd F ms m T = us m 2 ++ [(at_, ((((m at_).1 || vals m 0) && !vals m 1), (0 : Int)))] ∧ Pl.app m (us m 2) at_ = m at_) :
    EvR M F Inv ms Af nf cf fs k at_ (ps 2) (T) := by
  intro w κ vs ds h hf hI hT
  obtain ⟨hkn, han, hlen, b0, o0, b1, o1, hA, hA1, hb0, hb1, p0, p1, r0, r1, r2⟩ := mrul_at h hk hx
  have HM := Lib.hid h
  have HF := Lib.hid hf
  have HI := Lib.hid (And.intro hI hT)
  have HA := Lib.hid hA
  have HLN := Lib.hid hlen
  clear hlen
  have q0 := h.mach.cell 0
  rw [hA] at q0
  have hml := h.mach.lt
  have k0 : (0 : Int) ≤ (k : Int) := by omega
  have k1 : (k : Int) < (M.n : Int) := by omega
  have a0 : (0 : Int) ≤ (at_ : Int) := by omega
  have a1 : (at_ : Int) < (o.n : Int) := by omega
  have N5 := Lib.hid (Blk.new_ w w.heap.size 93 #[.int .i64 7, .string nm, .int .i64 v] rfl)
  have D5 := Lib.hid ((Below.refl w.heap.size w).alloc (Nat.le_refl _) (.cells #[.int .i64 7, .string nm, .int .i64 v] 93))
  have HQR := Lib.hid (fun W => opq_any 7 W)
  have hc : Pl.opn 7 = 2 := rfl
  rw [hc] at HQR
  have HBD := Lib.hid h.bd
  have HLX := Lib.hid (And.intro hk hx)
  have HLOC := Lib.hid hloc
  clear hloc
  have HPS := Lib.hid hps
  have HIH := Lib.hid ih
  have HUS := Lib.hid (hus (κ k))
  have HFV := Lib.hid (hfin (κ k))
  have HP0 : Hid (((ps 0 : Nat) : Int) = (at_ : Int) + 1) := by show _ = _; omega
  obtain ⟨i0, hi0, hz0, hz1, hz2⟩ := info_parts info_bm
  clear hps ih hus hfin hc
  clear h hf hI hT hk hx hA hA1 p0
  go_enter Try.func87, Try.ntmps87
  go_wp2_with fail
  refine (HQR.out _).mono ?_
  rintro e w1 ⟨rfl, rfl⟩
  generalize hw5 : (w.alloc (.cells #[.int .i64 7, .string nm, .int .i64 v] 93)) = w5 at *
  have hs5 : Hid (w5.heap.size = w.heap.size + 1) := by show _ = _; rw [← hw5]; simp
  clear hw5
  have x0 := N5.out.cell 0
  have hnl := N5.out.lt
  go_wp2_with fail
  clear x0
  go_loopw [13, 14, 108] (fun lv nx i wr => ∃ (j : Nat) (A' : Option Addr) (c' : Nat) (κ' : Nat → Nat → Pl.Mem) (vs' ds' : List Bool), j ≤ 2 ∧ i = .int .i64 j ∧ nx = .int .i64 (ps j : Nat) ∧ lv = .slice A' j c' ∧ Hid (wr.ownsRow w5.heap.size 4 1 (.slice A' j c') j ((List.range j).map fun q => Value.bool (vals (κ k) q))) ∧ Hid (MSt M wr κ' vs' ds' ∧ Inv κ' vs' ds' ∧ κ' k = Pl.app (κ k) (us (κ k) j) ∧ TmL M κ' ∧ Fr M.S w wr) ∧ Hid (Blk wr w.heap.size 93 #[.int .i64 7, .string nm, .int .i64 v]) ∧ w5.heap.size ≤ wr.heap.size) (fun _ _ i _ => 2 - (intOf i).toNat)
  case atStart => exact ⟨0, none, 0, κ, vs, ds, Nat.zero_le _, rfl, by rw [HP0.out], rfl, World.ownsRow_nil _ _ _ _, Lib.hid ⟨HM.out.go D5.out, HI.out.1, by rw [HUS.out.1]; rfl, HI.out.2, Fr.of_below D5.out⟩, N5.out, Nat.le_refl _⟩
  case round =>
    obtain ⟨j, A', c', κ', vs', ds', hj, rfl, rfl, rfl, HO, HMS, HN, hsz⟩ := hrel
    by_cases hlt : j < 2
    · have hps1 := HPS.out.2 j (by omega)
      have hps2 := HPS.out.2 (j + 1) (by omega)
      have HBW : Hid (Below M.H w wr) := HMS.out.2.2.2.2.to_below HM.out.low.2 HM.out.low.1
      have HC := Lib.hid (HIH.out j hlt wr κ' vs' ds' HMS.out.1 (HF.out.below HBW.out) HMS.out.2.1 HMS.out.2.2.2.1)
      have hj1 : (j : Int) < 2 := by omega
      go_wp2_with fail
      refine HC.out.mono ?_
      rintro e w9 ⟨rfl, κ9, vs9, ds9, h1, h2, h3, h4, h5⟩
      have HV : Hid (Pl.val F ms (κ' k) (ts j) = vals (κ k) j) := by show _ = _; rw [HMS.out.2.2.1]; exact (HUS.out.2 j hlt).2
      rw [HV.out]
      have hsub : ∀ i, M.S i → i < w5.heap.size := fun i hi => by have := HM.out.sub i hi; have := D5.out.size; omega
      have HO9 := Lib.hid (own_fr HO.out h5 hsub)
      have HN9 := Lib.hid (h5.blk HN.out (fun e => by have := HM.out.sub _ e; omega))
      have HMS9 : Hid (MSt M w9 κ9 vs9 ds9 ∧ Inv κ9 vs9 ds9 ∧ κ9 k = Pl.app (κ k) (us (κ k) (j + 1)) ∧ TmL M κ9 ∧ Fr M.S w w9) := ⟨h1, h2, by rw [h3, HMS.out.2.2.1, (HUS.out.2 j hlt).1, Pl.app_append], h4, HMS.out.2.2.2.2.trans h5 (fun _ _ h => h)⟩
      have hsz9 : w5.heap.size ≤ w9.heap.size := Nat.le_trans hsz h5.size
      clear h1 h2 h3 h4 h5 HC HMS HO HN hsub
      go_wp2_with (at_builtin; go_must (refine wpList_append_grow w9 rfl (.tmp 119) (.tmp 121) 110 rfl w5.heap.size 4 i0 _ 1 1 Try.underlying110 hi0 hz0 hz1 hz2 rfl (by decide) (.slice A' j c') j ((List.range j).map fun q => Value.bool (vals (κ k) q)) rfl HO9.out hsz9 #[.bool (vals (κ k) j)] rfl rfl (by simp) (by simp [Value.oneCell']) (by unfold maxLen; omega) (by omega) ?_; intro v3 w3 hown3 hg3 hsz3; obtain ⟨A3, c3, rfl, _⟩ := own_slice hown3; have HO3 := Lib.hid hown3; have HG3 := Lib.hid hg3; clear hown3 hg3))
      have F3 : Hid (Below w5.heap.size w9 w3) := below_grown (Below.refl _ w9) HG3.out HO9.out (Nat.le_refl _) hsz9
      have HLT5 : Hid (MC.Lt M w5.heap.size) := HBD.out.more D5.out.size
      have HMS3 : Hid (MSt M w3 κ9 vs9 ds9 ∧ Inv κ9 vs9 ds9 ∧ κ9 k = Pl.app (κ k) (us (κ k) (j + 1)) ∧ TmL M κ9 ∧ Fr M.S w w3) := ⟨HMS9.out.1.keep HLT5.out F3.out, HMS9.out.2.1, HMS9.out.2.2.1, HMS9.out.2.2.2.1, HMS9.out.2.2.2.2.trans (T := fun i => w5.heap.size ≤ i) ⟨F3.out.os, F3.out.tape, F3.out.output, F3.out.size, fun i hi hs => F3.out.block i (by omega)⟩ (fun i hi e => by have := D5.out.size; omega)⟩
      have HOR : Hid (w3.ownsRow w5.heap.size 4 1 (.slice A3 (j + 1) c3) (j + 1) ((List.range (j + 1)).map fun q => Value.bool (vals (κ k) q))) := by
        rw [List.range_succ, List.map_append]
        exact HO3.out
      go_roundw
      case rel => exact ⟨j + 1, A3, c3, κ9, vs9, ds9, by omega, by go_num, rfl, rfl, HOR.out, HMS3.out, HN9.out.below F3.out (by omega), hsz3⟩
      case measure => simp [intOf]; omega
    · have hjj : j = 2 := by omega
      subst hjj
      have x0 := HN.out.cell 0
      have hnl9 := HN.out.lt
      obtain ⟨g, cap, hv, hg0, hg1⟩ := HO.out.form (by omega)
      injection hv with hv1 _ hv2
      subst hv1 hv2
      have c0 : wr.cell? ⟨g, 0, none⟩ = some (.bool (vals (κ k) 0)) := by
        have := HO.out.cells (g := g) rfl 0 (.bool (vals (κ k) 0)) (by first | rfl | simp)
        simpa [Addr.add] using this
      have c1 : wr.cell? ⟨g, 1, none⟩ = some (.bool (vals (κ k) 1)) := by
        have := HO.out.cells (g := g) rfl 1 (.bool (vals (κ k) 1)) (by first | rfl | simp)
        simpa [Addr.add] using this
      have HPO : Hid (MPost M Inv w κ k (us (κ k) 2) wr) := ⟨κ', vs', ds', HMS.out⟩
      have hps2 := HPS.out.2 2 (by omega)
      have HVV := Lib.hid HFV.out.1
      have HAT : Hid (κ' k at_ = κ k at_) := by show _ = _; rw [HMS.out.2.2.1]; exact HFV.out.2.2
      have HFU := Lib.hid HFV.out.2.1
      have HMW := Lib.hid HMS.out
      have hn0 : 0 < M.n := by omega
      have y1 := (HMS.out.1.full hn0).cell 1
      obtain ⟨cs, hcs, hck⟩ := HMS.out.1.outO hn0
      have y2 : wr.cell? ⟨M.gO, k, none⟩ = some (.slice (some ⟨M.rO k, 0, none⟩) (M.len k) (M.len k)) := by rw [hcs.cell k]; exact hck k hkn
      have hln := HLN.out
      have y3 : wr.cell? ⟨M.rO k, at_, none⟩ = some (.bool (κ k at_).1) := by rw [(HMS.out.1.rowO k hkn).cell, rowB_at (by omega), HAT.out]
      have y3f := (HMS.out.1.rowO k hkn).frozen at_
      have hbd := HMS.out.1.bd
      have z1 := hbd.mm
      have z2 := (hbd.out hn0).1
      have z3 := hbd.sub (M.rO k) (.inr (.inr ⟨k, hkn, .inl rfl⟩))
      have a2 : (at_ : Int) < (M.len k : Int) := by omega
      have HKE := Lib.hid hkn
      have HFS : Hid (∀ W : World, W.heap = wr.heap → W.os = wr.os → W.tape = wr.tape → W.output = wr.output → ∀ x : Bool, x = (((κ k at_).1 || vals (κ k) 0) && !vals (κ k) 1) → MPost M Inv w κ k (Pl.upd F ms (κ k) T) (W.setCell ⟨M.rO k, at_, none⟩ (.bool x))) := fun W e1 e2 e3 e4 x ex => by
        obtain ⟨h1, h2, h3, h4, h5⟩ := HMW.out
        have hb : Below wr.heap.size wr W := ⟨e2, e3, e4, by rw [e1]; exact Nat.le_refl _, fun i _ => by rw [e1]⟩
        have h1 := (h1.go hb).setOn HKE.out at_ x
        rw [HFU.out]
        refine ⟨_, vs', ds', h1, HLOC.out _ _ _ _ h2, ?_, h4.put (h4.1 k at_) (fun o2 x2 ho2 hx2 h7 => h4.2 k o2 at_ x2 ho2 hx2 h7), ?_⟩
        · rw [Pl.kapp_self, h3, Pl.app_append]
          subst ex
          congr 1
          rw [← h3, h4.2 k o at_ _ HLX.out.1 HLX.out.2 rfl]
        · exact (h5.trans (T := fun _ => False) (Fr.of_below hb) (fun _ _ h => h.elim)).set_ _ _ (.inr (.inr (.inr ⟨k, HKE.out, .inl rfl⟩)))
      have ne1 : ¬ M.mm = M.rO k := HMS.out.1.mach.ne_ (HMS.out.1.rowO k hkn) (by decide)
      have ne2 : ¬ M.gO = M.rO k := hcs.ne_ (HMS.out.1.rowO k hkn) (by decide)
      have Y3F : Hid (wr.drew.frozen? ⟨M.rO k, at_, none⟩ = false) := (HMS.out.1.rowO k hkn).drew.frozen at_
      have Y3L : Hid (M.rO k < wr.drew.heap.size) := z3
      clear HPO HFV HMS HO hbd hcs hck HAT
      generalize hon : (κ k at_).1 = on at *
      clear hon
      generalize vals (κ k) 0 = y0 at *
      generalize vals (κ k) 1 = y9 at *
      clear hln hsz hnl9
      have HS9 : Hid (y9 = true ∨ (y9 = false ∧ y0 = true) ∨ (y9 = false ∧ y0 = false)) := by cases y9 <;> cases y0 <;> exact Lib.hid (by simp)
      rcases HS9.out with rfl | ⟨rfl, rfl⟩ | ⟨rfl, rfl⟩
      · clear HS9
        go_wp2_with fail
        refine wp_region_mid (fun w' : World => w'.cell? ⟨M.mm, 1, none⟩ = some (.slice (some ⟨M.gO, 0, none⟩) M.n M.cO) ∧ w'.cell? ⟨M.gO, k, none⟩ = some (.slice (some ⟨M.rO k, 0, none⟩) (M.len k) (M.len k)) ∧ w'.cell? ⟨M.rO k, at_, none⟩ = some (.bool on) ∧ w'.cell? ⟨g, 0, none⟩ = some (.bool y0) ∧ w'.cell? ⟨g, 1, none⟩ = some (.bool true)) 29 (by kernel_rfl) ?_
        have hSw : (fun w' : World => w'.cell? ⟨M.mm, 1, none⟩ = some (.slice (some ⟨M.gO, 0, none⟩) M.n M.cO) ∧ w'.cell? ⟨M.gO, k, none⟩ = some (.slice (some ⟨M.rO k, 0, none⟩) (M.len k) (M.len k)) ∧ w'.cell? ⟨M.rO k, at_, none⟩ = some (.bool on) ∧ w'.cell? ⟨g, 0, none⟩ = some (.bool y0) ∧ w'.cell? ⟨g, 1, none⟩ = some (.bool true)) wr.drew := ⟨y1, y2, y3, c0, c1⟩
        have HFD := Lib.hid (HFS.out wr.drew rfl rfl rfl rfl (false) (by simp))
        clear y1 y2 y3 y3f c0 c1 HFS HMW z3
        have y3f := Y3F.out
        have z3 := Y3L.out
        generalize wr.drew = wz at *
        refine wpAnyM_take 0 rfl (by kernel_rfl) (by kernel_rfl) (by kernel_rfl) (by kernel_rfl) (by kernel_rfl) (fun _ _ _ h => h) hSw (by kernel_rfl) (fun w' hSx => by (try dsimp only at hSx); go_simp; first | done | with_reducible rfl) ?_
        simp only [Act.put, List.setIfInBounds_toArray]
        refine wpAnyM_take 1 rfl (by kernel_rfl) (by kernel_rfl) (by kernel_rfl) (by kernel_rfl) (by kernel_rfl) (fun _ _ _ h => h) hSw (by kernel_rfl) (fun w' hSx => by (try dsimp only at hSx); go_simp; first | done | with_reducible rfl) ?_
        simp only [Act.put]
        refine wpAnyM_take 2 rfl (by kernel_rfl) (by kernel_rfl) (by kernel_rfl) (by kernel_rfl) (by kernel_rfl) (fun _ _ _ h => h) hSw (by kernel_rfl) (fun w' hSx => by (try dsimp only at hSx); go_simp; first | done | with_reducible rfl) ?_
        simp only [Act.put]
        refine wpAnyM_take 3 rfl (by kernel_rfl) (by kernel_rfl) (by kernel_rfl) (by kernel_rfl) (by kernel_rfl) (fun _ _ _ h => h) hSw (by kernel_rfl) (fun w' hSx => by (try dsimp only at hSx); go_simp; first | done | with_reducible rfl) ?_
        simp only [Act.put]
        refine wpAnyM_take 4 rfl (by kernel_rfl) (by kernel_rfl) (by kernel_rfl) (by kernel_rfl) (by kernel_rfl) (fun _ _ _ h => h) hSw (by kernel_rfl) (fun w' hSx => by (try dsimp only at hSx); go_simp; first | done | with_reducible rfl) ?_
        simp only [Act.put]
        refine wpAnyM_take 5 rfl (by kernel_rfl) (by kernel_rfl) (by kernel_rfl) (by kernel_rfl) (by kernel_rfl) (fun _ _ _ h => h) hSw (by kernel_rfl) (fun w' hSx => by (try dsimp only at hSx); go_simp; first | done | with_reducible rfl) ?_
        simp only [Act.put]
        refine wpAnyM_take 6 rfl (by kernel_rfl) (by kernel_rfl) (by kernel_rfl) (by kernel_rfl) (by kernel_rfl) (fun _ _ _ h => h) hSw (by kernel_rfl) (fun w' hSx => by (try dsimp only at hSx); go_simp; first | done | with_reducible rfl) ?_
        simp only [Act.put]
        refine wpAnyM_take 7 rfl (by kernel_rfl) (by kernel_rfl) (by kernel_rfl) (by kernel_rfl) (by kernel_rfl) (fun _ _ _ h => h) hSw (by kernel_rfl) (fun w' hSx => by (try dsimp only at hSx); go_simp; first | done | with_reducible rfl) ?_
        simp only [Act.put]
        refine wpAnyM_take 8 rfl (by kernel_rfl) (by kernel_rfl) (by kernel_rfl) (by kernel_rfl) (by kernel_rfl) (fun _ _ _ h => h) hSw (by kernel_rfl) (fun w' hSx => by (try dsimp only at hSx); go_simp; first | done | with_reducible rfl) ?_
        simp only [Act.put]
        refine wpAnyM_take 9 rfl (by kernel_rfl) (by kernel_rfl) (by kernel_rfl) (by kernel_rfl) (by kernel_rfl) (fun _ _ _ h => h) hSw (by kernel_rfl) (fun w' hSx => by (try dsimp only at hSx); go_simp; first | done | with_reducible rfl) ?_
        simp only [Act.put]
        refine wpAnyM_take 10 rfl (by kernel_rfl) (by kernel_rfl) (by kernel_rfl) (by kernel_rfl) (by kernel_rfl) (fun _ _ _ h => h) hSw (by kernel_rfl) (fun w' hSx => by (try dsimp only at hSx); go_simp; first | done | with_reducible rfl) ?_
        simp only [Act.put]
        refine wpAnyM_take 11 rfl (by kernel_rfl) (by kernel_rfl) (by kernel_rfl) (by kernel_rfl) (by kernel_rfl) (fun _ _ _ h => h) hSw (by kernel_rfl) (fun w' hSx => by (try dsimp only at hSx); go_simp; first | done | with_reducible rfl) ?_
        simp only [Act.put]
        refine wpAnyM_take 12 rfl (by kernel_rfl) (by kernel_rfl) (by kernel_rfl) (by kernel_rfl) (by kernel_rfl) (fun _ _ _ h => h) hSw (by kernel_rfl) (fun w' hSx => by (try dsimp only at hSx); go_simp; first | done | with_reducible rfl) ?_
        simp only [Act.put]
        refine wpAnyM_skip 13 rfl (by kernel_rfl) (by kernel_rfl) (by kernel_rfl) (by kernel_rfl) (by kernel_rfl) (fun _ _ _ h => h) hSw (by kernel_rfl) ?_
        simp only [Act.put]
        refine wpAnyM_skip 14 rfl (by kernel_rfl) (by kernel_rfl) (by kernel_rfl) (by kernel_rfl) (by kernel_rfl) (fun _ _ _ h => h) hSw (by kernel_rfl) ?_
        simp only [Act.put]
        refine wpAnyM_skip 15 rfl (by kernel_rfl) (by kernel_rfl) (by kernel_rfl) (by kernel_rfl) (by kernel_rfl) (fun _ _ _ h => h) hSw (by kernel_rfl) ?_
        simp only [Act.put]
        refine wpAnyM_skip 16 rfl (by kernel_rfl) (by kernel_rfl) (by kernel_rfl) (by kernel_rfl) (by kernel_rfl) (fun _ _ _ h => h) hSw (by kernel_rfl) ?_
        simp only [Act.put]
        refine wpAnyM_skip 17 rfl (by kernel_rfl) (by kernel_rfl) (by kernel_rfl) (by kernel_rfl) (by kernel_rfl) (fun _ _ _ h => h) hSw (by kernel_rfl) ?_
        simp only [Act.put]
        refine wpAnyM_skip 18 rfl (by kernel_rfl) (by kernel_rfl) (by kernel_rfl) (by kernel_rfl) (by kernel_rfl) (fun _ _ _ h => h) hSw (by kernel_rfl) ?_
        simp only [Act.put]
        refine wpAnyM_skip 19 rfl (by kernel_rfl) (by kernel_rfl) (by kernel_rfl) (by kernel_rfl) (by kernel_rfl) (fun _ _ _ h => h) hSw (by kernel_rfl) ?_
        simp only [Act.put]
        refine wpAnyM_skip 20 rfl (by kernel_rfl) (by kernel_rfl) (by kernel_rfl) (by kernel_rfl) (by kernel_rfl) (fun _ _ _ h => h) hSw (by kernel_rfl) ?_
        simp only [Act.put]
        refine wpAnyM_skip 21 rfl (by kernel_rfl) (by kernel_rfl) (by kernel_rfl) (by kernel_rfl) (by kernel_rfl) (fun _ _ _ h => h) hSw (by kernel_rfl) ?_
        simp only [Act.put]
        refine wpAnyM_skip 22 rfl (by kernel_rfl) (by kernel_rfl) (by kernel_rfl) (by kernel_rfl) (by kernel_rfl) (fun _ _ _ h => h) hSw (by kernel_rfl) ?_
        simp only [Act.put]
        refine wpAnyM_skip 23 rfl (by kernel_rfl) (by kernel_rfl) (by kernel_rfl) (by kernel_rfl) (by kernel_rfl) (fun _ _ _ h => h) hSw (by kernel_rfl) ?_
        simp only [Act.put]
        refine wpAnyM_skip 24 rfl (by kernel_rfl) (by kernel_rfl) (by kernel_rfl) (by kernel_rfl) (by kernel_rfl) (fun _ _ _ h => h) hSw (by kernel_rfl) ?_
        simp only [Act.put]
        refine wpAnyM_skip 25 rfl (by kernel_rfl) (by kernel_rfl) (by kernel_rfl) (by kernel_rfl) (by kernel_rfl) (fun _ _ _ h => h) hSw (by kernel_rfl) ?_
        simp only [Act.put]
        refine wpAnyM_skip 26 rfl (by kernel_rfl) (by kernel_rfl) (by kernel_rfl) (by kernel_rfl) (by kernel_rfl) (fun _ _ _ h => h) hSw (by kernel_rfl) ?_
        simp only [Act.put]
        refine wpAnyM_skip 27 rfl (by kernel_rfl) (by kernel_rfl) (by kernel_rfl) (by kernel_rfl) (by kernel_rfl) (fun _ _ _ h => h) hSw (by kernel_rfl) ?_
        simp only [Act.put]
        refine wpAnyM_take 28 rfl (by kernel_rfl) (by kernel_rfl) (by kernel_rfl) (by kernel_rfl) (by kernel_rfl) (fun _ _ _ h => h) hSw (by kernel_rfl) (fun w' hSx => by (try dsimp only at hSx); go_simp; first | done | with_reducible rfl) ?_
        simp only [Act.put]
        refine wpAnyM_ready [29] (by kernel_rfl) (by simp) ?_
        refine AllReadyM.last (by rfl) (by omega) (fun K hK => ?_)
        go_simp
        refine hK.out _ _ ?_
        clear hK K
        have y3 := hSw.2.2.1
        refine wpAnyM_ready [30] (by kernel_rfl) (by simp) ?_
        refine AllReadyM.last (by rfl) (by omega) (fun K hK => ?_)
        go_simp
        refine hK.out _ _ ?_
        clear hK K
        refine wpAnyM_done (by kernel_rfl) ?_ _
        obtain ⟨v1, v2, v3, _, _⟩ := hSw
        go_wp2_with fail
        go_ret2
        exact ⟨by rw [HVV.out]; simp, HFD.out⟩
      · clear HS9
        go_wp2_with fail
        refine wp_region_mid (fun w' : World => w'.cell? ⟨M.mm, 1, none⟩ = some (.slice (some ⟨M.gO, 0, none⟩) M.n M.cO) ∧ w'.cell? ⟨M.gO, k, none⟩ = some (.slice (some ⟨M.rO k, 0, none⟩) (M.len k) (M.len k)) ∧ w'.cell? ⟨M.rO k, at_, none⟩ = some (.bool on) ∧ w'.cell? ⟨g, 0, none⟩ = some (.bool true) ∧ w'.cell? ⟨g, 1, none⟩ = some (.bool false)) 29 (by kernel_rfl) ?_
        have hSw : (fun w' : World => w'.cell? ⟨M.mm, 1, none⟩ = some (.slice (some ⟨M.gO, 0, none⟩) M.n M.cO) ∧ w'.cell? ⟨M.gO, k, none⟩ = some (.slice (some ⟨M.rO k, 0, none⟩) (M.len k) (M.len k)) ∧ w'.cell? ⟨M.rO k, at_, none⟩ = some (.bool on) ∧ w'.cell? ⟨g, 0, none⟩ = some (.bool true) ∧ w'.cell? ⟨g, 1, none⟩ = some (.bool false)) wr.drew := ⟨y1, y2, y3, c0, c1⟩
        have HFD := Lib.hid (HFS.out wr.drew rfl rfl rfl rfl (true) (by simp))
        clear y1 y2 y3 y3f c0 c1 HFS HMW z3
        have y3f := Y3F.out
        have z3 := Y3L.out
        generalize wr.drew = wz at *
        refine wpAnyM_take 0 rfl (by kernel_rfl) (by kernel_rfl) (by kernel_rfl) (by kernel_rfl) (by kernel_rfl) (fun _ _ _ h => h) hSw (by kernel_rfl) (fun w' hSx => by (try dsimp only at hSx); go_simp; first | done | with_reducible rfl) ?_
        simp only [Act.put, List.setIfInBounds_toArray]
        refine wpAnyM_take 1 rfl (by kernel_rfl) (by kernel_rfl) (by kernel_rfl) (by kernel_rfl) (by kernel_rfl) (fun _ _ _ h => h) hSw (by kernel_rfl) (fun w' hSx => by (try dsimp only at hSx); go_simp; first | done | with_reducible rfl) ?_
        simp only [Act.put]
        refine wpAnyM_take 2 rfl (by kernel_rfl) (by kernel_rfl) (by kernel_rfl) (by kernel_rfl) (by kernel_rfl) (fun _ _ _ h => h) hSw (by kernel_rfl) (fun w' hSx => by (try dsimp only at hSx); go_simp; first | done | with_reducible rfl) ?_
        simp only [Act.put]
        refine wpAnyM_take 3 rfl (by kernel_rfl) (by kernel_rfl) (by kernel_rfl) (by kernel_rfl) (by kernel_rfl) (fun _ _ _ h => h) hSw (by kernel_rfl) (fun w' hSx => by (try dsimp only at hSx); go_simp; first | done | with_reducible rfl) ?_
        simp only [Act.put]
        refine wpAnyM_take 4 rfl (by kernel_rfl) (by kernel_rfl) (by kernel_rfl) (by kernel_rfl) (by kernel_rfl) (fun _ _ _ h => h) hSw (by kernel_rfl) (fun w' hSx => by (try dsimp only at hSx); go_simp; first | done | with_reducible rfl) ?_
        simp only [Act.put]
        refine wpAnyM_take 5 rfl (by kernel_rfl) (by kernel_rfl) (by kernel_rfl) (by kernel_rfl) (by kernel_rfl) (fun _ _ _ h => h) hSw (by kernel_rfl) (fun w' hSx => by (try dsimp only at hSx); go_simp; first | done | with_reducible rfl) ?_
        simp only [Act.put]
        refine wpAnyM_take 6 rfl (by kernel_rfl) (by kernel_rfl) (by kernel_rfl) (by kernel_rfl) (by kernel_rfl) (fun _ _ _ h => h) hSw (by kernel_rfl) (fun w' hSx => by (try dsimp only at hSx); go_simp; first | done | with_reducible rfl) ?_
        simp only [Act.put]
        refine wpAnyM_take 7 rfl (by kernel_rfl) (by kernel_rfl) (by kernel_rfl) (by kernel_rfl) (by kernel_rfl) (fun _ _ _ h => h) hSw (by kernel_rfl) (fun w' hSx => by (try dsimp only at hSx); go_simp; first | done | with_reducible rfl) ?_
        simp only [Act.put]
        refine wpAnyM_take 8 rfl (by kernel_rfl) (by kernel_rfl) (by kernel_rfl) (by kernel_rfl) (by kernel_rfl) (fun _ _ _ h => h) hSw (by kernel_rfl) (fun w' hSx => by (try dsimp only at hSx); go_simp; first | done | with_reducible rfl) ?_
        simp only [Act.put]
        refine wpAnyM_take 9 rfl (by kernel_rfl) (by kernel_rfl) (by kernel_rfl) (by kernel_rfl) (by kernel_rfl) (fun _ _ _ h => h) hSw (by kernel_rfl) (fun w' hSx => by (try dsimp only at hSx); go_simp; first | done | with_reducible rfl) ?_
        simp only [Act.put]
        refine wpAnyM_take 10 rfl (by kernel_rfl) (by kernel_rfl) (by kernel_rfl) (by kernel_rfl) (by kernel_rfl) (fun _ _ _ h => h) hSw (by kernel_rfl) (fun w' hSx => by (try dsimp only at hSx); go_simp; first | done | with_reducible rfl) ?_
        simp only [Act.put]
        refine wpAnyM_take 11 rfl (by kernel_rfl) (by kernel_rfl) (by kernel_rfl) (by kernel_rfl) (by kernel_rfl) (fun _ _ _ h => h) hSw (by kernel_rfl) (fun w' hSx => by (try dsimp only at hSx); go_simp; first | done | with_reducible rfl) ?_
        simp only [Act.put]
        refine wpAnyM_take 12 rfl (by kernel_rfl) (by kernel_rfl) (by kernel_rfl) (by kernel_rfl) (by kernel_rfl) (fun _ _ _ h => h) hSw (by kernel_rfl) (fun w' hSx => by (try dsimp only at hSx); go_simp; first | done | with_reducible rfl) ?_
        simp only [Act.put]
        refine wpAnyM_take 13 rfl (by kernel_rfl) (by kernel_rfl) (by kernel_rfl) (by kernel_rfl) (by kernel_rfl) (fun _ _ _ h => h) hSw (by kernel_rfl) (fun w' hSx => by (try dsimp only at hSx); go_simp; first | done | with_reducible rfl) ?_
        simp only [Act.put]
        refine wpAnyM_take 14 rfl (by kernel_rfl) (by kernel_rfl) (by kernel_rfl) (by kernel_rfl) (by kernel_rfl) (fun _ _ _ h => h) hSw (by kernel_rfl) (fun w' hSx => by (try dsimp only at hSx); go_simp; first | done | with_reducible rfl) ?_
        simp only [Act.put]
        refine wpAnyM_take 15 rfl (by kernel_rfl) (by kernel_rfl) (by kernel_rfl) (by kernel_rfl) (by kernel_rfl) (fun _ _ _ h => h) hSw (by kernel_rfl) (fun w' hSx => by (try dsimp only at hSx); go_simp; first | done | with_reducible rfl) ?_
        simp only [Act.put]
        refine wpAnyM_take 16 rfl (by kernel_rfl) (by kernel_rfl) (by kernel_rfl) (by kernel_rfl) (by kernel_rfl) (fun _ _ _ h => h) hSw (by kernel_rfl) (fun w' hSx => by (try dsimp only at hSx); go_simp; first | done | with_reducible rfl) ?_
        simp only [Act.put]
        refine wpAnyM_skip 17 rfl (by kernel_rfl) (by kernel_rfl) (by kernel_rfl) (by kernel_rfl) (by kernel_rfl) (fun _ _ _ h => h) hSw (by kernel_rfl) ?_
        simp only [Act.put]
        refine wpAnyM_skip 18 rfl (by kernel_rfl) (by kernel_rfl) (by kernel_rfl) (by kernel_rfl) (by kernel_rfl) (fun _ _ _ h => h) hSw (by kernel_rfl) ?_
        simp only [Act.put]
        refine wpAnyM_skip 19 rfl (by kernel_rfl) (by kernel_rfl) (by kernel_rfl) (by kernel_rfl) (by kernel_rfl) (fun _ _ _ h => h) hSw (by kernel_rfl) ?_
        simp only [Act.put]
        refine wpAnyM_skip 20 rfl (by kernel_rfl) (by kernel_rfl) (by kernel_rfl) (by kernel_rfl) (by kernel_rfl) (fun _ _ _ h => h) hSw (by kernel_rfl) ?_
        simp only [Act.put]
        refine wpAnyM_skip 21 rfl (by kernel_rfl) (by kernel_rfl) (by kernel_rfl) (by kernel_rfl) (by kernel_rfl) (fun _ _ _ h => h) hSw (by kernel_rfl) ?_
        simp only [Act.put]
        refine wpAnyM_skip 22 rfl (by kernel_rfl) (by kernel_rfl) (by kernel_rfl) (by kernel_rfl) (by kernel_rfl) (fun _ _ _ h => h) hSw (by kernel_rfl) ?_
        simp only [Act.put]
        refine wpAnyM_skip 23 rfl (by kernel_rfl) (by kernel_rfl) (by kernel_rfl) (by kernel_rfl) (by kernel_rfl) (fun _ _ _ h => h) hSw (by kernel_rfl) ?_
        simp only [Act.put]
        refine wpAnyM_skip 24 rfl (by kernel_rfl) (by kernel_rfl) (by kernel_rfl) (by kernel_rfl) (by kernel_rfl) (fun _ _ _ h => h) hSw (by kernel_rfl) ?_
        simp only [Act.put]
        refine wpAnyM_skip 25 rfl (by kernel_rfl) (by kernel_rfl) (by kernel_rfl) (by kernel_rfl) (by kernel_rfl) (fun _ _ _ h => h) hSw (by kernel_rfl) ?_
        simp only [Act.put]
        refine wpAnyM_skip 26 rfl (by kernel_rfl) (by kernel_rfl) (by kernel_rfl) (by kernel_rfl) (by kernel_rfl) (fun _ _ _ h => h) hSw (by kernel_rfl) ?_
        simp only [Act.put]
        refine wpAnyM_take 27 rfl (by kernel_rfl) (by kernel_rfl) (by kernel_rfl) (by kernel_rfl) (by kernel_rfl) (fun _ _ _ h => h) hSw (by kernel_rfl) (fun w' hSx => by (try dsimp only at hSx); go_simp; first | done | with_reducible rfl) ?_
        simp only [Act.put]
        refine wpAnyM_take 28 rfl (by kernel_rfl) (by kernel_rfl) (by kernel_rfl) (by kernel_rfl) (by kernel_rfl) (fun _ _ _ h => h) hSw (by kernel_rfl) (fun w' hSx => by (try dsimp only at hSx); go_simp; first | done | with_reducible rfl) ?_
        simp only [Act.put]
        refine wpAnyM_ready [29] (by kernel_rfl) (by simp) ?_
        refine AllReadyM.last (by rfl) (by omega) (fun K hK => ?_)
        go_simp
        refine hK.out _ _ ?_
        clear hK K
        have y3 := hSw.2.2.1
        refine wpAnyM_ready [30] (by kernel_rfl) (by simp) ?_
        refine AllReadyM.last (by rfl) (by omega) (fun K hK => ?_)
        go_simp
        refine hK.out _ _ ?_
        clear hK K
        refine wpAnyM_done (by kernel_rfl) ?_ _
        obtain ⟨v1, v2, v3, _, _⟩ := hSw
        go_wp2_with fail
        go_ret2
        exact ⟨by rw [HVV.out]; simp, HFD.out⟩
      · clear HS9
        go_wp2_with fail
        refine wp_region_mid (fun w' : World => w'.cell? ⟨M.mm, 1, none⟩ = some (.slice (some ⟨M.gO, 0, none⟩) M.n M.cO) ∧ w'.cell? ⟨M.gO, k, none⟩ = some (.slice (some ⟨M.rO k, 0, none⟩) (M.len k) (M.len k)) ∧ w'.cell? ⟨M.rO k, at_, none⟩ = some (.bool on) ∧ w'.cell? ⟨g, 0, none⟩ = some (.bool false) ∧ w'.cell? ⟨g, 1, none⟩ = some (.bool false)) 29 (by kernel_rfl) ?_
        have hSw : (fun w' : World => w'.cell? ⟨M.mm, 1, none⟩ = some (.slice (some ⟨M.gO, 0, none⟩) M.n M.cO) ∧ w'.cell? ⟨M.gO, k, none⟩ = some (.slice (some ⟨M.rO k, 0, none⟩) (M.len k) (M.len k)) ∧ w'.cell? ⟨M.rO k, at_, none⟩ = some (.bool on) ∧ w'.cell? ⟨g, 0, none⟩ = some (.bool false) ∧ w'.cell? ⟨g, 1, none⟩ = some (.bool false)) wr.drew := ⟨y1, y2, y3, c0, c1⟩
        have HFD := Lib.hid (HFS.out wr.drew rfl rfl rfl rfl (on) (by simp))
        clear y1 y2 y3 y3f c0 c1 HFS HMW z3
        have y3f := Y3F.out
        have z3 := Y3L.out
        generalize wr.drew = wz at *
        refine wpAnyM_take 0 rfl (by kernel_rfl) (by kernel_rfl) (by kernel_rfl) (by kernel_rfl) (by kernel_rfl) (fun _ _ _ h => h) hSw (by kernel_rfl) (fun w' hSx => by (try dsimp only at hSx); go_simp; first | done | with_reducible rfl) ?_
        simp only [Act.put, List.setIfInBounds_toArray]
        refine wpAnyM_take 1 rfl (by kernel_rfl) (by kernel_rfl) (by kernel_rfl) (by kernel_rfl) (by kernel_rfl) (fun _ _ _ h => h) hSw (by kernel_rfl) (fun w' hSx => by (try dsimp only at hSx); go_simp; first | done | with_reducible rfl) ?_
        simp only [Act.put]
        refine wpAnyM_take 2 rfl (by kernel_rfl) (by kernel_rfl) (by kernel_rfl) (by kernel_rfl) (by kernel_rfl) (fun _ _ _ h => h) hSw (by kernel_rfl) (fun w' hSx => by (try dsimp only at hSx); go_simp; first | done | with_reducible rfl) ?_
        simp only [Act.put]
        refine wpAnyM_take 3 rfl (by kernel_rfl) (by kernel_rfl) (by kernel_rfl) (by kernel_rfl) (by kernel_rfl) (fun _ _ _ h => h) hSw (by kernel_rfl) (fun w' hSx => by (try dsimp only at hSx); go_simp; first | done | with_reducible rfl) ?_
        simp only [Act.put]
        refine wpAnyM_take 4 rfl (by kernel_rfl) (by kernel_rfl) (by kernel_rfl) (by kernel_rfl) (by kernel_rfl) (fun _ _ _ h => h) hSw (by kernel_rfl) (fun w' hSx => by (try dsimp only at hSx); go_simp; first | done | with_reducible rfl) ?_
        simp only [Act.put]
        refine wpAnyM_take 5 rfl (by kernel_rfl) (by kernel_rfl) (by kernel_rfl) (by kernel_rfl) (by kernel_rfl) (fun _ _ _ h => h) hSw (by kernel_rfl) (fun w' hSx => by (try dsimp only at hSx); go_simp; first | done | with_reducible rfl) ?_
        simp only [Act.put]
        refine wpAnyM_take 6 rfl (by kernel_rfl) (by kernel_rfl) (by kernel_rfl) (by kernel_rfl) (by kernel_rfl) (fun _ _ _ h => h) hSw (by kernel_rfl) (fun w' hSx => by (try dsimp only at hSx); go_simp; first | done | with_reducible rfl) ?_
        simp only [Act.put]
        refine wpAnyM_take 7 rfl (by kernel_rfl) (by kernel_rfl) (by kernel_rfl) (by kernel_rfl) (by kernel_rfl) (fun _ _ _ h => h) hSw (by kernel_rfl) (fun w' hSx => by (try dsimp only at hSx); go_simp; first | done | with_reducible rfl) ?_
        simp only [Act.put]
        refine wpAnyM_take 8 rfl (by kernel_rfl) (by kernel_rfl) (by kernel_rfl) (by kernel_rfl) (by kernel_rfl) (fun _ _ _ h => h) hSw (by kernel_rfl) (fun w' hSx => by (try dsimp only at hSx); go_simp; first | done | with_reducible rfl) ?_
        simp only [Act.put]
        refine wpAnyM_take 9 rfl (by kernel_rfl) (by kernel_rfl) (by kernel_rfl) (by kernel_rfl) (by kernel_rfl) (fun _ _ _ h => h) hSw (by kernel_rfl) (fun w' hSx => by (try dsimp only at hSx); go_simp; first | done | with_reducible rfl) ?_
        simp only [Act.put]
        refine wpAnyM_take 10 rfl (by kernel_rfl) (by kernel_rfl) (by kernel_rfl) (by kernel_rfl) (by kernel_rfl) (fun _ _ _ h => h) hSw (by kernel_rfl) (fun w' hSx => by (try dsimp only at hSx); go_simp; first | done | with_reducible rfl) ?_
        simp only [Act.put]
        refine wpAnyM_take 11 rfl (by kernel_rfl) (by kernel_rfl) (by kernel_rfl) (by kernel_rfl) (by kernel_rfl) (fun _ _ _ h => h) hSw (by kernel_rfl) (fun w' hSx => by (try dsimp only at hSx); go_simp; first | done | with_reducible rfl) ?_
        simp only [Act.put]
        refine wpAnyM_take 12 rfl (by kernel_rfl) (by kernel_rfl) (by kernel_rfl) (by kernel_rfl) (by kernel_rfl) (fun _ _ _ h => h) hSw (by kernel_rfl) (fun w' hSx => by (try dsimp only at hSx); go_simp; first | done | with_reducible rfl) ?_
        simp only [Act.put]
        refine wpAnyM_take 13 rfl (by kernel_rfl) (by kernel_rfl) (by kernel_rfl) (by kernel_rfl) (by kernel_rfl) (fun _ _ _ h => h) hSw (by kernel_rfl) (fun w' hSx => by (try dsimp only at hSx); go_simp; first | done | with_reducible rfl) ?_
        simp only [Act.put]
        refine wpAnyM_take 14 rfl (by kernel_rfl) (by kernel_rfl) (by kernel_rfl) (by kernel_rfl) (by kernel_rfl) (fun _ _ _ h => h) hSw (by kernel_rfl) (fun w' hSx => by (try dsimp only at hSx); go_simp; first | done | with_reducible rfl) ?_
        simp only [Act.put]
        refine wpAnyM_take 15 rfl (by kernel_rfl) (by kernel_rfl) (by kernel_rfl) (by kernel_rfl) (by kernel_rfl) (fun _ _ _ h => h) hSw (by kernel_rfl) (fun w' hSx => by (try dsimp only at hSx); go_simp; first | done | with_reducible rfl) ?_
        simp only [Act.put]
        refine wpAnyM_take 16 rfl (by kernel_rfl) (by kernel_rfl) (by kernel_rfl) (by kernel_rfl) (by kernel_rfl) (fun _ _ _ h => h) hSw (by kernel_rfl) (fun w' hSx => by (try dsimp only at hSx); go_simp; first | done | with_reducible rfl) ?_
        simp only [Act.put]
        refine wpAnyM_take 17 rfl (by kernel_rfl) (by kernel_rfl) (by kernel_rfl) (by kernel_rfl) (by kernel_rfl) (fun _ _ _ h => h) hSw (by kernel_rfl) (fun w' hSx => by (try dsimp only at hSx); go_simp; first | done | with_reducible rfl) ?_
        simp only [Act.put]
        refine wpAnyM_take 18 rfl (by kernel_rfl) (by kernel_rfl) (by kernel_rfl) (by kernel_rfl) (by kernel_rfl) (fun _ _ _ h => h) hSw (by kernel_rfl) (fun w' hSx => by (try dsimp only at hSx); go_simp; first | done | with_reducible rfl) ?_
        simp only [Act.put]
        refine wpAnyM_take 19 rfl (by kernel_rfl) (by kernel_rfl) (by kernel_rfl) (by kernel_rfl) (by kernel_rfl) (fun _ _ _ h => h) hSw (by kernel_rfl) (fun w' hSx => by (try dsimp only at hSx); go_simp; first | done | with_reducible rfl) ?_
        simp only [Act.put]
        refine wpAnyM_take 20 rfl (by kernel_rfl) (by kernel_rfl) (by kernel_rfl) (by kernel_rfl) (by kernel_rfl) (fun _ _ _ h => h) hSw (by kernel_rfl) (fun w' hSx => by (try dsimp only at hSx); go_simp; first | done | with_reducible rfl) ?_
        simp only [Act.put]
        refine wpAnyM_take 21 rfl (by kernel_rfl) (by kernel_rfl) (by kernel_rfl) (by kernel_rfl) (by kernel_rfl) (fun _ _ _ h => h) hSw (by kernel_rfl) (fun w' hSx => by (try dsimp only at hSx); go_simp; first | done | with_reducible rfl) ?_
        simp only [Act.put]
        refine wpAnyM_take 22 rfl (by kernel_rfl) (by kernel_rfl) (by kernel_rfl) (by kernel_rfl) (by kernel_rfl) (fun _ _ _ h => h) hSw (by kernel_rfl) (fun w' hSx => by (try dsimp only at hSx); go_simp; first | done | with_reducible rfl) ?_
        simp only [Act.put]
        refine wpAnyM_take 23 rfl (by kernel_rfl) (by kernel_rfl) (by kernel_rfl) (by kernel_rfl) (by kernel_rfl) (fun _ _ _ h => h) hSw (by kernel_rfl) (fun w' hSx => by (try dsimp only at hSx); go_simp; first | done | with_reducible rfl) ?_
        simp only [Act.put]
        refine wpAnyM_take 24 rfl (by kernel_rfl) (by kernel_rfl) (by kernel_rfl) (by kernel_rfl) (by kernel_rfl) (fun _ _ _ h => h) hSw (by kernel_rfl) (fun w' hSx => by (try dsimp only at hSx); go_simp; first | done | with_reducible rfl) ?_
        simp only [Act.put]
        refine wpAnyM_take 25 rfl (by kernel_rfl) (by kernel_rfl) (by kernel_rfl) (by kernel_rfl) (by kernel_rfl) (fun _ _ _ h => h) hSw (by kernel_rfl) (fun w' hSx => by (try dsimp only at hSx); go_simp; first | done | with_reducible rfl) ?_
        simp only [Act.put]
        refine wpAnyM_take 26 rfl (by kernel_rfl) (by kernel_rfl) (by kernel_rfl) (by kernel_rfl) (by kernel_rfl) (fun _ _ _ h => h) hSw (by kernel_rfl) (fun w' hSx => by (try dsimp only at hSx); go_simp; first | done | with_reducible rfl) ?_
        simp only [Act.put]
        refine wpAnyM_take 27 rfl (by kernel_rfl) (by kernel_rfl) (by kernel_rfl) (by kernel_rfl) (by kernel_rfl) (fun _ _ _ h => h) hSw (by kernel_rfl) (fun w' hSx => by (try dsimp only at hSx); go_simp; first | done | with_reducible rfl) ?_
        simp only [Act.put]
        refine wpAnyM_take 28 rfl (by kernel_rfl) (by kernel_rfl) (by kernel_rfl) (by kernel_rfl) (by kernel_rfl) (fun _ _ _ h => h) hSw (by kernel_rfl) (fun w' hSx => by (try dsimp only at hSx); go_simp; first | done | with_reducible rfl) ?_
        simp only [Act.put]
        refine wpAnyM_ready [29] (by kernel_rfl) (by simp) ?_
        refine AllReadyM.last (by rfl) (by omega) (fun K hK => ?_)
        go_simp
        refine hK.out _ _ ?_
        clear hK K
        have y3 := hSw.2.2.1
        refine wpAnyM_ready [30] (by kernel_rfl) (by simp) ?_
        refine AllReadyM.last (by rfl) (by omega) (fun K hK => ?_)
        go_simp
        refine hK.out _ _ ?_
        clear hK K
        refine wpAnyM_done (by kernel_rfl) ?_ _
        obtain ⟨v1, v2, v3, _, _⟩ := hSw
        go_wp2_with fail
        go_ret2
        exact ⟨by rw [HVV.out]; simp, HFD.out⟩
end Go.Proofs.Ytpamgeemmbbkkaa
