/- The reference's machine evaluates not, and, or: its loop over the operands. Conditions: the machine reads; what flags ask is known. A guarded operation that is not wanted, taken first in a region under XMid's law. No condition. -/
import Derived.Test.YtpamgeemmbbkkaaMacC
import Derived.Test.YtpamgeemmbbkkaaBlk12
namespace Go.Proofs.Ytpamgeemmbbkkaa
open Go.RowKit
set_option maxRecDepth 100000
theorem info_bm : (Try.prog.info? 4).map (fun i => (i.zero, i.size, i.bytes)) = some (some (.bool false), 1, 1) := by kernel_rfl
theorem MPost.tail {M : MC} {Inv : (Nat → Nat → Pl.Mem) → List Bool → List Bool → Prop} {w w1 w2 : World} {κ : Nat → Nat → Pl.Mem} {k : Nat} {us : List (Nat × Pl.Mem)} (h : MPost M Inv w κ k us w1) (hL : MC.Lt M w.heap.size) (hb : Below w.heap.size w1 w2) : MPost M Inv w κ k us w2 := by
  obtain ⟨κ', vs', ds', h1, h2, h3, h4, h5⟩ := h
  exact ⟨κ', vs', ds', h1.keep hL hb, h2, h3, h4, ⟨hb.os.trans h5.os, hb.tape.trans h5.tape, hb.output.trans h5.output, Nat.le_trans h5.size hb.size, fun i hi hs => (hb.block i hi).trans (h5.block i hi hs)⟩⟩
/-- an evaluation behind another one of the same rule -/
theorem MPost.then_ {M : MC} {Inv : (Nat → Nat → Pl.Mem) → List Bool → List Bool → Prop} {w w1 w2 : World} {κ κ1 : Nat → Nat → Pl.Mem} {k : Nat} {us us' : List (Nat × Pl.Mem)} (f : Fr M.S w w1) (e : κ1 k = Pl.app (κ k) us) (h2 : MPost M Inv w1 κ1 k us' w2) : MPost M Inv w κ k (us ++ us') w2 := by
  obtain ⟨κ', vs', ds', h1, h3, h4, h5, h6⟩ := h2
  exact ⟨κ', vs', ds', h1, h3, by rw [h4, e, Pl.app_append], h5, f.trans h6 (fun _ _ h => h)⟩
set_option maxHeartbeats 3200000 in
theorem mev_not {M : MC} {F : ByteArray → Bool} {Inv : (Nat → Nat → Pl.Mem) → List Bool → List Bool → Prop} {ms : Int} {Af : Option Addr} {nf cf : Nat} {fs : List ByteArray}
    {k at_ : Nat} {o : MRul} {nm : ByteArray} {v : Int} (hk : M.l[k]? = some o) (hx : o.ex[at_]? = some ⟨3, nm, v⟩) (hsm : o.n ≤ 64) (ps : Nat → Nat) (ts : Nat → Pl.RT) (us : (Nat → Pl.Mem) → Nat → List (Nat × Pl.Mem)) (vals : (Nat → Pl.Mem) → Nat → Bool) (T : Pl.RT)
    (hps : ps 0 = at_ + 1 ∧ ∀ j, j ≤ 1 → ps j ≤ 64) (ih : ∀ j, j < 1 → EvR M F Inv ms Af nf cf fs k (ps j) (ps (j + 1)) (ts j))
    (hus : ∀ m, us m 0 = [] ∧ ∀ j, j < 1 → us m (j + 1) = us m j ++ Pl.upd F ms (Pl.app m (us m j)) (ts j) ∧ Pl.val F ms (Pl.app m (us m j)) (ts j) = vals m j)
    (hfin : ∀ m, Pl.val F ms m T = (!vals m 0) ∧ Pl.upd F ms m T = us m 1) :
    EvR M F Inv ms Af nf cf fs k at_ (ps 1) (T) := by
  intro w κ vs ds h hf hI hT
  obtain ⟨hkn, han, hlen, b0, o0, b1, o1, hA, hA1, hb0, hb1, p0, p1, r0, r1, r2⟩ := mrul_at h hk hx
  have HM := Lib.hid h
  have HF := Lib.hid hf
  have HI := Lib.hid (And.intro hI hT)
  have HA := Lib.hid hA
  have HLN := Lib.hid hlen
  clear hlen
  have q0 := h.mach.cell 0
  rw [hA] at q0
  have hml := h.mach.lt
  have k0 : (0 : Int) ≤ (k : Int) := by omega
  have k1 : (k : Int) < (M.n : Int) := by omega
  have a0 : (0 : Int) ≤ (at_ : Int) := by omega
  have a1 : (at_ : Int) < (o.n : Int) := by omega
  have N5 := Lib.hid (Blk.new_ w w.heap.size 93 #[.int .i64 3, .string nm, .int .i64 v] rfl)
  have D5 := Lib.hid ((Below.refl w.heap.size w).alloc (Nat.le_refl _) (.cells #[.int .i64 3, .string nm, .int .i64 v] 93))
  have HQR := Lib.hid (fun W => opq_any 3 W)
  have hc : Pl.opn 3 = 1 := rfl
  rw [hc] at HQR
  have HBD := Lib.hid h.bd
  have HPS := Lib.hid hps
  have HIH := Lib.hid ih
  have HUS := Lib.hid (hus (κ k))
  have HFV := Lib.hid (hfin (κ k))
  have HP0 : Hid (((ps 0 : Nat) : Int) = (at_ : Int) + 1) := by show _ = _; omega
  obtain ⟨i0, hi0, hz0, hz1, hz2⟩ := info_parts info_bm
  clear hps ih hus hfin hc
  clear h hf hI hT hk hx hA hA1 p0
  go_enter Try.func87, Try.ntmps87
  go_wp2_with fail
  refine (HQR.out _).mono ?_
  rintro e w1 ⟨rfl, rfl⟩
  generalize hw5 : (w.alloc (.cells #[.int .i64 3, .string nm, .int .i64 v] 93)) = w5 at *
  have hs5 : Hid (w5.heap.size = w.heap.size + 1) := by show _ = _; rw [← hw5]; simp
  clear hw5
  have x0 := N5.out.cell 0
  have hnl := N5.out.lt
  go_wp2_with fail
  clear x0
  go_loopw [13, 14, 108] (fun lv nx i wr => ∃ (j : Nat) (A' : Option Addr) (c' : Nat) (κ' : Nat → Nat → Pl.Mem) (vs' ds' : List Bool), j ≤ 1 ∧ i = .int .i64 j ∧ nx = .int .i64 (ps j : Nat) ∧ lv = .slice A' j c' ∧ Hid (wr.ownsRow w5.heap.size 4 1 (.slice A' j c') j ((List.range j).map fun q => Value.bool (vals (κ k) q))) ∧ Hid (MSt M wr κ' vs' ds' ∧ Inv κ' vs' ds' ∧ κ' k = Pl.app (κ k) (us (κ k) j) ∧ TmL M κ' ∧ Fr M.S w wr) ∧ Hid (Blk wr w.heap.size 93 #[.int .i64 3, .string nm, .int .i64 v]) ∧ w5.heap.size ≤ wr.heap.size) (fun _ _ i _ => 1 - (intOf i).toNat)
  case atStart => exact ⟨0, none, 0, κ, vs, ds, Nat.zero_le _, rfl, by rw [HP0.out], rfl, World.ownsRow_nil _ _ _ _, Lib.hid ⟨HM.out.go D5.out, HI.out.1, by rw [HUS.out.1]; rfl, HI.out.2, Fr.of_below D5.out⟩, N5.out, Nat.le_refl _⟩
  case round =>
    obtain ⟨j, A', c', κ', vs', ds', hj, rfl, rfl, rfl, HO, HMS, HN, hsz⟩ := hrel
    by_cases hlt : j < 1
    · have hps1 := HPS.out.2 j (by omega)
      have hps2 := HPS.out.2 (j + 1) (by omega)
      have HBW : Hid (Below M.H w wr) := HMS.out.2.2.2.2.to_below HM.out.low.2 HM.out.low.1
      have HC := Lib.hid (HIH.out j hlt wr κ' vs' ds' HMS.out.1 (HF.out.below HBW.out) HMS.out.2.1 HMS.out.2.2.2.1)
      have hj1 : (j : Int) < 1 := by omega
      go_wp2_with fail
      refine HC.out.mono ?_
      rintro e w9 ⟨rfl, κ9, vs9, ds9, h1, h2, h3, h4, h5⟩
      have HV : Hid (Pl.val F ms (κ' k) (ts j) = vals (κ k) j) := by show _ = _; rw [HMS.out.2.2.1]; exact (HUS.out.2 j hlt).2
      rw [HV.out]
      have hsub : ∀ i, M.S i → i < w5.heap.size := fun i hi => by have := HM.out.sub i hi; have := D5.out.size; omega
      have HO9 := Lib.hid (own_fr HO.out h5 hsub)
      have HN9 := Lib.hid (h5.blk HN.out (fun e => by have := HM.out.sub _ e; omega))
      have HMS9 : Hid (MSt M w9 κ9 vs9 ds9 ∧ Inv κ9 vs9 ds9 ∧ κ9 k = Pl.app (κ k) (us (κ k) (j + 1)) ∧ TmL M κ9 ∧ Fr M.S w w9) := ⟨h1, h2, by rw [h3, HMS.out.2.2.1, (HUS.out.2 j hlt).1, Pl.app_append], h4, HMS.out.2.2.2.2.trans h5 (fun _ _ h => h)⟩
      have hsz9 : w5.heap.size ≤ w9.heap.size := Nat.le_trans hsz h5.size
      clear h1 h2 h3 h4 h5 HC HMS HO HN hsub
      go_wp2_with (at_builtin; go_must (refine wpList_append_grow w9 rfl (.tmp 119) (.tmp 121) 110 rfl w5.heap.size 4 i0 _ 1 1 Try.underlying110 hi0 hz0 hz1 hz2 rfl (by decide) (.slice A' j c') j ((List.range j).map fun q => Value.bool (vals (κ k) q)) rfl HO9.out hsz9 #[.bool (vals (κ k) j)] rfl rfl (by simp) (by simp [Value.oneCell']) (by unfold maxLen; omega) (by omega) ?_; intro v3 w3 hown3 hg3 hsz3; obtain ⟨A3, c3, rfl, _⟩ := own_slice hown3; have HO3 := Lib.hid hown3; have HG3 := Lib.hid hg3; clear hown3 hg3))
      have F3 : Hid (Below w5.heap.size w9 w3) := below_grown (Below.refl _ w9) HG3.out HO9.out (Nat.le_refl _) hsz9
      have HLT5 : Hid (MC.Lt M w5.heap.size) := HBD.out.more D5.out.size
      have HMS3 : Hid (MSt M w3 κ9 vs9 ds9 ∧ Inv κ9 vs9 ds9 ∧ κ9 k = Pl.app (κ k) (us (κ k) (j + 1)) ∧ TmL M κ9 ∧ Fr M.S w w3) := ⟨HMS9.out.1.keep HLT5.out F3.out, HMS9.out.2.1, HMS9.out.2.2.1, HMS9.out.2.2.2.1, HMS9.out.2.2.2.2.trans (T := fun i => w5.heap.size ≤ i) ⟨F3.out.os, F3.out.tape, F3.out.output, F3.out.size, fun i hi hs => F3.out.block i (by omega)⟩ (fun i hi e => by have := D5.out.size; omega)⟩
      have HOR : Hid (w3.ownsRow w5.heap.size 4 1 (.slice A3 (j + 1) c3) (j + 1) ((List.range (j + 1)).map fun q => Value.bool (vals (κ k) q))) := by
        rw [List.range_succ, List.map_append]
        exact HO3.out
      go_roundw
      case rel => exact ⟨j + 1, A3, c3, κ9, vs9, ds9, by omega, by go_num, rfl, rfl, HOR.out, HMS3.out, HN9.out.below F3.out (by omega), hsz3⟩
      case measure => simp [intOf]; omega
    · have hjj : j = 1 := by omega
      subst hjj
      have x0 := HN.out.cell 0
      have hnl9 := HN.out.lt
      obtain ⟨g, cap, hv, hg0, hg1⟩ := HO.out.form (by omega)
      injection hv with hv1 _ hv2
      subst hv1 hv2
      have c0 : wr.cell? ⟨g, 0, none⟩ = some (.bool (vals (κ k) 0)) := by
        have := HO.out.cells (g := g) rfl 0 (.bool (vals (κ k) 0)) (by first | rfl | simp)
        simpa [Addr.add] using this
      have HPO : Hid (MPost M Inv w κ k (us (κ k) 1) wr) := ⟨κ', vs', ds', HMS.out⟩
      have hps2 := HPS.out.2 1 (by omega)
      have HVV := Lib.hid HFV.out.1
      have HUU : Hid (MPost M Inv w κ k (Pl.upd F ms (κ k) T) wr) := by rw [HFV.out.2]; exact HPO.out
      clear HPO HFV
      generalize vals (κ k) 0 = y0 at *
      go_wp2_with fail
      go_ret2
      exact ⟨by rw [HVV.out]; rfl, HUU.out⟩
set_option maxHeartbeats 3200000 in
theorem mev_and {M : MC} {F : ByteArray → Bool} {Inv : (Nat → Nat → Pl.Mem) → List Bool → List Bool → Prop} {ms : Int} {Af : Option Addr} {nf cf : Nat} {fs : List ByteArray}
    {k at_ : Nat} {o : MRul} {nm : ByteArray} {v : Int} (hk : M.l[k]? = some o) (hx : o.ex[at_]? = some ⟨4, nm, v⟩) (hsm : o.n ≤ 64) (ps : Nat → Nat) (ts : Nat → Pl.RT) (us : (Nat → Pl.Mem) → Nat → List (Nat × Pl.Mem)) (vals : (Nat → Pl.Mem) → Nat → Bool) (T : Pl.RT)
    (hps : ps 0 = at_ + 1 ∧ ∀ j, j ≤ 2 → ps j ≤ 64) (ih : ∀ j, j < 2 → EvR M F Inv ms Af nf cf fs k (ps j) (ps (j + 1)) (ts j))
    (hus : ∀ m, us m 0 = [] ∧ ∀ j, j < 2 → us m (j + 1) = us m j ++ Pl.upd F ms (Pl.app m (us m j)) (ts j) ∧ Pl.val F ms (Pl.app m (us m j)) (ts j) = vals m j)
    (hfin : ∀ m, Pl.val F ms m T = (vals m 0 && vals m 1) ∧ Pl.upd F ms m T = us m 2) :
    EvR M F Inv ms Af nf cf fs k at_ (ps 2) (T) := by
  intro w κ vs ds h hf hI hT
  obtain ⟨hkn, han, hlen, b0, o0, b1, o1, hA, hA1, hb0, hb1, p0, p1, r0, r1, r2⟩ := mrul_at h hk hx
  have HM := Lib.hid h
  have HF := Lib.hid hf
  have HI := Lib.hid (And.intro hI hT)
  have HA := Lib.hid hA
  have HLN := Lib.hid hlen
  clear hlen
  have q0 := h.mach.cell 0
  rw [hA] at q0
  have hml := h.mach.lt
  have k0 : (0 : Int) ≤ (k : Int) := by omega
  have k1 : (k : Int) < (M.n : Int) := by omega
  have a0 : (0 : Int) ≤ (at_ : Int) := by omega
  have a1 : (at_ : Int) < (o.n : Int) := by omega
  have N5 := Lib.hid (Blk.new_ w w.heap.size 93 #[.int .i64 4, .string nm, .int .i64 v] rfl)
  have D5 := Lib.hid ((Below.refl w.heap.size w).alloc (Nat.le_refl _) (.cells #[.int .i64 4, .string nm, .int .i64 v] 93))
  have HQR := Lib.hid (fun W => opq_any 4 W)
  have hc : Pl.opn 4 = 2 := rfl
  rw [hc] at HQR
  have HBD := Lib.hid h.bd
  have HPS := Lib.hid hps
  have HIH := Lib.hid ih
  have HUS := Lib.hid (hus (κ k))
  have HFV := Lib.hid (hfin (κ k))
  have HP0 : Hid (((ps 0 : Nat) : Int) = (at_ : Int) + 1) := by show _ = _; omega
  obtain ⟨i0, hi0, hz0, hz1, hz2⟩ := info_parts info_bm
  clear hps ih hus hfin hc
  clear h hf hI hT hk hx hA hA1 p0
  go_enter Try.func87, Try.ntmps87
  go_wp2_with fail
  refine (HQR.out _).mono ?_
  rintro e w1 ⟨rfl, rfl⟩
  generalize hw5 : (w.alloc (.cells #[.int .i64 4, .string nm, .int .i64 v] 93)) = w5 at *
  have hs5 : Hid (w5.heap.size = w.heap.size + 1) := by show _ = _; rw [← hw5]; simp
  clear hw5
  have x0 := N5.out.cell 0
  have hnl := N5.out.lt
  go_wp2_with fail
  clear x0
  go_loopw [13, 14, 108] (fun lv nx i wr => ∃ (j : Nat) (A' : Option Addr) (c' : Nat) (κ' : Nat → Nat → Pl.Mem) (vs' ds' : List Bool), j ≤ 2 ∧ i = .int .i64 j ∧ nx = .int .i64 (ps j : Nat) ∧ lv = .slice A' j c' ∧ Hid (wr.ownsRow w5.heap.size 4 1 (.slice A' j c') j ((List.range j).map fun q => Value.bool (vals (κ k) q))) ∧ Hid (MSt M wr κ' vs' ds' ∧ Inv κ' vs' ds' ∧ κ' k = Pl.app (κ k) (us (κ k) j) ∧ TmL M κ' ∧ Fr M.S w wr) ∧ Hid (Blk wr w.heap.size 93 #[.int .i64 4, .string nm, .int .i64 v]) ∧ w5.heap.size ≤ wr.heap.size) (fun _ _ i _ => 2 - (intOf i).toNat)
  case atStart => exact ⟨0, none, 0, κ, vs, ds, Nat.zero_le _, rfl, by rw [HP0.out], rfl, World.ownsRow_nil _ _ _ _, Lib.hid ⟨HM.out.go D5.out, HI.out.1, by rw [HUS.out.1]; rfl, HI.out.2, Fr.of_below D5.out⟩, N5.out, Nat.le_refl _⟩
  case round =>
    obtain ⟨j, A', c', κ', vs', ds', hj, rfl, rfl, rfl, HO, HMS, HN, hsz⟩ := hrel
    by_cases hlt : j < 2
    · have hps1 := HPS.out.2 j (by omega)
      have hps2 := HPS.out.2 (j + 1) (by omega)
      have HBW : Hid (Below M.H w wr) := HMS.out.2.2.2.2.to_below HM.out.low.2 HM.out.low.1
      have HC := Lib.hid (HIH.out j hlt wr κ' vs' ds' HMS.out.1 (HF.out.below HBW.out) HMS.out.2.1 HMS.out.2.2.2.1)
      have hj1 : (j : Int) < 2 := by omega
      go_wp2_with fail
      refine HC.out.mono ?_
      rintro e w9 ⟨rfl, κ9, vs9, ds9, h1, h2, h3, h4, h5⟩
      have HV : Hid (Pl.val F ms (κ' k) (ts j) = vals (κ k) j) := by show _ = _; rw [HMS.out.2.2.1]; exact (HUS.out.2 j hlt).2
      rw [HV.out]
      have hsub : ∀ i, M.S i → i < w5.heap.size := fun i hi => by have := HM.out.sub i hi; have := D5.out.size; omega
      have HO9 := Lib.hid (own_fr HO.out h5 hsub)
      have HN9 := Lib.hid (h5.blk HN.out (fun e => by have := HM.out.sub _ e; omega))
      have HMS9 : Hid (MSt M w9 κ9 vs9 ds9 ∧ Inv κ9 vs9 ds9 ∧ κ9 k = Pl.app (κ k) (us (κ k) (j + 1)) ∧ TmL M κ9 ∧ Fr M.S w w9) := ⟨h1, h2, by rw [h3, HMS.out.2.2.1, (HUS.out.2 j hlt).1, Pl.app_append], h4, HMS.out.2.2.2.2.trans h5 (fun _ _ h => h)⟩
      have hsz9 : w5.heap.size ≤ w9.heap.size := Nat.le_trans hsz h5.size
      clear h1 h2 h3 h4 h5 HC HMS HO HN hsub
      go_wp2_with (at_builtin; go_must (refine wpList_append_grow w9 rfl (.tmp 119) (.tmp 121) 110 rfl w5.heap.size 4 i0 _ 1 1 Try.underlying110 hi0 hz0 hz1 hz2 rfl (by decide) (.slice A' j c') j ((List.range j).map fun q => Value.bool (vals (κ k) q)) rfl HO9.out hsz9 #[.bool (vals (κ k) j)] rfl rfl (by simp) (by simp [Value.oneCell']) (by unfold maxLen; omega) (by omega) ?_; intro v3 w3 hown3 hg3 hsz3; obtain ⟨A3, c3, rfl, _⟩ := own_slice hown3; have HO3 := Lib.hid hown3; have HG3 := Lib.hid hg3; clear hown3 hg3))
      have F3 : Hid (Below w5.heap.size w9 w3) := below_grown (Below.refl _ w9) HG3.out HO9.out (Nat.le_refl _) hsz9
      have HLT5 : Hid (MC.Lt M w5.heap.size) := HBD.out.more D5.out.size
      have HMS3 : Hid (MSt M w3 κ9 vs9 ds9 ∧ Inv κ9 vs9 ds9 ∧ κ9 k = Pl.app (κ k) (us (κ k) (j + 1)) ∧ TmL M κ9 ∧ Fr M.S w w3) := ⟨HMS9.out.1.keep HLT5.out F3.out, HMS9.out.2.1, HMS9.out.2.2.1, HMS9.out.2.2.2.1, HMS9.out.2.2.2.2.trans (T := fun i => w5.heap.size ≤ i) ⟨F3.out.os, F3.out.tape, F3.out.output, F3.out.size, fun i hi hs => F3.out.block i (by omega)⟩ (fun i hi e => by have := D5.out.size; omega)⟩
      have HOR : Hid (w3.ownsRow w5.heap.size 4 1 (.slice A3 (j + 1) c3) (j + 1) ((List.range (j + 1)).map fun q => Value.bool (vals (κ k) q))) := by
        rw [List.range_succ, List.map_append]
        exact HO3.out
      go_roundw
      case rel => exact ⟨j + 1, A3, c3, κ9, vs9, ds9, by omega, by go_num, rfl, rfl, HOR.out, HMS3.out, HN9.out.below F3.out (by omega), hsz3⟩
      case measure => simp [intOf]; omega
    · have hjj : j = 2 := by omega
      subst hjj
      have x0 := HN.out.cell 0
      have hnl9 := HN.out.lt
      obtain ⟨g, cap, hv, hg0, hg1⟩ := HO.out.form (by omega)
      injection hv with hv1 _ hv2
      subst hv1 hv2
      have c0 : wr.cell? ⟨g, 0, none⟩ = some (.bool (vals (κ k) 0)) := by
        have := HO.out.cells (g := g) rfl 0 (.bool (vals (κ k) 0)) (by first | rfl | simp)
        simpa [Addr.add] using this
      have c1 : wr.cell? ⟨g, 1, none⟩ = some (.bool (vals (κ k) 1)) := by
        have := HO.out.cells (g := g) rfl 1 (.bool (vals (κ k) 1)) (by first | rfl | simp)
        simpa [Addr.add] using this
      have HPO : Hid (MPost M Inv w κ k (us (κ k) 2) wr) := ⟨κ', vs', ds', HMS.out⟩
      have hps2 := HPS.out.2 2 (by omega)
      have HVV := Lib.hid HFV.out.1
      have HUU : Hid (MPost M Inv w κ k (Pl.upd F ms (κ k) T) wr) := by rw [HFV.out.2]; exact HPO.out
      clear HPO HFV
      generalize vals (κ k) 0 = y0 at *
      generalize vals (κ k) 1 = y1 at *
      cases y0 <;> cases y1
      all_goals
        go_wp2_with fail
        go_ret2
        exact ⟨by rw [HVV.out]; rfl, HUU.out⟩
set_option maxHeartbeats 3200000 in
theorem mev_or {M : MC} {F : ByteArray → Bool} {Inv : (Nat → Nat → Pl.Mem) → List Bool → List Bool → Prop} {ms : Int} {Af : Option Addr} {nf cf : Nat} {fs : List ByteArray}
    {k at_ : Nat} {o : MRul} {nm : ByteArray} {v : Int} (hk : M.l[k]? = some o) (hx : o.ex[at_]? = some ⟨5, nm, v⟩) (hsm : o.n ≤ 64) (ps : Nat → Nat) (ts : Nat → Pl.RT) (us : (Nat → Pl.Mem) → Nat → List (Nat × Pl.Mem)) (vals : (Nat → Pl.Mem) → Nat → Bool) (T : Pl.RT)
    (hps : ps 0 = at_ + 1 ∧ ∀ j, j ≤ 2 → ps j ≤ 64) (ih : ∀ j, j < 2 → EvR M F Inv ms Af nf cf fs k (ps j) (ps (j + 1)) (ts j))
    (hus : ∀ m, us m 0 = [] ∧ ∀ j, j < 2 → us m (j + 1) = us m j ++ Pl.upd F ms (Pl.app m (us m j)) (ts j) ∧ Pl.val F ms (Pl.app m (us m j)) (ts j) = vals m j)
    (hfin : ∀ m, Pl.val F ms m T = (vals m 0 || vals m 1) ∧ Pl.upd F ms m T = us m 2) :
    EvR M F Inv ms Af nf cf fs k at_ (ps 2) (T) := by
  intro w κ vs ds h hf hI hT
  obtain ⟨hkn, han, hlen, b0, o0, b1, o1, hA, hA1, hb0, hb1, p0, p1, r0, r1, r2⟩ := mrul_at h hk hx
  have HM := Lib.hid h
  have HF := Lib.hid hf
  have HI := Lib.hid (And.intro hI hT)
  have HA := Lib.hid hA
  have HLN := Lib.hid hlen
  clear hlen
  have q0 := h.mach.cell 0
  rw [hA] at q0
  have hml := h.mach.lt
  have k0 : (0 : Int) ≤ (k : Int) := by omega
  have k1 : (k : Int) < (M.n : Int) := by omega
  have a0 : (0 : Int) ≤ (at_ : Int) := by omega
  have a1 : (at_ : Int) < (o.n : Int) := by omega
  have N5 := Lib.hid (Blk.new_ w w.heap.size 93 #[.int .i64 5, .string nm, .int .i64 v] rfl)
  have D5 := Lib.hid ((Below.refl w.heap.size w).alloc (Nat.le_refl _) (.cells #[.int .i64 5, .string nm, .int .i64 v] 93))
  have HQR := Lib.hid (fun W => opq_any 5 W)
  have hc : Pl.opn 5 = 2 := rfl
  rw [hc] at HQR
  have HBD := Lib.hid h.bd
  have HPS := Lib.hid hps
  have HIH := Lib.hid ih
  have HUS := Lib.hid (hus (κ k))
  have HFV := Lib.hid (hfin (κ k))
  have HP0 : Hid (((ps 0 : Nat) : Int) = (at_ : Int) + 1) := by show _ = _; omega
  obtain ⟨i0, hi0, hz0, hz1, hz2⟩ := info_parts info_bm
  clear hps ih hus hfin hc
  clear h hf hI hT hk hx hA hA1 p0
  go_enter Try.func87, Try.ntmps87
  go_wp2_with fail
  refine (HQR.out _).mono ?_
  rintro e w1 ⟨rfl, rfl⟩
  generalize hw5 : (w.alloc (.cells #[.int .i64 5, .string nm, .int .i64 v] 93)) = w5 at *
  have hs5 : Hid (w5.heap.size = w.heap.size + 1) := by show _ = _; rw [← hw5]; simp
  clear hw5
  have x0 := N5.out.cell 0
  have hnl := N5.out.lt
  go_wp2_with fail
  clear x0
  go_loopw [13, 14, 108] (fun lv nx i wr => ∃ (j : Nat) (A' : Option Addr) (c' : Nat) (κ' : Nat → Nat → Pl.Mem) (vs' ds' : List Bool), j ≤ 2 ∧ i = .int .i64 j ∧ nx = .int .i64 (ps j : Nat) ∧ lv = .slice A' j c' ∧ Hid (wr.ownsRow w5.heap.size 4 1 (.slice A' j c') j ((List.range j).map fun q => Value.bool (vals (κ k) q))) ∧ Hid (MSt M wr κ' vs' ds' ∧ Inv κ' vs' ds' ∧ κ' k = Pl.app (κ k) (us (κ k) j) ∧ TmL M κ' ∧ Fr M.S w wr) ∧ Hid (Blk wr w.heap.size 93 #[.int .i64 5, .string nm, .int .i64 v]) ∧ w5.heap.size ≤ wr.heap.size) (fun _ _ i _ => 2 - (intOf i).toNat)
  case atStart => exact ⟨0, none, 0, κ, vs, ds, Nat.zero_le _, rfl, by rw [HP0.out], rfl, World.ownsRow_nil _ _ _ _, Lib.hid ⟨HM.out.go D5.out, HI.out.1, by rw [HUS.out.1]; rfl, HI.out.2, Fr.of_below D5.out⟩, N5.out, Nat.le_refl _⟩
  case round =>
    obtain ⟨j, A', c', κ', vs', ds', hj, rfl, rfl, rfl, HO, HMS, HN, hsz⟩ := hrel
    by_cases hlt : j < 2
    · have hps1 := HPS.out.2 j (by omega)
      have hps2 := HPS.out.2 (j + 1) (by omega)
      have HBW : Hid (Below M.H w wr) := HMS.out.2.2.2.2.to_below HM.out.low.2 HM.out.low.1
      have HC := Lib.hid (HIH.out j hlt wr κ' vs' ds' HMS.out.1 (HF.out.below HBW.out) HMS.out.2.1 HMS.out.2.2.2.1)
      have hj1 : (j : Int) < 2 := by omega
      go_wp2_with fail
      refine HC.out.mono ?_
      rintro e w9 ⟨rfl, κ9, vs9, ds9, h1, h2, h3, h4, h5⟩
      have HV : Hid (Pl.val F ms (κ' k) (ts j) = vals (κ k) j) := by show _ = _; rw [HMS.out.2.2.1]; exact (HUS.out.2 j hlt).2
      rw [HV.out]
      have hsub : ∀ i, M.S i → i < w5.heap.size := fun i hi => by have := HM.out.sub i hi; have := D5.out.size; omega
      have HO9 := Lib.hid (own_fr HO.out h5 hsub)
      have HN9 := Lib.hid (h5.blk HN.out (fun e => by have := HM.out.sub _ e; omega))
      have HMS9 : Hid (MSt M w9 κ9 vs9 ds9 ∧ Inv κ9 vs9 ds9 ∧ κ9 k = Pl.app (κ k) (us (κ k) (j + 1)) ∧ TmL M κ9 ∧ Fr M.S w w9) := ⟨h1, h2, by rw [h3, HMS.out.2.2.1, (HUS.out.2 j hlt).1, Pl.app_append], h4, HMS.out.2.2.2.2.trans h5 (fun _ _ h => h)⟩
      have hsz9 : w5.heap.size ≤ w9.heap.size := Nat.le_trans hsz h5.size
      clear h1 h2 h3 h4 h5 HC HMS HO HN hsub
      go_wp2_with (at_builtin; go_must (refine wpList_append_grow w9 rfl (.tmp 119) (.tmp 121) 110 rfl w5.heap.size 4 i0 _ 1 1 Try.underlying110 hi0 hz0 hz1 hz2 rfl (by decide) (.slice A' j c') j ((List.range j).map fun q => Value.bool (vals (κ k) q)) rfl HO9.out hsz9 #[.bool (vals (κ k) j)] rfl rfl (by simp) (by simp [Value.oneCell']) (by unfold maxLen; omega) (by omega) ?_; intro v3 w3 hown3 hg3 hsz3; obtain ⟨A3, c3, rfl, _⟩ := own_slice hown3; have HO3 := Lib.hid hown3; have HG3 := Lib.hid hg3; clear hown3 hg3))
      have F3 : Hid (Below w5.heap.size w9 w3) := below_grown (Below.refl _ w9) HG3.out HO9.out (Nat.le_refl _) hsz9
      have HLT5 : Hid (MC.Lt M w5.heap.size) := HBD.out.more D5.out.size
      have HMS3 : Hid (MSt M w3 κ9 vs9 ds9 ∧ Inv κ9 vs9 ds9 ∧ κ9 k = Pl.app (κ k) (us (κ k) (j + 1)) ∧ TmL M κ9 ∧ Fr M.S w w3) := ⟨HMS9.out.1.keep HLT5.out F3.out, HMS9.out.2.1, HMS9.out.2.2.1, HMS9.out.2.2.2.1, HMS9.out.2.2.2.2.trans (T := fun i => w5.heap.size ≤ i) ⟨F3.out.os, F3.out.tape, F3.out.output, F3.out.size, fun i hi hs => F3.out.block i (by omega)⟩ (fun i hi e => by have := D5.out.size; omega)⟩
      have HOR : Hid (w3.ownsRow w5.heap.size 4 1 (.slice A3 (j + 1) c3) (j + 1) ((List.range (j + 1)).map fun q => Value.bool (vals (κ k) q))) := by
        rw [List.range_succ, List.map_append]
        exact HO3.out
      go_roundw
      case rel => exact ⟨j + 1, A3, c3, κ9, vs9, ds9, by omega, by go_num, rfl, rfl, HOR.out, HMS3.out, HN9.out.below F3.out (by omega), hsz3⟩
      case measure => simp [intOf]; omega
    · have hjj : j = 2 := by omega
      subst hjj
      have x0 := HN.out.cell 0
      have hnl9 := HN.out.lt
      obtain ⟨g, cap, hv, hg0, hg1⟩ := HO.out.form (by omega)
      injection hv with hv1 _ hv2
      subst hv1 hv2
      have c0 : wr.cell? ⟨g, 0, none⟩ = some (.bool (vals (κ k) 0)) := by
        have := HO.out.cells (g := g) rfl 0 (.bool (vals (κ k) 0)) (by first | rfl | simp)
        simpa [Addr.add] using this
      have c1 : wr.cell? ⟨g, 1, none⟩ = some (.bool (vals (κ k) 1)) := by
        have := HO.out.cells (g := g) rfl 1 (.bool (vals (κ k) 1)) (by first | rfl | simp)
        simpa [Addr.add] using this
      have HPO : Hid (MPost M Inv w κ k (us (κ k) 2) wr) := ⟨κ', vs', ds', HMS.out⟩
      have hps2 := HPS.out.2 2 (by omega)
      have HVV := Lib.hid HFV.out.1
      have HUU : Hid (MPost M Inv w κ k (Pl.upd F ms (κ k) T) wr) := by rw [HFV.out.2]; exact HPO.out
      clear HPO HFV
      generalize vals (κ k) 0 = y0 at *
      generalize vals (κ k) 1 = y1 at *
      cases y0 <;> cases y1
      all_goals
        go_wp2_with fail
        go_ret2
        exact ⟨by rw [HVV.out]; rfl, HUU.out⟩
end Go.Proofs.Ytpamgeemmbbkkaa
namespace Go.Proofs.Ytpamgeemmbbkkaa
open Go
section
variable {P : Program} {ops : Array Oper} {Q : Exit → Act → World → Prop} {md : Region.Mode} {S : World → Prop} {m : Nat}
theorem wpAnyM_skip (i : Nat) {oi : Oper} {fuel : Nat} {listed : Array Bool} {a : Act} {w : World} (hi : ops[i]? = some oi)
    (hs : Region.noSelect ops = true) (hf : Region.free md ops listed i = true) (hr : (Region.ready md ops listed).contains i = true) (hl : lateB md ops m i = true) (hm : listed.getD m false = false)
    (hQ : ∀ c a w, Q (.panic c) (a.put oi.dst undef) w → Q (.panic c) a w) (hS : S w) (hw : Region.wanted oi (yielded ops a.tmps) = false)
    (h : wpAnyM P md ops Q S m fuel (listed.setIfInBounds i true) (a.put oi.dst undef) w) : wpAnyM P md ops Q S m (fuel + 1) listed a w :=
  wpAnyM_first hi (Region.noSelect_spec hs) hQ hl fuel listed a w hm (Region.free_spec hi hf) (by simpa using hr) (.inr ⟨hw, rfl⟩) hS h
end
end Go.Proofs.Ytpamgeemmbbkkaa
