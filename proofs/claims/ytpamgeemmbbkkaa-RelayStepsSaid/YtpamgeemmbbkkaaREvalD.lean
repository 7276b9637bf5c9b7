/- A relay's latches and delays: relay's step.eval. Condition: the program reads. -/
import Derived.Test.YtpamgeemmbbkkaaREvalC
namespace Go.Proofs.Ytpamgeemmbbkkaa
open Go.RowKit
set_option maxRecDepth 100000
theorem kmap_look {w : World} {b n : Nat} {κ : Nat → Nat → Pl.Mem} (hown : KMap w b n κ) {k c : Nat} (hk : KM.Ok k) (hc : KM.Ok c) :
    (Instr.lookup 151 (.map (some b)) (.agg #[.int .i64 (k : Int), .int .i64 (c : Int)]) false).run Try.prog w = .ok (.agg #[.bool (κ k c).1, .int .i64 (κ k c).2]) w := by
  obtain ⟨D, h1, h2, h3⟩ := hown
  obtain ⟨v, ps, hrun, hv⟩ := h1.lookup KM.keyed Try.underlying151 (KM.zero_mem w) (KM.memR_mk (false, 0)) (KM.keyOf_place _ _ hk.wf hc.wf)
  rw [h3 k c hk hc] at hv
  cases KM.memR_inv hv
  exact hrun
theorem kmap_set {w : World} {b n : Nat} {κ : Nat → Nat → Pl.Mem} (hown : KMap w b n κ) {k c : Nat} (hk : KM.Ok k) (hc : KM.Ok c) (hn : n < maxLen) (y : Pl.Mem) :
    ∃ w', (Instr.mapUpdate 151 (.map (some b)) (.agg #[.int .i64 (k : Int), .int .i64 (c : Int)]) (.agg #[.bool y.1, .int .i64 y.2])).run Try.prog w = .ok () w' ∧ KMap w' b (n + 1) (kput κ k c y) ∧ w.grownBy w' (some b) := by
  obtain ⟨D, h1, h2, h3⟩ := hown
  obtain ⟨w', hrun, h4, h5⟩ := h1.update KM.keyed Try.underlying151 hn (KM.keyOf_place _ _ hk.wf hc.wf) (KM.memR_mk y)
  exact ⟨w', hrun, ⟨_, h4, kmap_put h2 h3 hk hc y⟩, h5⟩
/-- an operand's writes leave the operation's own place alone -/
theorem app_apart {ex : List Pl.RN} {l m e at_ : Nat} {a b : Pl.RT} (ha : Pl.IsT ex l m a) (hb : Pl.IsT ex m e b) (hat : at_ < l) (fl : ByteArray → Bool) (ms : Int) (κ : Nat → Nat → Pl.Mem) (k : Nat) (M M' : Nat → Pl.Mem) :
    Pl.kapp κ k (Pl.upd fl ms M a ++ Pl.upd fl ms M' b) k at_ = κ k at_ := by
  rw [Pl.kapp_self]
  refine Pl.app_out _ _ (fun u hu e => ?_)
  rcases List.mem_append.1 hu with hu | hu
  · have := Pl.plc_in ha _ (Pl.upd_pos a u hu); omega
  · have := Pl.plc_in hb _ (Pl.upd_pos b u hu); have := ha.lt; omega

set_option maxHeartbeats 2400000 in
theorem eval_latch {B s r gv b : Nat} {A : Option Addr} {n c : Nat} {l : List MRul} {O : Value} {vs : List Bool} {ms : Int} {Af : Option Addr} {nf cf : Nat} {fs : List ByteArray}
    (k at_ : Nat) (o : MRul) (nm : ByteArray) (v : Int) (hk : l[k]? = some o) (hx : o.ex[at_]? = some ⟨7, nm, v⟩) (hsm : o.n ≤ 1000) (a b' : Pl.RT) (m e0 : Nat) (hms : 0 ≤ ms) (hTree : Pl.IsT o.ex (at_ + 1) m a ∧ Pl.IsT o.ex m e0 b' ∧ e0 ≤ o.n) (HA : EvOk B s r gv b A n c l O vs ms Af nf cf fs k (at_ + 1) a) (HB : EvOk B s r gv b A n c l O vs ms Af nf cf fs k m b') :
    EvOk B s r gv b A n c l O vs ms Af nf cf fs k at_ (.bin at_ ⟨7, nm, v⟩ a b') := by
  intro w vL q nK κ h hTm hnK hqs
  have hs := h.st.lt
  have hr := h.rel.lt
  have HI := Lib.hid h
  have HTm := Lib.hid hTm
  obtain ⟨hkn, b0, o0, rfl, hb0, p1, hri⟩ := rul_is h.rules hk
  have hlow := h.low.2.2
  obtain ⟨han, b1, o1, hA1, hb1, r0, r1, r2⟩ := rn_is hri.2.2.1 hx
  have hnsm := h.small.1
  have k0 : (0 : Int) ≤ (k : Int) := by omega
  have k1 : (k : Int) < (n : Int) := by omega
  have a0 : (0 : Int) ≤ (at_ : Int) := by omega
  have a1 : (at_ : Int) < (o.n : Int) := by omega
  rw [hA1] at p1
  have HA1 := Lib.hid hA1
  have HRI := Lib.hid hri
  have HZ : Hid (((w.alloc (.cells #[.pointer (some ⟨s, 0, none⟩)] 159)).alloc (.cells #[.int .i64 (k : Int), .int .i64 (at_ : Int)] 165)).heap.size = w.heap.size + 1 + 1) := by show _ = _; simp
  have D2 := Lib.hid (((Below.refl w.heap.size w).alloc (Nat.le_refl _) (.cells #[.pointer (some ⟨s, 0, none⟩)] 159)).alloc (by simp) (.cells #[.int .i64 (k : Int), .int .i64 (at_ : Int)] 165))
  have B2 := Lib.hid ((Blk.new_ w w.heap.size 159 #[.pointer (some ⟨s, 0, none⟩)] rfl).alloc (.cells #[.int .i64 (k : Int), .int .i64 (at_ : Int)] 165))
  have B3 := Lib.hid (Blk.new_ (w.alloc (.cells #[.pointer (some ⟨s, 0, none⟩)] 159)) (w.heap.size + 1) 165 #[.int .i64 (k : Int), .int .i64 (at_ : Int)] (by simp))
  have HI2 := Lib.hid (HI.out.go D2.out)
  have q0 := B2.out.cell 0
  have q1 := B3.out.cell 0
  have q2 := B3.out.cell 1
  have s0 := HI2.out.st.cell 0
  have s1 := HI2.out.rel.cell 0
  have s2 := (D2.out.cell (p := ⟨b0, o0 + k * 2 + 1, none⟩) (by show b0 < w.heap.size; omega)).trans p1
  have t0 := (D2.out.cell (p := ⟨b1, o1 + at_ * 3, none⟩) (by show b1 < w.heap.size; omega)).trans r0
  have t1 := (D2.out.cell (p := ⟨b1, o1 + at_ * 3 + 1, none⟩) (by show b1 < w.heap.size; omega)).trans r1
  have t2 := (D2.out.cell (p := ⟨b1, o1 + at_ * 3 + 2, none⟩) (by show b1 < w.heap.size; omega)).trans r2
  have HSF : Hid (∀ w', Below ((w.alloc (.cells #[.pointer (some ⟨s, 0, none⟩)] 159)).alloc (.cells #[.int .i64 (k : Int), .int .i64 (at_ : Int)] 165)).heap.size ((w.alloc (.cells #[.pointer (some ⟨s, 0, none⟩)] 159)).alloc (.cells #[.int .i64 (k : Int), .int .i64 (at_ : Int)] 165)) w' → (w'.cell? ⟨w.heap.size, 0, none⟩ = some (.pointer (some ⟨s, 0, none⟩)) ∧ w'.cell? ⟨w.heap.size + 1, 0, none⟩ = some (.int .i64 (k : Int)) ∧ w'.cell? ⟨w.heap.size + 1, 1, none⟩ = some (.int .i64 (at_ : Int)) ∧ w'.cell? ⟨s, 0, none⟩ = some (.pointer (some ⟨r, 0, none⟩)) ∧ w'.cell? ⟨r, 0, none⟩ = some (.slice (some ⟨b0, o0, none⟩) n c) ∧ w'.cell? ⟨b0, o0 + k * 2 + 1, none⟩ = some (.slice (some ⟨b1, o1, none⟩) o.n o.c)
      ∧ w'.cell? ⟨b1, o1 + at_ * 3, none⟩ = some (.int .i64 7) ∧ w'.cell? ⟨b1, o1 + at_ * 3 + 1, none⟩ = some (.string nm) ∧ w'.cell? ⟨b1, o1 + at_ * 3 + 2, none⟩ = some (.int .i64 v))) :=
    fun w' hb => ⟨(hb.cell (cell_lt q0)).trans q0, (hb.cell (cell_lt q1)).trans q1, (hb.cell (cell_lt q2)).trans q2, (hb.cell (cell_lt s0)).trans s0, (hb.cell (cell_lt s1)).trans s1, (hb.cell (cell_lt s2)).trans s2, (hb.cell (cell_lt t0)).trans t0, (hb.cell (cell_lt t1)).trans t1, (hb.cell (cell_lt t2)).trans t2⟩
  have S1 : Hid (∀ w', Below ((w.alloc (.cells #[.pointer (some ⟨s, 0, none⟩)] 159)).alloc (.cells #[.int .i64 (k : Int), .int .i64 (at_ : Int)] 165)).heap.size ((w.alloc (.cells #[.pointer (some ⟨s, 0, none⟩)] 159)).alloc (.cells #[.int .i64 (k : Int), .int .i64 (at_ : Int)] 165)) w' → (w'.cell? ⟨w.heap.size + 1, 0, none⟩ = some (.int .i64 (k : Int)) ∧ w'.cell? ⟨w.heap.size, 0, none⟩ = some (.pointer (some ⟨s, 0, none⟩)) ∧ w'.cell? ⟨s, 0, none⟩ = some (.pointer (some ⟨r, 0, none⟩)) ∧ w'.cell? ⟨r, 0, none⟩ = some (.slice (some ⟨b0, o0, none⟩) n c) ∧ w'.cell? ⟨b0, o0 + k * 2 + 1, none⟩ = some (.slice (some ⟨b1, o1, none⟩) o.n o.c))) := fun w' hb => by
    obtain ⟨q0, q1, q2, s0, s1, s2, t0, t1, t2⟩ := HSF.out w' hb
    exact ⟨q1, q0, s0, s1, s2⟩
  have HT1 := Lib.hid hTree
  have HA2 := Lib.hid (fun (w5 : World) (H5 : EvIn w5 B s r gv b (some ⟨b0, o0, none⟩) n c l O vs ms Af nf cf fs vL q nK κ) => HA.first w5 vL q nK κ H5 HTm.out (by unfold Pl.sz at hnK; omega) (by unfold Pl.sz at hqs; omega))
  have HB2 := Lib.hid (fun (w5 w6 : World) (h0 h1 h2 h3 : Nat) (v1 : Value) (n1 : Nat) (hr : EvRest w5 B s r gv b (some ⟨b0, o0, none⟩) n c l O vs ms Af nf cf fs vL q nK κ k (Pl.upd (Pl.flP (prl l) vs fs) ms (κ k) a) ((Pl.dls a).map fun d => (k, d.1)) (Pl.sz a) v1 n1 w6)
      x0 x1 x2 x3 hn => second_any k at_ m o b' HB hTree.1.end_ (by have := hTree.1.lt; have := hTree.2.1.lt; omega) hsm hk w6 h0 h1 h2 h3 v1 _ n1 _ hr.1 (HTm.out.upd hms k a) (by have := hr.2.2.2; unfold Pl.sz at hnK; omega) (by have := Pl.dls_sz a; unfold Pl.sz at hqs; simp; omega) x0 x1 x2 x3 hn)
  clear HA HB hTree
  clear q0 q1 q2 s0 s1 s2 t0 t1 t2
  clear p1 r0 r1 r2 hri h hk hx hA1 hTm
  go_enter Try.func77, Try.ntmps77
  go_wp2_with fail
  generalize ((w.alloc (.cells #[.pointer (some ⟨s, 0, none⟩)] 159)).alloc (.cells #[.int .i64 (k : Int), .int .i64 (at_ : Int)] 165)) = w2 at *
  go_region_held3 (fun w' => w'.cell? ⟨w.heap.size + 1, 0, none⟩ = some (.int .i64 (k : Int)) ∧ w'.cell? ⟨w.heap.size, 0, none⟩ = some (.pointer (some ⟨s, 0, none⟩)) ∧ w'.cell? ⟨s, 0, none⟩ = some (.pointer (some ⟨r, 0, none⟩)) ∧ w'.cell? ⟨r, 0, none⟩ = some (.slice (some ⟨b0, o0, none⟩) n c) ∧ w'.cell? ⟨b0, o0 + k * 2 + 1, none⟩ = some (.slice (some ⟨b1, o1, none⟩) o.n o.c))
    (exact S1.out _ (by first | exact Below.refl _ _ | exact (Below.refl _ _).drew | exact (Below.refl _ _).alloc (Nat.le_refl _) _ | exact ((Below.refl _ _).alloc (Nat.le_refl _) _).drew))
    (fail)
  have B4 := Lib.hid ((Blk.new_ w2 (w.heap.size + 1 + 1) 94 #[.slice (some ⟨b1, o1, none⟩) o.n o.c] HZ.out.symm).drew)
  have D3 := Lib.hid (((Below.refl w2.heap.size w2).alloc (Nat.le_refl _) (.cells #[.slice (some ⟨b1, o1, none⟩) o.n o.c] 94)).drew)
  have HZ3 : Hid (((w2.alloc (.cells #[.slice (some ⟨b1, o1, none⟩) o.n o.c] 94)).drew).heap.size = w.heap.size + 1 + 1 + 1) := by show _ = _; have := HZ.out; simp [this]
  rw [HZ.out]
  generalize ((w2.alloc (.cells #[.slice (some ⟨b1, o1, none⟩) o.n o.c] 94)).drew) = w3 at *
  obtain ⟨q0, q1, q2, s0, s1, s2, t0, t1, t2⟩ := HSF.out w3 D3.out
  have q3 := B4.out.cell 0
  have z0 : w.heap.size < w3.heap.size := by have := HZ3.out; omega
  have z1 : w.heap.size + 1 < w3.heap.size := by have := HZ3.out; omega
  have z2 : w.heap.size + 1 + 1 < w3.heap.size := by have := HZ3.out; omega
  have N5 := Lib.hid (Blk.new_ w3 w3.heap.size 93 #[.int .i64 7, .string nm, .int .i64 v] rfl |>.alloc (.cells #[.int .i64 (k : Int), .int .i64 ((at_ : Int) + 1)] 165))
  have P5 := Lib.hid (Blk.new_ (w3.alloc (.cells #[.int .i64 7, .string nm, .int .i64 v] 93)) (w3.heap.size + 1) 165 #[.int .i64 (k : Int), .int .i64 ((at_ : Int) + 1)] (by simp))
  have D4 := Lib.hid (((Below.refl w3.heap.size w3).alloc (Nat.le_refl _) (.cells #[.int .i64 7, .string nm, .int .i64 v] 93)).alloc (by simp) (.cells #[.int .i64 (k : Int), .int .i64 ((at_ : Int) + 1)] 165))
  have D5 : Hid (Below w.heap.size w ((w3.alloc (.cells #[.int .i64 7, .string nm, .int .i64 v] 93)).alloc (.cells #[.int .i64 (k : Int), .int .i64 ((at_ : Int) + 1)] 165))) := (D2.out.trans (D3.out.mono (by have := D2.out.size; omega))).trans (D4.out.mono (by omega))
  have H5 := Lib.hid (HI.out.go D5.out)
  have Q5 := Lib.hid ((B2.out.go D3.out).go D4.out)
  have R5 := Lib.hid ((B3.out.go D3.out).go D4.out)
  have T5 := Lib.hid (B4.out.go D4.out)
  clear HI2 D2 D3 B2 B3 B4 S1 HSF HZ w2
  go_wp2_with fail
  clear q0 q1 q2 s0 s1 s2 t0 t1 t2 q3 D4
  generalize ((w3.alloc (.cells #[.int .i64 7, .string nm, .int .i64 v] 93)).alloc (.cells #[.int .i64 (k : Int), .int .i64 ((at_ : Int) + 1)] 165)) = w5 at *
  have hb0 := Q5.out.lt
  have hb1' := R5.out.lt
  have hb2 := T5.out.lt
  have hb3 := N5.out.lt
  have hb4 := P5.out.lt
  have x0 := Q5.out.cell 0
  have x1 := P5.out.cell 0
  have x2 := P5.out.cell 1
  go_wp2_with fail
  refine (HA2.out _ H5.out).mono ?_
  rintro e w6 ⟨rfl, v1, n1, hr1⟩
  have HR1 := Lib.hid hr1
  have hzz : w.heap.size + 1 + 1 + 1 ≤ w3.heap.size := by have := HZ3.out; omega
  have hne : ∀ g, w.heap.size ≤ g → g < w5.heap.size → ¬ evS s b vL g ∧ ¬ evS s b v1 g := fun g h1 h2 => by
    have h3 := HI.out.st.lt
    have h4 := HI.out.map.lt
    have hown : ¬ vL.ownBlock = some g := fun e => by
      obtain ⟨_, cur, hc⟩ := HI.out.que.own e
      have := hc.lt
      omega
    refine ⟨?_, ?_⟩
    · rintro (rfl | rfl | e)
      · omega
      · omega
      · exact hown e
    · rintro (rfl | rfl | e)
      · omega
      · omega
      · rcases hr1.2.2.1 g e with e | e
        · exact hown e
        · omega
  have Q6 := Lib.hid (hr1.blk Q5.out (hne _ (by omega) (by omega)).1)
  have R6 := Lib.hid (hr1.blk R5.out (hne _ (by omega) (by omega)).1)
  have T6 := Lib.hid (hr1.blk T5.out (hne _ (by omega) (by omega)).1)
  have P6 := Lib.hid (hr1.blk P5.out (hne _ (by omega) (by omega)).1)
  have N6 := Lib.hid (hr1.blk N5.out (hne _ (by omega) (by omega)).1)
  rw [← HA1.out] at T6
  have HC := Lib.hid (HB2.out _ _ _ _ _ _ _ _ hr1 Q6.out R6.out T6.out P6.out (fun g h => (hne g (by omega) (by omega)).2))
  have HNE := Lib.hid hne
  clear hne hr1 HB2 HA2 Q5 R5 T5 N5 P5 x0 x1 x2
  go_wp2_with fail
  refine HC.out.mono ?_
  rintro e w7 ⟨rfl, v2, n2, hr2⟩
  have HAPV : Hid (Pl.val (Pl.flP (prl l) vs fs) ms (Pl.kapp κ k (Pl.upd (Pl.flP (prl l) vs fs) ms (κ k) a) k) b' = Pl.val (Pl.flP (prl l) vs fs) ms (κ k) b') := by
    show _ = _
    rw [Pl.kapp_self]; exact (HT1.out.1.val_second HT1.out.2.1 _ _ _).1
  have HR2 : Hid (EvRest w B s r gv b (some ⟨b0, o0, none⟩) n c l O vs ms Af nf cf fs vL q nK κ k (Pl.upd (Pl.flP (prl l) vs fs) ms (κ k) a ++ Pl.upd (Pl.flP (prl l) vs fs) ms (κ k) b') ((Pl.dls a).map (fun d => (k, d.1)) ++ (Pl.dls b').map fun d => (k, d.1)) (Pl.sz a + Pl.sz b') v2 n2 w7) := by
    have h := (HR1.out.trans hr2).from_ D5.out
    rw [Pl.kapp_self, (HT1.out.1.val_second HT1.out.2.1 _ _ _).2] at h
    exact Lib.hid h
  have HAT : Hid (Pl.kapp κ k (Pl.upd (Pl.flP (prl l) vs fs) ms (κ k) a ++ Pl.upd (Pl.flP (prl l) vs fs) ms (κ k) b') k at_ = κ k at_) := app_apart HT1.out.1 HT1.out.2.1 (by omega) _ _ _ _ _ _
  have hne7 : ∀ g, w.heap.size ≤ g → g < w5.heap.size → ¬ evS s b v1 g := fun g h1 h2 => (HNE.out g h1 h2).2
  have Q7 := Lib.hid (hr2.blk Q6.out (hne7 _ (by omega) (by omega)))
  have R7 := Lib.hid (hr2.blk R6.out (hne7 _ (by omega) (by omega)))
  have HFN : Hid (∀ va vb on : Bool, va = Pl.val (Pl.flP (prl l) vs fs) ms (κ k) a → vb = Pl.val (Pl.flP (prl l) vs fs) ms (κ k) b' → on = (κ k at_).1 → ∀ W, EvRest w B s r gv b (some ⟨b0, o0, none⟩) n c l O vs ms Af nf cf fs vL q nK κ k (Pl.upd (Pl.flP (prl l) vs fs) ms (κ k) a ++ Pl.upd (Pl.flP (prl l) vs fs) ms (κ k) b' ++ [(at_, ((on || va) && !vb, 0))]) ((Pl.dls a).map (fun d => (k, d.1)) ++ (Pl.dls b').map fun d => (k, d.1)) (Pl.sz a + Pl.sz b' + 1) v2 (n2 + 1) W →
      EvSaid w B s r gv b (some ⟨b0, o0, none⟩) n c l O vs ms Af nf cf fs vL q nK κ k (.bin at_ ⟨7, nm, v⟩ a b') (.returned (.bool ((on || va) && !vb))) W) := fun va vb on e1 e2 e3 W h => by
    subst e1 e2 e3
    refine ⟨by simp [Pl.val], v2, n2 + 1, ?_⟩
    simpa [Pl.upd, Pl.dls, Pl.sz, Pl.val] using h
  rw [HAPV.out]
  have HN2 : Hid (n2 < maxLen) := by
    have h1 := HR2.out.2.2.2
    unfold Pl.sz at hnK
    show n2 < maxLen
    unfold maxLen
    omega
  have hok1 : KM.Ok k := by unfold KM.Ok; omega
  have hok2 : KM.Ok at_ := by unfold KM.Ok; omega
  have HK1 := Lib.hid hok1
  have HK2 := Lib.hid hok2
  clear hr2 HC HR1 HNE hne7 H5 Q6 R6 T6 P6 N6 D5 HAPV hok1 hok2 hzz hqs
  have H7 := Lib.hid HR2.out.1
  have y0 := Wd.cell (Q7.out.cell 0)
  have y1 := Wd.cell (R7.out.cell 0)
  have y2 := Wd.cell (R7.out.cell 1)
  have y3 := Wd.cell (H7.out.st.cell 0)
  have y4 := Wd.cell (H7.out.rel.cell 3)
  have hs7 := H7.out.st.lt
  have hr7 := H7.out.rel.lt
  have yl : ∀ x : Wd w7, (Instr.lookup 151 (.map (some b)) (.agg #[.int .i64 (k : Int), .int .i64 (at_ : Int)]) false).run Try.prog x.val = .ok (.agg #[.bool (κ k at_).1, .int .i64 (κ k at_).2]) x.val := fun x => by
    have h := kmap_look (H7.out.map.fr (S := fun _ => False) (Fr.of_below x.ok) (fun h => h)) HK1.out HK2.out
    rw [HAT.out] at h
    exact h
  have HL := Lib.hid yl
  clear yl
  have HFN2 := Lib.hid (fun va vb on e1 e2 e3 W h => HFN.out va vb on e1 e2 e3 W h)
  clear HFN
  have HV1 : Hid (∃ va, va = Pl.val (Pl.flP (prl l) vs fs) ms (κ k) a) := ⟨_, rfl⟩
  have HV2 : Hid (∃ vb, vb = Pl.val (Pl.flP (prl l) vs fs) ms (κ k) b') := ⟨_, rfl⟩
  have HV3 : Hid (∃ on, on = (κ k at_).1) := ⟨_, rfl⟩
  obtain ⟨va, hva⟩ := HV1.out
  obtain ⟨vb, hvb⟩ := HV2.out
  obtain ⟨on, hon⟩ := HV3.out
  have HF3 := Lib.hid (HFN2.out va vb on hva hvb hon)
  rw [← hva, ← hvb]
  have yl := HL.out
  rw [← hon] at yl
  generalize (κ k at_).2 = tm at *
  clear HFN2 HV1 HV2 HV3 hva hvb hon HL HAT
  have e0 : (0 : Int) = 0 := rfl
  clear e0
  have HMP := Lib.hid (fun (W : World) (hb : Below w7.heap.size w7 W) (z : Bool) (_ : z = ((on || va) && !vb)) => kmap_set (H7.out.map.fr (S := fun _ => False) (Fr.of_below hb) (fun h => h)) HK1.out HK2.out HN2.out (z, 0))
  have HR7 := Lib.hid (fun (W : World) (hb : Below w7.heap.size w7 W) => HR2.out.to_ hb)
  clear HR2 HT1 HA1 HRI HI HZ3 HTm
  have yf : ∀ (bb : Bool) (W : World), (Instr.field 167 (.agg #[.bool bb, .int .i64 tm]) 0).run Try.prog W = .ok (.bool bb) W := fun bb W => by kernel_rfl
  cases on <;> cases va <;> cases vb
  all_goals
    go_wp2_with fail
    refine wp_region_wd (by kernel_rfl) (by kernel_rfl) ?_
    repeat (go_big_quiet_step (fail))
    refine wpQuiet_nil ?_
    rintro _ ⟨w8, rfl⟩
    clear yl
    have x0 := y0 w8
    have x1 := y1 w8
    have x2 := y2 w8
    have x3 := y3 w8
    have x4 := y4 w8
    clear y0 y1 y2 y3 y4
    go_wp2_with fail
    refine wp_region_mid (fun w' : World => w'.cell? ⟨w.heap.size, 0, none⟩ = some (.pointer (some ⟨s, 0, none⟩)) ∧ w'.cell? ⟨w.heap.size + 1, 0, none⟩ = some (.int .i64 (k : Int)) ∧ w'.cell? ⟨w.heap.size + 1, 1, none⟩ = some (.int .i64 (at_ : Int)) ∧ w'.cell? ⟨s, 0, none⟩ = some (.pointer (some ⟨r, 0, none⟩)) ∧ w'.cell? ⟨r, 3, none⟩ = some (.map (some b))) 10 (by kernel_rfl) ?_
    have hSw : (fun w' : World => w'.cell? ⟨w.heap.size, 0, none⟩ = some (.pointer (some ⟨s, 0, none⟩)) ∧ w'.cell? ⟨w.heap.size + 1, 0, none⟩ = some (.int .i64 (k : Int)) ∧ w'.cell? ⟨w.heap.size + 1, 1, none⟩ = some (.int .i64 (at_ : Int)) ∧ w'.cell? ⟨s, 0, none⟩ = some (.pointer (some ⟨r, 0, none⟩)) ∧ w'.cell? ⟨r, 3, none⟩ = some (.map (some b))) w8.val.drew := ⟨x0, x1, x2, x3, x4⟩
    have D8 := Lib.hid w8.ok.drew
    first
      | obtain ⟨w9, hup, KM9, hg9⟩ := HMP.out _ D8.out true rfl
      | obtain ⟨w9, hup, KM9, hg9⟩ := HMP.out _ D8.out false rfl
    have HR9 := Lib.hid ((HR7.out _ D8.out).put hg9 KM9)
    clear KM9 hg9 HMP HR7 x0 x1 x2 x3 x4
    generalize w8.val.drew = w10 at *
    refine wpAnyM_take 0 rfl (by kernel_rfl) (by kernel_rfl) (by kernel_rfl) (by kernel_rfl) (by kernel_rfl) (fun _ _ _ h => h) hSw (by rfl) (fun w' hSx => by (try dsimp only at hSx); go_simp; first | done | with_reducible rfl) ?_
    simp only [Act.put, List.setIfInBounds_toArray]
    refine wpAnyM_take 1 rfl (by kernel_rfl) (by kernel_rfl) (by kernel_rfl) (by kernel_rfl) (by kernel_rfl) (fun _ _ _ h => h) hSw (by rfl) (fun w' hSx => by (try dsimp only at hSx); go_simp; first | done | with_reducible rfl) ?_
    simp only [Act.put]
    refine wpAnyM_take 2 rfl (by kernel_rfl) (by kernel_rfl) (by kernel_rfl) (by kernel_rfl) (by kernel_rfl) (fun _ _ _ h => h) hSw (by rfl) (fun w' hSx => by (try dsimp only at hSx); go_simp; first | done | with_reducible rfl) ?_
    simp only [Act.put]
    refine wpAnyM_take 3 rfl (by kernel_rfl) (by kernel_rfl) (by kernel_rfl) (by kernel_rfl) (by kernel_rfl) (fun _ _ _ h => h) hSw (by rfl) (fun w' hSx => by (try dsimp only at hSx); go_simp; first | done | with_reducible rfl) ?_
    simp only [Act.put]
    refine wpAnyM_take 4 rfl (by kernel_rfl) (by kernel_rfl) (by kernel_rfl) (by kernel_rfl) (by kernel_rfl) (fun _ _ _ h => h) hSw (by rfl) (fun w' hSx => by (try dsimp only at hSx); go_simp; first | done | with_reducible rfl) ?_
    simp only [Act.put]
    refine wpAnyM_take 5 rfl (by kernel_rfl) (by kernel_rfl) (by kernel_rfl) (by kernel_rfl) (by kernel_rfl) (fun _ _ _ h => h) hSw (by rfl) (fun w' hSx => by (try dsimp only at hSx); go_simp; first | done | with_reducible rfl) ?_
    simp only [Act.put]
    refine wpAnyM_take 6 rfl (by kernel_rfl) (by kernel_rfl) (by kernel_rfl) (by kernel_rfl) (by kernel_rfl) (fun _ _ _ h => h) hSw (by rfl) (fun w' hSx => by (try dsimp only at hSx); go_simp; first | done | with_reducible rfl) ?_
    simp only [Act.put]
    refine wpAnyM_take 7 rfl (by kernel_rfl) (by kernel_rfl) (by kernel_rfl) (by kernel_rfl) (by kernel_rfl) (fun _ _ _ h => h) hSw (by rfl) (fun w' hSx => by (try dsimp only at hSx); go_simp; first | done | with_reducible rfl) ?_
    simp only [Act.put]
    refine wpAnyM_take 8 rfl (by kernel_rfl) (by kernel_rfl) (by kernel_rfl) (by kernel_rfl) (by kernel_rfl) (fun _ _ _ h => h) hSw (by rfl) (fun w' hSx => by (try dsimp only at hSx); go_simp; first | done | with_reducible rfl) ?_
    simp only [Act.put]
    refine wpAnyM_take 9 rfl (by kernel_rfl) (by kernel_rfl) (by kernel_rfl) (by kernel_rfl) (by kernel_rfl) (fun _ _ _ h => h) hSw (by rfl) (fun w' hSx => by (try dsimp only at hSx); go_simp; first | done | with_reducible rfl) ?_
    simp only [Act.put]
    refine wpAnyM_ready [10] (by kernel_rfl) (by simp) ?_
    refine AllReadyM.last (by rfl) (by omega) (fun K hK => ?_)
    go_simp
    refine hK.out _ _ ?_
    clear hK K hup hSw
    refine wpAnyM_done (by kernel_rfl) ?_ _
    go_wp2_with fail
    go_ret
    exact HF3.out _ HR9.out
end Go.Proofs.Ytpamgeemmbbkkaa
