/- A relay's evaluation of not, and, or: relay's step.eval. Condition: the program reads. -/
import Derived.Test.YtpamgeemmbbkkaaBlk12
namespace Go.Proofs.Ytpamgeemmbbkkaa
open Go.RowKit
set_option maxRecDepth 100000
/-- the first operand's contract, as the walk spells it -/
theorem EvOk.first {B s r gv b : Nat} {A : Option Addr} {n c : Nat} {l : List MRul} {O : Value} {vs : List Bool} {ms : Int} {Af : Option Addr} {nf cf : Nat} {fs : List ByteArray} {k at_ : Nat} {t : Pl.RT} (h : EvOk B s r gv b A n c l O vs ms Af nf cf fs k (at_ + 1) t)
    (w : World) (vL : Value) (q : List (Nat × Nat)) (nK : Nat) (κ : Nat → Nat → Pl.Mem) (h1 : EvIn w B s r gv b A n c l O vs ms Af nf cf fs vL q nK κ) (h2 : Pl.Times κ) (h3 : nK + Pl.sz t ≤ 1000000000) (h4 : q.length + Pl.sz t ≤ 1000000) :
    Calls Try.prog 77 #[.pointer (some ⟨s, 0, none⟩), .agg #[.int .i64 (k : Int), .int .i64 ((at_ : Int) + 1)]] w (EvSaid w B s r gv b A n c l O vs ms Af nf cf fs vL q nK κ k t) := h w vL q nK κ h1 h2 h3 h4

set_option maxHeartbeats 1600000 in
theorem eval_not {B s r gv b : Nat} {A : Option Addr} {n c : Nat} {l : List MRul} {O : Value} {vs : List Bool} {ms : Int} {Af : Option Addr} {nf cf : Nat} {fs : List ByteArray}
    (k at_ : Nat) (o : MRul) (nm : ByteArray) (v : Int) (hk : l[k]? = some o) (hx : o.ex[at_]? = some ⟨3, nm, v⟩) (hsm : o.n ≤ 1000) (a : Pl.RT) (HA : EvOk B s r gv b A n c l O vs ms Af nf cf fs k (at_ + 1) a) :
    EvOk B s r gv b A n c l O vs ms Af nf cf fs k at_ (.un at_ ⟨3, nm, v⟩ a) := by
  intro w vL q nK κ h hTm hnK hqs
  have hs := h.st.lt
  have hr := h.rel.lt
  have HI := Lib.hid h
  have HTm := Lib.hid hTm
  obtain ⟨hkn, b0, o0, rfl, hb0, p1, hri⟩ := rul_is h.rules hk
  have hlow := h.low.2.2
  obtain ⟨han, b1, o1, hA1, hb1, r0, r1, r2⟩ := rn_is hri.2.2.1 hx
  have hnsm := h.small.1
  have k0 : (0 : Int) ≤ (k : Int) := by omega
  have k1 : (k : Int) < (n : Int) := by omega
  have a0 : (0 : Int) ≤ (at_ : Int) := by omega
  have a1 : (at_ : Int) < (o.n : Int) := by omega
  rw [hA1] at p1
  have HA1 := Lib.hid hA1
  have HRI := Lib.hid hri
  have HZ : Hid (((w.alloc (.cells #[.pointer (some ⟨s, 0, none⟩)] 159)).alloc (.cells #[.int .i64 (k : Int), .int .i64 (at_ : Int)] 165)).heap.size = w.heap.size + 1 + 1) := by show _ = _; simp
  have D2 := Lib.hid (((Below.refl w.heap.size w).alloc (Nat.le_refl _) (.cells #[.pointer (some ⟨s, 0, none⟩)] 159)).alloc (by simp) (.cells #[.int .i64 (k : Int), .int .i64 (at_ : Int)] 165))
  have B2 := Lib.hid ((Blk.new_ w w.heap.size 159 #[.pointer (some ⟨s, 0, none⟩)] rfl).alloc (.cells #[.int .i64 (k : Int), .int .i64 (at_ : Int)] 165))
  have B3 := Lib.hid (Blk.new_ (w.alloc (.cells #[.pointer (some ⟨s, 0, none⟩)] 159)) (w.heap.size + 1) 165 #[.int .i64 (k : Int), .int .i64 (at_ : Int)] (by simp))
  have HI2 := Lib.hid (HI.out.go D2.out)
  have q0 := B2.out.cell 0
  have q1 := B3.out.cell 0
  have q2 := B3.out.cell 1
  have s0 := HI2.out.st.cell 0
  have s1 := HI2.out.rel.cell 0
  have s2 := (D2.out.cell (p := ⟨b0, o0 + k * 2 + 1, none⟩) (by show b0 < w.heap.size; omega)).trans p1
  have t0 := (D2.out.cell (p := ⟨b1, o1 + at_ * 3, none⟩) (by show b1 < w.heap.size; omega)).trans r0
  have t1 := (D2.out.cell (p := ⟨b1, o1 + at_ * 3 + 1, none⟩) (by show b1 < w.heap.size; omega)).trans r1
  have t2 := (D2.out.cell (p := ⟨b1, o1 + at_ * 3 + 2, none⟩) (by show b1 < w.heap.size; omega)).trans r2
  have HSF : Hid (∀ w', Below ((w.alloc (.cells #[.pointer (some ⟨s, 0, none⟩)] 159)).alloc (.cells #[.int .i64 (k : Int), .int .i64 (at_ : Int)] 165)).heap.size ((w.alloc (.cells #[.pointer (some ⟨s, 0, none⟩)] 159)).alloc (.cells #[.int .i64 (k : Int), .int .i64 (at_ : Int)] 165)) w' → (w'.cell? ⟨w.heap.size, 0, none⟩ = some (.pointer (some ⟨s, 0, none⟩)) ∧ w'.cell? ⟨w.heap.size + 1, 0, none⟩ = some (.int .i64 (k : Int)) ∧ w'.cell? ⟨w.heap.size + 1, 1, none⟩ = some (.int .i64 (at_ : Int)) ∧ w'.cell? ⟨s, 0, none⟩ = some (.pointer (some ⟨r, 0, none⟩)) ∧ w'.cell? ⟨r, 0, none⟩ = some (.slice (some ⟨b0, o0, none⟩) n c) ∧ w'.cell? ⟨b0, o0 + k * 2 + 1, none⟩ = some (.slice (some ⟨b1, o1, none⟩) o.n o.c)
      ∧ w'.cell? ⟨b1, o1 + at_ * 3, none⟩ = some (.int .i64 3) ∧ w'.cell? ⟨b1, o1 + at_ * 3 + 1, none⟩ = some (.string nm) ∧ w'.cell? ⟨b1, o1 + at_ * 3 + 2, none⟩ = some (.int .i64 v))) :=
    fun w' hb => ⟨(hb.cell (cell_lt q0)).trans q0, (hb.cell (cell_lt q1)).trans q1, (hb.cell (cell_lt q2)).trans q2, (hb.cell (cell_lt s0)).trans s0, (hb.cell (cell_lt s1)).trans s1, (hb.cell (cell_lt s2)).trans s2, (hb.cell (cell_lt t0)).trans t0, (hb.cell (cell_lt t1)).trans t1, (hb.cell (cell_lt t2)).trans t2⟩
  have S1 : Hid (∀ w', Below ((w.alloc (.cells #[.pointer (some ⟨s, 0, none⟩)] 159)).alloc (.cells #[.int .i64 (k : Int), .int .i64 (at_ : Int)] 165)).heap.size ((w.alloc (.cells #[.pointer (some ⟨s, 0, none⟩)] 159)).alloc (.cells #[.int .i64 (k : Int), .int .i64 (at_ : Int)] 165)) w' → (w'.cell? ⟨w.heap.size + 1, 0, none⟩ = some (.int .i64 (k : Int)) ∧ w'.cell? ⟨w.heap.size, 0, none⟩ = some (.pointer (some ⟨s, 0, none⟩)) ∧ w'.cell? ⟨s, 0, none⟩ = some (.pointer (some ⟨r, 0, none⟩)) ∧ w'.cell? ⟨r, 0, none⟩ = some (.slice (some ⟨b0, o0, none⟩) n c) ∧ w'.cell? ⟨b0, o0 + k * 2 + 1, none⟩ = some (.slice (some ⟨b1, o1, none⟩) o.n o.c))) := fun w' hb => by
    obtain ⟨q0, q1, q2, s0, s1, s2, t0, t1, t2⟩ := HSF.out w' hb
    exact ⟨q1, q0, s0, s1, s2⟩
  have HA2 := Lib.hid (fun (w5 : World) (H5 : EvIn w5 B s r gv b (some ⟨b0, o0, none⟩) n c l O vs ms Af nf cf fs vL q nK κ) => HA.first w5 vL q nK κ H5 HTm.out (by unfold Pl.sz at hnK; omega) (by unfold Pl.sz at hqs; omega))
  clear HA
  clear q0 q1 q2 s0 s1 s2 t0 t1 t2
  clear p1 r0 r1 r2 hri h hk hx hA1 hTm
  go_enter Try.func77, Try.ntmps77
  go_wp2_with fail
  generalize ((w.alloc (.cells #[.pointer (some ⟨s, 0, none⟩)] 159)).alloc (.cells #[.int .i64 (k : Int), .int .i64 (at_ : Int)] 165)) = w2 at *
  go_region_held3 (fun w' => w'.cell? ⟨w.heap.size + 1, 0, none⟩ = some (.int .i64 (k : Int)) ∧ w'.cell? ⟨w.heap.size, 0, none⟩ = some (.pointer (some ⟨s, 0, none⟩)) ∧ w'.cell? ⟨s, 0, none⟩ = some (.pointer (some ⟨r, 0, none⟩)) ∧ w'.cell? ⟨r, 0, none⟩ = some (.slice (some ⟨b0, o0, none⟩) n c) ∧ w'.cell? ⟨b0, o0 + k * 2 + 1, none⟩ = some (.slice (some ⟨b1, o1, none⟩) o.n o.c))
    (exact S1.out _ (by first | exact Below.refl _ _ | exact (Below.refl _ _).drew | exact (Below.refl _ _).alloc (Nat.le_refl _) _ | exact ((Below.refl _ _).alloc (Nat.le_refl _) _).drew))
    (fail)
  have B4 := Lib.hid ((Blk.new_ w2 (w.heap.size + 1 + 1) 94 #[.slice (some ⟨b1, o1, none⟩) o.n o.c] HZ.out.symm).drew)
  have D3 := Lib.hid (((Below.refl w2.heap.size w2).alloc (Nat.le_refl _) (.cells #[.slice (some ⟨b1, o1, none⟩) o.n o.c] 94)).drew)
  have HZ3 : Hid (((w2.alloc (.cells #[.slice (some ⟨b1, o1, none⟩) o.n o.c] 94)).drew).heap.size = w.heap.size + 1 + 1 + 1) := by show _ = _; have := HZ.out; simp [this]
  rw [HZ.out]
  generalize ((w2.alloc (.cells #[.slice (some ⟨b1, o1, none⟩) o.n o.c] 94)).drew) = w3 at *
  obtain ⟨q0, q1, q2, s0, s1, s2, t0, t1, t2⟩ := HSF.out w3 D3.out
  have q3 := B4.out.cell 0
  have z0 : w.heap.size < w3.heap.size := by have := HZ3.out; omega
  have z1 : w.heap.size + 1 < w3.heap.size := by have := HZ3.out; omega
  have z2 : w.heap.size + 1 + 1 < w3.heap.size := by have := HZ3.out; omega
  have N5 := Lib.hid (Blk.new_ w3 w3.heap.size 93 #[.int .i64 3, .string nm, .int .i64 v] rfl |>.alloc (.cells #[.int .i64 (k : Int), .int .i64 ((at_ : Int) + 1)] 165))
  have P5 := Lib.hid (Blk.new_ (w3.alloc (.cells #[.int .i64 3, .string nm, .int .i64 v] 93)) (w3.heap.size + 1) 165 #[.int .i64 (k : Int), .int .i64 ((at_ : Int) + 1)] (by simp))
  have D4 := Lib.hid (((Below.refl w3.heap.size w3).alloc (Nat.le_refl _) (.cells #[.int .i64 3, .string nm, .int .i64 v] 93)).alloc (by simp) (.cells #[.int .i64 (k : Int), .int .i64 ((at_ : Int) + 1)] 165))
  have D5 : Hid (Below w.heap.size w ((w3.alloc (.cells #[.int .i64 3, .string nm, .int .i64 v] 93)).alloc (.cells #[.int .i64 (k : Int), .int .i64 ((at_ : Int) + 1)] 165))) := (D2.out.trans (D3.out.mono (by have := D2.out.size; omega))).trans (D4.out.mono (by omega))
  have H5 := Lib.hid (HI.out.go D5.out)
  have Q5 := Lib.hid ((B2.out.go D3.out).go D4.out)
  have R5 := Lib.hid ((B3.out.go D3.out).go D4.out)
  have T5 := Lib.hid (B4.out.go D4.out)
  clear HI2 D2 D3 B2 B3 B4 S1 HSF HZ w2
  go_wp2_with fail
  clear q0 q1 q2 s0 s1 s2 t0 t1 t2 q3 D4
  generalize ((w3.alloc (.cells #[.int .i64 3, .string nm, .int .i64 v] 93)).alloc (.cells #[.int .i64 (k : Int), .int .i64 ((at_ : Int) + 1)] 165)) = w5 at *
  have hb0 := Q5.out.lt
  have hb1' := R5.out.lt
  have hb2 := T5.out.lt
  have hb3 := N5.out.lt
  have hb4 := P5.out.lt
  have x0 := Q5.out.cell 0
  have x1 := P5.out.cell 0
  have x2 := P5.out.cell 1
  go_wp2_with fail
  refine (HA2.out _ H5.out).mono ?_
  rintro e w6 ⟨rfl, v1, n1, hr1⟩
  have HR : Hid (EvRest w B s r gv b (some ⟨b0, o0, none⟩) n c l O vs ms Af nf cf fs vL q nK κ k (Pl.upd (Pl.flP (prl l) vs fs) ms (κ k) (.un at_ ⟨3, nm, v⟩ a)) ((Pl.dls (.un at_ ⟨3, nm, v⟩ a)).map fun d => (k, d.1)) (Pl.sz a + 1) v1 n1 w6) := by
    have h := (hr1.from_ D5.out).more_ (m' := Pl.sz a + 1) (by omega)
    exact Lib.hid (by simpa [Pl.upd, Pl.dls] using h)
  have HV : Hid (Pl.val (Pl.flP (prl l) vs fs) ms (κ k) (.un at_ ⟨3, nm, v⟩ a) = !Pl.val (Pl.flP (prl l) vs fs) ms (κ k) a) := by show _ = _; simp [Pl.val]
  clear hr1 HA2 H5 Q5 R5 T5 N5 P5 D5 x0 x1 x2
  generalize Pl.val (Pl.flP (prl l) vs fs) ms (κ k) a = va at *
  go_wp2_with fail
  go_ret
  exact ⟨by rw [HV.out]; rfl, _, _, HR.out⟩

set_option maxHeartbeats 2400000 in
theorem eval_and {B s r gv b : Nat} {A : Option Addr} {n c : Nat} {l : List MRul} {O : Value} {vs : List Bool} {ms : Int} {Af : Option Addr} {nf cf : Nat} {fs : List ByteArray}
    (k at_ : Nat) (o : MRul) (nm : ByteArray) (v : Int) (hk : l[k]? = some o) (hx : o.ex[at_]? = some ⟨4, nm, v⟩) (hsm : o.n ≤ 1000) (a b' : Pl.RT) (m e0 : Nat) (hms : 0 ≤ ms) (hTree : Pl.IsT o.ex (at_ + 1) m a ∧ Pl.IsT o.ex m e0 b' ∧ e0 ≤ o.n) (HA : EvOk B s r gv b A n c l O vs ms Af nf cf fs k (at_ + 1) a) (HB : EvOk B s r gv b A n c l O vs ms Af nf cf fs k m b') :
    EvOk B s r gv b A n c l O vs ms Af nf cf fs k at_ (.bin at_ ⟨4, nm, v⟩ a b') := by
  intro w vL q nK κ h hTm hnK hqs
  have hs := h.st.lt
  have hr := h.rel.lt
  have HI := Lib.hid h
  have HTm := Lib.hid hTm
  obtain ⟨hkn, b0, o0, rfl, hb0, p1, hri⟩ := rul_is h.rules hk
  have hlow := h.low.2.2
  obtain ⟨han, b1, o1, hA1, hb1, r0, r1, r2⟩ := rn_is hri.2.2.1 hx
  have hnsm := h.small.1
  have k0 : (0 : Int) ≤ (k : Int) := by omega
  have k1 : (k : Int) < (n : Int) := by omega
  have a0 : (0 : Int) ≤ (at_ : Int) := by omega
  have a1 : (at_ : Int) < (o.n : Int) := by omega
  rw [hA1] at p1
  have HA1 := Lib.hid hA1
  have HRI := Lib.hid hri
  have HZ : Hid (((w.alloc (.cells #[.pointer (some ⟨s, 0, none⟩)] 159)).alloc (.cells #[.int .i64 (k : Int), .int .i64 (at_ : Int)] 165)).heap.size = w.heap.size + 1 + 1) := by show _ = _; simp
  have D2 := Lib.hid (((Below.refl w.heap.size w).alloc (Nat.le_refl _) (.cells #[.pointer (some ⟨s, 0, none⟩)] 159)).alloc (by simp) (.cells #[.int .i64 (k : Int), .int .i64 (at_ : Int)] 165))
  have B2 := Lib.hid ((Blk.new_ w w.heap.size 159 #[.pointer (some ⟨s, 0, none⟩)] rfl).alloc (.cells #[.int .i64 (k : Int), .int .i64 (at_ : Int)] 165))
  have B3 := Lib.hid (Blk.new_ (w.alloc (.cells #[.pointer (some ⟨s, 0, none⟩)] 159)) (w.heap.size + 1) 165 #[.int .i64 (k : Int), .int .i64 (at_ : Int)] (by simp))
  have HI2 := Lib.hid (HI.out.go D2.out)
  have q0 := B2.out.cell 0
  have q1 := B3.out.cell 0
  have q2 := B3.out.cell 1
  have s0 := HI2.out.st.cell 0
  have s1 := HI2.out.rel.cell 0
  have s2 := (D2.out.cell (p := ⟨b0, o0 + k * 2 + 1, none⟩) (by show b0 < w.heap.size; omega)).trans p1
  have t0 := (D2.out.cell (p := ⟨b1, o1 + at_ * 3, none⟩) (by show b1 < w.heap.size; omega)).trans r0
  have t1 := (D2.out.cell (p := ⟨b1, o1 + at_ * 3 + 1, none⟩) (by show b1 < w.heap.size; omega)).trans r1
  have t2 := (D2.out.cell (p := ⟨b1, o1 + at_ * 3 + 2, none⟩) (by show b1 < w.heap.size; omega)).trans r2
  have HSF : Hid (∀ w', Below ((w.alloc (.cells #[.pointer (some ⟨s, 0, none⟩)] 159)).alloc (.cells #[.int .i64 (k : Int), .int .i64 (at_ : Int)] 165)).heap.size ((w.alloc (.cells #[.pointer (some ⟨s, 0, none⟩)] 159)).alloc (.cells #[.int .i64 (k : Int), .int .i64 (at_ : Int)] 165)) w' → (w'.cell? ⟨w.heap.size, 0, none⟩ = some (.pointer (some ⟨s, 0, none⟩)) ∧ w'.cell? ⟨w.heap.size + 1, 0, none⟩ = some (.int .i64 (k : Int)) ∧ w'.cell? ⟨w.heap.size + 1, 1, none⟩ = some (.int .i64 (at_ : Int)) ∧ w'.cell? ⟨s, 0, none⟩ = some (.pointer (some ⟨r, 0, none⟩)) ∧ w'.cell? ⟨r, 0, none⟩ = some (.slice (some ⟨b0, o0, none⟩) n c) ∧ w'.cell? ⟨b0, o0 + k * 2 + 1, none⟩ = some (.slice (some ⟨b1, o1, none⟩) o.n o.c)
      ∧ w'.cell? ⟨b1, o1 + at_ * 3, none⟩ = some (.int .i64 4) ∧ w'.cell? ⟨b1, o1 + at_ * 3 + 1, none⟩ = some (.string nm) ∧ w'.cell? ⟨b1, o1 + at_ * 3 + 2, none⟩ = some (.int .i64 v))) :=
    fun w' hb => ⟨(hb.cell (cell_lt q0)).trans q0, (hb.cell (cell_lt q1)).trans q1, (hb.cell (cell_lt q2)).trans q2, (hb.cell (cell_lt s0)).trans s0, (hb.cell (cell_lt s1)).trans s1, (hb.cell (cell_lt s2)).trans s2, (hb.cell (cell_lt t0)).trans t0, (hb.cell (cell_lt t1)).trans t1, (hb.cell (cell_lt t2)).trans t2⟩
  have S1 : Hid (∀ w', Below ((w.alloc (.cells #[.pointer (some ⟨s, 0, none⟩)] 159)).alloc (.cells #[.int .i64 (k : Int), .int .i64 (at_ : Int)] 165)).heap.size ((w.alloc (.cells #[.pointer (some ⟨s, 0, none⟩)] 159)).alloc (.cells #[.int .i64 (k : Int), .int .i64 (at_ : Int)] 165)) w' → (w'.cell? ⟨w.heap.size + 1, 0, none⟩ = some (.int .i64 (k : Int)) ∧ w'.cell? ⟨w.heap.size, 0, none⟩ = some (.pointer (some ⟨s, 0, none⟩)) ∧ w'.cell? ⟨s, 0, none⟩ = some (.pointer (some ⟨r, 0, none⟩)) ∧ w'.cell? ⟨r, 0, none⟩ = some (.slice (some ⟨b0, o0, none⟩) n c) ∧ w'.cell? ⟨b0, o0 + k * 2 + 1, none⟩ = some (.slice (some ⟨b1, o1, none⟩) o.n o.c))) := fun w' hb => by
    obtain ⟨q0, q1, q2, s0, s1, s2, t0, t1, t2⟩ := HSF.out w' hb
    exact ⟨q1, q0, s0, s1, s2⟩
  have HT1 := Lib.hid hTree
  have HA2 := Lib.hid (fun (w5 : World) (H5 : EvIn w5 B s r gv b (some ⟨b0, o0, none⟩) n c l O vs ms Af nf cf fs vL q nK κ) => HA.first w5 vL q nK κ H5 HTm.out (by unfold Pl.sz at hnK; omega) (by unfold Pl.sz at hqs; omega))
  have HB2 := Lib.hid (fun (w5 w6 : World) (h0 h1 h2 h3 : Nat) (v1 : Value) (n1 : Nat) (hr : EvRest w5 B s r gv b (some ⟨b0, o0, none⟩) n c l O vs ms Af nf cf fs vL q nK κ k (Pl.upd (Pl.flP (prl l) vs fs) ms (κ k) a) ((Pl.dls a).map fun d => (k, d.1)) (Pl.sz a) v1 n1 w6)
      x0 x1 x2 x3 hn => second_any k at_ m o b' HB hTree.1.end_ (by have := hTree.1.lt; have := hTree.2.1.lt; omega) hsm hk w6 h0 h1 h2 h3 v1 _ n1 _ hr.1 (HTm.out.upd hms k a) (by have := hr.2.2.2; unfold Pl.sz at hnK; omega) (by have := Pl.dls_sz a; unfold Pl.sz at hqs; simp; omega) x0 x1 x2 x3 hn)
  clear HA HB hTree
  clear q0 q1 q2 s0 s1 s2 t0 t1 t2
  clear p1 r0 r1 r2 hri h hk hx hA1 hTm
  go_enter Try.func77, Try.ntmps77
  go_wp2_with fail
  generalize ((w.alloc (.cells #[.pointer (some ⟨s, 0, none⟩)] 159)).alloc (.cells #[.int .i64 (k : Int), .int .i64 (at_ : Int)] 165)) = w2 at *
  go_region_held3 (fun w' => w'.cell? ⟨w.heap.size + 1, 0, none⟩ = some (.int .i64 (k : Int)) ∧ w'.cell? ⟨w.heap.size, 0, none⟩ = some (.pointer (some ⟨s, 0, none⟩)) ∧ w'.cell? ⟨s, 0, none⟩ = some (.pointer (some ⟨r, 0, none⟩)) ∧ w'.cell? ⟨r, 0, none⟩ = some (.slice (some ⟨b0, o0, none⟩) n c) ∧ w'.cell? ⟨b0, o0 + k * 2 + 1, none⟩ = some (.slice (some ⟨b1, o1, none⟩) o.n o.c))
    (exact S1.out _ (by first | exact Below.refl _ _ | exact (Below.refl _ _).drew | exact (Below.refl _ _).alloc (Nat.le_refl _) _ | exact ((Below.refl _ _).alloc (Nat.le_refl _) _).drew))
    (fail)
  have B4 := Lib.hid ((Blk.new_ w2 (w.heap.size + 1 + 1) 94 #[.slice (some ⟨b1, o1, none⟩) o.n o.c] HZ.out.symm).drew)
  have D3 := Lib.hid (((Below.refl w2.heap.size w2).alloc (Nat.le_refl _) (.cells #[.slice (some ⟨b1, o1, none⟩) o.n o.c] 94)).drew)
  have HZ3 : Hid (((w2.alloc (.cells #[.slice (some ⟨b1, o1, none⟩) o.n o.c] 94)).drew).heap.size = w.heap.size + 1 + 1 + 1) := by show _ = _; have := HZ.out; simp [this]
  rw [HZ.out]
  generalize ((w2.alloc (.cells #[.slice (some ⟨b1, o1, none⟩) o.n o.c] 94)).drew) = w3 at *
  obtain ⟨q0, q1, q2, s0, s1, s2, t0, t1, t2⟩ := HSF.out w3 D3.out
  have q3 := B4.out.cell 0
  have z0 : w.heap.size < w3.heap.size := by have := HZ3.out; omega
  have z1 : w.heap.size + 1 < w3.heap.size := by have := HZ3.out; omega
  have z2 : w.heap.size + 1 + 1 < w3.heap.size := by have := HZ3.out; omega
  have N5 := Lib.hid (Blk.new_ w3 w3.heap.size 93 #[.int .i64 4, .string nm, .int .i64 v] rfl |>.alloc (.cells #[.int .i64 (k : Int), .int .i64 ((at_ : Int) + 1)] 165))
  have P5 := Lib.hid (Blk.new_ (w3.alloc (.cells #[.int .i64 4, .string nm, .int .i64 v] 93)) (w3.heap.size + 1) 165 #[.int .i64 (k : Int), .int .i64 ((at_ : Int) + 1)] (by simp))
  have D4 := Lib.hid (((Below.refl w3.heap.size w3).alloc (Nat.le_refl _) (.cells #[.int .i64 4, .string nm, .int .i64 v] 93)).alloc (by simp) (.cells #[.int .i64 (k : Int), .int .i64 ((at_ : Int) + 1)] 165))
  have D5 : Hid (Below w.heap.size w ((w3.alloc (.cells #[.int .i64 4, .string nm, .int .i64 v] 93)).alloc (.cells #[.int .i64 (k : Int), .int .i64 ((at_ : Int) + 1)] 165))) := (D2.out.trans (D3.out.mono (by have := D2.out.size; omega))).trans (D4.out.mono (by omega))
  have H5 := Lib.hid (HI.out.go D5.out)
  have Q5 := Lib.hid ((B2.out.go D3.out).go D4.out)
  have R5 := Lib.hid ((B3.out.go D3.out).go D4.out)
  have T5 := Lib.hid (B4.out.go D4.out)
  clear HI2 D2 D3 B2 B3 B4 S1 HSF HZ w2
  go_wp2_with fail
  clear q0 q1 q2 s0 s1 s2 t0 t1 t2 q3 D4
  generalize ((w3.alloc (.cells #[.int .i64 4, .string nm, .int .i64 v] 93)).alloc (.cells #[.int .i64 (k : Int), .int .i64 ((at_ : Int) + 1)] 165)) = w5 at *
  have hb0 := Q5.out.lt
  have hb1' := R5.out.lt
  have hb2 := T5.out.lt
  have hb3 := N5.out.lt
  have hb4 := P5.out.lt
  have x0 := Q5.out.cell 0
  have x1 := P5.out.cell 0
  have x2 := P5.out.cell 1
  go_wp2_with fail
  refine (HA2.out _ H5.out).mono ?_
  rintro e w6 ⟨rfl, v1, n1, hr1⟩
  have HR1 := Lib.hid hr1
  have hzz : w.heap.size + 1 + 1 + 1 ≤ w3.heap.size := by have := HZ3.out; omega
  have hne : ∀ g, w.heap.size ≤ g → g < w5.heap.size → ¬ evS s b vL g ∧ ¬ evS s b v1 g := fun g h1 h2 => by
    have h3 := HI.out.st.lt
    have h4 := HI.out.map.lt
    have hown : ¬ vL.ownBlock = some g := fun e => by
      obtain ⟨_, cur, hc⟩ := HI.out.que.own e
      have := hc.lt
      omega
    refine ⟨?_, ?_⟩
    · rintro (rfl | rfl | e)
      · omega
      · omega
      · exact hown e
    · rintro (rfl | rfl | e)
      · omega
      · omega
      · rcases hr1.2.2.1 g e with e | e
        · exact hown e
        · omega
  have Q6 := Lib.hid (hr1.blk Q5.out (hne _ (by omega) (by omega)).1)
  have R6 := Lib.hid (hr1.blk R5.out (hne _ (by omega) (by omega)).1)
  have T6 := Lib.hid (hr1.blk T5.out (hne _ (by omega) (by omega)).1)
  have P6 := Lib.hid (hr1.blk P5.out (hne _ (by omega) (by omega)).1)
  have N6 := Lib.hid (hr1.blk N5.out (hne _ (by omega) (by omega)).1)
  rw [← HA1.out] at T6
  have HC := Lib.hid (HB2.out _ _ _ _ _ _ _ _ hr1 Q6.out R6.out T6.out P6.out (fun g h => (hne g (by omega) (by omega)).2))
  have HNE := Lib.hid hne
  clear hne hr1 HB2 HA2 Q5 R5 T5 N5 P5 x0 x1 x2
  go_wp2_with fail
  refine HC.out.mono ?_
  rintro e w7 ⟨rfl, v2, n2, hr2⟩
  have HAPV : Hid (Pl.val (Pl.flP (prl l) vs fs) ms (Pl.kapp κ k (Pl.upd (Pl.flP (prl l) vs fs) ms (κ k) a) k) b' = Pl.val (Pl.flP (prl l) vs fs) ms (κ k) b') := by
    show _ = _
    rw [Pl.kapp_self]; exact (HT1.out.1.val_second HT1.out.2.1 _ _ _).1
  have HR : Hid (EvRest w B s r gv b (some ⟨b0, o0, none⟩) n c l O vs ms Af nf cf fs vL q nK κ k (Pl.upd (Pl.flP (prl l) vs fs) ms (κ k) (.bin at_ ⟨4, nm, v⟩ a b')) ((Pl.dls (.bin at_ ⟨4, nm, v⟩ a b')).map fun d => (k, d.1)) (Pl.sz (.bin at_ ⟨4, nm, v⟩ a b')) v2 n2 w7) := by
    have h := (HR1.out.trans hr2).from_ D5.out
    rw [Pl.kapp_self, (HT1.out.1.val_second HT1.out.2.1 _ _ _).2] at h
    have h := h.more_ (m' := Pl.sz a + Pl.sz b' + 1) (by omega)
    exact Lib.hid (by simpa [Pl.upd, Pl.dls, Pl.sz] using h)
  have HV : Hid (Pl.val (Pl.flP (prl l) vs fs) ms (κ k) (.bin at_ ⟨4, nm, v⟩ a b') = (Pl.val (Pl.flP (prl l) vs fs) ms (κ k) a && Pl.val (Pl.flP (prl l) vs fs) ms (κ k) b')) := by show _ = _; simp [Pl.val]
  rw [HAPV.out]
  clear hr2 HC HR1 HNE H5 Q6 R6 T6 P6 N6 D5 HAPV
  generalize Pl.val (Pl.flP (prl l) vs fs) ms (κ k) a = va at *
  generalize Pl.val (Pl.flP (prl l) vs fs) ms (κ k) b' = vb at *
  have HFN : Hid (EvSaid w B s r gv b (some ⟨b0, o0, none⟩) n c l O vs ms Af nf cf fs vL q nK κ k (.bin at_ ⟨4, nm, v⟩ a b') (.returned (.bool (va && vb))) w7) := ⟨by rw [HV.out], _, _, HR.out⟩
  clear HR HV
  cases va <;> cases vb
  all_goals
    go_wp2_with fail
    go_ret
    exact HFN.out

set_option maxHeartbeats 2400000 in
theorem eval_or {B s r gv b : Nat} {A : Option Addr} {n c : Nat} {l : List MRul} {O : Value} {vs : List Bool} {ms : Int} {Af : Option Addr} {nf cf : Nat} {fs : List ByteArray}
    (k at_ : Nat) (o : MRul) (nm : ByteArray) (v : Int) (hk : l[k]? = some o) (hx : o.ex[at_]? = some ⟨5, nm, v⟩) (hsm : o.n ≤ 1000) (a b' : Pl.RT) (m e0 : Nat) (hms : 0 ≤ ms) (hTree : Pl.IsT o.ex (at_ + 1) m a ∧ Pl.IsT o.ex m e0 b' ∧ e0 ≤ o.n) (HA : EvOk B s r gv b A n c l O vs ms Af nf cf fs k (at_ + 1) a) (HB : EvOk B s r gv b A n c l O vs ms Af nf cf fs k m b') :
    EvOk B s r gv b A n c l O vs ms Af nf cf fs k at_ (.bin at_ ⟨5, nm, v⟩ a b') := by
  intro w vL q nK κ h hTm hnK hqs
  have hs := h.st.lt
  have hr := h.rel.lt
  have HI := Lib.hid h
  have HTm := Lib.hid hTm
  obtain ⟨hkn, b0, o0, rfl, hb0, p1, hri⟩ := rul_is h.rules hk
  have hlow := h.low.2.2
  obtain ⟨han, b1, o1, hA1, hb1, r0, r1, r2⟩ := rn_is hri.2.2.1 hx
  have hnsm := h.small.1
  have k0 : (0 : Int) ≤ (k : Int) := by omega
  have k1 : (k : Int) < (n : Int) := by omega
  have a0 : (0 : Int) ≤ (at_ : Int) := by omega
  have a1 : (at_ : Int) < (o.n : Int) := by omega
  rw [hA1] at p1
  have HA1 := Lib.hid hA1
  have HRI := Lib.hid hri
  have HZ : Hid (((w.alloc (.cells #[.pointer (some ⟨s, 0, none⟩)] 159)).alloc (.cells #[.int .i64 (k : Int), .int .i64 (at_ : Int)] 165)).heap.size = w.heap.size + 1 + 1) := by show _ = _; simp
  have D2 := Lib.hid (((Below.refl w.heap.size w).alloc (Nat.le_refl _) (.cells #[.pointer (some ⟨s, 0, none⟩)] 159)).alloc (by simp) (.cells #[.int .i64 (k : Int), .int .i64 (at_ : Int)] 165))
  have B2 := Lib.hid ((Blk.new_ w w.heap.size 159 #[.pointer (some ⟨s, 0, none⟩)] rfl).alloc (.cells #[.int .i64 (k : Int), .int .i64 (at_ : Int)] 165))
  have B3 := Lib.hid (Blk.new_ (w.alloc (.cells #[.pointer (some ⟨s, 0, none⟩)] 159)) (w.heap.size + 1) 165 #[.int .i64 (k : Int), .int .i64 (at_ : Int)] (by simp))
  have HI2 := Lib.hid (HI.out.go D2.out)
  have q0 := B2.out.cell 0
  have q1 := B3.out.cell 0
  have q2 := B3.out.cell 1
  have s0 := HI2.out.st.cell 0
  have s1 := HI2.out.rel.cell 0
  have s2 := (D2.out.cell (p := ⟨b0, o0 + k * 2 + 1, none⟩) (by show b0 < w.heap.size; omega)).trans p1
  have t0 := (D2.out.cell (p := ⟨b1, o1 + at_ * 3, none⟩) (by show b1 < w.heap.size; omega)).trans r0
  have t1 := (D2.out.cell (p := ⟨b1, o1 + at_ * 3 + 1, none⟩) (by show b1 < w.heap.size; omega)).trans r1
  have t2 := (D2.out.cell (p := ⟨b1, o1 + at_ * 3 + 2, none⟩) (by show b1 < w.heap.size; omega)).trans r2
  have HSF : Hid (∀ w', Below ((w.alloc (.cells #[.pointer (some ⟨s, 0, none⟩)] 159)).alloc (.cells #[.int .i64 (k : Int), .int .i64 (at_ : Int)] 165)).heap.size ((w.alloc (.cells #[.pointer (some ⟨s, 0, none⟩)] 159)).alloc (.cells #[.int .i64 (k : Int), .int .i64 (at_ : Int)] 165)) w' → (w'.cell? ⟨w.heap.size, 0, none⟩ = some (.pointer (some ⟨s, 0, none⟩)) ∧ w'.cell? ⟨w.heap.size + 1, 0, none⟩ = some (.int .i64 (k : Int)) ∧ w'.cell? ⟨w.heap.size + 1, 1, none⟩ = some (.int .i64 (at_ : Int)) ∧ w'.cell? ⟨s, 0, none⟩ = some (.pointer (some ⟨r, 0, none⟩)) ∧ w'.cell? ⟨r, 0, none⟩ = some (.slice (some ⟨b0, o0, none⟩) n c) ∧ w'.cell? ⟨b0, o0 + k * 2 + 1, none⟩ = some (.slice (some ⟨b1, o1, none⟩) o.n o.c)
      ∧ w'.cell? ⟨b1, o1 + at_ * 3, none⟩ = some (.int .i64 5) ∧ w'.cell? ⟨b1, o1 + at_ * 3 + 1, none⟩ = some (.string nm) ∧ w'.cell? ⟨b1, o1 + at_ * 3 + 2, none⟩ = some (.int .i64 v))) :=
    fun w' hb => ⟨(hb.cell (cell_lt q0)).trans q0, (hb.cell (cell_lt q1)).trans q1, (hb.cell (cell_lt q2)).trans q2, (hb.cell (cell_lt s0)).trans s0, (hb.cell (cell_lt s1)).trans s1, (hb.cell (cell_lt s2)).trans s2, (hb.cell (cell_lt t0)).trans t0, (hb.cell (cell_lt t1)).trans t1, (hb.cell (cell_lt t2)).trans t2⟩
  have S1 : Hid (∀ w', Below ((w.alloc (.cells #[.pointer (some ⟨s, 0, none⟩)] 159)).alloc (.cells #[.int .i64 (k : Int), .int .i64 (at_ : Int)] 165)).heap.size ((w.alloc (.cells #[.pointer (some ⟨s, 0, none⟩)] 159)).alloc (.cells #[.int .i64 (k : Int), .int .i64 (at_ : Int)] 165)) w' → (w'.cell? ⟨w.heap.size + 1, 0, none⟩ = some (.int .i64 (k : Int)) ∧ w'.cell? ⟨w.heap.size, 0, none⟩ = some (.pointer (some ⟨s, 0, none⟩)) ∧ w'.cell? ⟨s, 0, none⟩ = some (.pointer (some ⟨r, 0, none⟩)) ∧ w'.cell? ⟨r, 0, none⟩ = some (.slice (some ⟨b0, o0, none⟩) n c) ∧ w'.cell? ⟨b0, o0 + k * 2 + 1, none⟩ = some (.slice (some ⟨b1, o1, none⟩) o.n o.c))) := fun w' hb => by
    obtain ⟨q0, q1, q2, s0, s1, s2, t0, t1, t2⟩ := HSF.out w' hb
    exact ⟨q1, q0, s0, s1, s2⟩
  have HT1 := Lib.hid hTree
  have HA2 := Lib.hid (fun (w5 : World) (H5 : EvIn w5 B s r gv b (some ⟨b0, o0, none⟩) n c l O vs ms Af nf cf fs vL q nK κ) => HA.first w5 vL q nK κ H5 HTm.out (by unfold Pl.sz at hnK; omega) (by unfold Pl.sz at hqs; omega))
  have HB2 := Lib.hid (fun (w5 w6 : World) (h0 h1 h2 h3 : Nat) (v1 : Value) (n1 : Nat) (hr : EvRest w5 B s r gv b (some ⟨b0, o0, none⟩) n c l O vs ms Af nf cf fs vL q nK κ k (Pl.upd (Pl.flP (prl l) vs fs) ms (κ k) a) ((Pl.dls a).map fun d => (k, d.1)) (Pl.sz a) v1 n1 w6)
      x0 x1 x2 x3 hn => second_any k at_ m o b' HB hTree.1.end_ (by have := hTree.1.lt; have := hTree.2.1.lt; omega) hsm hk w6 h0 h1 h2 h3 v1 _ n1 _ hr.1 (HTm.out.upd hms k a) (by have := hr.2.2.2; unfold Pl.sz at hnK; omega) (by have := Pl.dls_sz a; unfold Pl.sz at hqs; simp; omega) x0 x1 x2 x3 hn)
  clear HA HB hTree
  clear q0 q1 q2 s0 s1 s2 t0 t1 t2
  clear p1 r0 r1 r2 hri h hk hx hA1 hTm
  go_enter Try.func77, Try.ntmps77
  go_wp2_with fail
  generalize ((w.alloc (.cells #[.pointer (some ⟨s, 0, none⟩)] 159)).alloc (.cells #[.int .i64 (k : Int), .int .i64 (at_ : Int)] 165)) = w2 at *
  go_region_held3 (fun w' => w'.cell? ⟨w.heap.size + 1, 0, none⟩ = some (.int .i64 (k : Int)) ∧ w'.cell? ⟨w.heap.size, 0, none⟩ = some (.pointer (some ⟨s, 0, none⟩)) ∧ w'.cell? ⟨s, 0, none⟩ = some (.pointer (some ⟨r, 0, none⟩)) ∧ w'.cell? ⟨r, 0, none⟩ = some (.slice (some ⟨b0, o0, none⟩) n c) ∧ w'.cell? ⟨b0, o0 + k * 2 + 1, none⟩ = some (.slice (some ⟨b1, o1, none⟩) o.n o.c))
    (exact S1.out _ (by first | exact Below.refl _ _ | exact (Below.refl _ _).drew | exact (Below.refl _ _).alloc (Nat.le_refl _) _ | exact ((Below.refl _ _).alloc (Nat.le_refl _) _).drew))
    (fail)
  have B4 := Lib.hid ((Blk.new_ w2 (w.heap.size + 1 + 1) 94 #[.slice (some ⟨b1, o1, none⟩) o.n o.c] HZ.out.symm).drew)
  have D3 := Lib.hid (((Below.refl w2.heap.size w2).alloc (Nat.le_refl _) (.cells #[.slice (some ⟨b1, o1, none⟩) o.n o.c] 94)).drew)
  have HZ3 : Hid (((w2.alloc (.cells #[.slice (some ⟨b1, o1, none⟩) o.n o.c] 94)).drew).heap.size = w.heap.size + 1 + 1 + 1) := by show _ = _; have := HZ.out; simp [this]
  rw [HZ.out]
  generalize ((w2.alloc (.cells #[.slice (some ⟨b1, o1, none⟩) o.n o.c] 94)).drew) = w3 at *
  obtain ⟨q0, q1, q2, s0, s1, s2, t0, t1, t2⟩ := HSF.out w3 D3.out
  have q3 := B4.out.cell 0
  have z0 : w.heap.size < w3.heap.size := by have := HZ3.out; omega
  have z1 : w.heap.size + 1 < w3.heap.size := by have := HZ3.out; omega
  have z2 : w.heap.size + 1 + 1 < w3.heap.size := by have := HZ3.out; omega
  have N5 := Lib.hid (Blk.new_ w3 w3.heap.size 93 #[.int .i64 5, .string nm, .int .i64 v] rfl |>.alloc (.cells #[.int .i64 (k : Int), .int .i64 ((at_ : Int) + 1)] 165))
  have P5 := Lib.hid (Blk.new_ (w3.alloc (.cells #[.int .i64 5, .string nm, .int .i64 v] 93)) (w3.heap.size + 1) 165 #[.int .i64 (k : Int), .int .i64 ((at_ : Int) + 1)] (by simp))
  have D4 := Lib.hid (((Below.refl w3.heap.size w3).alloc (Nat.le_refl _) (.cells #[.int .i64 5, .string nm, .int .i64 v] 93)).alloc (by simp) (.cells #[.int .i64 (k : Int), .int .i64 ((at_ : Int) + 1)] 165))
  have D5 : Hid (Below w.heap.size w ((w3.alloc (.cells #[.int .i64 5, .string nm, .int .i64 v] 93)).alloc (.cells #[.int .i64 (k : Int), .int .i64 ((at_ : Int) + 1)] 165))) := (D2.out.trans (D3.out.mono (by have := D2.out.size; omega))).trans (D4.out.mono (by omega))
  have H5 := Lib.hid (HI.out.go D5.out)
  have Q5 := Lib.hid ((B2.out.go D3.out).go D4.out)
  have R5 := Lib.hid ((B3.out.go D3.out).go D4.out)
  have T5 := Lib.hid (B4.out.go D4.out)
  clear HI2 D2 D3 B2 B3 B4 S1 HSF HZ w2
  go_wp2_with fail
  clear q0 q1 q2 s0 s1 s2 t0 t1 t2 q3 D4
  generalize ((w3.alloc (.cells #[.int .i64 5, .string nm, .int .i64 v] 93)).alloc (.cells #[.int .i64 (k : Int), .int .i64 ((at_ : Int) + 1)] 165)) = w5 at *
  have hb0 := Q5.out.lt
  have hb1' := R5.out.lt
  have hb2 := T5.out.lt
  have hb3 := N5.out.lt
  have hb4 := P5.out.lt
  have x0 := Q5.out.cell 0
  have x1 := P5.out.cell 0
  have x2 := P5.out.cell 1
  go_wp2_with fail
  refine (HA2.out _ H5.out).mono ?_
  rintro e w6 ⟨rfl, v1, n1, hr1⟩
  have HR1 := Lib.hid hr1
  have hzz : w.heap.size + 1 + 1 + 1 ≤ w3.heap.size := by have := HZ3.out; omega
  have hne : ∀ g, w.heap.size ≤ g → g < w5.heap.size → ¬ evS s b vL g ∧ ¬ evS s b v1 g := fun g h1 h2 => by
    have h3 := HI.out.st.lt
    have h4 := HI.out.map.lt
    have hown : ¬ vL.ownBlock = some g := fun e => by
      obtain ⟨_, cur, hc⟩ := HI.out.que.own e
      have := hc.lt
      omega
    refine ⟨?_, ?_⟩
    · rintro (rfl | rfl | e)
      · omega
      · omega
      · exact hown e
    · rintro (rfl | rfl | e)
      · omega
      · omega
      · rcases hr1.2.2.1 g e with e | e
        · exact hown e
        · omega
  have Q6 := Lib.hid (hr1.blk Q5.out (hne _ (by omega) (by omega)).1)
  have R6 := Lib.hid (hr1.blk R5.out (hne _ (by omega) (by omega)).1)
  have T6 := Lib.hid (hr1.blk T5.out (hne _ (by omega) (by omega)).1)
  have P6 := Lib.hid (hr1.blk P5.out (hne _ (by omega) (by omega)).1)
  have N6 := Lib.hid (hr1.blk N5.out (hne _ (by omega) (by omega)).1)
  rw [← HA1.out] at T6
  have HC := Lib.hid (HB2.out _ _ _ _ _ _ _ _ hr1 Q6.out R6.out T6.out P6.out (fun g h => (hne g (by omega) (by omega)).2))
  have HNE := Lib.hid hne
  clear hne hr1 HB2 HA2 Q5 R5 T5 N5 P5 x0 x1 x2
  go_wp2_with fail
  refine HC.out.mono ?_
  rintro e w7 ⟨rfl, v2, n2, hr2⟩
  have HAPV : Hid (Pl.val (Pl.flP (prl l) vs fs) ms (Pl.kapp κ k (Pl.upd (Pl.flP (prl l) vs fs) ms (κ k) a) k) b' = Pl.val (Pl.flP (prl l) vs fs) ms (κ k) b') := by
    show _ = _
    rw [Pl.kapp_self]; exact (HT1.out.1.val_second HT1.out.2.1 _ _ _).1
  have HR : Hid (EvRest w B s r gv b (some ⟨b0, o0, none⟩) n c l O vs ms Af nf cf fs vL q nK κ k (Pl.upd (Pl.flP (prl l) vs fs) ms (κ k) (.bin at_ ⟨5, nm, v⟩ a b')) ((Pl.dls (.bin at_ ⟨5, nm, v⟩ a b')).map fun d => (k, d.1)) (Pl.sz (.bin at_ ⟨5, nm, v⟩ a b')) v2 n2 w7) := by
    have h := (HR1.out.trans hr2).from_ D5.out
    rw [Pl.kapp_self, (HT1.out.1.val_second HT1.out.2.1 _ _ _).2] at h
    have h := h.more_ (m' := Pl.sz a + Pl.sz b' + 1) (by omega)
    exact Lib.hid (by simpa [Pl.upd, Pl.dls, Pl.sz] using h)
  have HV : Hid (Pl.val (Pl.flP (prl l) vs fs) ms (κ k) (.bin at_ ⟨5, nm, v⟩ a b') = (Pl.val (Pl.flP (prl l) vs fs) ms (κ k) a || Pl.val (Pl.flP (prl l) vs fs) ms (κ k) b')) := by show _ = _; simp [Pl.val]
  rw [HAPV.out]
  clear hr2 HC HR1 HNE H5 Q6 R6 T6 P6 N6 D5 HAPV
  generalize Pl.val (Pl.flP (prl l) vs fs) ms (κ k) a = va at *
  generalize Pl.val (Pl.flP (prl l) vs fs) ms (κ k) b' = vb at *
  have HFN : Hid (EvSaid w B s r gv b (some ⟨b0, o0, none⟩) n c l O vs ms Af nf cf fs vL q nK κ k (.bin at_ ⟨5, nm, v⟩ a b') (.returned (.bool (va || vb))) w7) := ⟨by rw [HV.out], _, _, HR.out⟩
  clear HR HV
  cases va <;> cases vb
  all_goals
    go_wp2_with fail
    go_ret
    exact HFN.out
end Go.Proofs.Ytpamgeemmbbkkaa
