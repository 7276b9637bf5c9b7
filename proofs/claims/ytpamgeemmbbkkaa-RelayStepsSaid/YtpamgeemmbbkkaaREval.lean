/- A relay's evaluation of an operation without operands: relay's step.eval. Condition: the program reads. -/
import Derived.Test.YtpamgeemmbbkkaaBlk10
namespace Go.Proofs.Ytpamgeemmbbkkaa
open Go.RowKit
set_option maxRecDepth 100000
theorem rul_is {w : World} {B n k : Nat} {A : Option Addr} {l : List MRul} {o : MRul} (h : Ruls w B A n l) (hk : l[k]? = some o) :
    k < n ∧ ∃ b0 o0, A = some ⟨b0, o0, none⟩ ∧ b0 < B ∧ w.cell? ⟨b0, o0 + k * 2 + 1, none⟩ = some (.slice o.A o.n o.c) ∧ RulIn w B o := by
  obtain ⟨hl, e⟩ := List.getElem?_eq_some_iff.1 hk
  have hkn : k < n := by have := h.len; omega
  obtain ⟨b0, o0, hA, hb0, hlk, p0, p1, hri⟩ := rul_at h hkn
  rw [e] at p1 hri
  exact ⟨hkn, b0, o0, hA, hb0, p1, hri⟩
theorem rn_is {w : World} {B n k : Nat} {A : Option Addr} {ex : List Pl.RN} {x : Pl.RN} (h : Elems rnC 3 w B A n ex) (hk : ex[k]? = some x) :
    k < n ∧ ∃ b o, A = some ⟨b, o, none⟩ ∧ b < B ∧ w.cell? ⟨b, o + k * 3, none⟩ = some (.int .i64 x.op) ∧ w.cell? ⟨b, o + k * 3 + 1, none⟩ = some (.string x.name) ∧ w.cell? ⟨b, o + k * 3 + 2, none⟩ = some (.int .i64 x.value) := by
  obtain ⟨hl, e⟩ := List.getElem?_eq_some_iff.1 hk
  have hkn : k < n := by have := h.2; omega
  obtain ⟨b1, o1, hA1, hb1, hl1, r0, r1, r2⟩ := rn_at h hkn
  rw [e] at r0 r1 r2
  exact ⟨hkn, b1, o1, hA1, hb1, r0, r1, r2⟩

set_option maxHeartbeats 1600000 in
theorem eval_flag {B s r gv b : Nat} {A : Option Addr} {n c : Nat} {l : List MRul} {O : Value} {vs : List Bool} {ms : Int} {Af : Option Addr} {nf cf : Nat} {fs : List ByteArray}
    (k at_ : Nat) (o : MRul) (nm : ByteArray) (v : Int) (hk : l[k]? = some o) (hx : o.ex[at_]? = some ⟨0, nm, v⟩) (hsm : o.n ≤ 1000) :
    EvOk B s r gv b A n c l O vs ms Af nf cf fs k at_ (.leaf at_ ⟨0, nm, v⟩) := by
  intro w vL q nK κ h hTm hnK hqs
  have hs := h.st.lt
  have hr := h.rel.lt
  have HI := Lib.hid h
  have HTm := Lib.hid hTm
  obtain ⟨hkn, b0, o0, rfl, hb0, p1, hri⟩ := rul_is h.rules hk
  have hlow := h.low.2.2
  obtain ⟨han, b1, o1, hA1, hb1, r0, r1, r2⟩ := rn_is hri.2.2.1 hx
  have hnsm := h.small.1
  have k0 : (0 : Int) ≤ (k : Int) := by omega
  have k1 : (k : Int) < (n : Int) := by omega
  have a0 : (0 : Int) ≤ (at_ : Int) := by omega
  have a1 : (at_ : Int) < (o.n : Int) := by omega
  rw [hA1] at p1
  have HA1 := Lib.hid hA1
  have HRI := Lib.hid hri
  have HZ : Hid (((w.alloc (.cells #[.pointer (some ⟨s, 0, none⟩)] 159)).alloc (.cells #[.int .i64 (k : Int), .int .i64 (at_ : Int)] 165)).heap.size = w.heap.size + 1 + 1) := by show _ = _; simp
  have D2 := Lib.hid (((Below.refl w.heap.size w).alloc (Nat.le_refl _) (.cells #[.pointer (some ⟨s, 0, none⟩)] 159)).alloc (by simp) (.cells #[.int .i64 (k : Int), .int .i64 (at_ : Int)] 165))
  have B2 := Lib.hid ((Blk.new_ w w.heap.size 159 #[.pointer (some ⟨s, 0, none⟩)] rfl).alloc (.cells #[.int .i64 (k : Int), .int .i64 (at_ : Int)] 165))
  have B3 := Lib.hid (Blk.new_ (w.alloc (.cells #[.pointer (some ⟨s, 0, none⟩)] 159)) (w.heap.size + 1) 165 #[.int .i64 (k : Int), .int .i64 (at_ : Int)] (by simp))
  have HI2 := Lib.hid (HI.out.go D2.out)
  have q0 := B2.out.cell 0
  have q1 := B3.out.cell 0
  have q2 := B3.out.cell 1
  have s0 := HI2.out.st.cell 0
  have s1 := HI2.out.rel.cell 0
  have s2 := (D2.out.cell (p := ⟨b0, o0 + k * 2 + 1, none⟩) (by show b0 < w.heap.size; omega)).trans p1
  have t0 := (D2.out.cell (p := ⟨b1, o1 + at_ * 3, none⟩) (by show b1 < w.heap.size; omega)).trans r0
  have t1 := (D2.out.cell (p := ⟨b1, o1 + at_ * 3 + 1, none⟩) (by show b1 < w.heap.size; omega)).trans r1
  have t2 := (D2.out.cell (p := ⟨b1, o1 + at_ * 3 + 2, none⟩) (by show b1 < w.heap.size; omega)).trans r2
  have HSF : Hid (∀ w', Below ((w.alloc (.cells #[.pointer (some ⟨s, 0, none⟩)] 159)).alloc (.cells #[.int .i64 (k : Int), .int .i64 (at_ : Int)] 165)).heap.size ((w.alloc (.cells #[.pointer (some ⟨s, 0, none⟩)] 159)).alloc (.cells #[.int .i64 (k : Int), .int .i64 (at_ : Int)] 165)) w' → (w'.cell? ⟨w.heap.size, 0, none⟩ = some (.pointer (some ⟨s, 0, none⟩)) ∧ w'.cell? ⟨w.heap.size + 1, 0, none⟩ = some (.int .i64 (k : Int)) ∧ w'.cell? ⟨w.heap.size + 1, 1, none⟩ = some (.int .i64 (at_ : Int)) ∧ w'.cell? ⟨s, 0, none⟩ = some (.pointer (some ⟨r, 0, none⟩)) ∧ w'.cell? ⟨r, 0, none⟩ = some (.slice (some ⟨b0, o0, none⟩) n c) ∧ w'.cell? ⟨b0, o0 + k * 2 + 1, none⟩ = some (.slice (some ⟨b1, o1, none⟩) o.n o.c)
      ∧ w'.cell? ⟨b1, o1 + at_ * 3, none⟩ = some (.int .i64 0) ∧ w'.cell? ⟨b1, o1 + at_ * 3 + 1, none⟩ = some (.string nm) ∧ w'.cell? ⟨b1, o1 + at_ * 3 + 2, none⟩ = some (.int .i64 v))) :=
    fun w' hb => ⟨(hb.cell (cell_lt q0)).trans q0, (hb.cell (cell_lt q1)).trans q1, (hb.cell (cell_lt q2)).trans q2, (hb.cell (cell_lt s0)).trans s0, (hb.cell (cell_lt s1)).trans s1, (hb.cell (cell_lt s2)).trans s2, (hb.cell (cell_lt t0)).trans t0, (hb.cell (cell_lt t1)).trans t1, (hb.cell (cell_lt t2)).trans t2⟩
  have S1 : Hid (∀ w', Below ((w.alloc (.cells #[.pointer (some ⟨s, 0, none⟩)] 159)).alloc (.cells #[.int .i64 (k : Int), .int .i64 (at_ : Int)] 165)).heap.size ((w.alloc (.cells #[.pointer (some ⟨s, 0, none⟩)] 159)).alloc (.cells #[.int .i64 (k : Int), .int .i64 (at_ : Int)] 165)) w' → (w'.cell? ⟨w.heap.size + 1, 0, none⟩ = some (.int .i64 (k : Int)) ∧ w'.cell? ⟨w.heap.size, 0, none⟩ = some (.pointer (some ⟨s, 0, none⟩)) ∧ w'.cell? ⟨s, 0, none⟩ = some (.pointer (some ⟨r, 0, none⟩)) ∧ w'.cell? ⟨r, 0, none⟩ = some (.slice (some ⟨b0, o0, none⟩) n c) ∧ w'.cell? ⟨b0, o0 + k * 2 + 1, none⟩ = some (.slice (some ⟨b1, o1, none⟩) o.n o.c))) := fun w' hb => by
    obtain ⟨q0, q1, q2, s0, s1, s2, t0, t1, t2⟩ := HSF.out w' hb
    exact ⟨q1, q0, s0, s1, s2⟩
  clear q0 q1 q2 s0 s1 s2 t0 t1 t2
  clear p1 r0 r1 r2 hri h hk hx hA1 hTm
  go_enter Try.func77, Try.ntmps77
  go_wp2_with fail
  generalize ((w.alloc (.cells #[.pointer (some ⟨s, 0, none⟩)] 159)).alloc (.cells #[.int .i64 (k : Int), .int .i64 (at_ : Int)] 165)) = w2 at *
  go_region_held3 (fun w' => w'.cell? ⟨w.heap.size + 1, 0, none⟩ = some (.int .i64 (k : Int)) ∧ w'.cell? ⟨w.heap.size, 0, none⟩ = some (.pointer (some ⟨s, 0, none⟩)) ∧ w'.cell? ⟨s, 0, none⟩ = some (.pointer (some ⟨r, 0, none⟩)) ∧ w'.cell? ⟨r, 0, none⟩ = some (.slice (some ⟨b0, o0, none⟩) n c) ∧ w'.cell? ⟨b0, o0 + k * 2 + 1, none⟩ = some (.slice (some ⟨b1, o1, none⟩) o.n o.c))
    (exact S1.out _ (by first | exact Below.refl _ _ | exact (Below.refl _ _).drew | exact (Below.refl _ _).alloc (Nat.le_refl _) _ | exact ((Below.refl _ _).alloc (Nat.le_refl _) _).drew))
    (fail)
  have B4 := Lib.hid ((Blk.new_ w2 (w.heap.size + 1 + 1) 94 #[.slice (some ⟨b1, o1, none⟩) o.n o.c] HZ.out.symm).drew)
  have D3 := Lib.hid (((Below.refl w2.heap.size w2).alloc (Nat.le_refl _) (.cells #[.slice (some ⟨b1, o1, none⟩) o.n o.c] 94)).drew)
  have HZ3 : Hid (((w2.alloc (.cells #[.slice (some ⟨b1, o1, none⟩) o.n o.c] 94)).drew).heap.size = w.heap.size + 1 + 1 + 1) := by show _ = _; have := HZ.out; simp [this]
  rw [HZ.out]
  generalize ((w2.alloc (.cells #[.slice (some ⟨b1, o1, none⟩) o.n o.c] 94)).drew) = w3 at *
  obtain ⟨q0, q1, q2, s0, s1, s2, t0, t1, t2⟩ := HSF.out w3 D3.out
  have q3 := B4.out.cell 0
  have z0 : w.heap.size < w3.heap.size := by have := HZ3.out; omega
  have z1 : w.heap.size + 1 < w3.heap.size := by have := HZ3.out; omega
  have z2 : w.heap.size + 1 + 1 < w3.heap.size := by have := HZ3.out; omega
  have N5 := Lib.hid (Blk.new_ w3 w3.heap.size 93 #[.int .i64 0, .string nm, .int .i64 v] rfl |>.alloc (.cells #[.int .i64 (k : Int), .int .i64 ((at_ : Int) + 1)] 165))
  have P5 := Lib.hid (Blk.new_ (w3.alloc (.cells #[.int .i64 0, .string nm, .int .i64 v] 93)) (w3.heap.size + 1) 165 #[.int .i64 (k : Int), .int .i64 ((at_ : Int) + 1)] (by simp))
  have D4 := Lib.hid (((Below.refl w3.heap.size w3).alloc (Nat.le_refl _) (.cells #[.int .i64 0, .string nm, .int .i64 v] 93)).alloc (by simp) (.cells #[.int .i64 (k : Int), .int .i64 ((at_ : Int) + 1)] 165))
  have D5 : Hid (Below w.heap.size w ((w3.alloc (.cells #[.int .i64 0, .string nm, .int .i64 v] 93)).alloc (.cells #[.int .i64 (k : Int), .int .i64 ((at_ : Int) + 1)] 165))) := (D2.out.trans (D3.out.mono (by have := D2.out.size; omega))).trans (D4.out.mono (by omega))
  have H5 := Lib.hid (HI.out.go D5.out)
  have Q5 := Lib.hid ((B2.out.go D3.out).go D4.out)
  have R5 := Lib.hid ((B3.out.go D3.out).go D4.out)
  have T5 := Lib.hid (B4.out.go D4.out)
  clear HI2 D2 D3 B2 B3 B4 S1 HSF HZ w2
  go_wp2_with fail
  refine (flag_any H5.out.toSt nm).mono ?_
  rintro e w6 ⟨rfl, hb⟩
  have HR : Hid (EvRest w B s r gv b (some ⟨b0, o0, none⟩) n c l O vs ms Af nf cf fs vL q nK κ k [] [] 1 vL nK w6) := EvRest.none_ (H5.out.go hb) (D5.out.trans (hb.mono D5.out.size))
  clear hb H5 Q5 R5 T5 N5 P5 D5 D4 q0 q1 q2 s0 s1 s2 t0 t1 t2 q3
  go_wp2_with fail
  go_ret
  exact ⟨rfl, _, _, HR.out⟩

set_option maxHeartbeats 1600000 in
theorem eval_above {B s r gv b : Nat} {A : Option Addr} {n c : Nat} {l : List MRul} {O : Value} {vs : List Bool} {ms : Int} {Af : Option Addr} {nf cf : Nat} {fs : List ByteArray}
    (k at_ : Nat) (o : MRul) (nm : ByteArray) (v : Int) (hk : l[k]? = some o) (hx : o.ex[at_]? = some ⟨1, nm, v⟩) (hsm : o.n ≤ 1000) :
    EvOk B s r gv b A n c l O vs ms Af nf cf fs k at_ (.leaf at_ ⟨1, nm, v⟩) := by
  intro w vL q nK κ h hTm hnK hqs
  have hs := h.st.lt
  have hr := h.rel.lt
  have HI := Lib.hid h
  have HTm := Lib.hid hTm
  obtain ⟨hkn, b0, o0, rfl, hb0, p1, hri⟩ := rul_is h.rules hk
  have hlow := h.low.2.2
  obtain ⟨han, b1, o1, hA1, hb1, r0, r1, r2⟩ := rn_is hri.2.2.1 hx
  have hnsm := h.small.1
  have k0 : (0 : Int) ≤ (k : Int) := by omega
  have k1 : (k : Int) < (n : Int) := by omega
  have a0 : (0 : Int) ≤ (at_ : Int) := by omega
  have a1 : (at_ : Int) < (o.n : Int) := by omega
  rw [hA1] at p1
  have HA1 := Lib.hid hA1
  have HRI := Lib.hid hri
  have HZ : Hid (((w.alloc (.cells #[.pointer (some ⟨s, 0, none⟩)] 159)).alloc (.cells #[.int .i64 (k : Int), .int .i64 (at_ : Int)] 165)).heap.size = w.heap.size + 1 + 1) := by show _ = _; simp
  have D2 := Lib.hid (((Below.refl w.heap.size w).alloc (Nat.le_refl _) (.cells #[.pointer (some ⟨s, 0, none⟩)] 159)).alloc (by simp) (.cells #[.int .i64 (k : Int), .int .i64 (at_ : Int)] 165))
  have B2 := Lib.hid ((Blk.new_ w w.heap.size 159 #[.pointer (some ⟨s, 0, none⟩)] rfl).alloc (.cells #[.int .i64 (k : Int), .int .i64 (at_ : Int)] 165))
  have B3 := Lib.hid (Blk.new_ (w.alloc (.cells #[.pointer (some ⟨s, 0, none⟩)] 159)) (w.heap.size + 1) 165 #[.int .i64 (k : Int), .int .i64 (at_ : Int)] (by simp))
  have HI2 := Lib.hid (HI.out.go D2.out)
  have q0 := B2.out.cell 0
  have q1 := B3.out.cell 0
  have q2 := B3.out.cell 1
  have s0 := HI2.out.st.cell 0
  have s1 := HI2.out.rel.cell 0
  have s2 := (D2.out.cell (p := ⟨b0, o0 + k * 2 + 1, none⟩) (by show b0 < w.heap.size; omega)).trans p1
  have t0 := (D2.out.cell (p := ⟨b1, o1 + at_ * 3, none⟩) (by show b1 < w.heap.size; omega)).trans r0
  have t1 := (D2.out.cell (p := ⟨b1, o1 + at_ * 3 + 1, none⟩) (by show b1 < w.heap.size; omega)).trans r1
  have t2 := (D2.out.cell (p := ⟨b1, o1 + at_ * 3 + 2, none⟩) (by show b1 < w.heap.size; omega)).trans r2
  have HSF : Hid (∀ w', Below ((w.alloc (.cells #[.pointer (some ⟨s, 0, none⟩)] 159)).alloc (.cells #[.int .i64 (k : Int), .int .i64 (at_ : Int)] 165)).heap.size ((w.alloc (.cells #[.pointer (some ⟨s, 0, none⟩)] 159)).alloc (.cells #[.int .i64 (k : Int), .int .i64 (at_ : Int)] 165)) w' → (w'.cell? ⟨w.heap.size, 0, none⟩ = some (.pointer (some ⟨s, 0, none⟩)) ∧ w'.cell? ⟨w.heap.size + 1, 0, none⟩ = some (.int .i64 (k : Int)) ∧ w'.cell? ⟨w.heap.size + 1, 1, none⟩ = some (.int .i64 (at_ : Int)) ∧ w'.cell? ⟨s, 0, none⟩ = some (.pointer (some ⟨r, 0, none⟩)) ∧ w'.cell? ⟨r, 0, none⟩ = some (.slice (some ⟨b0, o0, none⟩) n c) ∧ w'.cell? ⟨b0, o0 + k * 2 + 1, none⟩ = some (.slice (some ⟨b1, o1, none⟩) o.n o.c)
      ∧ w'.cell? ⟨b1, o1 + at_ * 3, none⟩ = some (.int .i64 1) ∧ w'.cell? ⟨b1, o1 + at_ * 3 + 1, none⟩ = some (.string nm) ∧ w'.cell? ⟨b1, o1 + at_ * 3 + 2, none⟩ = some (.int .i64 v))) :=
    fun w' hb => ⟨(hb.cell (cell_lt q0)).trans q0, (hb.cell (cell_lt q1)).trans q1, (hb.cell (cell_lt q2)).trans q2, (hb.cell (cell_lt s0)).trans s0, (hb.cell (cell_lt s1)).trans s1, (hb.cell (cell_lt s2)).trans s2, (hb.cell (cell_lt t0)).trans t0, (hb.cell (cell_lt t1)).trans t1, (hb.cell (cell_lt t2)).trans t2⟩
  have S1 : Hid (∀ w', Below ((w.alloc (.cells #[.pointer (some ⟨s, 0, none⟩)] 159)).alloc (.cells #[.int .i64 (k : Int), .int .i64 (at_ : Int)] 165)).heap.size ((w.alloc (.cells #[.pointer (some ⟨s, 0, none⟩)] 159)).alloc (.cells #[.int .i64 (k : Int), .int .i64 (at_ : Int)] 165)) w' → (w'.cell? ⟨w.heap.size + 1, 0, none⟩ = some (.int .i64 (k : Int)) ∧ w'.cell? ⟨w.heap.size, 0, none⟩ = some (.pointer (some ⟨s, 0, none⟩)) ∧ w'.cell? ⟨s, 0, none⟩ = some (.pointer (some ⟨r, 0, none⟩)) ∧ w'.cell? ⟨r, 0, none⟩ = some (.slice (some ⟨b0, o0, none⟩) n c) ∧ w'.cell? ⟨b0, o0 + k * 2 + 1, none⟩ = some (.slice (some ⟨b1, o1, none⟩) o.n o.c))) := fun w' hb => by
    obtain ⟨q0, q1, q2, s0, s1, s2, t0, t1, t2⟩ := HSF.out w' hb
    exact ⟨q1, q0, s0, s1, s2⟩
  clear q0 q1 q2 s0 s1 s2 t0 t1 t2
  clear p1 r0 r1 r2 hri h hk hx hA1 hTm
  go_enter Try.func77, Try.ntmps77
  go_wp2_with fail
  generalize ((w.alloc (.cells #[.pointer (some ⟨s, 0, none⟩)] 159)).alloc (.cells #[.int .i64 (k : Int), .int .i64 (at_ : Int)] 165)) = w2 at *
  go_region_held3 (fun w' => w'.cell? ⟨w.heap.size + 1, 0, none⟩ = some (.int .i64 (k : Int)) ∧ w'.cell? ⟨w.heap.size, 0, none⟩ = some (.pointer (some ⟨s, 0, none⟩)) ∧ w'.cell? ⟨s, 0, none⟩ = some (.pointer (some ⟨r, 0, none⟩)) ∧ w'.cell? ⟨r, 0, none⟩ = some (.slice (some ⟨b0, o0, none⟩) n c) ∧ w'.cell? ⟨b0, o0 + k * 2 + 1, none⟩ = some (.slice (some ⟨b1, o1, none⟩) o.n o.c))
    (exact S1.out _ (by first | exact Below.refl _ _ | exact (Below.refl _ _).drew | exact (Below.refl _ _).alloc (Nat.le_refl _) _ | exact ((Below.refl _ _).alloc (Nat.le_refl _) _).drew))
    (fail)
  have B4 := Lib.hid ((Blk.new_ w2 (w.heap.size + 1 + 1) 94 #[.slice (some ⟨b1, o1, none⟩) o.n o.c] HZ.out.symm).drew)
  have D3 := Lib.hid (((Below.refl w2.heap.size w2).alloc (Nat.le_refl _) (.cells #[.slice (some ⟨b1, o1, none⟩) o.n o.c] 94)).drew)
  have HZ3 : Hid (((w2.alloc (.cells #[.slice (some ⟨b1, o1, none⟩) o.n o.c] 94)).drew).heap.size = w.heap.size + 1 + 1 + 1) := by show _ = _; have := HZ.out; simp [this]
  rw [HZ.out]
  generalize ((w2.alloc (.cells #[.slice (some ⟨b1, o1, none⟩) o.n o.c] 94)).drew) = w3 at *
  obtain ⟨q0, q1, q2, s0, s1, s2, t0, t1, t2⟩ := HSF.out w3 D3.out
  have q3 := B4.out.cell 0
  have z0 : w.heap.size < w3.heap.size := by have := HZ3.out; omega
  have z1 : w.heap.size + 1 < w3.heap.size := by have := HZ3.out; omega
  have z2 : w.heap.size + 1 + 1 < w3.heap.size := by have := HZ3.out; omega
  have N5 := Lib.hid (Blk.new_ w3 w3.heap.size 93 #[.int .i64 1, .string nm, .int .i64 v] rfl |>.alloc (.cells #[.int .i64 (k : Int), .int .i64 ((at_ : Int) + 1)] 165))
  have P5 := Lib.hid (Blk.new_ (w3.alloc (.cells #[.int .i64 1, .string nm, .int .i64 v] 93)) (w3.heap.size + 1) 165 #[.int .i64 (k : Int), .int .i64 ((at_ : Int) + 1)] (by simp))
  have D4 := Lib.hid (((Below.refl w3.heap.size w3).alloc (Nat.le_refl _) (.cells #[.int .i64 1, .string nm, .int .i64 v] 93)).alloc (by simp) (.cells #[.int .i64 (k : Int), .int .i64 ((at_ : Int) + 1)] 165))
  have D5 : Hid (Below w.heap.size w ((w3.alloc (.cells #[.int .i64 1, .string nm, .int .i64 v] 93)).alloc (.cells #[.int .i64 (k : Int), .int .i64 ((at_ : Int) + 1)] 165))) := (D2.out.trans (D3.out.mono (by have := D2.out.size; omega))).trans (D4.out.mono (by omega))
  have H5 := Lib.hid (HI.out.go D5.out)
  have Q5 := Lib.hid ((B2.out.go D3.out).go D4.out)
  have R5 := Lib.hid ((B3.out.go D3.out).go D4.out)
  have T5 := Lib.hid (B4.out.go D4.out)
  clear HI2 D2 D3 B2 B3 B4 S1 HSF HZ w2
  go_wp2_with fail
  clear q0 q1 q2 s0 s1 s2 t0 t1 t2 q3 D4
  generalize ((w3.alloc (.cells #[.int .i64 1, .string nm, .int .i64 v] 93)).alloc (.cells #[.int .i64 (k : Int), .int .i64 ((at_ : Int) + 1)] 165)) = w5 at *
  have hb0 := Q5.out.lt
  have hb1' := R5.out.lt
  have hb2 := T5.out.lt
  have hb3 := N5.out.lt
  have hb4 := P5.out.lt
  have CC := Lib.hid (fun (w6 : World) (hb : Below w5.heap.size w5 w6) => input_any s nm _ _ _ _ w6 (H5.out.go hb).st)
  have x0 := Wd.cell (Q5.out.cell 0)
  have x1 := Wd.cell (N5.out.cell 1)
  have x2 := Wd.cell (N5.out.cell 2)
  refine wp_region_wd (by kernel_rfl) (by kernel_rfl) ?_
  repeat (go_big_quiet_step ((go_at_call 96; exact Calls.wd_same ((CC.out _ (Wd.ok _)).mono fun e w' h => ⟨h.1, h.2.symm⟩))))
  refine wpQuiet_nil ?_
  rintro _ ⟨w6, rfl⟩
  have HR : Hid (EvRest w B s r gv b (some ⟨b0, o0, none⟩) n c l O vs ms Af nf cf fs vL q nK κ k [] [] 1 vL nK w6.val) := EvRest.none_ (H5.out.go w6.ok) (D5.out.trans (w6.ok.mono D5.out.size))
  generalize w6.val = w7 at *
  clear H5 Q5 R5 T5 N5 P5 D5 x0 x1 x2 CC
  go_wp2_with fail
  go_ret
  exact ⟨rfl, _, _, HR.out⟩

set_option maxHeartbeats 1600000 in
theorem eval_below {B s r gv b : Nat} {A : Option Addr} {n c : Nat} {l : List MRul} {O : Value} {vs : List Bool} {ms : Int} {Af : Option Addr} {nf cf : Nat} {fs : List ByteArray}
    (k at_ : Nat) (o : MRul) (nm : ByteArray) (v : Int) (hk : l[k]? = some o) (hx : o.ex[at_]? = some ⟨2, nm, v⟩) (hsm : o.n ≤ 1000) :
    EvOk B s r gv b A n c l O vs ms Af nf cf fs k at_ (.leaf at_ ⟨2, nm, v⟩) := by
  intro w vL q nK κ h hTm hnK hqs
  have hs := h.st.lt
  have hr := h.rel.lt
  have HI := Lib.hid h
  have HTm := Lib.hid hTm
  obtain ⟨hkn, b0, o0, rfl, hb0, p1, hri⟩ := rul_is h.rules hk
  have hlow := h.low.2.2
  obtain ⟨han, b1, o1, hA1, hb1, r0, r1, r2⟩ := rn_is hri.2.2.1 hx
  have hnsm := h.small.1
  have k0 : (0 : Int) ≤ (k : Int) := by omega
  have k1 : (k : Int) < (n : Int) := by omega
  have a0 : (0 : Int) ≤ (at_ : Int) := by omega
  have a1 : (at_ : Int) < (o.n : Int) := by omega
  rw [hA1] at p1
  have HA1 := Lib.hid hA1
  have HRI := Lib.hid hri
  have HZ : Hid (((w.alloc (.cells #[.pointer (some ⟨s, 0, none⟩)] 159)).alloc (.cells #[.int .i64 (k : Int), .int .i64 (at_ : Int)] 165)).heap.size = w.heap.size + 1 + 1) := by show _ = _; simp
  have D2 := Lib.hid (((Below.refl w.heap.size w).alloc (Nat.le_refl _) (.cells #[.pointer (some ⟨s, 0, none⟩)] 159)).alloc (by simp) (.cells #[.int .i64 (k : Int), .int .i64 (at_ : Int)] 165))
  have B2 := Lib.hid ((Blk.new_ w w.heap.size 159 #[.pointer (some ⟨s, 0, none⟩)] rfl).alloc (.cells #[.int .i64 (k : Int), .int .i64 (at_ : Int)] 165))
  have B3 := Lib.hid (Blk.new_ (w.alloc (.cells #[.pointer (some ⟨s, 0, none⟩)] 159)) (w.heap.size + 1) 165 #[.int .i64 (k : Int), .int .i64 (at_ : Int)] (by simp))
  have HI2 := Lib.hid (HI.out.go D2.out)
  have q0 := B2.out.cell 0
  have q1 := B3.out.cell 0
  have q2 := B3.out.cell 1
  have s0 := HI2.out.st.cell 0
  have s1 := HI2.out.rel.cell 0
  have s2 := (D2.out.cell (p := ⟨b0, o0 + k * 2 + 1, none⟩) (by show b0 < w.heap.size; omega)).trans p1
  have t0 := (D2.out.cell (p := ⟨b1, o1 + at_ * 3, none⟩) (by show b1 < w.heap.size; omega)).trans r0
  have t1 := (D2.out.cell (p := ⟨b1, o1 + at_ * 3 + 1, none⟩) (by show b1 < w.heap.size; omega)).trans r1
  have t2 := (D2.out.cell (p := ⟨b1, o1 + at_ * 3 + 2, none⟩) (by show b1 < w.heap.size; omega)).trans r2
  have HSF : Hid (∀ w', Below ((w.alloc (.cells #[.pointer (some ⟨s, 0, none⟩)] 159)).alloc (.cells #[.int .i64 (k : Int), .int .i64 (at_ : Int)] 165)).heap.size ((w.alloc (.cells #[.pointer (some ⟨s, 0, none⟩)] 159)).alloc (.cells #[.int .i64 (k : Int), .int .i64 (at_ : Int)] 165)) w' → (w'.cell? ⟨w.heap.size, 0, none⟩ = some (.pointer (some ⟨s, 0, none⟩)) ∧ w'.cell? ⟨w.heap.size + 1, 0, none⟩ = some (.int .i64 (k : Int)) ∧ w'.cell? ⟨w.heap.size + 1, 1, none⟩ = some (.int .i64 (at_ : Int)) ∧ w'.cell? ⟨s, 0, none⟩ = some (.pointer (some ⟨r, 0, none⟩)) ∧ w'.cell? ⟨r, 0, none⟩ = some (.slice (some ⟨b0, o0, none⟩) n c) ∧ w'.cell? ⟨b0, o0 + k * 2 + 1, none⟩ = some (.slice (some ⟨b1, o1, none⟩) o.n o.c)
      ∧ w'.cell? ⟨b1, o1 + at_ * 3, none⟩ = some (.int .i64 2) ∧ w'.cell? ⟨b1, o1 + at_ * 3 + 1, none⟩ = some (.string nm) ∧ w'.cell? ⟨b1, o1 + at_ * 3 + 2, none⟩ = some (.int .i64 v))) :=
    fun w' hb => ⟨(hb.cell (cell_lt q0)).trans q0, (hb.cell (cell_lt q1)).trans q1, (hb.cell (cell_lt q2)).trans q2, (hb.cell (cell_lt s0)).trans s0, (hb.cell (cell_lt s1)).trans s1, (hb.cell (cell_lt s2)).trans s2, (hb.cell (cell_lt t0)).trans t0, (hb.cell (cell_lt t1)).trans t1, (hb.cell (cell_lt t2)).trans t2⟩
  have S1 : Hid (∀ w', Below ((w.alloc (.cells #[.pointer (some ⟨s, 0, none⟩)] 159)).alloc (.cells #[.int .i64 (k : Int), .int .i64 (at_ : Int)] 165)).heap.size ((w.alloc (.cells #[.pointer (some ⟨s, 0, none⟩)] 159)).alloc (.cells #[.int .i64 (k : Int), .int .i64 (at_ : Int)] 165)) w' → (w'.cell? ⟨w.heap.size + 1, 0, none⟩ = some (.int .i64 (k : Int)) ∧ w'.cell? ⟨w.heap.size, 0, none⟩ = some (.pointer (some ⟨s, 0, none⟩)) ∧ w'.cell? ⟨s, 0, none⟩ = some (.pointer (some ⟨r, 0, none⟩)) ∧ w'.cell? ⟨r, 0, none⟩ = some (.slice (some ⟨b0, o0, none⟩) n c) ∧ w'.cell? ⟨b0, o0 + k * 2 + 1, none⟩ = some (.slice (some ⟨b1, o1, none⟩) o.n o.c))) := fun w' hb => by
    obtain ⟨q0, q1, q2, s0, s1, s2, t0, t1, t2⟩ := HSF.out w' hb
    exact ⟨q1, q0, s0, s1, s2⟩
  clear q0 q1 q2 s0 s1 s2 t0 t1 t2
  clear p1 r0 r1 r2 hri h hk hx hA1 hTm
  go_enter Try.func77, Try.ntmps77
  go_wp2_with fail
  generalize ((w.alloc (.cells #[.pointer (some ⟨s, 0, none⟩)] 159)).alloc (.cells #[.int .i64 (k : Int), .int .i64 (at_ : Int)] 165)) = w2 at *
  go_region_held3 (fun w' => w'.cell? ⟨w.heap.size + 1, 0, none⟩ = some (.int .i64 (k : Int)) ∧ w'.cell? ⟨w.heap.size, 0, none⟩ = some (.pointer (some ⟨s, 0, none⟩)) ∧ w'.cell? ⟨s, 0, none⟩ = some (.pointer (some ⟨r, 0, none⟩)) ∧ w'.cell? ⟨r, 0, none⟩ = some (.slice (some ⟨b0, o0, none⟩) n c) ∧ w'.cell? ⟨b0, o0 + k * 2 + 1, none⟩ = some (.slice (some ⟨b1, o1, none⟩) o.n o.c))
    (exact S1.out _ (by first | exact Below.refl _ _ | exact (Below.refl _ _).drew | exact (Below.refl _ _).alloc (Nat.le_refl _) _ | exact ((Below.refl _ _).alloc (Nat.le_refl _) _).drew))
    (fail)
  have B4 := Lib.hid ((Blk.new_ w2 (w.heap.size + 1 + 1) 94 #[.slice (some ⟨b1, o1, none⟩) o.n o.c] HZ.out.symm).drew)
  have D3 := Lib.hid (((Below.refl w2.heap.size w2).alloc (Nat.le_refl _) (.cells #[.slice (some ⟨b1, o1, none⟩) o.n o.c] 94)).drew)
  have HZ3 : Hid (((w2.alloc (.cells #[.slice (some ⟨b1, o1, none⟩) o.n o.c] 94)).drew).heap.size = w.heap.size + 1 + 1 + 1) := by show _ = _; have := HZ.out; simp [this]
  rw [HZ.out]
  generalize ((w2.alloc (.cells #[.slice (some ⟨b1, o1, none⟩) o.n o.c] 94)).drew) = w3 at *
  obtain ⟨q0, q1, q2, s0, s1, s2, t0, t1, t2⟩ := HSF.out w3 D3.out
  have q3 := B4.out.cell 0
  have z0 : w.heap.size < w3.heap.size := by have := HZ3.out; omega
  have z1 : w.heap.size + 1 < w3.heap.size := by have := HZ3.out; omega
  have z2 : w.heap.size + 1 + 1 < w3.heap.size := by have := HZ3.out; omega
  have N5 := Lib.hid (Blk.new_ w3 w3.heap.size 93 #[.int .i64 2, .string nm, .int .i64 v] rfl |>.alloc (.cells #[.int .i64 (k : Int), .int .i64 ((at_ : Int) + 1)] 165))
  have P5 := Lib.hid (Blk.new_ (w3.alloc (.cells #[.int .i64 2, .string nm, .int .i64 v] 93)) (w3.heap.size + 1) 165 #[.int .i64 (k : Int), .int .i64 ((at_ : Int) + 1)] (by simp))
  have D4 := Lib.hid (((Below.refl w3.heap.size w3).alloc (Nat.le_refl _) (.cells #[.int .i64 2, .string nm, .int .i64 v] 93)).alloc (by simp) (.cells #[.int .i64 (k : Int), .int .i64 ((at_ : Int) + 1)] 165))
  have D5 : Hid (Below w.heap.size w ((w3.alloc (.cells #[.int .i64 2, .string nm, .int .i64 v] 93)).alloc (.cells #[.int .i64 (k : Int), .int .i64 ((at_ : Int) + 1)] 165))) := (D2.out.trans (D3.out.mono (by have := D2.out.size; omega))).trans (D4.out.mono (by omega))
  have H5 := Lib.hid (HI.out.go D5.out)
  have Q5 := Lib.hid ((B2.out.go D3.out).go D4.out)
  have R5 := Lib.hid ((B3.out.go D3.out).go D4.out)
  have T5 := Lib.hid (B4.out.go D4.out)
  clear HI2 D2 D3 B2 B3 B4 S1 HSF HZ w2
  go_wp2_with fail
  clear q0 q1 q2 s0 s1 s2 t0 t1 t2 q3 D4
  generalize ((w3.alloc (.cells #[.int .i64 2, .string nm, .int .i64 v] 93)).alloc (.cells #[.int .i64 (k : Int), .int .i64 ((at_ : Int) + 1)] 165)) = w5 at *
  have hb0 := Q5.out.lt
  have hb1' := R5.out.lt
  have hb2 := T5.out.lt
  have hb3 := N5.out.lt
  have hb4 := P5.out.lt
  have CC := Lib.hid (fun (w6 : World) (hb : Below w5.heap.size w5 w6) => input_any s nm _ _ _ _ w6 (H5.out.go hb).st)
  have x0 := Wd.cell (Q5.out.cell 0)
  have x1 := Wd.cell (N5.out.cell 1)
  have x2 := Wd.cell (N5.out.cell 2)
  refine wp_region_wd (by kernel_rfl) (by kernel_rfl) ?_
  repeat (go_big_quiet_step ((go_at_call 96; exact Calls.wd_same ((CC.out _ (Wd.ok _)).mono fun e w' h => ⟨h.1, h.2.symm⟩))))
  refine wpQuiet_nil ?_
  rintro _ ⟨w6, rfl⟩
  have HR : Hid (EvRest w B s r gv b (some ⟨b0, o0, none⟩) n c l O vs ms Af nf cf fs vL q nK κ k [] [] 1 vL nK w6.val) := EvRest.none_ (H5.out.go w6.ok) (D5.out.trans (w6.ok.mono D5.out.size))
  generalize w6.val = w7 at *
  clear H5 Q5 R5 T5 N5 P5 D5 x0 x1 x2 CC
  go_wp2_with fail
  go_ret
  exact ⟨rfl, _, _, HR.out⟩
end Go.Proofs.Ytpamgeemmbbkkaa
