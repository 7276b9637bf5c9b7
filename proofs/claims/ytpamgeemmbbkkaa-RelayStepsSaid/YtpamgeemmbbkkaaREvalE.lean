/- A relay's delays: relay's step.eval. Condition: the program reads. -/
import Derived.Test.YtpamgeemmbbkkaaREvalD
namespace Go.Proofs.Ytpamgeemmbbkkaa
open Go.RowKit
set_option maxRecDepth 100000
theorem step_append_run {P : Program} {ops : Array Oper} {o : Oper} {a : Act} {K : Act → World → Prop} {Q : Exit → Act → World → Prop} {E : Prop} {w w' : World} (hgd : o.guard = none) (s x : Operand) (t : TypeId)
    (hop : o.op = Op.call { callee := Callee.builtin Builtin.append, args := #[s, x], argTypes := #[t, t] }) (v y v' : Value) (hs : a.eval s = v) (hx : a.eval x = y)
    (hr : ∀ ty, (Builtin.append_ #[t, t] ty #[v, y]).run P w = .ok v' w') (h : K (a.put o.dst v') w') : if Region.wanted o (yielded ops a.tmps) = true then Oper.wp P o a w K Q else E := by
  have hw : Region.wanted o (yielded ops a.tmps) = true := by simp [Region.wanted, hgd]
  rw [if_pos hw]
  unfold Oper.wp
  simp [execOp, hop, resolve, invoke, builtin, hs, hx, hr, Result.andThen]
  exact h
theorem PQ.shape {w : World} {base : Nat} {v : Value} {q : List (Nat × Nat)} (h : PQ w base v q) : ∃ A n c, v = .slice A n c := by
  rcases h with ⟨rfl, _⟩ | ⟨g, o, cap, cur, _, rfl, _⟩
  · exact ⟨_, _, _, rfl⟩
  · exact ⟨_, _, _, rfl⟩

set_option maxHeartbeats 3200000 in
theorem eval_delay_on {B s r gv b : Nat} {A : Option Addr} {n c : Nat} {l : List MRul} {O : Value} {vs : List Bool} {ms : Int} {Af : Option Addr} {nf cf : Nat} {fs : List ByteArray}
    (k at_ : Nat) (o : MRul) (nm : ByteArray) (v : Int) (hk : l[k]? = some o) (hx : o.ex[at_]? = some ⟨6, nm, v⟩) (hsm : o.n ≤ 1000) (a : Pl.RT) (hms : 0 ≤ ms ∧ ms ≤ 100000) :
    ∀ (w : World) (vL : Value) (q : List (Nat × Nat)) (nK : Nat) (κ : Nat → Nat → Pl.Mem), EvIn w B s r gv b A n c l O vs ms Af nf cf fs vL q nK κ → Pl.Times κ → nK + Pl.sz (.un at_ ⟨6, nm, v⟩ a) ≤ 1000000000 → q.length + Pl.sz (.un at_ ⟨6, nm, v⟩ a) ≤ 1000000 → (κ k at_).1 = true →
    Calls Try.prog 77 #[.pointer (some ⟨s, 0, none⟩), .agg #[.int .i64 (k : Int), .int .i64 (at_ : Int)]] w (EvSaid w B s r gv b A n c l O vs ms Af nf cf fs vL q nK κ k (.un at_ ⟨6, nm, v⟩ a)) := by
  intro w vL q nK κ h hTm hnK hqs hon
  have hown0 : ∀ g, w.heap.size ≤ g → ¬ evS s b vL g := fun g hg => by
    have h3 := h.st.lt
    have h4 := h.map.lt
    rintro (rfl | rfl | e)
    · omega
    · omega
    · obtain ⟨_, cur, hc⟩ := h.que.own e
      have := hc.lt
      omega
  have HOWN := Lib.hid hown0
  have HON := Lib.hid hon
  clear hown0 hon
  have hs := h.st.lt
  have hr := h.rel.lt
  have HI := Lib.hid h
  have HTm := Lib.hid hTm
  obtain ⟨hkn, b0, o0, rfl, hb0, p1, hri⟩ := rul_is h.rules hk
  have hlow := h.low.2.2
  obtain ⟨han, b1, o1, hA1, hb1, r0, r1, r2⟩ := rn_is hri.2.2.1 hx
  have hnsm := h.small.1
  have k0 : (0 : Int) ≤ (k : Int) := by omega
  have k1 : (k : Int) < (n : Int) := by omega
  have a0 : (0 : Int) ≤ (at_ : Int) := by omega
  have a1 : (at_ : Int) < (o.n : Int) := by omega
  rw [hA1] at p1
  have HA1 := Lib.hid hA1
  have HRI := Lib.hid hri
  have HZ : Hid (((w.alloc (.cells #[.pointer (some ⟨s, 0, none⟩)] 159)).alloc (.cells #[.int .i64 (k : Int), .int .i64 (at_ : Int)] 165)).heap.size = w.heap.size + 1 + 1) := by show _ = _; simp
  have D2 := Lib.hid (((Below.refl w.heap.size w).alloc (Nat.le_refl _) (.cells #[.pointer (some ⟨s, 0, none⟩)] 159)).alloc (by simp) (.cells #[.int .i64 (k : Int), .int .i64 (at_ : Int)] 165))
  have B2 := Lib.hid ((Blk.new_ w w.heap.size 159 #[.pointer (some ⟨s, 0, none⟩)] rfl).alloc (.cells #[.int .i64 (k : Int), .int .i64 (at_ : Int)] 165))
  have B3 := Lib.hid (Blk.new_ (w.alloc (.cells #[.pointer (some ⟨s, 0, none⟩)] 159)) (w.heap.size + 1) 165 #[.int .i64 (k : Int), .int .i64 (at_ : Int)] (by simp))
  have HI2 := Lib.hid (HI.out.go D2.out)
  have q0 := B2.out.cell 0
  have q1 := B3.out.cell 0
  have q2 := B3.out.cell 1
  have s0 := HI2.out.st.cell 0
  have s1 := HI2.out.rel.cell 0
  have s2 := (D2.out.cell (p := ⟨b0, o0 + k * 2 + 1, none⟩) (by show b0 < w.heap.size; omega)).trans p1
  have t0 := (D2.out.cell (p := ⟨b1, o1 + at_ * 3, none⟩) (by show b1 < w.heap.size; omega)).trans r0
  have t1 := (D2.out.cell (p := ⟨b1, o1 + at_ * 3 + 1, none⟩) (by show b1 < w.heap.size; omega)).trans r1
  have t2 := (D2.out.cell (p := ⟨b1, o1 + at_ * 3 + 2, none⟩) (by show b1 < w.heap.size; omega)).trans r2
  have HSF : Hid (∀ w', Below ((w.alloc (.cells #[.pointer (some ⟨s, 0, none⟩)] 159)).alloc (.cells #[.int .i64 (k : Int), .int .i64 (at_ : Int)] 165)).heap.size ((w.alloc (.cells #[.pointer (some ⟨s, 0, none⟩)] 159)).alloc (.cells #[.int .i64 (k : Int), .int .i64 (at_ : Int)] 165)) w' → (w'.cell? ⟨w.heap.size, 0, none⟩ = some (.pointer (some ⟨s, 0, none⟩)) ∧ w'.cell? ⟨w.heap.size + 1, 0, none⟩ = some (.int .i64 (k : Int)) ∧ w'.cell? ⟨w.heap.size + 1, 1, none⟩ = some (.int .i64 (at_ : Int)) ∧ w'.cell? ⟨s, 0, none⟩ = some (.pointer (some ⟨r, 0, none⟩)) ∧ w'.cell? ⟨r, 0, none⟩ = some (.slice (some ⟨b0, o0, none⟩) n c) ∧ w'.cell? ⟨b0, o0 + k * 2 + 1, none⟩ = some (.slice (some ⟨b1, o1, none⟩) o.n o.c)
      ∧ w'.cell? ⟨b1, o1 + at_ * 3, none⟩ = some (.int .i64 6) ∧ w'.cell? ⟨b1, o1 + at_ * 3 + 1, none⟩ = some (.string nm) ∧ w'.cell? ⟨b1, o1 + at_ * 3 + 2, none⟩ = some (.int .i64 v))) :=
    fun w' hb => ⟨(hb.cell (cell_lt q0)).trans q0, (hb.cell (cell_lt q1)).trans q1, (hb.cell (cell_lt q2)).trans q2, (hb.cell (cell_lt s0)).trans s0, (hb.cell (cell_lt s1)).trans s1, (hb.cell (cell_lt s2)).trans s2, (hb.cell (cell_lt t0)).trans t0, (hb.cell (cell_lt t1)).trans t1, (hb.cell (cell_lt t2)).trans t2⟩
  have S1 : Hid (∀ w', Below ((w.alloc (.cells #[.pointer (some ⟨s, 0, none⟩)] 159)).alloc (.cells #[.int .i64 (k : Int), .int .i64 (at_ : Int)] 165)).heap.size ((w.alloc (.cells #[.pointer (some ⟨s, 0, none⟩)] 159)).alloc (.cells #[.int .i64 (k : Int), .int .i64 (at_ : Int)] 165)) w' → (w'.cell? ⟨w.heap.size + 1, 0, none⟩ = some (.int .i64 (k : Int)) ∧ w'.cell? ⟨w.heap.size, 0, none⟩ = some (.pointer (some ⟨s, 0, none⟩)) ∧ w'.cell? ⟨s, 0, none⟩ = some (.pointer (some ⟨r, 0, none⟩)) ∧ w'.cell? ⟨r, 0, none⟩ = some (.slice (some ⟨b0, o0, none⟩) n c) ∧ w'.cell? ⟨b0, o0 + k * 2 + 1, none⟩ = some (.slice (some ⟨b1, o1, none⟩) o.n o.c))) := fun w' hb => by
    obtain ⟨q0, q1, q2, s0, s1, s2, t0, t1, t2⟩ := HSF.out w' hb
    exact ⟨q1, q0, s0, s1, s2⟩
  clear q0 q1 q2 s0 s1 s2 t0 t1 t2
  clear p1 r0 r1 r2 hri h hk hx hA1 hTm
  go_enter Try.func77, Try.ntmps77
  go_wp2_with fail
  generalize ((w.alloc (.cells #[.pointer (some ⟨s, 0, none⟩)] 159)).alloc (.cells #[.int .i64 (k : Int), .int .i64 (at_ : Int)] 165)) = w2 at *
  go_region_held3 (fun w' => w'.cell? ⟨w.heap.size + 1, 0, none⟩ = some (.int .i64 (k : Int)) ∧ w'.cell? ⟨w.heap.size, 0, none⟩ = some (.pointer (some ⟨s, 0, none⟩)) ∧ w'.cell? ⟨s, 0, none⟩ = some (.pointer (some ⟨r, 0, none⟩)) ∧ w'.cell? ⟨r, 0, none⟩ = some (.slice (some ⟨b0, o0, none⟩) n c) ∧ w'.cell? ⟨b0, o0 + k * 2 + 1, none⟩ = some (.slice (some ⟨b1, o1, none⟩) o.n o.c))
    (exact S1.out _ (by first | exact Below.refl _ _ | exact (Below.refl _ _).drew | exact (Below.refl _ _).alloc (Nat.le_refl _) _ | exact ((Below.refl _ _).alloc (Nat.le_refl _) _).drew))
    (fail)
  have B4 := Lib.hid ((Blk.new_ w2 (w.heap.size + 1 + 1) 94 #[.slice (some ⟨b1, o1, none⟩) o.n o.c] HZ.out.symm).drew)
  have D3 := Lib.hid (((Below.refl w2.heap.size w2).alloc (Nat.le_refl _) (.cells #[.slice (some ⟨b1, o1, none⟩) o.n o.c] 94)).drew)
  have HZ3 : Hid (((w2.alloc (.cells #[.slice (some ⟨b1, o1, none⟩) o.n o.c] 94)).drew).heap.size = w.heap.size + 1 + 1 + 1) := by show _ = _; have := HZ.out; simp [this]
  rw [HZ.out]
  generalize ((w2.alloc (.cells #[.slice (some ⟨b1, o1, none⟩) o.n o.c] 94)).drew) = w3 at *
  obtain ⟨q0, q1, q2, s0, s1, s2, t0, t1, t2⟩ := HSF.out w3 D3.out
  have q3 := B4.out.cell 0
  have z0 : w.heap.size < w3.heap.size := by have := HZ3.out; omega
  have z1 : w.heap.size + 1 < w3.heap.size := by have := HZ3.out; omega
  have z2 : w.heap.size + 1 + 1 < w3.heap.size := by have := HZ3.out; omega
  have N5 := Lib.hid (Blk.new_ w3 w3.heap.size 93 #[.int .i64 6, .string nm, .int .i64 v] rfl |>.alloc (.cells #[.int .i64 (k : Int), .int .i64 ((at_ : Int) + 1)] 165))
  have P5 := Lib.hid (Blk.new_ (w3.alloc (.cells #[.int .i64 6, .string nm, .int .i64 v] 93)) (w3.heap.size + 1) 165 #[.int .i64 (k : Int), .int .i64 ((at_ : Int) + 1)] (by simp))
  have D4 := Lib.hid (((Below.refl w3.heap.size w3).alloc (Nat.le_refl _) (.cells #[.int .i64 6, .string nm, .int .i64 v] 93)).alloc (by simp) (.cells #[.int .i64 (k : Int), .int .i64 ((at_ : Int) + 1)] 165))
  have D5 : Hid (Below w.heap.size w ((w3.alloc (.cells #[.int .i64 6, .string nm, .int .i64 v] 93)).alloc (.cells #[.int .i64 (k : Int), .int .i64 ((at_ : Int) + 1)] 165))) := (D2.out.trans (D3.out.mono (by have := D2.out.size; omega))).trans (D4.out.mono (by omega))
  have H5 := Lib.hid (HI.out.go D5.out)
  have Q5 := Lib.hid ((B2.out.go D3.out).go D4.out)
  have R5 := Lib.hid ((B3.out.go D3.out).go D4.out)
  have T5 := Lib.hid (B4.out.go D4.out)
  clear HI2 D2 D3 B2 B3 B4 S1 HSF HZ w2
  go_wp2_with fail
  clear q0 q1 q2 s0 s1 s2 t0 t1 t2 q3 D4
  generalize ((w3.alloc (.cells #[.int .i64 6, .string nm, .int .i64 v] 93)).alloc (.cells #[.int .i64 (k : Int), .int .i64 ((at_ : Int) + 1)] 165)) = w5 at *
  have hb0 := Q5.out.lt
  have hb1' := R5.out.lt
  have hb2 := T5.out.lt
  have hb3 := N5.out.lt
  have hb4 := P5.out.lt
  have hT0 := HTm.out k at_
  have hok1 : KM.Ok k := by unfold KM.Ok; omega
  have hok2 : KM.Ok at_ := by unfold KM.Ok; omega
  have HK1 := Lib.hid hok1
  have HK2 := Lib.hid hok2
  clear hok1 hok2
  have HS1 := Lib.hid (fun (W : World) (hb : Below w5.heap.size w5 W) => (show (fun w' : World => w'.cell? ⟨w.heap.size, 0, none⟩ = some (.pointer (some ⟨s, 0, none⟩)) ∧ w'.cell? ⟨w.heap.size + 1, 0, none⟩ = some (.int .i64 (k : Int)) ∧ w'.cell? ⟨w.heap.size + 1, 1, none⟩ = some (.int .i64 (at_ : Int)) ∧ w'.cell? ⟨s, 0, none⟩ = some (.pointer (some ⟨r, 0, none⟩)) ∧ w'.cell? ⟨r, 3, none⟩ = some (.map (some b))) W from ⟨(Q5.out.go hb).cell 0, (R5.out.go hb).cell 0, (R5.out.go hb).cell 1, (H5.out.go hb).st.cell 0, (H5.out.go hb).rel.cell 3⟩))
  have HLK := Lib.hid (fun (W : World) (hb : Below w5.heap.size w5 W) => kmap_look ((H5.out.go hb).map) HK1.out HK2.out)
  have HKE : Hid (κ k at_ = (true, (κ k at_).2)) := by show _ = _; rw [← HON.out]
  have HFN : Hid (∀ T : Int, T = (if true = true then min ((κ k at_).2 + ms) 1000000 else 0) → ∀ vL' nK' W, EvRest w B s r gv b (some ⟨b0, o0, none⟩) n c l O vs ms Af nf cf fs vL q nK κ k [(at_, (true, T))] [(k, at_)] 1 vL' nK' W →
      EvSaid w B s r gv b (some ⟨b0, o0, none⟩) n c l O vs ms Af nf cf fs vL q nK κ k (.un at_ ⟨6, nm, v⟩ a) (.returned (.bool (true && decide (v ≤ T)))) W) := fun T eT vL' nK' W h => by
    subst eT
    have h := h.more_ (m' := Pl.sz a + 1) (by omega)
    have e1 := HON.out
    refine ⟨?_, vL', nK', ?_⟩
    · simp [Pl.val, Pl.tim, e1]
    · simpa [Pl.upd, Pl.dls, Pl.sz, Pl.tim, e1] using h
  rw [HON.out] at HLK
  generalize htm : (κ k at_).2 = tm at *
  clear htm HKE
  have HR5 : Hid (EvRest w B s r gv b (some ⟨b0, o0, none⟩) n c l O vs ms Af nf cf fs vL q nK κ k [] [] 0 vL nK w5) := EvRest.none_ H5.out D5.out
  refine wp_region_mid (fun w' : World => w'.cell? ⟨w.heap.size, 0, none⟩ = some (.pointer (some ⟨s, 0, none⟩)) ∧ w'.cell? ⟨w.heap.size + 1, 0, none⟩ = some (.int .i64 (k : Int)) ∧ w'.cell? ⟨w.heap.size + 1, 1, none⟩ = some (.int .i64 (at_ : Int)) ∧ w'.cell? ⟨s, 0, none⟩ = some (.pointer (some ⟨r, 0, none⟩)) ∧ w'.cell? ⟨r, 3, none⟩ = some (.map (some b)) ∧ (Instr.lookup 151 (.map (some b)) (.agg #[.int .i64 (k : Int), .int .i64 (at_ : Int)]) false).run Try.prog w' = .ok (.agg #[.bool true, .int .i64 tm]) w') 10 (by kernel_rfl) ?_
  have hSw : (fun w' : World => w'.cell? ⟨w.heap.size, 0, none⟩ = some (.pointer (some ⟨s, 0, none⟩)) ∧ w'.cell? ⟨w.heap.size + 1, 0, none⟩ = some (.int .i64 (k : Int)) ∧ w'.cell? ⟨w.heap.size + 1, 1, none⟩ = some (.int .i64 (at_ : Int)) ∧ w'.cell? ⟨s, 0, none⟩ = some (.pointer (some ⟨r, 0, none⟩)) ∧ w'.cell? ⟨r, 3, none⟩ = some (.map (some b)) ∧ (Instr.lookup 151 (.map (some b)) (.agg #[.int .i64 (k : Int), .int .i64 (at_ : Int)]) false).run Try.prog w' = .ok (.agg #[.bool true, .int .i64 tm]) w') w5.drew := by
    obtain ⟨e0, e1, e2, e3, e4⟩ := HS1.out w5.drew (Below.refl _ _).drew
    exact ⟨e0, e1, e2, e3, e4, HLK.out w5.drew (Below.refl _ _).drew⟩
  have hS2 : (fun w' : World => w'.cell? ⟨w.heap.size, 0, none⟩ = some (.pointer (some ⟨s, 0, none⟩)) ∧ w'.cell? ⟨w.heap.size + 1, 0, none⟩ = some (.int .i64 (k : Int)) ∧ w'.cell? ⟨w.heap.size + 1, 1, none⟩ = some (.int .i64 (at_ : Int)) ∧ w'.cell? ⟨s, 0, none⟩ = some (.pointer (some ⟨r, 0, none⟩)) ∧ w'.cell? ⟨r, 3, none⟩ = some (.map (some b)) ∧ (Instr.lookup 151 (.map (some b)) (.agg #[.int .i64 (k : Int), .int .i64 (at_ : Int)]) false).run Try.prog w' = .ok (.agg #[.bool true, .int .i64 tm]) w') (w5.drew.alloc (.cells #[.bool false, .int .i64 0] 167)) := by
    have d := (Below.refl w5.heap.size w5).drew.alloc (Nat.le_refl _) (.cells #[.bool false, .int .i64 0] 167)
    obtain ⟨e0, e1, e2, e3, e4⟩ := HS1.out _ d
    exact ⟨e0, e1, e2, e3, e4, HLK.out _ d⟩
  refine wpAnyM_take 0 rfl (by kernel_rfl) (by kernel_rfl) (by kernel_rfl) (by kernel_rfl) (by kernel_rfl) (fun _ _ _ h => h) hSw (by rfl) (fun w' hSx => by (try dsimp only at hSx); go_simp; first | done | with_reducible rfl) ?_
  simp only [Act.put, List.setIfInBounds_toArray]
  refine wpAnyM_take 1 rfl (by kernel_rfl) (by kernel_rfl) (by kernel_rfl) (by kernel_rfl) (by kernel_rfl) (fun _ _ _ h => h) hSw (by rfl) (fun w' hSx => by (try dsimp only at hSx); go_simp; first | done | with_reducible rfl) ?_
  simp only [Act.put]
  refine wpAnyM_take 2 rfl (by kernel_rfl) (by kernel_rfl) (by kernel_rfl) (by kernel_rfl) (by kernel_rfl) (fun _ _ _ h => h) hSw (by rfl) (fun w' hSx => by (try dsimp only at hSx); go_simp; first | done | with_reducible rfl) ?_
  simp only [Act.put]
  refine wpAnyM_take 3 rfl (by kernel_rfl) (by kernel_rfl) (by kernel_rfl) (by kernel_rfl) (by kernel_rfl) (fun _ _ _ h => h) hSw (by rfl) (fun w' hSx => by (try dsimp only at hSx); go_simp; first | done | with_reducible rfl) ?_
  simp only [Act.put]
  refine wpAnyM_take 4 rfl (by kernel_rfl) (by kernel_rfl) (by kernel_rfl) (by kernel_rfl) (by kernel_rfl) (fun _ _ _ h => h) hSw (by rfl) (fun w' hSx => by (try dsimp only at hSx); go_simp; first | done | with_reducible rfl) ?_
  simp only [Act.put]
  refine wpAnyM_take 5 rfl (by kernel_rfl) (by kernel_rfl) (by kernel_rfl) (by kernel_rfl) (by kernel_rfl) (fun _ _ _ h => h) hSw (by rfl) (fun w' hSx => by (try dsimp only at hSx); go_simp; first | done | with_reducible rfl) ?_
  simp only [Act.put]
  refine wpAnyM_take 6 rfl (by kernel_rfl) (by kernel_rfl) (by kernel_rfl) (by kernel_rfl) (by kernel_rfl) (fun _ _ _ h => h) hSw (by rfl) (fun w' hSx => by (try dsimp only at hSx); go_simp; first | done | with_reducible rfl) ?_
  simp only [Act.put]
  refine wpAnyM_take 7 rfl (by kernel_rfl) (by kernel_rfl) (by kernel_rfl) (by kernel_rfl) (by kernel_rfl) (fun _ _ _ h => h) hSw (by rfl) (fun w' hSx => by (try dsimp only at hSx); go_simp; first | done | with_reducible rfl) ?_
  simp only [Act.put]
  refine wpAnyM_take 8 rfl (by kernel_rfl) (by kernel_rfl) (by kernel_rfl) (by kernel_rfl) (by kernel_rfl) (fun _ _ _ h => h) hSw (by rfl) (fun w' hSx => by (try dsimp only at hSx); go_simp; first | done | with_reducible rfl) ?_
  simp only [Act.put]
  refine wpAnyM_ready [9] (by kernel_rfl) (by simp) ?_
  refine AllReadyM.cons (by rfl) (fun K hK => ?_) AllReadyM.nil
  go_simp
  refine hK.out _ _ hS2 ?_
  clear hK K
  refine wpAnyM_ready [10] (by kernel_rfl) (by simp) ?_
  refine AllReadyM.last (by rfl) (by omega) (fun K hK => ?_)
  go_simp
  refine hK.out _ _ ?_
  clear hK K hSw hS2
  refine wpAnyM_done (by kernel_rfl) ?_ _
  have X8 := Lib.hid ((Blk.new_ w5 w5.heap.size 167 #[.bool true, .int .i64 tm] rfl).drew)
  have D8 := Lib.hid (((Below.refl w5.heap.size w5).alloc (Nat.le_refl _) (.cells #[.bool true, .int .i64 tm] 167)).drew)
  generalize ((w5.alloc (.cells #[.bool true, .int .i64 tm] 167)).drew) = w8 at *
  have HR8 := Lib.hid (HR5.out.to_ D8.out)
  have Q8 := Lib.hid (Q5.out.go D8.out)
  have R8 := Lib.hid (R5.out.go D8.out)
  have N8 := Lib.hid (N5.out.go D8.out)
  clear HR5 Q5 R5 N5 T5 P5 H5 HS1 HLK
  have x8 := X8.out.cell 0
  have x81 := X8.out.cell 1
  have x8g := X8.out.frozen 1
  have hg8 := X8.out.lt
  go_wp2_with fail
  have y0 := X8.out.cell 1
  have y1 := Q8.out.cell 0
  have y2 := HR8.out.1.st.cell 1
  have yw : IntKind.i64.wrap (tm + ms) = tm + ms := IntWalk.i64_in _ (by omega)
  have ymin := ite_min
  have hSw : (fun w' : World => w'.cell? ⟨w5.heap.size, 1, none⟩ = some (.int .i64 tm) ∧ w'.cell? ⟨w.heap.size, 0, none⟩ = some (.pointer (some ⟨s, 0, none⟩)) ∧ w'.cell? ⟨s, 1, none⟩ = some (.int .i64 ms)) w8.drew := ⟨y0, y1, y2⟩
  clear x8 x81 x8g y0 y1 y2
  refine wp_region_mid (fun w' : World => w'.cell? ⟨w5.heap.size, 1, none⟩ = some (.int .i64 tm) ∧ w'.cell? ⟨w.heap.size, 0, none⟩ = some (.pointer (some ⟨s, 0, none⟩)) ∧ w'.cell? ⟨s, 1, none⟩ = some (.int .i64 ms)) 9 (by kernel_rfl) ?_
  refine wpAnyM_take 0 rfl (by kernel_rfl) (by kernel_rfl) (by kernel_rfl) (by kernel_rfl) (by kernel_rfl) (fun _ _ _ h => h) hSw (by rfl) (fun w' hSx => by (try dsimp only at hSx); go_simp; first | done | with_reducible rfl) ?_
  simp only [Act.put, List.setIfInBounds_toArray]
  refine wpAnyM_take 1 rfl (by kernel_rfl) (by kernel_rfl) (by kernel_rfl) (by kernel_rfl) (by kernel_rfl) (fun _ _ _ h => h) hSw (by rfl) (fun w' hSx => by (try dsimp only at hSx); go_simp; first | done | with_reducible rfl) ?_
  simp only [Act.put]
  refine wpAnyM_take 2 rfl (by kernel_rfl) (by kernel_rfl) (by kernel_rfl) (by kernel_rfl) (by kernel_rfl) (fun _ _ _ h => h) hSw (by rfl) (fun w' hSx => by (try dsimp only at hSx); go_simp; first | done | with_reducible rfl) ?_
  simp only [Act.put]
  refine wpAnyM_take 3 rfl (by kernel_rfl) (by kernel_rfl) (by kernel_rfl) (by kernel_rfl) (by kernel_rfl) (fun _ _ _ h => h) hSw (by rfl) (fun w' hSx => by (try dsimp only at hSx); go_simp; first | done | with_reducible rfl) ?_
  simp only [Act.put]
  refine wpAnyM_take 4 rfl (by kernel_rfl) (by kernel_rfl) (by kernel_rfl) (by kernel_rfl) (by kernel_rfl) (fun _ _ _ h => h) hSw (by rfl) (fun w' hSx => by (try dsimp only at hSx); go_simp; first | done | with_reducible rfl) ?_
  simp only [Act.put]
  refine wpAnyM_take 5 rfl (by kernel_rfl) (by kernel_rfl) (by kernel_rfl) (by kernel_rfl) (by kernel_rfl) (fun _ _ _ h => h) hSw (by rfl) (fun w' hSx => by (try dsimp only at hSx); go_simp; first | done | with_reducible rfl) ?_
  simp only [Act.put]
  refine wpAnyM_take 6 rfl (by kernel_rfl) (by kernel_rfl) (by kernel_rfl) (by kernel_rfl) (by kernel_rfl) (fun _ _ _ h => h) hSw (by rfl) (fun w' hSx => by (try dsimp only at hSx); go_simp; first | done | with_reducible rfl) ?_
  simp only [Act.put]
  refine wpAnyM_take 7 rfl (by kernel_rfl) (by kernel_rfl) (by kernel_rfl) (by kernel_rfl) (by kernel_rfl) (fun _ _ _ h => h) hSw (by rfl) (fun w' hSx => by (try dsimp only at hSx); go_simp; first | done | with_reducible rfl) ?_
  simp only [Act.put]
  refine wpAnyM_take 8 rfl (by kernel_rfl) (by kernel_rfl) (by kernel_rfl) (by kernel_rfl) (by kernel_rfl) (fun _ _ _ h => h) hSw (by rfl) (fun w' hSx => by (try dsimp only at hSx); go_simp; first | done | with_reducible rfl) ?_
  simp only [Act.put]
  have x8f := X8.out.frozen 1
  refine wpAnyM_ready [9] (by kernel_rfl) (by simp) ?_
  refine AllReadyM.last (by rfl) (by omega) (fun K hK => ?_)
  go_simp
  refine hK.out _ _ ?_
  clear hK K hSw x8f
  refine wpAnyM_done (by kernel_rfl) ?_ _
  have X9 := Lib.hid ((X8.out.set_ 1 (.int .i64 (min (tm + ms) 1000000))).drew)
  have D9 := Lib.hid (((D5.out.trans (D8.out.mono (by omega))).setCell (p := ⟨w5.heap.size, 1, none⟩) (by show w.heap.size ≤ w5.heap.size; omega) (.int .i64 (min (tm + ms) 1000000))).drew)
  have Q9 := Lib.hid ((Q8.out.far (p := ⟨w5.heap.size, 1, none⟩) (by show w.heap.size ≠ w5.heap.size; omega) (.int .i64 (min (tm + ms) 1000000))).drew)
  have R9 := Lib.hid ((R8.out.far (p := ⟨w5.heap.size, 1, none⟩) (by show w.heap.size + 1 ≠ w5.heap.size; omega) (.int .i64 (min (tm + ms) 1000000))).drew)
  have N9 := Lib.hid ((N8.out.far (p := ⟨w5.heap.size, 1, none⟩) (by show w3.heap.size ≠ w5.heap.size; omega) (.int .i64 (min (tm + ms) 1000000))).drew)
  have HFT := Lib.hid (HFN.out (min (tm + ms) 1000000) (by first | rfl | simp))
  generalize (w8.setCell ⟨w5.heap.size, 1, none⟩ (.int .i64 (min (tm + ms) 1000000))).drew = w9 at *
  generalize (min (tm + ms) 1000000) = T at *
  clear Q8 R8 N8 X8 HR8 D8 D5 hT0 HFN
  have HR9 : Hid (EvRest w B s r gv b (some ⟨b0, o0, none⟩) n c l O vs ms Af nf cf fs vL q nK κ k [] [] 0 vL nK w9) := EvRest.none_ (HI.out.go D9.out) D9.out
  have HX9 : Hid (Blk w9 w5.heap.size 167 #[.bool true, .int .i64 T]) := X9.out
  clear X9
  have y0 := Q9.out.cell 0
  have y1 := R9.out.cell 0
  have y2 := R9.out.cell 1
  have y3 := HR9.out.1.st.cell 0
  have y4 := HR9.out.1.rel.cell 3
  have y5 := HX9.out.cell 0
  have y6 := HX9.out.cell 1
  have hs9 := HR9.out.1.st.lt
  have hr9 := HR9.out.1.rel.lt
  have hb9 := HX9.out.lt
  have hnk : nK < maxLen := by unfold Pl.sz at hnK; unfold maxLen; omega
  obtain ⟨w10, hup, KM10, hg10⟩ := kmap_set (HR9.out.to_ (Below.refl _ _).drew).1.map HK1.out HK2.out hnk (true, T)
  have HR10 := Lib.hid ((HR9.out.to_ (Below.refl _ _).drew).put hg10 KM10)
  have hbb := HI.out.map.lt
  have Q10 := Lib.hid (Q9.out.drew.grown hg10 (by intro e; injection e with e; omega))
  have R10 := Lib.hid (R9.out.drew.grown hg10 (by intro e; injection e with e; omega))
  have N10 := Lib.hid (N9.out.drew.grown hg10 (by intro e; injection e with e; omega))
  have X10 := Lib.hid (HX9.out.drew.grown hg10 (by intro e; injection e with e; omega))
  clear KM10 hg10 hnk hbb
  go_wp2_with fail
  have hSw : (fun w' : World => w'.cell? ⟨w.heap.size, 0, none⟩ = some (.pointer (some ⟨s, 0, none⟩)) ∧ w'.cell? ⟨w.heap.size + 1, 0, none⟩ = some (.int .i64 (k : Int)) ∧ w'.cell? ⟨w.heap.size + 1, 1, none⟩ = some (.int .i64 (at_ : Int)) ∧ w'.cell? ⟨s, 0, none⟩ = some (.pointer (some ⟨r, 0, none⟩)) ∧ w'.cell? ⟨r, 3, none⟩ = some (.map (some b)) ∧ w'.cell? ⟨w5.heap.size, 0, none⟩ = some (.bool true) ∧ w'.cell? ⟨w5.heap.size, 1, none⟩ = some (.int .i64 T)) w9.drew := ⟨y0, y1, y2, y3, y4, y5, y6⟩
  refine wp_region_mid (fun w' : World => w'.cell? ⟨w.heap.size, 0, none⟩ = some (.pointer (some ⟨s, 0, none⟩)) ∧ w'.cell? ⟨w.heap.size + 1, 0, none⟩ = some (.int .i64 (k : Int)) ∧ w'.cell? ⟨w.heap.size + 1, 1, none⟩ = some (.int .i64 (at_ : Int)) ∧ w'.cell? ⟨s, 0, none⟩ = some (.pointer (some ⟨r, 0, none⟩)) ∧ w'.cell? ⟨r, 3, none⟩ = some (.map (some b)) ∧ w'.cell? ⟨w5.heap.size, 0, none⟩ = some (.bool true) ∧ w'.cell? ⟨w5.heap.size, 1, none⟩ = some (.int .i64 T)) 9 (by kernel_rfl) ?_
  refine wpAnyM_take 0 rfl (by kernel_rfl) (by kernel_rfl) (by kernel_rfl) (by kernel_rfl) (by kernel_rfl) (fun _ _ _ h => h) hSw (by rfl) (fun w' hSx => by (try dsimp only at hSx); go_simp; first | done | with_reducible rfl) ?_
  simp only [Act.put, List.setIfInBounds_toArray]
  refine wpAnyM_take 1 rfl (by kernel_rfl) (by kernel_rfl) (by kernel_rfl) (by kernel_rfl) (by kernel_rfl) (fun _ _ _ h => h) hSw (by rfl) (fun w' hSx => by (try dsimp only at hSx); go_simp; first | done | with_reducible rfl) ?_
  simp only [Act.put]
  refine wpAnyM_take 2 rfl (by kernel_rfl) (by kernel_rfl) (by kernel_rfl) (by kernel_rfl) (by kernel_rfl) (fun _ _ _ h => h) hSw (by rfl) (fun w' hSx => by (try dsimp only at hSx); go_simp; first | done | with_reducible rfl) ?_
  simp only [Act.put]
  refine wpAnyM_take 3 rfl (by kernel_rfl) (by kernel_rfl) (by kernel_rfl) (by kernel_rfl) (by kernel_rfl) (fun _ _ _ h => h) hSw (by rfl) (fun w' hSx => by (try dsimp only at hSx); go_simp; first | done | with_reducible rfl) ?_
  simp only [Act.put]
  refine wpAnyM_take 4 rfl (by kernel_rfl) (by kernel_rfl) (by kernel_rfl) (by kernel_rfl) (by kernel_rfl) (fun _ _ _ h => h) hSw (by rfl) (fun w' hSx => by (try dsimp only at hSx); go_simp; first | done | with_reducible rfl) ?_
  simp only [Act.put]
  refine wpAnyM_take 5 rfl (by kernel_rfl) (by kernel_rfl) (by kernel_rfl) (by kernel_rfl) (by kernel_rfl) (fun _ _ _ h => h) hSw (by rfl) (fun w' hSx => by (try dsimp only at hSx); go_simp; first | done | with_reducible rfl) ?_
  simp only [Act.put]
  refine wpAnyM_take 6 rfl (by kernel_rfl) (by kernel_rfl) (by kernel_rfl) (by kernel_rfl) (by kernel_rfl) (fun _ _ _ h => h) hSw (by rfl) (fun w' hSx => by (try dsimp only at hSx); go_simp; first | done | with_reducible rfl) ?_
  simp only [Act.put]
  refine wpAnyM_take 7 rfl (by kernel_rfl) (by kernel_rfl) (by kernel_rfl) (by kernel_rfl) (by kernel_rfl) (fun _ _ _ h => h) hSw (by rfl) (fun w' hSx => by (try dsimp only at hSx); go_simp; first | done | with_reducible rfl) ?_
  simp only [Act.put]
  refine wpAnyM_take 8 rfl (by kernel_rfl) (by kernel_rfl) (by kernel_rfl) (by kernel_rfl) (by kernel_rfl) (fun _ _ _ h => h) hSw (by rfl) (fun w' hSx => by (try dsimp only at hSx); go_simp; first | done | with_reducible rfl) ?_
  simp only [Act.put]
  refine wpAnyM_ready [9] (by kernel_rfl) (by simp) ?_
  refine AllReadyM.last (by rfl) (by omega) (fun K hK => ?_)
  go_simp
  refine hK.out _ _ ?_
  clear hK K hSw hup y0 y1 y2 y3 y4 y5 y6
  refine wpAnyM_done (by kernel_rfl) ?_ _
  have hs10 := HR10.out.1.st.lt
  have D11 := Lib.hid (((Below.refl w10.heap.size w10).alloc (Nat.le_refl _) (.cells #[.int .i64 (k : Int), .int .i64 (at_ : Int)] 165)).drew)
  have B11 := Lib.hid ((Blk.new_ w10 w10.heap.size 165 #[.int .i64 (k : Int), .int .i64 (at_ : Int)] rfl).drew)
  have HR11 := Lib.hid (HR10.out.to_ D11.out)
  have Q11 := Lib.hid (Q10.out.go D11.out)
  have R11 := Lib.hid (R10.out.go D11.out)
  have N11 := Lib.hid (N10.out.go D11.out)
  have X11 := Lib.hid (X10.out.go D11.out)
  have HZ11 : Hid (w10.heap.size < ((w10.alloc (.cells #[.int .i64 (k : Int), .int .i64 (at_ : Int)] 165)).drew).heap.size) := by show _ < _; simp
  go_wp2_with fail
  have hSw : (fun w' : World => w'.cell? ⟨w.heap.size, 0, none⟩ = some (.pointer (some ⟨s, 0, none⟩)) ∧ w'.cell? ⟨w.heap.size + 1, 0, none⟩ = some (.int .i64 (k : Int)) ∧ w'.cell? ⟨w.heap.size + 1, 1, none⟩ = some (.int .i64 (at_ : Int)) ∧ w'.cell? ⟨s, 4, none⟩ = some (vL)) w10.drew := ⟨Q10.out.cell 0, R10.out.cell 0, R10.out.cell 1, HR10.out.1.st.cell 4⟩
  refine wp_region_mid (fun w' : World => w'.cell? ⟨w.heap.size, 0, none⟩ = some (.pointer (some ⟨s, 0, none⟩)) ∧ w'.cell? ⟨w.heap.size + 1, 0, none⟩ = some (.int .i64 (k : Int)) ∧ w'.cell? ⟨w.heap.size + 1, 1, none⟩ = some (.int .i64 (at_ : Int)) ∧ w'.cell? ⟨s, 4, none⟩ = some (vL)) 8 (by kernel_rfl) ?_
  refine wpAnyM_take 0 rfl (by kernel_rfl) (by kernel_rfl) (by kernel_rfl) (by kernel_rfl) (by kernel_rfl) (fun _ _ _ h => h) hSw (by rfl) (fun w' hSx => by (try dsimp only at hSx); go_simp; first | done | with_reducible rfl) ?_
  simp only [Act.put, List.setIfInBounds_toArray]
  refine wpAnyM_take 1 rfl (by kernel_rfl) (by kernel_rfl) (by kernel_rfl) (by kernel_rfl) (by kernel_rfl) (fun _ _ _ h => h) hSw (by rfl) (fun w' hSx => by (try dsimp only at hSx); go_simp; first | done | with_reducible rfl) ?_
  simp only [Act.put]
  refine wpAnyM_take 2 rfl (by kernel_rfl) (by kernel_rfl) (by kernel_rfl) (by kernel_rfl) (by kernel_rfl) (fun _ _ _ h => h) hSw (by rfl) (fun w' hSx => by (try dsimp only at hSx); go_simp; first | done | with_reducible rfl) ?_
  simp only [Act.put]
  refine wpAnyM_take 3 rfl (by kernel_rfl) (by kernel_rfl) (by kernel_rfl) (by kernel_rfl) (by kernel_rfl) (fun _ _ _ h => h) hSw (by rfl) (fun w' hSx => by (try dsimp only at hSx); go_simp; first | done | with_reducible rfl) ?_
  simp only [Act.put]
  refine wpAnyM_take 4 rfl (by kernel_rfl) (by kernel_rfl) (by kernel_rfl) (by kernel_rfl) (by kernel_rfl) (fun _ _ _ h => h) hSw (by rfl) (fun w' hSx => by (try dsimp only at hSx); go_simp; first | done | with_reducible rfl) ?_
  simp only [Act.put]
  refine wpAnyM_take 5 rfl (by kernel_rfl) (by kernel_rfl) (by kernel_rfl) (by kernel_rfl) (by kernel_rfl) (fun _ _ _ h => h) hSw (by rfl) (fun w' hSx => by (try dsimp only at hSx); go_simp; first | done | with_reducible rfl) ?_
  simp only [Act.put]
  refine wpAnyM_ready [6] (by kernel_rfl) (by simp) ?_
  refine AllReadyM.cons (by rfl) (fun K hK => ?_) AllReadyM.nil
  go_simp
  generalize (w10.alloc (.cells #[.int .i64 (k : Int), .int .i64 (at_ : Int)] 165)).drew = w11 at *
  refine hK.out _ _ ⟨Q11.out.cell 0, R11.out.cell 0, R11.out.cell 1, HR11.out.1.st.cell 4⟩ ?_
  clear hK K hSw
  have hlow11 := HR11.out.1.low.2.2
  have HTY1 := Lib.hid HR11.out.1.que
  have hs11 := HR11.out.1.st.lt
  have HN1 : Hid (∀ g cs t, Blk w11 g t cs → t ≠ 165 → some g ≠ vL.ownBlock) := fun g cs t hg ht e => by
    obtain ⟨_, cur, hc⟩ := HTY1.out.own e.symm
    exact hg.ne_ hc ht rfl
  have HN2 : Hid (some (w.heap.size + 1) ≠ vL.ownBlock) := fun e => HOWN.out (w.heap.size + 1) (by omega) (.inr (.inr e.symm))
  obtain ⟨v', w12, hap, PQ12, hg12, hv12⟩ := HTY1.out.push (k, at_) w10.heap.size (B11.out.cell 0) (B11.out.cell 1) (by unfold Pl.sz at hqs; simp; omega) hlow11
  obtain ⟨Av, nv, cv, rfl⟩ := PQ12.shape
  have Q12 := Lib.hid (Q11.out.grown hg12 (HN1.out _ _ _ Q11.out (by decide)))
  have R12 := Lib.hid (R11.out.grown hg12 HN2.out)
  have N12 := Lib.hid (N11.out.grown hg12 (HN1.out _ _ _ N11.out (by decide)))
  have X12 := Lib.hid (X11.out.grown hg12 (HN1.out _ _ _ X11.out (by decide)))
  have S12 := Lib.hid (HR11.out.1.st.grown hg12 (HN1.out _ _ _ HR11.out.1.st (by decide)))
  have HR13 := Lib.hid (HR11.out.push hg12 PQ12 hv12)
  have hsz12 := hg12.size
  clear PQ12 hg12 hv12 HTY1 HN1 HN2 HR11
  refine wpAnyM_ready [7] (by kernel_rfl) (by simp) ?_
  refine AllReadyM.cons (by rfl) (fun K hK => ?_) AllReadyM.nil
  refine step_append_run (by rfl) _ _ _ (by rfl) _ _ _ (by rfl) (by rfl) hap ?_
  simp only [Act.put]
  refine hK.out _ _ ⟨Q12.out.cell 0, R12.out.cell 0, R12.out.cell 1, S12.out.cell 4⟩ ?_
  clear hK K hap
  refine wpAnyM_ready [8] (by kernel_rfl) (by simp) ?_
  refine AllReadyM.last (by rfl) (by omega) (fun K hK => ?_)
  go_simp
  refine hK.out _ _ ?_
  clear hK K
  refine wpAnyM_ready [9] (by kernel_rfl) (by simp) ?_
  refine AllReadyM.last (by rfl) (by omega) (fun K hK => ?_)
  go_simp
  refine hK.out _ _ ?_
  clear hK K
  have s12 := S12.out.cell 4
  have s12f := S12.out.frozen 4
  refine wpAnyM_ready [10] (by kernel_rfl) (by simp) ?_
  refine AllReadyM.last (by rfl) (by omega) (fun K hK => ?_)
  go_simp
  refine hK.out _ _ ?_
  clear hK K s12 s12f
  refine wpAnyM_done (by kernel_rfl) ?_ _
  have N13 := Lib.hid (N12.out.far (p := ⟨s, 4, none⟩) (by show w3.heap.size ≠ s; omega) (.slice Av nv cv))
  have X13 := Lib.hid (X12.out.far (p := ⟨s, 4, none⟩) (by show w5.heap.size ≠ s; omega) (.slice Av nv cv))
  clear Q12 R12 N12 X12 S12 Q11 R11 N11 X11 D11 B11 HZ11 Q10 R10 N10 X10 HR10 HR9 HX9 Q9 R9 N9
  generalize w12.setCell ⟨s, 4, none⟩ (.slice Av nv cv) = w13 at *
  have v0 := X13.out.cell 0
  have v1 := X13.out.cell 1
  have v2 := N13.out.cell 2
  have hz13 := X13.out.lt
  have hz14 := N13.out.lt
  have HE14 := Lib.hid (HFT.out _ _ _ HR13.out)
  go_wp2_with fail
  go_ret
  exact HE14.out

set_option maxHeartbeats 3200000 in
theorem eval_delay_off {B s r gv b : Nat} {A : Option Addr} {n c : Nat} {l : List MRul} {O : Value} {vs : List Bool} {ms : Int} {Af : Option Addr} {nf cf : Nat} {fs : List ByteArray}
    (k at_ : Nat) (o : MRul) (nm : ByteArray) (v : Int) (hk : l[k]? = some o) (hx : o.ex[at_]? = some ⟨6, nm, v⟩) (hsm : o.n ≤ 1000) (a : Pl.RT) (_hms : 0 ≤ ms ∧ ms ≤ 100000) :
    ∀ (w : World) (vL : Value) (q : List (Nat × Nat)) (nK : Nat) (κ : Nat → Nat → Pl.Mem), EvIn w B s r gv b A n c l O vs ms Af nf cf fs vL q nK κ → Pl.Times κ → nK + Pl.sz (.un at_ ⟨6, nm, v⟩ a) ≤ 1000000000 → q.length + Pl.sz (.un at_ ⟨6, nm, v⟩ a) ≤ 1000000 → (κ k at_).1 = false →
    Calls Try.prog 77 #[.pointer (some ⟨s, 0, none⟩), .agg #[.int .i64 (k : Int), .int .i64 (at_ : Int)]] w (EvSaid w B s r gv b A n c l O vs ms Af nf cf fs vL q nK κ k (.un at_ ⟨6, nm, v⟩ a)) := by
  intro w vL q nK κ h hTm hnK hqs hon
  have hown0 : ∀ g, w.heap.size ≤ g → ¬ evS s b vL g := fun g hg => by
    have h3 := h.st.lt
    have h4 := h.map.lt
    rintro (rfl | rfl | e)
    · omega
    · omega
    · obtain ⟨_, cur, hc⟩ := h.que.own e
      have := hc.lt
      omega
  have HOWN := Lib.hid hown0
  have HON := Lib.hid hon
  clear hown0 hon
  have hs := h.st.lt
  have hr := h.rel.lt
  have HI := Lib.hid h
  have HTm := Lib.hid hTm
  obtain ⟨hkn, b0, o0, rfl, hb0, p1, hri⟩ := rul_is h.rules hk
  have hlow := h.low.2.2
  obtain ⟨han, b1, o1, hA1, hb1, r0, r1, r2⟩ := rn_is hri.2.2.1 hx
  have hnsm := h.small.1
  have k0 : (0 : Int) ≤ (k : Int) := by omega
  have k1 : (k : Int) < (n : Int) := by omega
  have a0 : (0 : Int) ≤ (at_ : Int) := by omega
  have a1 : (at_ : Int) < (o.n : Int) := by omega
  rw [hA1] at p1
  have HA1 := Lib.hid hA1
  have HRI := Lib.hid hri
  have HZ : Hid (((w.alloc (.cells #[.pointer (some ⟨s, 0, none⟩)] 159)).alloc (.cells #[.int .i64 (k : Int), .int .i64 (at_ : Int)] 165)).heap.size = w.heap.size + 1 + 1) := by show _ = _; simp
  have D2 := Lib.hid (((Below.refl w.heap.size w).alloc (Nat.le_refl _) (.cells #[.pointer (some ⟨s, 0, none⟩)] 159)).alloc (by simp) (.cells #[.int .i64 (k : Int), .int .i64 (at_ : Int)] 165))
  have B2 := Lib.hid ((Blk.new_ w w.heap.size 159 #[.pointer (some ⟨s, 0, none⟩)] rfl).alloc (.cells #[.int .i64 (k : Int), .int .i64 (at_ : Int)] 165))
  have B3 := Lib.hid (Blk.new_ (w.alloc (.cells #[.pointer (some ⟨s, 0, none⟩)] 159)) (w.heap.size + 1) 165 #[.int .i64 (k : Int), .int .i64 (at_ : Int)] (by simp))
  have HI2 := Lib.hid (HI.out.go D2.out)
  have q0 := B2.out.cell 0
  have q1 := B3.out.cell 0
  have q2 := B3.out.cell 1
  have s0 := HI2.out.st.cell 0
  have s1 := HI2.out.rel.cell 0
  have s2 := (D2.out.cell (p := ⟨b0, o0 + k * 2 + 1, none⟩) (by show b0 < w.heap.size; omega)).trans p1
  have t0 := (D2.out.cell (p := ⟨b1, o1 + at_ * 3, none⟩) (by show b1 < w.heap.size; omega)).trans r0
  have t1 := (D2.out.cell (p := ⟨b1, o1 + at_ * 3 + 1, none⟩) (by show b1 < w.heap.size; omega)).trans r1
  have t2 := (D2.out.cell (p := ⟨b1, o1 + at_ * 3 + 2, none⟩) (by show b1 < w.heap.size; omega)).trans r2
  have HSF : Hid (∀ w', Below ((w.alloc (.cells #[.pointer (some ⟨s, 0, none⟩)] 159)).alloc (.cells #[.int .i64 (k : Int), .int .i64 (at_ : Int)] 165)).heap.size ((w.alloc (.cells #[.pointer (some ⟨s, 0, none⟩)] 159)).alloc (.cells #[.int .i64 (k : Int), .int .i64 (at_ : Int)] 165)) w' → (w'.cell? ⟨w.heap.size, 0, none⟩ = some (.pointer (some ⟨s, 0, none⟩)) ∧ w'.cell? ⟨w.heap.size + 1, 0, none⟩ = some (.int .i64 (k : Int)) ∧ w'.cell? ⟨w.heap.size + 1, 1, none⟩ = some (.int .i64 (at_ : Int)) ∧ w'.cell? ⟨s, 0, none⟩ = some (.pointer (some ⟨r, 0, none⟩)) ∧ w'.cell? ⟨r, 0, none⟩ = some (.slice (some ⟨b0, o0, none⟩) n c) ∧ w'.cell? ⟨b0, o0 + k * 2 + 1, none⟩ = some (.slice (some ⟨b1, o1, none⟩) o.n o.c)
      ∧ w'.cell? ⟨b1, o1 + at_ * 3, none⟩ = some (.int .i64 6) ∧ w'.cell? ⟨b1, o1 + at_ * 3 + 1, none⟩ = some (.string nm) ∧ w'.cell? ⟨b1, o1 + at_ * 3 + 2, none⟩ = some (.int .i64 v))) :=
    fun w' hb => ⟨(hb.cell (cell_lt q0)).trans q0, (hb.cell (cell_lt q1)).trans q1, (hb.cell (cell_lt q2)).trans q2, (hb.cell (cell_lt s0)).trans s0, (hb.cell (cell_lt s1)).trans s1, (hb.cell (cell_lt s2)).trans s2, (hb.cell (cell_lt t0)).trans t0, (hb.cell (cell_lt t1)).trans t1, (hb.cell (cell_lt t2)).trans t2⟩
  have S1 : Hid (∀ w', Below ((w.alloc (.cells #[.pointer (some ⟨s, 0, none⟩)] 159)).alloc (.cells #[.int .i64 (k : Int), .int .i64 (at_ : Int)] 165)).heap.size ((w.alloc (.cells #[.pointer (some ⟨s, 0, none⟩)] 159)).alloc (.cells #[.int .i64 (k : Int), .int .i64 (at_ : Int)] 165)) w' → (w'.cell? ⟨w.heap.size + 1, 0, none⟩ = some (.int .i64 (k : Int)) ∧ w'.cell? ⟨w.heap.size, 0, none⟩ = some (.pointer (some ⟨s, 0, none⟩)) ∧ w'.cell? ⟨s, 0, none⟩ = some (.pointer (some ⟨r, 0, none⟩)) ∧ w'.cell? ⟨r, 0, none⟩ = some (.slice (some ⟨b0, o0, none⟩) n c) ∧ w'.cell? ⟨b0, o0 + k * 2 + 1, none⟩ = some (.slice (some ⟨b1, o1, none⟩) o.n o.c))) := fun w' hb => by
    obtain ⟨q0, q1, q2, s0, s1, s2, t0, t1, t2⟩ := HSF.out w' hb
    exact ⟨q1, q0, s0, s1, s2⟩
  clear q0 q1 q2 s0 s1 s2 t0 t1 t2
  clear p1 r0 r1 r2 hri h hk hx hA1 hTm
  go_enter Try.func77, Try.ntmps77
  go_wp2_with fail
  generalize ((w.alloc (.cells #[.pointer (some ⟨s, 0, none⟩)] 159)).alloc (.cells #[.int .i64 (k : Int), .int .i64 (at_ : Int)] 165)) = w2 at *
  go_region_held3 (fun w' => w'.cell? ⟨w.heap.size + 1, 0, none⟩ = some (.int .i64 (k : Int)) ∧ w'.cell? ⟨w.heap.size, 0, none⟩ = some (.pointer (some ⟨s, 0, none⟩)) ∧ w'.cell? ⟨s, 0, none⟩ = some (.pointer (some ⟨r, 0, none⟩)) ∧ w'.cell? ⟨r, 0, none⟩ = some (.slice (some ⟨b0, o0, none⟩) n c) ∧ w'.cell? ⟨b0, o0 + k * 2 + 1, none⟩ = some (.slice (some ⟨b1, o1, none⟩) o.n o.c))
    (exact S1.out _ (by first | exact Below.refl _ _ | exact (Below.refl _ _).drew | exact (Below.refl _ _).alloc (Nat.le_refl _) _ | exact ((Below.refl _ _).alloc (Nat.le_refl _) _).drew))
    (fail)
  have B4 := Lib.hid ((Blk.new_ w2 (w.heap.size + 1 + 1) 94 #[.slice (some ⟨b1, o1, none⟩) o.n o.c] HZ.out.symm).drew)
  have D3 := Lib.hid (((Below.refl w2.heap.size w2).alloc (Nat.le_refl _) (.cells #[.slice (some ⟨b1, o1, none⟩) o.n o.c] 94)).drew)
  have HZ3 : Hid (((w2.alloc (.cells #[.slice (some ⟨b1, o1, none⟩) o.n o.c] 94)).drew).heap.size = w.heap.size + 1 + 1 + 1) := by show _ = _; have := HZ.out; simp [this]
  rw [HZ.out]
  generalize ((w2.alloc (.cells #[.slice (some ⟨b1, o1, none⟩) o.n o.c] 94)).drew) = w3 at *
  obtain ⟨q0, q1, q2, s0, s1, s2, t0, t1, t2⟩ := HSF.out w3 D3.out
  have q3 := B4.out.cell 0
  have z0 : w.heap.size < w3.heap.size := by have := HZ3.out; omega
  have z1 : w.heap.size + 1 < w3.heap.size := by have := HZ3.out; omega
  have z2 : w.heap.size + 1 + 1 < w3.heap.size := by have := HZ3.out; omega
  have N5 := Lib.hid (Blk.new_ w3 w3.heap.size 93 #[.int .i64 6, .string nm, .int .i64 v] rfl |>.alloc (.cells #[.int .i64 (k : Int), .int .i64 ((at_ : Int) + 1)] 165))
  have P5 := Lib.hid (Blk.new_ (w3.alloc (.cells #[.int .i64 6, .string nm, .int .i64 v] 93)) (w3.heap.size + 1) 165 #[.int .i64 (k : Int), .int .i64 ((at_ : Int) + 1)] (by simp))
  have D4 := Lib.hid (((Below.refl w3.heap.size w3).alloc (Nat.le_refl _) (.cells #[.int .i64 6, .string nm, .int .i64 v] 93)).alloc (by simp) (.cells #[.int .i64 (k : Int), .int .i64 ((at_ : Int) + 1)] 165))
  have D5 : Hid (Below w.heap.size w ((w3.alloc (.cells #[.int .i64 6, .string nm, .int .i64 v] 93)).alloc (.cells #[.int .i64 (k : Int), .int .i64 ((at_ : Int) + 1)] 165))) := (D2.out.trans (D3.out.mono (by have := D2.out.size; omega))).trans (D4.out.mono (by omega))
  have H5 := Lib.hid (HI.out.go D5.out)
  have Q5 := Lib.hid ((B2.out.go D3.out).go D4.out)
  have R5 := Lib.hid ((B3.out.go D3.out).go D4.out)
  have T5 := Lib.hid (B4.out.go D4.out)
  clear HI2 D2 D3 B2 B3 B4 S1 HSF HZ w2
  go_wp2_with fail
  clear q0 q1 q2 s0 s1 s2 t0 t1 t2 q3 D4
  generalize ((w3.alloc (.cells #[.int .i64 6, .string nm, .int .i64 v] 93)).alloc (.cells #[.int .i64 (k : Int), .int .i64 ((at_ : Int) + 1)] 165)) = w5 at *
  have hb0 := Q5.out.lt
  have hb1' := R5.out.lt
  have hb2 := T5.out.lt
  have hb3 := N5.out.lt
  have hb4 := P5.out.lt
  have hT0 := HTm.out k at_
  have hok1 : KM.Ok k := by unfold KM.Ok; omega
  have hok2 : KM.Ok at_ := by unfold KM.Ok; omega
  have HK1 := Lib.hid hok1
  have HK2 := Lib.hid hok2
  clear hok1 hok2
  have HS1 := Lib.hid (fun (W : World) (hb : Below w5.heap.size w5 W) => (show (fun w' : World => w'.cell? ⟨w.heap.size, 0, none⟩ = some (.pointer (some ⟨s, 0, none⟩)) ∧ w'.cell? ⟨w.heap.size + 1, 0, none⟩ = some (.int .i64 (k : Int)) ∧ w'.cell? ⟨w.heap.size + 1, 1, none⟩ = some (.int .i64 (at_ : Int)) ∧ w'.cell? ⟨s, 0, none⟩ = some (.pointer (some ⟨r, 0, none⟩)) ∧ w'.cell? ⟨r, 3, none⟩ = some (.map (some b))) W from ⟨(Q5.out.go hb).cell 0, (R5.out.go hb).cell 0, (R5.out.go hb).cell 1, (H5.out.go hb).st.cell 0, (H5.out.go hb).rel.cell 3⟩))
  have HLK := Lib.hid (fun (W : World) (hb : Below w5.heap.size w5 W) => kmap_look ((H5.out.go hb).map) HK1.out HK2.out)
  have HKE : Hid (κ k at_ = (false, (κ k at_).2)) := by show _ = _; rw [← HON.out]
  have HFN : Hid (∀ T : Int, T = (if false = true then min ((κ k at_).2 + ms) 1000000 else 0) → ∀ vL' nK' W, EvRest w B s r gv b (some ⟨b0, o0, none⟩) n c l O vs ms Af nf cf fs vL q nK κ k [(at_, (false, T))] [(k, at_)] 1 vL' nK' W →
      EvSaid w B s r gv b (some ⟨b0, o0, none⟩) n c l O vs ms Af nf cf fs vL q nK κ k (.un at_ ⟨6, nm, v⟩ a) (.returned (.bool (false && decide (v ≤ T)))) W) := fun T eT vL' nK' W h => by
    subst eT
    have h := h.more_ (m' := Pl.sz a + 1) (by omega)
    have e1 := HON.out
    refine ⟨?_, vL', nK', ?_⟩
    · simp [Pl.val, Pl.tim, e1]
    · simpa [Pl.upd, Pl.dls, Pl.sz, Pl.tim, e1] using h
  rw [HON.out] at HLK
  generalize htm : (κ k at_).2 = tm at *
  clear htm HKE
  have HR5 : Hid (EvRest w B s r gv b (some ⟨b0, o0, none⟩) n c l O vs ms Af nf cf fs vL q nK κ k [] [] 0 vL nK w5) := EvRest.none_ H5.out D5.out
  refine wp_region_mid (fun w' : World => w'.cell? ⟨w.heap.size, 0, none⟩ = some (.pointer (some ⟨s, 0, none⟩)) ∧ w'.cell? ⟨w.heap.size + 1, 0, none⟩ = some (.int .i64 (k : Int)) ∧ w'.cell? ⟨w.heap.size + 1, 1, none⟩ = some (.int .i64 (at_ : Int)) ∧ w'.cell? ⟨s, 0, none⟩ = some (.pointer (some ⟨r, 0, none⟩)) ∧ w'.cell? ⟨r, 3, none⟩ = some (.map (some b)) ∧ (Instr.lookup 151 (.map (some b)) (.agg #[.int .i64 (k : Int), .int .i64 (at_ : Int)]) false).run Try.prog w' = .ok (.agg #[.bool false, .int .i64 tm]) w') 10 (by kernel_rfl) ?_
  have hSw : (fun w' : World => w'.cell? ⟨w.heap.size, 0, none⟩ = some (.pointer (some ⟨s, 0, none⟩)) ∧ w'.cell? ⟨w.heap.size + 1, 0, none⟩ = some (.int .i64 (k : Int)) ∧ w'.cell? ⟨w.heap.size + 1, 1, none⟩ = some (.int .i64 (at_ : Int)) ∧ w'.cell? ⟨s, 0, none⟩ = some (.pointer (some ⟨r, 0, none⟩)) ∧ w'.cell? ⟨r, 3, none⟩ = some (.map (some b)) ∧ (Instr.lookup 151 (.map (some b)) (.agg #[.int .i64 (k : Int), .int .i64 (at_ : Int)]) false).run Try.prog w' = .ok (.agg #[.bool false, .int .i64 tm]) w') w5.drew := by
    obtain ⟨e0, e1, e2, e3, e4⟩ := HS1.out w5.drew (Below.refl _ _).drew
    exact ⟨e0, e1, e2, e3, e4, HLK.out w5.drew (Below.refl _ _).drew⟩
  have hS2 : (fun w' : World => w'.cell? ⟨w.heap.size, 0, none⟩ = some (.pointer (some ⟨s, 0, none⟩)) ∧ w'.cell? ⟨w.heap.size + 1, 0, none⟩ = some (.int .i64 (k : Int)) ∧ w'.cell? ⟨w.heap.size + 1, 1, none⟩ = some (.int .i64 (at_ : Int)) ∧ w'.cell? ⟨s, 0, none⟩ = some (.pointer (some ⟨r, 0, none⟩)) ∧ w'.cell? ⟨r, 3, none⟩ = some (.map (some b)) ∧ (Instr.lookup 151 (.map (some b)) (.agg #[.int .i64 (k : Int), .int .i64 (at_ : Int)]) false).run Try.prog w' = .ok (.agg #[.bool false, .int .i64 tm]) w') (w5.drew.alloc (.cells #[.bool false, .int .i64 0] 167)) := by
    have d := (Below.refl w5.heap.size w5).drew.alloc (Nat.le_refl _) (.cells #[.bool false, .int .i64 0] 167)
    obtain ⟨e0, e1, e2, e3, e4⟩ := HS1.out _ d
    exact ⟨e0, e1, e2, e3, e4, HLK.out _ d⟩
  refine wpAnyM_take 0 rfl (by kernel_rfl) (by kernel_rfl) (by kernel_rfl) (by kernel_rfl) (by kernel_rfl) (fun _ _ _ h => h) hSw (by rfl) (fun w' hSx => by (try dsimp only at hSx); go_simp; first | done | with_reducible rfl) ?_
  simp only [Act.put, List.setIfInBounds_toArray]
  refine wpAnyM_take 1 rfl (by kernel_rfl) (by kernel_rfl) (by kernel_rfl) (by kernel_rfl) (by kernel_rfl) (fun _ _ _ h => h) hSw (by rfl) (fun w' hSx => by (try dsimp only at hSx); go_simp; first | done | with_reducible rfl) ?_
  simp only [Act.put]
  refine wpAnyM_take 2 rfl (by kernel_rfl) (by kernel_rfl) (by kernel_rfl) (by kernel_rfl) (by kernel_rfl) (fun _ _ _ h => h) hSw (by rfl) (fun w' hSx => by (try dsimp only at hSx); go_simp; first | done | with_reducible rfl) ?_
  simp only [Act.put]
  refine wpAnyM_take 3 rfl (by kernel_rfl) (by kernel_rfl) (by kernel_rfl) (by kernel_rfl) (by kernel_rfl) (fun _ _ _ h => h) hSw (by rfl) (fun w' hSx => by (try dsimp only at hSx); go_simp; first | done | with_reducible rfl) ?_
  simp only [Act.put]
  refine wpAnyM_take 4 rfl (by kernel_rfl) (by kernel_rfl) (by kernel_rfl) (by kernel_rfl) (by kernel_rfl) (fun _ _ _ h => h) hSw (by rfl) (fun w' hSx => by (try dsimp only at hSx); go_simp; first | done | with_reducible rfl) ?_
  simp only [Act.put]
  refine wpAnyM_take 5 rfl (by kernel_rfl) (by kernel_rfl) (by kernel_rfl) (by kernel_rfl) (by kernel_rfl) (fun _ _ _ h => h) hSw (by rfl) (fun w' hSx => by (try dsimp only at hSx); go_simp; first | done | with_reducible rfl) ?_
  simp only [Act.put]
  refine wpAnyM_take 6 rfl (by kernel_rfl) (by kernel_rfl) (by kernel_rfl) (by kernel_rfl) (by kernel_rfl) (fun _ _ _ h => h) hSw (by rfl) (fun w' hSx => by (try dsimp only at hSx); go_simp; first | done | with_reducible rfl) ?_
  simp only [Act.put]
  refine wpAnyM_take 7 rfl (by kernel_rfl) (by kernel_rfl) (by kernel_rfl) (by kernel_rfl) (by kernel_rfl) (fun _ _ _ h => h) hSw (by rfl) (fun w' hSx => by (try dsimp only at hSx); go_simp; first | done | with_reducible rfl) ?_
  simp only [Act.put]
  refine wpAnyM_take 8 rfl (by kernel_rfl) (by kernel_rfl) (by kernel_rfl) (by kernel_rfl) (by kernel_rfl) (fun _ _ _ h => h) hSw (by rfl) (fun w' hSx => by (try dsimp only at hSx); go_simp; first | done | with_reducible rfl) ?_
  simp only [Act.put]
  refine wpAnyM_ready [9] (by kernel_rfl) (by simp) ?_
  refine AllReadyM.cons (by rfl) (fun K hK => ?_) AllReadyM.nil
  go_simp
  refine hK.out _ _ hS2 ?_
  clear hK K
  refine wpAnyM_ready [10] (by kernel_rfl) (by simp) ?_
  refine AllReadyM.last (by rfl) (by omega) (fun K hK => ?_)
  go_simp
  refine hK.out _ _ ?_
  clear hK K hSw hS2
  refine wpAnyM_done (by kernel_rfl) ?_ _
  have X8 := Lib.hid ((Blk.new_ w5 w5.heap.size 167 #[.bool false, .int .i64 tm] rfl).drew)
  have D8 := Lib.hid (((Below.refl w5.heap.size w5).alloc (Nat.le_refl _) (.cells #[.bool false, .int .i64 tm] 167)).drew)
  generalize ((w5.alloc (.cells #[.bool false, .int .i64 tm] 167)).drew) = w8 at *
  have HR8 := Lib.hid (HR5.out.to_ D8.out)
  have Q8 := Lib.hid (Q5.out.go D8.out)
  have R8 := Lib.hid (R5.out.go D8.out)
  have N8 := Lib.hid (N5.out.go D8.out)
  clear HR5 Q5 R5 N5 T5 P5 H5 HS1 HLK
  have x8 := X8.out.cell 0
  have x81 := X8.out.cell 1
  have x8g := X8.out.frozen 1
  have hg8 := X8.out.lt
  go_wp2_with fail
  clear x8 x81 x8g
  have X9 := Lib.hid ((X8.out.set_ 1 (.int .i64 0)))
  have D9 := Lib.hid (((D5.out.trans (D8.out.mono (by omega))).setCell (p := ⟨w5.heap.size, 1, none⟩) (by show w.heap.size ≤ w5.heap.size; omega) (.int .i64 0)))
  have Q9 := Lib.hid ((Q8.out.far (p := ⟨w5.heap.size, 1, none⟩) (by show w.heap.size ≠ w5.heap.size; omega) (.int .i64 0)))
  have R9 := Lib.hid ((R8.out.far (p := ⟨w5.heap.size, 1, none⟩) (by show w.heap.size + 1 ≠ w5.heap.size; omega) (.int .i64 0)))
  have N9 := Lib.hid ((N8.out.far (p := ⟨w5.heap.size, 1, none⟩) (by show w3.heap.size ≠ w5.heap.size; omega) (.int .i64 0)))
  have HFT := Lib.hid (HFN.out 0 (by first | rfl | simp))
  generalize w8.setCell ⟨w5.heap.size, 1, none⟩ (.int .i64 0) = w9 at *
  clear Q8 R8 N8 X8 HR8 D8 D5 hT0 HFN
  have HR9 : Hid (EvRest w B s r gv b (some ⟨b0, o0, none⟩) n c l O vs ms Af nf cf fs vL q nK κ k [] [] 0 vL nK w9) := EvRest.none_ (HI.out.go D9.out) D9.out
  have HX9 : Hid (Blk w9 w5.heap.size 167 #[.bool false, .int .i64 0]) := X9.out
  clear X9
  have y0 := Q9.out.cell 0
  have y1 := R9.out.cell 0
  have y2 := R9.out.cell 1
  have y3 := HR9.out.1.st.cell 0
  have y4 := HR9.out.1.rel.cell 3
  have y5 := HX9.out.cell 0
  have y6 := HX9.out.cell 1
  have hs9 := HR9.out.1.st.lt
  have hr9 := HR9.out.1.rel.lt
  have hb9 := HX9.out.lt
  have hnk : nK < maxLen := by unfold Pl.sz at hnK; unfold maxLen; omega
  obtain ⟨w10, hup, KM10, hg10⟩ := kmap_set (HR9.out.to_ (Below.refl _ _).drew).1.map HK1.out HK2.out hnk (false, 0)
  have HR10 := Lib.hid ((HR9.out.to_ (Below.refl _ _).drew).put hg10 KM10)
  have hbb := HI.out.map.lt
  have Q10 := Lib.hid (Q9.out.drew.grown hg10 (by intro e; injection e with e; omega))
  have R10 := Lib.hid (R9.out.drew.grown hg10 (by intro e; injection e with e; omega))
  have N10 := Lib.hid (N9.out.drew.grown hg10 (by intro e; injection e with e; omega))
  have X10 := Lib.hid (HX9.out.drew.grown hg10 (by intro e; injection e with e; omega))
  clear KM10 hg10 hnk hbb
  go_wp2_with fail
  have hSw : (fun w' : World => w'.cell? ⟨w.heap.size, 0, none⟩ = some (.pointer (some ⟨s, 0, none⟩)) ∧ w'.cell? ⟨w.heap.size + 1, 0, none⟩ = some (.int .i64 (k : Int)) ∧ w'.cell? ⟨w.heap.size + 1, 1, none⟩ = some (.int .i64 (at_ : Int)) ∧ w'.cell? ⟨s, 0, none⟩ = some (.pointer (some ⟨r, 0, none⟩)) ∧ w'.cell? ⟨r, 3, none⟩ = some (.map (some b)) ∧ w'.cell? ⟨w5.heap.size, 0, none⟩ = some (.bool false) ∧ w'.cell? ⟨w5.heap.size, 1, none⟩ = some (.int .i64 0)) w9.drew := ⟨y0, y1, y2, y3, y4, y5, y6⟩
  refine wp_region_mid (fun w' : World => w'.cell? ⟨w.heap.size, 0, none⟩ = some (.pointer (some ⟨s, 0, none⟩)) ∧ w'.cell? ⟨w.heap.size + 1, 0, none⟩ = some (.int .i64 (k : Int)) ∧ w'.cell? ⟨w.heap.size + 1, 1, none⟩ = some (.int .i64 (at_ : Int)) ∧ w'.cell? ⟨s, 0, none⟩ = some (.pointer (some ⟨r, 0, none⟩)) ∧ w'.cell? ⟨r, 3, none⟩ = some (.map (some b)) ∧ w'.cell? ⟨w5.heap.size, 0, none⟩ = some (.bool false) ∧ w'.cell? ⟨w5.heap.size, 1, none⟩ = some (.int .i64 0)) 9 (by kernel_rfl) ?_
  refine wpAnyM_take 0 rfl (by kernel_rfl) (by kernel_rfl) (by kernel_rfl) (by kernel_rfl) (by kernel_rfl) (fun _ _ _ h => h) hSw (by rfl) (fun w' hSx => by (try dsimp only at hSx); go_simp; first | done | with_reducible rfl) ?_
  simp only [Act.put, List.setIfInBounds_toArray]
  refine wpAnyM_take 1 rfl (by kernel_rfl) (by kernel_rfl) (by kernel_rfl) (by kernel_rfl) (by kernel_rfl) (fun _ _ _ h => h) hSw (by rfl) (fun w' hSx => by (try dsimp only at hSx); go_simp; first | done | with_reducible rfl) ?_
  simp only [Act.put]
  refine wpAnyM_take 2 rfl (by kernel_rfl) (by kernel_rfl) (by kernel_rfl) (by kernel_rfl) (by kernel_rfl) (fun _ _ _ h => h) hSw (by rfl) (fun w' hSx => by (try dsimp only at hSx); go_simp; first | done | with_reducible rfl) ?_
  simp only [Act.put]
  refine wpAnyM_take 3 rfl (by kernel_rfl) (by kernel_rfl) (by kernel_rfl) (by kernel_rfl) (by kernel_rfl) (fun _ _ _ h => h) hSw (by rfl) (fun w' hSx => by (try dsimp only at hSx); go_simp; first | done | with_reducible rfl) ?_
  simp only [Act.put]
  refine wpAnyM_take 4 rfl (by kernel_rfl) (by kernel_rfl) (by kernel_rfl) (by kernel_rfl) (by kernel_rfl) (fun _ _ _ h => h) hSw (by rfl) (fun w' hSx => by (try dsimp only at hSx); go_simp; first | done | with_reducible rfl) ?_
  simp only [Act.put]
  refine wpAnyM_take 5 rfl (by kernel_rfl) (by kernel_rfl) (by kernel_rfl) (by kernel_rfl) (by kernel_rfl) (fun _ _ _ h => h) hSw (by rfl) (fun w' hSx => by (try dsimp only at hSx); go_simp; first | done | with_reducible rfl) ?_
  simp only [Act.put]
  refine wpAnyM_take 6 rfl (by kernel_rfl) (by kernel_rfl) (by kernel_rfl) (by kernel_rfl) (by kernel_rfl) (fun _ _ _ h => h) hSw (by rfl) (fun w' hSx => by (try dsimp only at hSx); go_simp; first | done | with_reducible rfl) ?_
  simp only [Act.put]
  refine wpAnyM_take 7 rfl (by kernel_rfl) (by kernel_rfl) (by kernel_rfl) (by kernel_rfl) (by kernel_rfl) (fun _ _ _ h => h) hSw (by rfl) (fun w' hSx => by (try dsimp only at hSx); go_simp; first | done | with_reducible rfl) ?_
  simp only [Act.put]
  refine wpAnyM_take 8 rfl (by kernel_rfl) (by kernel_rfl) (by kernel_rfl) (by kernel_rfl) (by kernel_rfl) (fun _ _ _ h => h) hSw (by rfl) (fun w' hSx => by (try dsimp only at hSx); go_simp; first | done | with_reducible rfl) ?_
  simp only [Act.put]
  refine wpAnyM_ready [9] (by kernel_rfl) (by simp) ?_
  refine AllReadyM.last (by rfl) (by omega) (fun K hK => ?_)
  go_simp
  refine hK.out _ _ ?_
  clear hK K hSw hup y0 y1 y2 y3 y4 y5 y6
  refine wpAnyM_done (by kernel_rfl) ?_ _
  have hs10 := HR10.out.1.st.lt
  have D11 := Lib.hid (((Below.refl w10.heap.size w10).alloc (Nat.le_refl _) (.cells #[.int .i64 (k : Int), .int .i64 (at_ : Int)] 165)).drew)
  have B11 := Lib.hid ((Blk.new_ w10 w10.heap.size 165 #[.int .i64 (k : Int), .int .i64 (at_ : Int)] rfl).drew)
  have HR11 := Lib.hid (HR10.out.to_ D11.out)
  have Q11 := Lib.hid (Q10.out.go D11.out)
  have R11 := Lib.hid (R10.out.go D11.out)
  have N11 := Lib.hid (N10.out.go D11.out)
  have X11 := Lib.hid (X10.out.go D11.out)
  have HZ11 : Hid (w10.heap.size < ((w10.alloc (.cells #[.int .i64 (k : Int), .int .i64 (at_ : Int)] 165)).drew).heap.size) := by show _ < _; simp
  go_wp2_with fail
  have hSw : (fun w' : World => w'.cell? ⟨w.heap.size, 0, none⟩ = some (.pointer (some ⟨s, 0, none⟩)) ∧ w'.cell? ⟨w.heap.size + 1, 0, none⟩ = some (.int .i64 (k : Int)) ∧ w'.cell? ⟨w.heap.size + 1, 1, none⟩ = some (.int .i64 (at_ : Int)) ∧ w'.cell? ⟨s, 4, none⟩ = some (vL)) w10.drew := ⟨Q10.out.cell 0, R10.out.cell 0, R10.out.cell 1, HR10.out.1.st.cell 4⟩
  refine wp_region_mid (fun w' : World => w'.cell? ⟨w.heap.size, 0, none⟩ = some (.pointer (some ⟨s, 0, none⟩)) ∧ w'.cell? ⟨w.heap.size + 1, 0, none⟩ = some (.int .i64 (k : Int)) ∧ w'.cell? ⟨w.heap.size + 1, 1, none⟩ = some (.int .i64 (at_ : Int)) ∧ w'.cell? ⟨s, 4, none⟩ = some (vL)) 8 (by kernel_rfl) ?_
  refine wpAnyM_take 0 rfl (by kernel_rfl) (by kernel_rfl) (by kernel_rfl) (by kernel_rfl) (by kernel_rfl) (fun _ _ _ h => h) hSw (by rfl) (fun w' hSx => by (try dsimp only at hSx); go_simp; first | done | with_reducible rfl) ?_
  simp only [Act.put, List.setIfInBounds_toArray]
  refine wpAnyM_take 1 rfl (by kernel_rfl) (by kernel_rfl) (by kernel_rfl) (by kernel_rfl) (by kernel_rfl) (fun _ _ _ h => h) hSw (by rfl) (fun w' hSx => by (try dsimp only at hSx); go_simp; first | done | with_reducible rfl) ?_
  simp only [Act.put]
  refine wpAnyM_take 2 rfl (by kernel_rfl) (by kernel_rfl) (by kernel_rfl) (by kernel_rfl) (by kernel_rfl) (fun _ _ _ h => h) hSw (by rfl) (fun w' hSx => by (try dsimp only at hSx); go_simp; first | done | with_reducible rfl) ?_
  simp only [Act.put]
  refine wpAnyM_take 3 rfl (by kernel_rfl) (by kernel_rfl) (by kernel_rfl) (by kernel_rfl) (by kernel_rfl) (fun _ _ _ h => h) hSw (by rfl) (fun w' hSx => by (try dsimp only at hSx); go_simp; first | done | with_reducible rfl) ?_
  simp only [Act.put]
  refine wpAnyM_take 4 rfl (by kernel_rfl) (by kernel_rfl) (by kernel_rfl) (by kernel_rfl) (by kernel_rfl) (fun _ _ _ h => h) hSw (by rfl) (fun w' hSx => by (try dsimp only at hSx); go_simp; first | done | with_reducible rfl) ?_
  simp only [Act.put]
  refine wpAnyM_take 5 rfl (by kernel_rfl) (by kernel_rfl) (by kernel_rfl) (by kernel_rfl) (by kernel_rfl) (fun _ _ _ h => h) hSw (by rfl) (fun w' hSx => by (try dsimp only at hSx); go_simp; first | done | with_reducible rfl) ?_
  simp only [Act.put]
  refine wpAnyM_ready [6] (by kernel_rfl) (by simp) ?_
  refine AllReadyM.cons (by rfl) (fun K hK => ?_) AllReadyM.nil
  go_simp
  generalize (w10.alloc (.cells #[.int .i64 (k : Int), .int .i64 (at_ : Int)] 165)).drew = w11 at *
  refine hK.out _ _ ⟨Q11.out.cell 0, R11.out.cell 0, R11.out.cell 1, HR11.out.1.st.cell 4⟩ ?_
  clear hK K hSw
  have hlow11 := HR11.out.1.low.2.2
  have HTY1 := Lib.hid HR11.out.1.que
  have hs11 := HR11.out.1.st.lt
  have HN1 : Hid (∀ g cs t, Blk w11 g t cs → t ≠ 165 → some g ≠ vL.ownBlock) := fun g cs t hg ht e => by
    obtain ⟨_, cur, hc⟩ := HTY1.out.own e.symm
    exact hg.ne_ hc ht rfl
  have HN2 : Hid (some (w.heap.size + 1) ≠ vL.ownBlock) := fun e => HOWN.out (w.heap.size + 1) (by omega) (.inr (.inr e.symm))
  obtain ⟨v', w12, hap, PQ12, hg12, hv12⟩ := HTY1.out.push (k, at_) w10.heap.size (B11.out.cell 0) (B11.out.cell 1) (by unfold Pl.sz at hqs; simp; omega) hlow11
  obtain ⟨Av, nv, cv, rfl⟩ := PQ12.shape
  have Q12 := Lib.hid (Q11.out.grown hg12 (HN1.out _ _ _ Q11.out (by decide)))
  have R12 := Lib.hid (R11.out.grown hg12 HN2.out)
  have N12 := Lib.hid (N11.out.grown hg12 (HN1.out _ _ _ N11.out (by decide)))
  have X12 := Lib.hid (X11.out.grown hg12 (HN1.out _ _ _ X11.out (by decide)))
  have S12 := Lib.hid (HR11.out.1.st.grown hg12 (HN1.out _ _ _ HR11.out.1.st (by decide)))
  have HR13 := Lib.hid (HR11.out.push hg12 PQ12 hv12)
  have hsz12 := hg12.size
  clear PQ12 hg12 hv12 HTY1 HN1 HN2 HR11
  refine wpAnyM_ready [7] (by kernel_rfl) (by simp) ?_
  refine AllReadyM.cons (by rfl) (fun K hK => ?_) AllReadyM.nil
  refine step_append_run (by rfl) _ _ _ (by rfl) _ _ _ (by rfl) (by rfl) hap ?_
  simp only [Act.put]
  refine hK.out _ _ ⟨Q12.out.cell 0, R12.out.cell 0, R12.out.cell 1, S12.out.cell 4⟩ ?_
  clear hK K hap
  refine wpAnyM_ready [8] (by kernel_rfl) (by simp) ?_
  refine AllReadyM.last (by rfl) (by omega) (fun K hK => ?_)
  go_simp
  refine hK.out _ _ ?_
  clear hK K
  refine wpAnyM_ready [9] (by kernel_rfl) (by simp) ?_
  refine AllReadyM.last (by rfl) (by omega) (fun K hK => ?_)
  go_simp
  refine hK.out _ _ ?_
  clear hK K
  have s12 := S12.out.cell 4
  have s12f := S12.out.frozen 4
  refine wpAnyM_ready [10] (by kernel_rfl) (by simp) ?_
  refine AllReadyM.last (by rfl) (by omega) (fun K hK => ?_)
  go_simp
  refine hK.out _ _ ?_
  clear hK K s12 s12f
  refine wpAnyM_done (by kernel_rfl) ?_ _
  have N13 := Lib.hid (N12.out.far (p := ⟨s, 4, none⟩) (by show w3.heap.size ≠ s; omega) (.slice Av nv cv))
  have X13 := Lib.hid (X12.out.far (p := ⟨s, 4, none⟩) (by show w5.heap.size ≠ s; omega) (.slice Av nv cv))
  clear Q12 R12 N12 X12 S12 Q11 R11 N11 X11 D11 B11 HZ11 Q10 R10 N10 X10 HR10 HR9 HX9 Q9 R9 N9
  generalize w12.setCell ⟨s, 4, none⟩ (.slice Av nv cv) = w13 at *
  have v0 := X13.out.cell 0
  have v1 := X13.out.cell 1
  have v2 := N13.out.cell 2
  have hz13 := X13.out.lt
  have hz14 := N13.out.lt
  have HE14 := Lib.hid (HFT.out _ _ _ HR13.out)
  go_wp2_with fail
  go_ret
  exact HE14.out
/-- every evaluation -/
theorem eval_any {B s r gv b : Nat} {A : Option Addr} {n c : Nat} {l : List MRul} {O : Value} {vs : List Bool} {ms : Int} {Af : Option Addr} {nf cf : Nat} {fs : List ByteArray}
    (k : Nat) (o : MRul) (hk : l[k]? = some o) (hsm : o.n ≤ 1000) (hlen : o.ex.length = o.n) (hms : 0 ≤ ms ∧ ms ≤ 100000) (hop : ∀ x ∈ o.ex, 0 ≤ x.op ∧ x.op ≤ 7) {at_ e : Nat} {t : Pl.RT} (h : Pl.IsT o.ex at_ e t) :
    EvOk B s r gv b A n c l O vs ms Af nf cf fs k at_ t := by
  induction h with
  | @leaf at_ x hx h0 =>
    have h1 := hop x (List.mem_of_getElem? hx)
    obtain ⟨op, nm, v⟩ := x
    have h1 : 0 ≤ op ∧ op ≤ 7 := h1
    have h0 : Pl.opn op = 0 := h0
    have hc : op = 0 ∨ op = 1 ∨ op = 2 := by
      rcases opn_cases op with ⟨_, h⟩ | ⟨_, h⟩ | ⟨_, h⟩ | ⟨_, h⟩ | ⟨_, h⟩ | ⟨_, _, _, _, _, _⟩ <;> omega
    rcases hc with rfl | rfl | rfl
    · exact eval_flag k at_ o nm v hk hx hsm
    · exact eval_above k at_ o nm v hk hx hsm
    · exact eval_below k at_ o nm v hk hx hsm
  | @un at_ e x a hx h0 ha ih =>
    have h1 := hop x (List.mem_of_getElem? hx)
    obtain ⟨op, nm, v⟩ := x
    have h0 : Pl.opn op = 1 := h0
    have hc : op = 3 ∨ op = 6 := by
      rcases opn_cases op with ⟨_, h⟩ | ⟨_, h⟩ | ⟨_, h⟩ | ⟨_, h⟩ | ⟨_, h⟩ | ⟨_, _, _, _, _, _⟩ <;> omega
    rcases hc with rfl | rfl
    · exact eval_not k at_ o nm v hk hx hsm a ih
    · intro w vL q nK κ hI hT hn hq
      cases hon : (κ k at_).1 with
      | true => exact eval_delay_on k at_ o nm v hk hx hsm a hms w vL q nK κ hI hT hn hq hon
      | false => exact eval_delay_off k at_ o nm v hk hx hsm a hms w vL q nK κ hI hT hn hq hon
  | @bin at_ m e x a b hx h0 ha hb ih1 ih2 =>
    have hT : Pl.IsT o.ex (at_ + 1) m a ∧ Pl.IsT o.ex m e b ∧ e ≤ o.n := ⟨ha, hb, by have := hb.le; omega⟩
    obtain ⟨op, nm, v⟩ := x
    have h0 : Pl.opn op = 2 := h0
    have hc : op = 4 ∨ op = 5 ∨ op = 7 := by
      rcases opn_cases op with ⟨_, h⟩ | ⟨_, h⟩ | ⟨_, h⟩ | ⟨_, h⟩ | ⟨_, h⟩ | ⟨_, _, _, _, _, _⟩ <;> omega
    rcases hc with rfl | rfl | rfl
    · exact eval_and k at_ o nm v hk hx hsm a b m e hms.1 hT ih1 ih2
    · exact eval_or k at_ o nm v hk hx hsm a b m e hms.1 hT ih1 ih2
    · exact eval_latch k at_ o nm v hk hx hsm a b m e hms.1 hT ih1 ih2
end Go.Proofs.Ytpamgeemmbbkkaa
