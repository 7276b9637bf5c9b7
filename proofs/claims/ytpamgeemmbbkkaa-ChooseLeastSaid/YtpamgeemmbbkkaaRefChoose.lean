/- The reference's choose answers as its plain function says. Condition: the network is a good one and reads, the place is on a branch. -/
import Derived.Test.YtpamgeemmbbkkaaRefCut
import Derived.Test.YtpamgeemmbbkkaaNearB
import Derived.Test.YtpamgeemmbbkkaaLinked
namespace Go.Proofs.Ytpamgeemmbbkkaa
open Go.RowKit
set_option maxRecDepth 100000
theorem elem_txts : Try.prog.underlying 22 = some (.slice (Try.prog.elem 22)) := by kernel_rfl
theorem size_txts : ∀ w : World, (sizeOf (Try.prog.elem 22)).run Try.prog w = .ok 1 w := fun _ => by kernel_rfl
section
variable {P : Program} {Q : Exit → Act → World → Prop} {α1 α2 α3 α4 α5 α6 α7 α8 : Type}
def Join8 (R : α1 → α2 → α3 → α4 → α5 → α6 → α7 → α8 → World → Prop) (fr : α1 → α2 → α3 → α4 → α5 → α6 → α7 → α8 → Act) (e : Exit) (a' : Act) (w' : World) : Prop := ∃ x1 x2 x3 x4 x5 x6 x7 x8, e = Exit.normal ∧ a' = fr x1 x2 x3 x4 x5 x6 x7 x8 ∧ R x1 x2 x3 x4 x5 x6 x7 x8 w'
def Join6 (R : α1 → α2 → α3 → α4 → α5 → α6 → World → Prop) (fr : α1 → α2 → α3 → α4 → α5 → α6 → Act) (e : Exit) (a' : Act) (w' : World) : Prop := ∃ x1 x2 x3 x4 x5 x6, e = Exit.normal ∧ a' = fr x1 x2 x3 x4 x5 x6 ∧ R x1 x2 x3 x4 x5 x6 w'
/-- like wp_join, for eight and for six letters -/
theorem wp_join8 {c : Code} {a : Act} {w : World} (R : α1 → α2 → α3 → α4 → α5 → α6 → α7 → α8 → World → Prop) (fr : α1 → α2 → α3 → α4 → α5 → α6 → α7 → α8 → Act) (h : c.wp P (Join8 R fr) a w) (hq : ∀ x1 x2 x3 x4 x5 x6 x7 x8 w', R x1 x2 x3 x4 x5 x6 x7 x8 w' → Q .normal (fr x1 x2 x3 x4 x5 x6 x7 x8) w') : c.wp P Q a w :=
  wp_mono h fun e a' w' ⟨x1, x2, x3, x4, x5, x6, x7, x8, he, ha, hr⟩ => by subst he ha; exact hq x1 x2 x3 x4 x5 x6 x7 x8 w' hr
theorem wp_join6 {c : Code} {a : Act} {w : World} (R : α1 → α2 → α3 → α4 → α5 → α6 → World → Prop) (fr : α1 → α2 → α3 → α4 → α5 → α6 → Act) (h : c.wp P (Join6 R fr) a w) (hq : ∀ x1 x2 x3 x4 x5 x6 w', R x1 x2 x3 x4 x5 x6 w' → Q .normal (fr x1 x2 x3 x4 x5 x6) w') : c.wp P Q a w :=
  wp_mono h fun e a' w' ⟨x1, x2, x3, x4, x5, x6, he, ha, hr⟩ => by subst he ha; exact hq x1 x2 x3 x4 x5 x6 w' hr
end
theorem litx_reads {w : World} {g : Nat} {t : TypeId} {s : ByteArray} (h : Blk w g t #[.string s]) : Reads w w.heap.size 1 (some ⟨g, 0, none⟩) 1 [.string s] := by
  refine ⟨by simp, fun _ => ⟨_, rfl, Blk.lt h, fun j u hu => ?_⟩⟩
  have e : (⟨g, 0, none⟩ : Addr).add j = ⟨g, j, none⟩ := by exact Srt.addr_add g j
  rw [e, Blk.cell h j]
  simpa using hu
def ChR (N : Pl.Net) (br : ByteArray) (part : Int) (b : Pl.Bra) (size : Nat) (all2 set2 : List ByteArray) (w5 : World) (A : Option Addr) (m : Nat) (is : Bool) (w' : World) : Prop :=
  ∃ out : List ByteArray, ((is = true → Pl.chooseP (Pl.isoD N br part) (Pl.nearN N br part b) size all2 set2 = some out ∧ Reads w' w'.heap.size 1 A m (txts out)) ∧ (is = false → Pl.chooseP (Pl.isoD N br part) (Pl.nearN N br part b) size all2 set2 = none)) ∧ Below w5.heap.size w5 w'
def NeR (N : Pl.Net) (br : ByteArray) (part : Int) (b : Pl.Bra) (X Y : List ByteArray) (w6 : World) (mx my : Nat) (w' : World) : Prop := mx = Pl.nearN N br part b X ∧ my = Pl.nearN N br part b Y ∧ Below w6.heap.size w6 w'
theorem isoD_srcIn {N : Pl.Net} {br : ByteArray} {part : Int} {b : Pl.Bra} (hok : Pl.NetOk N) (hp : Pl.PlaceOk N br part b) {X : List ByteArray} {l : List Int} (hl : ∀ v, v ∈ l ↔ Pl.NearR (Pl.PairN N X br part) (Pl.starts N part b) v) : Pl.isoD N br part X = !Pl.srcIn N l := by
  have h2 := Pl.isoD_iff.trans (Pl.reach_near hok hp hl)
  have h3 : Pl.srcIn N l = (N.gens.any (fun g => decide (Pl.idxT N.nodes g.node ∈ l)) || N.stores.any (fun s => decide (Pl.idxT N.nodes s.node ∈ l))) := rfl
  rw [← h3] at h2
  cases h4 : Pl.isoD N br part X <;> cases hs : Pl.srcIn N l <;> rw [h4, hs] at h2
  · exact absurd (h2.2 rfl) (by decide)
  · rfl
  · rfl
  · exact absurd (h2.1 rfl) (by decide)
set_option maxHeartbeats 3200000 in
theorem refchoose_zero (M : MNet) (br : ByteArray) (part : Int) (b : Pl.Bra) (hok : Pl.NetOk M.N) (hp : Pl.PlaceOk M.N br part b) : ChooseOk M br part b 0 := by
  intro Aa na ca all As ns cs set w hM ha hs hc hn
  have F0 := Lib.hid (((Below.refl w.heap.size w).alloc (Nat.le_refl _) (.cells (netC M) 29)).alloc (by simp) (.cells #[.string br, .int .i64 part] 34))
  have B0 := Lib.hid ((Blk.new_ w w.heap.size 29 (netC M) rfl).alloc (.cells #[.string br, .int .i64 part] 34))
  have P0 := Lib.hid (Blk.new_ (w.alloc (.cells (netC M) 29)) (w.heap.size + 1) 34 #[.string br, .int .i64 part] (by simp))
  have CL := Lib.hid (fun (w1 : World) (hb : Below w.heap.size w w1) => linked_any M As ns cs set br part b w1 (hM.go hb) (hs.go hb) (Lib.hid fun w2 h2 h3 => near_any M As ns cs set br part b w2 h2 hok hp h3 (by omega)))
  have HIS := Lib.hid (fun (l : List Int) h => isoD_srcIn hok hp (X := set) (l := l) h)
  have HS := Lib.hid hs
  have HCP : Hid (Pl.chooseP (Pl.isoD M.N br part) (Pl.nearN M.N br part b) 0 all set = if Pl.isoD M.N br part set then some set else none) := rfl
  generalize Pl.chooseP (Pl.isoD M.N br part) (Pl.nearN M.N br part b) 0 all set = CPv at *
  clear hok hp hM ha hs
  unfold vNet vPlace at *
  obtain ⟨N, A0, n0, c0, A1, n1, c1, A2, n2, c2, A3, n3, c3, A4, n4, c4, A5, n5, c5⟩ := M
  unfold netC at *
  simp only at *
  generalize Pl.isoD N br part set = isv at *
  have k0 := B0.out.cell
  have k1 := P0.out.cell
  go_enter Try.func34, Try.ntmps34
  go_wp2_with fail
  refine (CL.out _ F0.out).mono ?_
  rintro e w1 ⟨l, hl, rfl, hb⟩
  have F1 := Lib.hid (F0.out.trans (hb.mono F0.out.size))
  have hi := HIS.out l hl
  have HI := Lib.hid hi
  generalize Pl.srcIn N l = sr at *
  clear hb hl k0 k1 hi
  go_wp2_with fail
  go_ret2
  refine ⟨As, ns, cs, set, !sr, rfl, fun h => ?_, fun h => ?_, F1.out⟩
  · rw [HCP.out, HI.out, h]
    exact ⟨rfl, HS.out.go F1.out⟩
  · rw [HCP.out, HI.out, h]; rfl
set_option maxHeartbeats 6400000 in
theorem refchoose_succ (M : MNet) (br : ByteArray) (part : Int) (b : Pl.Bra) (hok : Pl.NetOk M.N) (hp : Pl.PlaceOk M.N br part b) (size : Nat) (HI : Hid (ChooseOk M br part b size)) : ChooseOk M br part b (size + 1) := by
  intro Aa na ca all As ns cs set w hM ha hs hc hn
  have F0 := Lib.hid (((Below.refl w.heap.size w).alloc (Nat.le_refl _) (.cells (netC M) 29)).alloc (by simp) (.cells #[.string br, .int .i64 part] 34))
  have B0 := Lib.hid ((Blk.new_ w w.heap.size 29 (netC M) rfl).alloc (.cells #[.string br, .int .i64 part] 34))
  have P0 := Lib.hid (Blk.new_ (w.alloc (.cells (netC M) 29)) (w.heap.size + 1) 34 #[.string br, .int .i64 part] (by simp))
  have CR := Lib.hid (fun (A2 : Option Addr) (n2 c2 : Nat) (all2 : List ByteArray) (A3 : Option Addr) (n3 c3 : Nat) (set2 : List ByteArray) (w1 : World) (hb : Below w.heap.size w w1) h1 h2 h3 h4 => HI.out A2 n2 c2 all2 A3 n3 c3 set2 w1 (hM.go hb) h1 h2 h3 h4)
  have CN := Lib.hid (fun (A2 : Option Addr) (n2 c2 : Nat) (X : List ByteArray) (w1 : World) (hb : Below w.heap.size w w1) (hx : Reads w1 w1.heap.size 1 A2 n2 (txts X)) (hn2 : n2 ≤ 1000) => (near_any M A2 n2 c2 X br part b w1 (hM.go hb) hok hp hx (by omega)).mono (R' := fun e w' => ∃ (A : Option Addr) (m c : Nat), e = .returned (.slice A m c) ∧ m = Pl.nearN M.N br part b X ∧ Below w1.heap.size w1 w') (by rintro e w' ⟨A, m, c, l, rfl, hr, hnd, hmem, _, hb2⟩; exact ⟨A, m, c, rfl, by rw [← Pl.near_len hok hp hnd hmem]; exact hr.int_len.symm, hb2⟩))
  have HLN := Lib.hid (fun (all2 set2 out : List ByteArray) (h2 : Pl.chooseP (Pl.isoD M.N br part) (Pl.nearN M.N br part b) size all2 set2 = some out) => by obtain ⟨_, ⟨Y, _, hY, he⟩, _⟩ := (Pl.chooseP_spec (Pl.isoD M.N br part) (Pl.nearN M.N br part b) size all2 set2).2 out h2; exact (show out.length = set2.length + size by rw [he, List.length_append, hY]))
  have HS := Lib.hid hs
  have HA := Lib.hid ha
  have HLA := Lib.hid (txts_len ha)
  have HLS := Lib.hid (txts_len hs)
  have HCP : Hid (Pl.chooseP (Pl.isoD M.N br part) (Pl.nearN M.N br part b) (size + 1) all set = Pl.goP (Pl.nearN M.N br part b) (Pl.chooseP (Pl.isoD M.N br part) (Pl.nearN M.N br part b) size) set all none) := rfl
  generalize Pl.chooseP (Pl.isoD M.N br part) (Pl.nearN M.N br part b) (size + 1) all set = CPv at *
  clear hok hp hM ha hs HI
  unfold vNet vPlace at *
  obtain ⟨N, A0, n0, c0, A1, n1, c1, A2, n2, c2, A3, n3, c3, A4, n4, c4, A5, n5, c5⟩ := M
  unfold netC at *
  simp only at *
  have HZE : Hid (∃ z : Int, z = ((size + 1 : Nat) : Int)) := ⟨_, rfl⟩
  obtain ⟨z, hz⟩ := HZE.out
  rw [← hz]
  have hs2 : IntKind.i64.wrap (z - 1) = (size : Int) := by rw [hz, IntWalk.i64_in _ (by omega)]; omega
  have hse : (z == 0) = false := by rw [hz]; simp; omega
  clear hz HZE
  go_enter Try.func34, Try.ntmps34
  go_wp2_with fail
  generalize ((w.alloc (.cells #[.slice A0 n0 c0, .slice A1 n1 c1, .slice A2 n2 c2, .slice A3 n3 c3, .slice A4 n4 c4, .slice A5 n5 c5] 29)).alloc (.cells #[.string br, .int .i64 part] 34)) = w3 at *
  have HSE := Lib.hid hse
  clear hse
  have G3 : Hid (Below w3.heap.size w3 w3) := Below.refl _ _
  go_loopw [12, 13, 28] (fun v f i wr => ∃ (k mb cb : Nat) (Ab : Option Addr) (best : Option (List ByteArray)), k ≤ na ∧ i = .int .i64 k ∧ v = .slice Ab mb cb ∧ f = .bool best.isSome ∧ mb ≤ 1000 ∧ Hid (CPv = Pl.goP (Pl.nearN N br part b) (Pl.chooseP (Pl.isoD N br part) (Pl.nearN N br part b) size) set (all.drop k) best) ∧ Hid (∀ x, best = some x → Reads wr wr.heap.size 1 Ab mb (txts x)) ∧ Hid (Below w3.heap.size w3 wr)) (fun _ _ i _ => na - (intOf i).toNat)
  case atStart => exact ⟨0, 0, 0, none, none, Nat.zero_le _, rfl, rfl, rfl, by omega, HCP, (fun x h => by cases h), G3⟩
  case round =>
    clear HCP G3
    obtain ⟨k, mb, cb, Ab, best, hk, rfl, rfl, rfl, hmb, HCP, HBR, GR⟩ := hrel
    have FR := Lib.hid (F0.out.trans (GR.out.mono F0.out.size))
    have BR := Lib.hid (B0.out.go GR.out)
    have PR := Lib.hid (P0.out.go GR.out)
    by_cases hkn : k < na
    · obtain ⟨bo, oo, rfl, _, hlk, ck⟩ := txts_at (HA.out.go FR.out) hkn
      have HDR : Hid (all.drop k = all[k] :: all.drop (k + 1)) := List.drop_eq_getElem_cons hlk
      rw [HDR.out] at HCP
      generalize all[k] = s at *
      generalize hbs : best.isSome = bs at *
      have HBS := Lib.hid hbs
      clear hbs HDR
      go_wp2_with fail
      clear ck
      have HCUT : Hid (Reads wr wr.heap.size 1 (if ca = k + 1 then some ⟨bo, oo, none⟩ else (some (⟨bo, oo, none⟩ : Addr)).map (·.add ((k + 1) * 1))) (na - (k + 1)) (txts (all.drop (k + 1)))) := by
        have := (HA.out.go FR.out).cut (k := k + 1) (cap := ca) (by omega) hc
        rw [Nat.mul_one] at this
        show Reads _ _ _ _ _ _
        rw [Nat.mul_one]
        unfold txts at this ⊢
        rw [List.map_drop]; exact this
      have hsl : ∀ W, (Instr.slice 22 (.slice (some ⟨bo, oo, none⟩) na ca) (some (.int .i64 ((k : Int) + 1))) none none).run Try.prog W = .ok (.slice (if ca = k + 1 then some ⟨bo, oo, none⟩ else (some (⟨bo, oo, none⟩ : Addr)).map (·.add ((k + 1) * 1))) (na - (k + 1)) (ca - (k + 1))) W := fun W => by
        have := run_slice_l W 22 (some ⟨bo, oo, none⟩) na ca elem_txts .i64 (k + 1) (by omega) (by omega)
        rw [size_txts] at this
        rw [this, show ((k : Int) + 1).toNat = k + 1 by omega]
        simp [sliced, Result.andThen]
      generalize (if ca = k + 1 then some (⟨bo, oo, none⟩ : Addr) else (some (⟨bo, oo, none⟩ : Addr)).map (·.add ((k + 1) * 1))) = AS at *
      have wk : IntKind.i64.wrap ((k : Int) + 1) = (k : Int) + 1 := IntWalk.i64_in _ (by omega)
      have e0 := Wd.cell (BR.out.cell 0 : wr.cell? ⟨w.heap.size, 0, none⟩ = some (.slice A0 n0 c0))
      have e1 := Wd.cell (BR.out.cell 1 : wr.cell? ⟨w.heap.size, 1, none⟩ = some (.slice A1 n1 c1))
      have e2 := Wd.cell (BR.out.cell 2 : wr.cell? ⟨w.heap.size, 2, none⟩ = some (.slice A2 n2 c2))
      have e3 := Wd.cell (BR.out.cell 3 : wr.cell? ⟨w.heap.size, 3, none⟩ = some (.slice A3 n3 c3))
      have e4 := Wd.cell (BR.out.cell 4 : wr.cell? ⟨w.heap.size, 4, none⟩ = some (.slice A4 n4 c4))
      have e5 := Wd.cell (BR.out.cell 5 : wr.cell? ⟨w.heap.size, 5, none⟩ = some (.slice A5 n5 c5))
      have f0 := Wd.cell (PR.out.cell 0 : wr.cell? ⟨w.heap.size + 1, 0, none⟩ = some (.string br))
      have f1 := Wd.cell (PR.out.cell 1 : wr.cell? ⟨w.heap.size + 1, 1, none⟩ = some (.int .i64 part))
      obtain ⟨j0, hj0, hjz0, hjz1, hjz2⟩ := info_parts info_txt
      generalize wr = w5 at *
      apply wp_join8 (fun (v42 v44 v46 v47 : Value) (A10 : Option Addr) (m10 c10 : Nat) (is : Bool) w' => ChR N br part b size (all.drop (k + 1)) (set ++ [s]) w5 A10 m10 is w')
      · have hSw : (fun w' => ∃ x : Wd w5, w' = x.val) w5.drew := ⟨⟨w5.drew, (Below.refl _ _).drew⟩, rfl⟩
        refine wp_region_mid (fun w' => ∃ x : Wd w5, w' = x.val) 20 (by kernel_rfl) ?_
        refine wpAnyM_take 0 rfl (by kernel_rfl) (by kernel_rfl) (by kernel_rfl) (by kernel_rfl) (by kernel_rfl) (fun _ _ _ h => by obtain ⟨_, _, _, _, _, _, _, _, h, _⟩ := h; cases h) hSw (by kernel_rfl) (fun w' hSx => by obtain ⟨xw, rfl⟩ := hSx; go_simp; first | done | with_reducible rfl) ?_
        simp only [Act.put, List.setIfInBounds_toArray]
        refine wpAnyM_take 1 rfl (by kernel_rfl) (by kernel_rfl) (by kernel_rfl) (by kernel_rfl) (by kernel_rfl) (fun _ _ _ h => by obtain ⟨_, _, _, _, _, _, _, _, h, _⟩ := h; cases h) hSw (by kernel_rfl) (fun w' hSx => by obtain ⟨xw, rfl⟩ := hSx; go_simp; first | done | with_reducible rfl) ?_
        simp only [Act.put]
        refine wpAnyM_take 2 rfl (by kernel_rfl) (by kernel_rfl) (by kernel_rfl) (by kernel_rfl) (by kernel_rfl) (fun _ _ _ h => by obtain ⟨_, _, _, _, _, _, _, _, h, _⟩ := h; cases h) hSw (by kernel_rfl) (fun w' hSx => by obtain ⟨xw, rfl⟩ := hSx; go_simp; first | done | with_reducible rfl) ?_
        simp only [Act.put]
        refine wpAnyM_take 3 rfl (by kernel_rfl) (by kernel_rfl) (by kernel_rfl) (by kernel_rfl) (by kernel_rfl) (fun _ _ _ h => by obtain ⟨_, _, _, _, _, _, _, _, h, _⟩ := h; cases h) hSw (by kernel_rfl) (fun w' hSx => by obtain ⟨xw, rfl⟩ := hSx; go_simp; first | done | with_reducible rfl) ?_
        simp only [Act.put]
        refine wpAnyM_take 4 rfl (by kernel_rfl) (by kernel_rfl) (by kernel_rfl) (by kernel_rfl) (by kernel_rfl) (fun _ _ _ h => by obtain ⟨_, _, _, _, _, _, _, _, h, _⟩ := h; cases h) hSw (by kernel_rfl) (fun w' hSx => by obtain ⟨xw, rfl⟩ := hSx; go_simp; first | done | with_reducible rfl) ?_
        simp only [Act.put]
        refine wpAnyM_take 5 rfl (by kernel_rfl) (by kernel_rfl) (by kernel_rfl) (by kernel_rfl) (by kernel_rfl) (fun _ _ _ h => by obtain ⟨_, _, _, _, _, _, _, _, h, _⟩ := h; cases h) hSw (by kernel_rfl) (fun w' hSx => by obtain ⟨xw, rfl⟩ := hSx; go_simp; first | done | with_reducible rfl) ?_
        simp only [Act.put]
        refine wpAnyM_take 6 rfl (by kernel_rfl) (by kernel_rfl) (by kernel_rfl) (by kernel_rfl) (by kernel_rfl) (fun _ _ _ h => by obtain ⟨_, _, _, _, _, _, _, _, h, _⟩ := h; cases h) hSw (by kernel_rfl) (fun w' hSx => by obtain ⟨xw, rfl⟩ := hSx; go_simp; first | done | with_reducible rfl) ?_
        simp only [Act.put]
        refine wpAnyM_take 7 rfl (by kernel_rfl) (by kernel_rfl) (by kernel_rfl) (by kernel_rfl) (by kernel_rfl) (fun _ _ _ h => by obtain ⟨_, _, _, _, _, _, _, _, h, _⟩ := h; cases h) hSw (by kernel_rfl) (fun w' hSx => by obtain ⟨xw, rfl⟩ := hSx; go_simp; first | done | with_reducible rfl) ?_
        simp only [Act.put]
        refine wpAnyM_take 9 rfl (by kernel_rfl) (by kernel_rfl) (by kernel_rfl) (by kernel_rfl) (by kernel_rfl) (fun _ _ _ h => by obtain ⟨_, _, _, _, _, _, _, _, h, _⟩ := h; cases h) hSw (by kernel_rfl) (fun w' hSx => by obtain ⟨xw, rfl⟩ := hSx; go_simp; first | done | with_reducible rfl) ?_
        simp only [Act.put]
        refine wpAnyM_take 11 rfl (by kernel_rfl) (by kernel_rfl) (by kernel_rfl) (by kernel_rfl) (by kernel_rfl) (fun _ _ _ h => by obtain ⟨_, _, _, _, _, _, _, _, h, _⟩ := h; cases h) hSw (by kernel_rfl) (fun w' hSx => by obtain ⟨xw, rfl⟩ := hSx; go_simp; first | done | with_reducible rfl) ?_
        simp only [Act.put]
        refine wpAnyM_ready [8,12] (by kernel_rfl) (by simp) ?_
        refine AllReadyM.cons (by rfl) (fun K hK => ?_) (AllReadyM.cons (by rfl) (fun K hK => ?_) AllReadyM.nil)
        · go_simp
          have dh : (w5.alloc (.cells #[] 9)).drew.heap.size = w5.heap.size + 1 := by simp
          have HDH := Lib.hid dh
          clear dh
          have dx : Below w5.heap.size w5 (w5.alloc (.cells #[] 9)).drew := ((Below.refl w5.heap.size w5).alloc (Nat.le_refl _) (.cells #[] 9)).drew
          have E6 : Hid ((w5.alloc (.cells #[] 9)).drew.ownsRow w5.heap.size 9 1 (.slice (some ⟨w5.heap.size, 0, none⟩) 0 0) 0 (txts [])) := World.ownsRow_lit w5 #[] 0 (Nat.le_refl _) (by unfold maxLen; omega) rfl
          have D6 : Hid (Below w5.heap.size w5 (w5.alloc (.cells #[] 9)).drew) := dx
          refine hK.out _ _ ⟨⟨_, D6.out⟩, rfl⟩ ?_
          clear hK K dx
          skip
          generalize (w5.alloc (.cells #[] 9)).drew = w6 at *
          refine wpAnyM_ready [10,12] (by kernel_rfl) (by simp) ?_
          refine AllReadyM.cons (by rfl) (fun K hK => ?_) (AllReadyM.cons (by rfl) (fun K hK => ?_) AllReadyM.nil)
          · have H7 : Reads w6 w6.heap.size 1 As ns (txts set) := HS.out.go (FR.out.trans (D6.out.mono FR.out.size))
            refine step_append_any _ (by rfl) _ _ _ (by rfl) w5.heap.size 9 j0 _ 1 16 Try.underlying22 hj0 hjz0 hjz1 hjz2 rfl (by decide) (.slice (some ⟨w5.heap.size, 0, none⟩) 0 0) 0 (txts []) (by rfl) E6.out w6.heap.size As ns cs (txts set) (by rfl) H7 (by simp [txts, Value.oneCell']) (by unfold maxLen; omega) (by omega) D6.out.size ?_
            intro v7 w7 hown hgr _
            have D7 := Lib.hid (below_grown D6.out hgr E6.out (Nat.le_refl _) D6.out.size)
            have E7 : Hid (w7.ownsRow w5.heap.size 9 1 v7 ns (txts set)) := by rw [Nat.zero_add] at hown; exact hown
            refine hK.out _ _ ⟨⟨_, D7.out⟩, rfl⟩ ?_
            clear hK K hown hgr H7 E6
            refine wpAnyM_ready [12] (by kernel_rfl) (by simp) ?_
            refine AllReadyM.cons (by rfl) (fun K hK => ?_) AllReadyM.nil
            go_simp
            have dx : Below w7.heap.size w7 (w7.alloc (.cells #[.string s] 9)) := ((Below.refl w7.heap.size w7).alloc (Nat.le_refl _) (.cells #[.string s] 9))
            have L8 : Hid (Blk (w7.alloc (.cells #[.string s] 9)) w7.heap.size 9 #[.string s]) := Blk.new_ w7 _ _ _ rfl
            have D8 : Hid (Below w5.heap.size w5 (w7.alloc (.cells #[.string s] 9))) := D7.out.trans (dx.mono D7.out.size)
            have E8 := Lib.hid (own_go E7.out dx)
            refine hK.out _ _ ⟨⟨_, D8.out⟩, rfl⟩ ?_
            clear hK K dx
            generalize (w7.alloc (.cells #[.string s] 9)) = w8 at *
            refine wpAnyM_ready [13] (by kernel_rfl) (by simp) ?_
            refine AllReadyM.cons (by rfl) (fun K hK => ?_) AllReadyM.nil
            refine step_append_any _ (by rfl) _ _ _ (by rfl) w5.heap.size 9 j0 _ 1 16 Try.underlying22 hj0 hjz0 hjz1 hjz2 rfl (by decide) v7 ns (txts set) (by rfl) E8.out w8.heap.size (some ⟨w7.heap.size, 0, none⟩) 1 1 [.string s] (by rfl) (litx_reads L8.out) (by simp [Value.oneCell']) (by unfold maxLen; omega) (by omega) D8.out.size ?_
            intro v20 w20 hown hgr _
            have D20 := Lib.hid (below_grown D8.out hgr E8.out (Nat.le_refl _) D8.out.size)
            obtain ⟨A9, c9, rfl, hr9⟩ := own_slice hown
            have H20 : Hid (Reads w20 w20.heap.size 1 A9 (ns + 1) (txts (set ++ [s]))) := by unfold txts at hr9 ⊢; rw [List.map_append]; exact hr9
            refine hK.out _ _ ⟨⟨_, D20.out⟩, rfl⟩ ?_
            clear hK K hown hgr hr9 E8
            refine wpAnyM_ready [14] (by kernel_rfl) (by simp) ?_
            refine AllReadyM.cons (by rfl) (fun K hK => ?_) AllReadyM.nil
            go_simp
            refine (CR.out _ _ _ _ _ _ _ _ w20 (FR.out.trans (D20.out.mono FR.out.size)) (HCUT.out.go D20.out) H20.out (by omega) (by omega)).mono ?_
            rintro e w21 ⟨A10, m10, c10, out, is, rfl, h1, h2, hb⟩
            have D21 := Lib.hid (D20.out.trans (hb.mono D20.out.size))
            have HO := Lib.hid (And.intro h1 h2)
            clear h1 h2 hb
            have hSw : (fun w' => ∃ x : Wd w5, w' = x.val) w21 := ⟨⟨_, D21.out⟩, rfl⟩
            refine hK.out _ _ hSw ?_
            clear hK K
            refine wpAnyM_take 15 rfl (by kernel_rfl) (by kernel_rfl) (by kernel_rfl) (by kernel_rfl) (by kernel_rfl) (fun _ _ _ h => by obtain ⟨_, _, _, _, _, _, _, _, h, _⟩ := h; cases h) hSw (by kernel_rfl) (fun w' hSx => by obtain ⟨xw, rfl⟩ := hSx; go_simp; first | done | with_reducible rfl) ?_
            simp only [Act.put]
            refine wpAnyM_take 16 rfl (by kernel_rfl) (by kernel_rfl) (by kernel_rfl) (by kernel_rfl) (by kernel_rfl) (fun _ _ _ h => by obtain ⟨_, _, _, _, _, _, _, _, h, _⟩ := h; cases h) hSw (by kernel_rfl) (fun w' hSx => by obtain ⟨xw, rfl⟩ := hSx; go_simp; first | done | with_reducible rfl) ?_
            simp only [Act.put]
            refine wpAnyM_take 17 rfl (by kernel_rfl) (by kernel_rfl) (by kernel_rfl) (by kernel_rfl) (by kernel_rfl) (fun _ _ _ h => by obtain ⟨_, _, _, _, _, _, _, _, h, _⟩ := h; cases h) hSw (by kernel_rfl) (fun w' hSx => by obtain ⟨xw, rfl⟩ := hSx; go_simp; first | done | with_reducible rfl) ?_
            simp only [Act.put]
            refine wpAnyM_take 18 rfl (by kernel_rfl) (by kernel_rfl) (by kernel_rfl) (by kernel_rfl) (by kernel_rfl) (fun _ _ _ h => by obtain ⟨_, _, _, _, _, _, _, _, h, _⟩ := h; cases h) hSw (by kernel_rfl) (fun w' hSx => by obtain ⟨xw, rfl⟩ := hSx; go_simp; first | done | with_reducible rfl) ?_
            simp only [Act.put]
            refine wpAnyM_take 19 rfl (by kernel_rfl) (by kernel_rfl) (by kernel_rfl) (by kernel_rfl) (by kernel_rfl) (fun _ _ _ h => by obtain ⟨_, _, _, _, _, _, _, _, h, _⟩ := h; cases h) hSw (by kernel_rfl) (fun w' hSx => by obtain ⟨xw, rfl⟩ := hSx; go_simp; first | done | with_reducible rfl) ?_
            simp only [Act.put]
            refine wpAnyM_done (by kernel_rfl) ?_ _
            go_simp
            generalize Value.slice (some ⟨w5.heap.size, 0, none⟩) 0 0 = v42
            generalize Value.slice (some ⟨w7.heap.size, 0, none⟩) 1 1 = v46
            generalize Value.slice A9 (ns + 1) c9 = v47
            exact ⟨v42, v7, v46, v47, A10, m10, c10, is, rfl, rfl, out, HO.out, D21.out⟩
          · go_simp
            have dx : Below w6.heap.size w6 (w6.alloc (.cells #[.string s] 9)) := ((Below.refl w6.heap.size w6).alloc (Nat.le_refl _) (.cells #[.string s] 9))
            have L7 : Hid (Blk (w6.alloc (.cells #[.string s] 9)) w6.heap.size 9 #[.string s]) := Blk.new_ w6 _ _ _ rfl
            have D7 : Hid (Below w5.heap.size w5 (w6.alloc (.cells #[.string s] 9))) := D6.out.trans (dx.mono D6.out.size)
            have E7 := Lib.hid (own_go E6.out dx)
            refine hK.out _ _ ⟨⟨_, D7.out⟩, rfl⟩ ?_
            clear hK K dx
            generalize (w6.alloc (.cells #[.string s] 9)) = w7 at *
            refine wpAnyM_ready [10] (by kernel_rfl) (by simp) ?_
            refine AllReadyM.cons (by rfl) (fun K hK => ?_) AllReadyM.nil
            have H8 : Reads w7 w7.heap.size 1 As ns (txts set) := HS.out.go (FR.out.trans (D7.out.mono FR.out.size))
            refine step_append_any _ (by rfl) _ _ _ (by rfl) w5.heap.size 9 j0 _ 1 16 Try.underlying22 hj0 hjz0 hjz1 hjz2 rfl (by decide) (.slice (some ⟨w5.heap.size, 0, none⟩) 0 0) 0 (txts []) (by rfl) E7.out w7.heap.size As ns cs (txts set) (by rfl) H8 (by simp [txts, Value.oneCell']) (by unfold maxLen; omega) (by omega) D7.out.size ?_
            intro v8 w8 hown hgr _
            have D8 := Lib.hid (below_grown D7.out hgr E7.out (Nat.le_refl _) D7.out.size)
            have E8 : Hid (w8.ownsRow w5.heap.size 9 1 v8 ns (txts set)) := by rw [Nat.zero_add] at hown; exact hown
            have L8 := Lib.hid (L7.out.grown hgr (by have := HDH.out; show some w6.heap.size ≠ some w5.heap.size; simp; omega))
            refine hK.out _ _ ⟨⟨_, D8.out⟩, rfl⟩ ?_
            clear hK K hown hgr H8 E7
            refine wpAnyM_ready [13] (by kernel_rfl) (by simp) ?_
            refine AllReadyM.cons (by rfl) (fun K hK => ?_) AllReadyM.nil
            refine step_append_any _ (by rfl) _ _ _ (by rfl) w5.heap.size 9 j0 _ 1 16 Try.underlying22 hj0 hjz0 hjz1 hjz2 rfl (by decide) v8 ns (txts set) (by rfl) E8.out w8.heap.size (some ⟨w6.heap.size, 0, none⟩) 1 1 [.string s] (by rfl) (litx_reads L8.out) (by simp [Value.oneCell']) (by unfold maxLen; omega) (by omega) D8.out.size ?_
            intro v20 w20 hown hgr _
            have D20 := Lib.hid (below_grown D8.out hgr E8.out (Nat.le_refl _) D8.out.size)
            obtain ⟨A9, c9, rfl, hr9⟩ := own_slice hown
            have H20 : Hid (Reads w20 w20.heap.size 1 A9 (ns + 1) (txts (set ++ [s]))) := by unfold txts at hr9 ⊢; rw [List.map_append]; exact hr9
            refine hK.out _ _ ⟨⟨_, D20.out⟩, rfl⟩ ?_
            clear hK K hown hgr hr9 E8
            refine wpAnyM_ready [14] (by kernel_rfl) (by simp) ?_
            refine AllReadyM.cons (by rfl) (fun K hK => ?_) AllReadyM.nil
            go_simp
            refine (CR.out _ _ _ _ _ _ _ _ w20 (FR.out.trans (D20.out.mono FR.out.size)) (HCUT.out.go D20.out) H20.out (by omega) (by omega)).mono ?_
            rintro e w21 ⟨A10, m10, c10, out, is, rfl, h1, h2, hb⟩
            have D21 := Lib.hid (D20.out.trans (hb.mono D20.out.size))
            have HO := Lib.hid (And.intro h1 h2)
            clear h1 h2 hb
            have hSw : (fun w' => ∃ x : Wd w5, w' = x.val) w21 := ⟨⟨_, D21.out⟩, rfl⟩
            refine hK.out _ _ hSw ?_
            clear hK K
            refine wpAnyM_take 15 rfl (by kernel_rfl) (by kernel_rfl) (by kernel_rfl) (by kernel_rfl) (by kernel_rfl) (fun _ _ _ h => by obtain ⟨_, _, _, _, _, _, _, _, h, _⟩ := h; cases h) hSw (by kernel_rfl) (fun w' hSx => by obtain ⟨xw, rfl⟩ := hSx; go_simp; first | done | with_reducible rfl) ?_
            simp only [Act.put]
            refine wpAnyM_take 16 rfl (by kernel_rfl) (by kernel_rfl) (by kernel_rfl) (by kernel_rfl) (by kernel_rfl) (fun _ _ _ h => by obtain ⟨_, _, _, _, _, _, _, _, h, _⟩ := h; cases h) hSw (by kernel_rfl) (fun w' hSx => by obtain ⟨xw, rfl⟩ := hSx; go_simp; first | done | with_reducible rfl) ?_
            simp only [Act.put]
            refine wpAnyM_take 17 rfl (by kernel_rfl) (by kernel_rfl) (by kernel_rfl) (by kernel_rfl) (by kernel_rfl) (fun _ _ _ h => by obtain ⟨_, _, _, _, _, _, _, _, h, _⟩ := h; cases h) hSw (by kernel_rfl) (fun w' hSx => by obtain ⟨xw, rfl⟩ := hSx; go_simp; first | done | with_reducible rfl) ?_
            simp only [Act.put]
            refine wpAnyM_take 18 rfl (by kernel_rfl) (by kernel_rfl) (by kernel_rfl) (by kernel_rfl) (by kernel_rfl) (fun _ _ _ h => by obtain ⟨_, _, _, _, _, _, _, _, h, _⟩ := h; cases h) hSw (by kernel_rfl) (fun w' hSx => by obtain ⟨xw, rfl⟩ := hSx; go_simp; first | done | with_reducible rfl) ?_
            simp only [Act.put]
            refine wpAnyM_take 19 rfl (by kernel_rfl) (by kernel_rfl) (by kernel_rfl) (by kernel_rfl) (by kernel_rfl) (fun _ _ _ h => by obtain ⟨_, _, _, _, _, _, _, _, h, _⟩ := h; cases h) hSw (by kernel_rfl) (fun w' hSx => by obtain ⟨xw, rfl⟩ := hSx; go_simp; first | done | with_reducible rfl) ?_
            simp only [Act.put]
            refine wpAnyM_done (by kernel_rfl) ?_ _
            go_simp
            generalize Value.slice (some ⟨w5.heap.size, 0, none⟩) 0 0 = v42
            generalize Value.slice (some ⟨w6.heap.size, 0, none⟩) 1 1 = v46
            generalize Value.slice A9 (ns + 1) c9 = v47
            exact ⟨v42, v8, v46, v47, A10, m10, c10, is, rfl, rfl, out, HO.out, D21.out⟩
        · go_simp
          have dh : (w5.alloc (.cells #[.string s] 9)).drew.heap.size = w5.heap.size + 1 := by simp
          have HDH := Lib.hid dh
          clear dh
          have dx : Below w5.heap.size w5 (w5.alloc (.cells #[.string s] 9)).drew := ((Below.refl w5.heap.size w5).alloc (Nat.le_refl _) (.cells #[.string s] 9)).drew
          have L6 : Hid (Blk (w5.alloc (.cells #[.string s] 9)).drew w5.heap.size 9 #[.string s]) := Blk.new_ w5 _ _ _ rfl
          have D6 : Hid (Below w5.heap.size w5 (w5.alloc (.cells #[.string s] 9)).drew) := dx
          refine hK.out _ _ ⟨⟨_, D6.out⟩, rfl⟩ ?_
          clear hK K dx
          generalize (w5.alloc (.cells #[.string s] 9)).drew = w6 at *
          refine wpAnyM_ready [8] (by kernel_rfl) (by simp) ?_
          refine AllReadyM.cons (by rfl) (fun K hK => ?_) AllReadyM.nil
          go_simp
          have dx : Below w6.heap.size w6 (w6.alloc (.cells #[] 9)) := ((Below.refl w6.heap.size w6).alloc (Nat.le_refl _) (.cells #[] 9))
          have E7 : Hid ((w6.alloc (.cells #[] 9)).ownsRow w5.heap.size 9 1 (.slice (some ⟨w6.heap.size, 0, none⟩) 0 0) 0 (txts [])) := World.ownsRow_lit w6 #[] 0 (D6.out.size) (by unfold maxLen; omega) rfl
          have D7 : Hid (Below w5.heap.size w5 (w6.alloc (.cells #[] 9))) := D6.out.trans (dx.mono D6.out.size)
          have L7 := Lib.hid (L6.out.go dx)
          refine hK.out _ _ ⟨⟨_, D7.out⟩, rfl⟩ ?_
          clear hK K dx
          generalize (w6.alloc (.cells #[] 9)) = w7 at *
          refine wpAnyM_ready [10] (by kernel_rfl) (by simp) ?_
          refine AllReadyM.cons (by rfl) (fun K hK => ?_) AllReadyM.nil
          have H8 : Reads w7 w7.heap.size 1 As ns (txts set) := HS.out.go (FR.out.trans (D7.out.mono FR.out.size))
          refine step_append_any _ (by rfl) _ _ _ (by rfl) w5.heap.size 9 j0 _ 1 16 Try.underlying22 hj0 hjz0 hjz1 hjz2 rfl (by decide) (.slice (some ⟨w6.heap.size, 0, none⟩) 0 0) 0 (txts []) (by rfl) E7.out w7.heap.size As ns cs (txts set) (by rfl) H8 (by simp [txts, Value.oneCell']) (by unfold maxLen; omega) (by omega) D7.out.size ?_
          intro v8 w8 hown hgr _
          have D8 := Lib.hid (below_grown D7.out hgr E7.out (Nat.le_refl _) D7.out.size)
          have E8 : Hid (w8.ownsRow w5.heap.size 9 1 v8 ns (txts set)) := by rw [Nat.zero_add] at hown; exact hown
          have L8 := Lib.hid (L7.out.grown hgr (by have := HDH.out; show some w5.heap.size ≠ some w6.heap.size; simp; omega))
          refine hK.out _ _ ⟨⟨_, D8.out⟩, rfl⟩ ?_
          clear hK K hown hgr H8 E7
          refine wpAnyM_ready [13] (by kernel_rfl) (by simp) ?_
          refine AllReadyM.cons (by rfl) (fun K hK => ?_) AllReadyM.nil
          refine step_append_any _ (by rfl) _ _ _ (by rfl) w5.heap.size 9 j0 _ 1 16 Try.underlying22 hj0 hjz0 hjz1 hjz2 rfl (by decide) v8 ns (txts set) (by rfl) E8.out w8.heap.size (some ⟨w5.heap.size, 0, none⟩) 1 1 [.string s] (by rfl) (litx_reads L8.out) (by simp [Value.oneCell']) (by unfold maxLen; omega) (by omega) D8.out.size ?_
          intro v20 w20 hown hgr _
          have D20 := Lib.hid (below_grown D8.out hgr E8.out (Nat.le_refl _) D8.out.size)
          obtain ⟨A9, c9, rfl, hr9⟩ := own_slice hown
          have H20 : Hid (Reads w20 w20.heap.size 1 A9 (ns + 1) (txts (set ++ [s]))) := by unfold txts at hr9 ⊢; rw [List.map_append]; exact hr9
          refine hK.out _ _ ⟨⟨_, D20.out⟩, rfl⟩ ?_
          clear hK K hown hgr hr9 E8
          refine wpAnyM_ready [14] (by kernel_rfl) (by simp) ?_
          refine AllReadyM.cons (by rfl) (fun K hK => ?_) AllReadyM.nil
          go_simp
          refine (CR.out _ _ _ _ _ _ _ _ w20 (FR.out.trans (D20.out.mono FR.out.size)) (HCUT.out.go D20.out) H20.out (by omega) (by omega)).mono ?_
          rintro e w21 ⟨A10, m10, c10, out, is, rfl, h1, h2, hb⟩
          have D21 := Lib.hid (D20.out.trans (hb.mono D20.out.size))
          have HO := Lib.hid (And.intro h1 h2)
          clear h1 h2 hb
          have hSw : (fun w' => ∃ x : Wd w5, w' = x.val) w21 := ⟨⟨_, D21.out⟩, rfl⟩
          refine hK.out _ _ hSw ?_
          clear hK K
          refine wpAnyM_take 15 rfl (by kernel_rfl) (by kernel_rfl) (by kernel_rfl) (by kernel_rfl) (by kernel_rfl) (fun _ _ _ h => by obtain ⟨_, _, _, _, _, _, _, _, h, _⟩ := h; cases h) hSw (by kernel_rfl) (fun w' hSx => by obtain ⟨xw, rfl⟩ := hSx; go_simp; first | done | with_reducible rfl) ?_
          simp only [Act.put]
          refine wpAnyM_take 16 rfl (by kernel_rfl) (by kernel_rfl) (by kernel_rfl) (by kernel_rfl) (by kernel_rfl) (fun _ _ _ h => by obtain ⟨_, _, _, _, _, _, _, _, h, _⟩ := h; cases h) hSw (by kernel_rfl) (fun w' hSx => by obtain ⟨xw, rfl⟩ := hSx; go_simp; first | done | with_reducible rfl) ?_
          simp only [Act.put]
          refine wpAnyM_take 17 rfl (by kernel_rfl) (by kernel_rfl) (by kernel_rfl) (by kernel_rfl) (by kernel_rfl) (fun _ _ _ h => by obtain ⟨_, _, _, _, _, _, _, _, h, _⟩ := h; cases h) hSw (by kernel_rfl) (fun w' hSx => by obtain ⟨xw, rfl⟩ := hSx; go_simp; first | done | with_reducible rfl) ?_
          simp only [Act.put]
          refine wpAnyM_take 18 rfl (by kernel_rfl) (by kernel_rfl) (by kernel_rfl) (by kernel_rfl) (by kernel_rfl) (fun _ _ _ h => by obtain ⟨_, _, _, _, _, _, _, _, h, _⟩ := h; cases h) hSw (by kernel_rfl) (fun w' hSx => by obtain ⟨xw, rfl⟩ := hSx; go_simp; first | done | with_reducible rfl) ?_
          simp only [Act.put]
          refine wpAnyM_take 19 rfl (by kernel_rfl) (by kernel_rfl) (by kernel_rfl) (by kernel_rfl) (by kernel_rfl) (fun _ _ _ h => by obtain ⟨_, _, _, _, _, _, _, _, h, _⟩ := h; cases h) hSw (by kernel_rfl) (fun w' hSx => by obtain ⟨xw, rfl⟩ := hSx; go_simp; first | done | with_reducible rfl) ?_
          simp only [Act.put]
          refine wpAnyM_done (by kernel_rfl) ?_ _
          go_simp
          generalize Value.slice (some ⟨w6.heap.size, 0, none⟩) 0 0 = v42
          generalize Value.slice (some ⟨w5.heap.size, 0, none⟩) 1 1 = v46
          generalize Value.slice A9 (ns + 1) c9 = v47
          exact ⟨v42, v8, v46, v47, A10, m10, c10, is, rfl, rfl, out, HO.out, D21.out⟩
      · intro v42 v44 v46 v47 A10 m10 c10 is w6 hR
        obtain ⟨out, ⟨HO1, HO2⟩, D6⟩ := hR
        clear e0 e1 e2 e3 e4 e5 f0 f1 hj0 hjz0 hjz1 hjz2 hsl HCUT CR wk
        have G6 : Hid (Below w3.heap.size w3 w6) := GR.out.trans (D6.mono GR.out.size)
        have F6 := Lib.hid (FR.out.trans (D6.mono FR.out.size))
        have B6 := Lib.hid (BR.out.go D6)
        have P6 := Lib.hid (PR.out.go D6)
        have HB6 : Hid (∀ x, best = some x → Reads w6 w6.heap.size 1 Ab mb (txts x)) := fun x h => (HBR.out x h).go D6
        clear GR FR BR PR HBR D6
        have wk : IntKind.i64.wrap ((k : Int) + 1) = (k : Int) + 1 := IntWalk.i64_in _ (by omega)
        cases is
        · have HCQ : Hid (CPv = Pl.goP (Pl.nearN N br part b) (Pl.chooseP (Pl.isoD N br part) (Pl.nearN N br part b) size) set (all.drop (k + 1)) best) := by have h := HCP.out; show _ = _; rw [h]; show Pl.goP _ _ _ _ (Pl.updP _ best ((Pl.chooseP (Pl.isoD N br part) (Pl.nearN N br part b) size) _ _)) = _; rw [HO2 rfl]; rfl
          clear HO1 HO2 HCP
          go_wp2_with fail
          go_quiet (fail)
          go_wp2_with fail
          go_roundw
          case rel => exact ⟨k + 1, mb, cb, Ab, best, by omega, by go_num, rfl, by rw [HBS.out], hmb, HCQ, (fun x h => (HB6.out x h).drewN _), below_drewN G6.out _⟩
          case measure => simp [intOf]; omega
        · obtain ⟨hcp, hrd⟩ := HO1 rfl
          have HRD := Lib.hid hrd
          have hm10 : m10 ≤ 1000 := by have h1 := HLN.out _ _ _ hcp; have h2 := txts_len hrd; have h3 := HLS.out; rw [List.length_append, h3] at h1; simp at h1; omega
          clear HO1 HO2 hrd
          cases bs
          · have hbn : best = none := by have h := HBS.out; cases best; rfl; cases h
            subst hbn
            have HCQ : Hid (CPv = Pl.goP (Pl.nearN N br part b) (Pl.chooseP (Pl.isoD N br part) (Pl.nearN N br part b) size) set (all.drop (k + 1)) (some out)) := by have h := HCP.out; show _ = _; rw [h]; show Pl.goP _ _ _ _ (Pl.updP _ none ((Pl.chooseP (Pl.isoD N br part) (Pl.nearN N br part b) size) _ _)) = _; rw [hcp]; rfl
            clear HCP hcp HB6
            go_wp2_with fail
            go_quiet (fail)
            go_wp2_with fail
            go_roundw
            case rel => exact ⟨k + 1, m10, c10, A10, some out, by omega, by go_num, rfl, rfl, hm10, HCQ, (fun x h => by injection h with h; subst h; exact HRD.out.drewN _), below_drewN G6.out _⟩
            case measure => simp [intOf]; omega
          · obtain ⟨x, rfl⟩ : ∃ x, best = some x := by have h := HBS.out; cases best with | none => cases h | some x => exact ⟨x, rfl⟩
            have HX6 := Lib.hid (HB6.out x rfl)
            have HCQ : Hid (CPv = Pl.goP (Pl.nearN N br part b) (Pl.chooseP (Pl.isoD N br part) (Pl.nearN N br part b) size) set (all.drop (k + 1)) (if (Pl.nearN N br part b) out < (Pl.nearN N br part b) x then some out else some x)) := by have h := HCP.out; show _ = _; rw [h]; show Pl.goP _ _ _ _ (Pl.updP _ (some x) ((Pl.chooseP (Pl.isoD N br part) (Pl.nearN N br part b) size) _ _)) = _; rw [hcp]; rfl
            clear HCP hcp HB6
            have e0 := Wd.cell (B6.out.cell 0 : w6.cell? ⟨w.heap.size, 0, none⟩ = some (.slice A0 n0 c0))
            have e1 := Wd.cell (B6.out.cell 1 : w6.cell? ⟨w.heap.size, 1, none⟩ = some (.slice A1 n1 c1))
            have e2 := Wd.cell (B6.out.cell 2 : w6.cell? ⟨w.heap.size, 2, none⟩ = some (.slice A2 n2 c2))
            have e3 := Wd.cell (B6.out.cell 3 : w6.cell? ⟨w.heap.size, 3, none⟩ = some (.slice A3 n3 c3))
            have e4 := Wd.cell (B6.out.cell 4 : w6.cell? ⟨w.heap.size, 4, none⟩ = some (.slice A4 n4 c4))
            have e5 := Wd.cell (B6.out.cell 5 : w6.cell? ⟨w.heap.size, 5, none⟩ = some (.slice A5 n5 c5))
            have f0 := Wd.cell (P6.out.cell 0 : w6.cell? ⟨w.heap.size + 1, 0, none⟩ = some (.string br))
            have f1 := Wd.cell (P6.out.cell 1 : w6.cell? ⟨w.heap.size + 1, 1, none⟩ = some (.int .i64 part))
            go_wp2_with fail
            apply wp_join6 (fun (Ax : Option Addr) (mx cx : Nat) (Ay : Option Addr) (my cy : Nat) w' => NeR N br part b out x w6 mx my w')
            · have hSw : (fun w' => ∃ x : Wd w6, w' = x.val) w6.drew := ⟨⟨w6.drew, (Below.refl _ _).drew⟩, rfl⟩
              refine wp_region_mid (fun w' => ∃ x : Wd w6, w' = x.val) 18 (by kernel_rfl) ?_
              refine wpAnyM_take 0 rfl (by kernel_rfl) (by kernel_rfl) (by kernel_rfl) (by kernel_rfl) (by kernel_rfl) (fun _ _ _ h => by obtain ⟨_, _, _, _, _, _, h, _⟩ := h; cases h) hSw (by kernel_rfl) (fun w' hSx => by obtain ⟨xw, rfl⟩ := hSx; go_simp; first | done | with_reducible rfl) ?_
              simp only [Act.put, List.setIfInBounds_toArray]
              refine wpAnyM_take 1 rfl (by kernel_rfl) (by kernel_rfl) (by kernel_rfl) (by kernel_rfl) (by kernel_rfl) (fun _ _ _ h => by obtain ⟨_, _, _, _, _, _, h, _⟩ := h; cases h) hSw (by kernel_rfl) (fun w' hSx => by obtain ⟨xw, rfl⟩ := hSx; go_simp; first | done | with_reducible rfl) ?_
              simp only [Act.put]
              refine wpAnyM_take 2 rfl (by kernel_rfl) (by kernel_rfl) (by kernel_rfl) (by kernel_rfl) (by kernel_rfl) (fun _ _ _ h => by obtain ⟨_, _, _, _, _, _, h, _⟩ := h; cases h) hSw (by kernel_rfl) (fun w' hSx => by obtain ⟨xw, rfl⟩ := hSx; go_simp; first | done | with_reducible rfl) ?_
              simp only [Act.put]
              refine wpAnyM_take 3 rfl (by kernel_rfl) (by kernel_rfl) (by kernel_rfl) (by kernel_rfl) (by kernel_rfl) (fun _ _ _ h => by obtain ⟨_, _, _, _, _, _, h, _⟩ := h; cases h) hSw (by kernel_rfl) (fun w' hSx => by obtain ⟨xw, rfl⟩ := hSx; go_simp; first | done | with_reducible rfl) ?_
              simp only [Act.put]
              refine wpAnyM_take 4 rfl (by kernel_rfl) (by kernel_rfl) (by kernel_rfl) (by kernel_rfl) (by kernel_rfl) (fun _ _ _ h => by obtain ⟨_, _, _, _, _, _, h, _⟩ := h; cases h) hSw (by kernel_rfl) (fun w' hSx => by obtain ⟨xw, rfl⟩ := hSx; go_simp; first | done | with_reducible rfl) ?_
              simp only [Act.put]
              refine wpAnyM_take 5 rfl (by kernel_rfl) (by kernel_rfl) (by kernel_rfl) (by kernel_rfl) (by kernel_rfl) (fun _ _ _ h => by obtain ⟨_, _, _, _, _, _, h, _⟩ := h; cases h) hSw (by kernel_rfl) (fun w' hSx => by obtain ⟨xw, rfl⟩ := hSx; go_simp; first | done | with_reducible rfl) ?_
              simp only [Act.put]
              refine wpAnyM_take 6 rfl (by kernel_rfl) (by kernel_rfl) (by kernel_rfl) (by kernel_rfl) (by kernel_rfl) (fun _ _ _ h => by obtain ⟨_, _, _, _, _, _, h, _⟩ := h; cases h) hSw (by kernel_rfl) (fun w' hSx => by obtain ⟨xw, rfl⟩ := hSx; go_simp; first | done | with_reducible rfl) ?_
              simp only [Act.put]
              refine wpAnyM_take 7 rfl (by kernel_rfl) (by kernel_rfl) (by kernel_rfl) (by kernel_rfl) (by kernel_rfl) (fun _ _ _ h => by obtain ⟨_, _, _, _, _, _, h, _⟩ := h; cases h) hSw (by kernel_rfl) (fun w' hSx => by obtain ⟨xw, rfl⟩ := hSx; go_simp; first | done | with_reducible rfl) ?_
              simp only [Act.put]
              refine wpAnyM_take 10 rfl (by kernel_rfl) (by kernel_rfl) (by kernel_rfl) (by kernel_rfl) (by kernel_rfl) (fun _ _ _ h => by obtain ⟨_, _, _, _, _, _, h, _⟩ := h; cases h) hSw (by kernel_rfl) (fun w' hSx => by obtain ⟨xw, rfl⟩ := hSx; go_simp; first | done | with_reducible rfl) ?_
              simp only [Act.put]
              refine wpAnyM_take 11 rfl (by kernel_rfl) (by kernel_rfl) (by kernel_rfl) (by kernel_rfl) (by kernel_rfl) (fun _ _ _ h => by obtain ⟨_, _, _, _, _, _, h, _⟩ := h; cases h) hSw (by kernel_rfl) (fun w' hSx => by obtain ⟨xw, rfl⟩ := hSx; go_simp; first | done | with_reducible rfl) ?_
              simp only [Act.put]
              refine wpAnyM_take 12 rfl (by kernel_rfl) (by kernel_rfl) (by kernel_rfl) (by kernel_rfl) (by kernel_rfl) (fun _ _ _ h => by obtain ⟨_, _, _, _, _, _, h, _⟩ := h; cases h) hSw (by kernel_rfl) (fun w' hSx => by obtain ⟨xw, rfl⟩ := hSx; go_simp; first | done | with_reducible rfl) ?_
              simp only [Act.put]
              refine wpAnyM_ready [8] (by kernel_rfl) (by simp) ?_
              refine AllReadyM.cons (by rfl) (fun K hK => ?_) AllReadyM.nil
              go_simp
              refine (CN.out _ _ _ out _ (F6.out.trans (((Below.refl w6.heap.size w6).drew).mono F6.out.size)) (HRD.out.go ((Below.refl w6.heap.size w6).drew)) (by omega)).mono ?_
              rintro e w7 ⟨Ax, mx, cx, rfl, hmx, hb⟩
              have HMx := Lib.hid hmx
              have d7 : Below w6.heap.size w6 w7 := ((Below.refl w6.heap.size w6).drew).trans (hb.mono ((Below.refl w6.heap.size w6).drew).size)
              clear hmx hb
              have hSw : (fun w' => ∃ x : Wd w6, w' = x.val) w7 := ⟨⟨_, d7⟩, rfl⟩
              refine hK.out _ _ hSw ?_
              clear hK K
              refine wpAnyM_take 9 rfl (by kernel_rfl) (by kernel_rfl) (by kernel_rfl) (by kernel_rfl) (by kernel_rfl) (fun _ _ _ h => by obtain ⟨_, _, _, _, _, _, h, _⟩ := h; cases h) hSw (by kernel_rfl) (fun w' hSx => by obtain ⟨xw, rfl⟩ := hSx; go_simp; first | done | with_reducible rfl) ?_
              simp only [Act.put]
              refine wpAnyM_ready [13] (by kernel_rfl) (by simp) ?_
              refine AllReadyM.cons (by rfl) (fun K hK => ?_) AllReadyM.nil
              go_simp
              refine (CN.out _ _ _ x _ (F6.out.trans (d7.mono F6.out.size)) (HX6.out.go d7) (by omega)).mono ?_
              rintro e w8 ⟨Ay, my, cy, rfl, hmy, hb⟩
              have HMy := Lib.hid hmy
              have d8 : Below w6.heap.size w6 w8 := d7.trans (hb.mono d7.size)
              clear hmy hb
              have hSw : (fun w' => ∃ x : Wd w6, w' = x.val) w8 := ⟨⟨_, d8⟩, rfl⟩
              refine hK.out _ _ hSw ?_
              clear hK K
              refine wpAnyM_take 14 rfl (by kernel_rfl) (by kernel_rfl) (by kernel_rfl) (by kernel_rfl) (by kernel_rfl) (fun _ _ _ h => by obtain ⟨_, _, _, _, _, _, h, _⟩ := h; cases h) hSw (by kernel_rfl) (fun w' hSx => by obtain ⟨xw, rfl⟩ := hSx; go_simp; first | done | with_reducible rfl) ?_
              simp only [Act.put]
              refine wpAnyM_take 15 rfl (by kernel_rfl) (by kernel_rfl) (by kernel_rfl) (by kernel_rfl) (by kernel_rfl) (fun _ _ _ h => by obtain ⟨_, _, _, _, _, _, h, _⟩ := h; cases h) hSw (by kernel_rfl) (fun w' hSx => by obtain ⟨xw, rfl⟩ := hSx; go_simp; first | done | with_reducible rfl) ?_
              simp only [Act.put]
              refine wpAnyM_take 16 rfl (by kernel_rfl) (by kernel_rfl) (by kernel_rfl) (by kernel_rfl) (by kernel_rfl) (fun _ _ _ h => by obtain ⟨_, _, _, _, _, _, h, _⟩ := h; cases h) hSw (by kernel_rfl) (fun w' hSx => by obtain ⟨xw, rfl⟩ := hSx; go_simp; first | done | with_reducible rfl) ?_
              simp only [Act.put]
              refine wpAnyM_take 17 rfl (by kernel_rfl) (by kernel_rfl) (by kernel_rfl) (by kernel_rfl) (by kernel_rfl) (fun _ _ _ h => by obtain ⟨_, _, _, _, _, _, h, _⟩ := h; cases h) hSw (by kernel_rfl) (fun w' hSx => by obtain ⟨xw, rfl⟩ := hSx; go_simp; first | done | with_reducible rfl) ?_
              simp only [Act.put]
              refine wpAnyM_done (by kernel_rfl) ?_ _
              go_simp
              exact ⟨Ax, mx, cx, Ay, my, cy, rfl, rfl, HMx.out, HMy.out, d8⟩
            · intro Ax mx cx Ay my cy w9 hR
              obtain ⟨hmx, hmy, d9⟩ := hR
              have G9 : Hid (Below w3.heap.size w3 w9) := G6.out.trans (d9.mono G6.out.size)
              have HR9 := Lib.hid (HRD.out.go d9)
              have HX9 := Lib.hid (HX6.out.go d9)
              rw [← hmx, ← hmy] at HCQ
              clear hmx hmy d9 e0 e1 e2 e3 e4 e5 f0 f1 B6 P6 F6 G6 HRD HX6
              by_cases hlt : mx < my
              · rw [if_pos hlt] at HCQ
                have hd : decide ((mx : Int) < (my : Int)) = true := by simp [hlt]
                have hd2 : decide (mx < my) = true := by simp [hlt]
                go_wp2_with fail
                go_roundw
                case rel => exact ⟨k + 1, m10, c10, A10, some out, by omega, by go_num, rfl, rfl, hm10, HCQ, (fun x h => by injection h with h; subst h; exact HR9.out), G9⟩
                case measure => simp [intOf]; omega
              · rw [if_neg hlt] at HCQ
                have hd : decide ((mx : Int) < (my : Int)) = false := by simp; omega
                have hd2 : decide (mx < my) = false := by simp; omega
                go_wp2_with fail
                go_roundw
                case rel => exact ⟨k + 1, mb, cb, Ab, some x, by omega, by go_num, rfl, rfl, hmb, HCQ, (fun x h => by injection h with h; subst h; exact HX9.out), G9⟩
                case measure => simp [intOf]; omega
    · have HE : Hid (CPv = best) := by have h := HCP.out; rw [List.drop_eq_nil_of_le (by have := HLA.out; omega)] at h; exact h
      have hkl : ¬ ((k : Int) < (na : Int)) := by omega
      clear HCP
      go_wp2_with fail
      go_ret2
      cases best with
      | none => exact ⟨Ab, mb, cb, [], .inl ⟨rfl, HE.out, FR.out⟩⟩
      | some x => exact ⟨Ab, mb, cb, x, .inr ⟨rfl, ⟨HE.out, HBR.out x rfl⟩, FR.out⟩⟩
theorem refchoose_any (M : MNet) (br : ByteArray) (part : Int) (b : Pl.Bra) (hok : Pl.NetOk M.N) (hp : Pl.PlaceOk M.N br part b) : ∀ size, ChooseOk M br part b size
  | 0 => refchoose_zero M br part b hok hp
  | size + 1 => refchoose_succ M br part b hok hp size (Lib.hid (refchoose_any M br part b hok hp size))
end Go.Proofs.Ytpamgeemmbbkkaa
