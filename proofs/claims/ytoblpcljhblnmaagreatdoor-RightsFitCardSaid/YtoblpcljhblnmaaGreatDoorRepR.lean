/- slices.Repeat of one rational number, large.Zeros. Condition: the number's words read; at most a million of them. -/
import Derived.Test.YtoblpcljhblnmaaGreatDoorRepI
import Derived.Test.YtoblpcljhblnmaaGreatDoorRatQ
import Derived.Test.YtoblpcljhblnmaaGreatDoorLgU
namespace Go.Proofs.YtoblpcljhblnmaaGreatDoor
open Go.RowKit
theorem run_copy_wide {P : Program} (w : World) (dT sT ty elem : TypeId) (g o dLen dCap : Nat) (a : Addr) (sLen sCap : Nat) (cur : Array Value) (t : TypeId) (cs : List Value) (i : TypeInfo) (n : Nat)
    (hu : P.underlying dT = some (.slice elem)) (hi : P.info? elem = some i) (hg : w.heap[g]? = some (.cells cur t (0, 0))) (hn : n = Nat.min sLen dLen) (hl : cs.length = n * i.size)
    (hsrc : ∀ j v, cs[j]? = some v → w.cell? (a.add j) = some v) (hfit : o + cs.length ≤ cur.size) (h1 : ∀ v ∈ cs, v.oneCell' = true) :
    (Builtin.copy_ #[dT, sT] ty #[.slice (some ⟨g, o, none⟩) dLen dCap, .slice (some a) sLen sCap]).run P w =
      .ok (goInt n) (w.setRow g (cur.toList.take o ++ cs ++ cur.toList.drop (o + cs.length)).toArray) := by
  have hf := run_firstCells_some (P := P) w i.size n a sLen sCap cs hl hsrc
  have hst := run_storeCells_at P g o t cs 0 cur w hg (by simpa using hfit) h1
  simp only [Nat.add_zero] at hst
  simp [Builtin.copy_, run_underlying hu, Builtin.lenOf, sizeOf, typeInfo, hi, ← hn, hf, hst]
theorem rtl_rep (x : Rt) : ∀ k : Nat, ∀ v ∈ rtl (List.replicate k x), v.oneCell' = true := fun k v hv => by
  unfold rtl at hv
  rw [List.mem_flatMap] at hv
  obtain ⟨y, hy, hv⟩ := hv
  have e := (List.mem_replicate.1 hy).2
  subst e
  simp [rtC] at hv
  rcases hv with rfl | rfl | rfl | rfl <;> rfl
theorem rtl_app (a b : List Rt) : rtl (a ++ b) = rtl a ++ rtl b := by unfold rtl; rw [List.flatMap_append]
theorem rtl_copy (x : Rt) (N k M : Nat) (hM : M ≤ N - k) (hk : k ≤ N) : (rtl (List.replicate k x ++ List.replicate (N - k) rt0)).take (k * 4) ++ rtl (List.replicate M x) ++ (rtl (List.replicate k x ++ List.replicate (N - k) rt0)).drop (k * 4 + M * 4) = rtl (List.replicate (k + M) x ++ List.replicate (N - (k + M)) rt0) := by
  have h1 : (rtl (List.replicate k x)).length = k * 4 := by rw [rtl_len, List.length_replicate]; omega
  have h2 : (rtl (List.replicate M rt0)).length = M * 4 := by rw [rtl_len, List.length_replicate]; omega
  have e : List.replicate (N - k) rt0 = List.replicate M rt0 ++ List.replicate (N - (k + M)) rt0 := by rw [List.replicate_append_replicate]; congr 1; omega
  rw [e, rtl_app, rtl_app, List.take_append_of_le_length (by omega), List.take_of_length_le (by omega), ← List.append_assoc (rtl (List.replicate k x)), List.drop_append, List.drop_of_length_le (by rw [List.length_append]; omega), List.nil_append, List.length_append, show k * 4 + M * 4 - ((rtl (List.replicate k x)).length + (rtl (List.replicate M rt0)).length) = 0 by omega, List.drop_zero]
  rw [rtl_app, ← rtl_app, List.replicate_append_replicate]
theorem elem_rats : Tryz.prog.underlying 94 = some (.slice (Tryz.prog.elem 94)) := by kernel_rfl
theorem size_rats : ∀ w : World, (sizeOf (Tryz.prog.elem 94)).run Tryz.prog w = .ok 4 w := fun _ => by kernel_rfl
set_option maxHeartbeats 3200000 in
set_option maxRecDepth 100000 in
theorem repR_any (x : Rt) (g0 : Nat) (N : Nat) (hN : 1 ≤ N) (hN2 : N ≤ 1000000) (w : World) (hx : Blk w g0 105 (rtC x).toArray) :
    Calls Tryz.prog 68 #[.slice (some ⟨g0, 0, none⟩) 1 1, .int .i64 N] w fun e w' => ∃ g, e = .returned (.slice (some ⟨g, 0, none⟩) N N) ∧ w.heap.size ≤ g ∧ RB w' g (List.replicate N x) ∧ Below w.heap.size w w' := by
  have hmul : ∀ w, Calls Tryz.prog 117 #[.int .u64 1, .int .u64 N] w fun e w' => e = .returned (.tuple #[.int .u64 0, .int .u64 N]) ∧ w' = w := fun w => by
    have h := Any.bits_Mul mulS 1 N (by omega) (by omega) w
    change Calls Tryz.prog 117 _ _ _ at h
    rw [show 1 * N / 18446744073709551616 = 0 by omega, show 1 * N % 18446744073709551616 = N by omega] at h
    exact h
  have HMU := Lib.hid hmul
  clear hmul
  obtain ⟨j0, ji0, jz0, jz1, jz2⟩ := info_parts info_rat
  have hmk := make_rat N (by omega)
  have w1 : IntKind.u64.wrap (N : Int) = N := by rw [IntKind.wrap_u64]; omega
  have w2 : IntKind.i64.wrap (N : Int) = N := IntWalk.i64_in _ (by omega)
  have lt0 := hx.lt
  obtain ⟨ZC, hZC⟩ : ∃ ZC, ZC = (rtl (List.replicate N rt0)).toArray := ⟨_, rfl⟩
  simp only [← hZC] at hmk
  have HZ := Lib.hid hZC
  clear hZC
  have HSR := Lib.hid (show ∀ j v, (rtC x)[j]? = some v → (w.alloc (.cells ZC 105)).cell? ((⟨g0, 0, none⟩ : Addr).add j) = some v from by
    intro j v hj
    rw [Srt.addr_add, World.cell?_alloc_lt _ _ _ lt0, hx.cell, List.getElem?_toArray]
    exact hj)
  have HN1 : Hid (1 = Nat.min 1 N) := (Nat.min_eq_left hN).symm
  have HL1 : Hid ((rtC x).length = 1 * j0.size) := by show _ = _; rw [jz1]; rfl
  have hzl : ZC.size = N * 4 := by rw [HZ.out]; simp [rtl_len]; omega
  have HFT : Hid (0 + (rtC x).length ≤ ZC.size) := by show _ ≤ _; rw [hzl, rtC_len]; omega
  have hcp := fun ty => run_copy_wide (P := Tryz.prog) (w.alloc (.cells ZC 105)) 94 94 ty 105 w.heap.size 0 N N ⟨g0, 0, none⟩ 1 1 ZC 105 (rtC x) j0 1 Tryz.underlying94 ji0 (heap_alloc_new w _) HN1.out HL1.out HSR.out HFT.out (rtC_one x)
  have HB : Hid (RB ((w.alloc (.cells ZC 105)).setRow w.heap.size (ZC.toList.take 0 ++ rtC x ++ ZC.toList.drop (0 + (rtC x).length)).toArray) w.heap.size (List.replicate 1 x ++ List.replicate (N - 1) rt0)) := by
    show Blk _ _ _ _
    unfold Blk
    rw [setRow_heap _ _ _ _ _ _ (heap_alloc_new w _), HZ.out]
    congr 2
    have := rtl_copy x N 0 1 (by omega) (by omega)
    rw [List.replicate_zero, List.nil_append, Nat.zero_mul, Nat.sub_zero] at this
    have e : rtl (List.replicate 1 x) = rtC x := by simp [rtl]
    rw [e] at this
    rw [rtC_len]
    rw [this]
  have HW : Hid (Below w.heap.size w ((w.alloc (.cells ZC 105)).setRow w.heap.size (ZC.toList.take 0 ++ rtC x ++ ZC.toList.drop (0 + (rtC x).length)).toArray)) := below_setRow ((Below.refl _ _).alloc (Nat.le_refl _) _) (Nat.le_refl _) _
  generalize (w.alloc (.cells ZC 105)).setRow w.heap.size (ZC.toList.take 0 ++ rtC x ++ ZC.toList.drop (0 + (rtC x).length)).toArray = w1' at *
  clear HSR HFT HN1 HL1 hzl
  go_enter Tryz.func68, Tryz.ntmps68
  go_wp2_with (go_at_call 117; refine (HMU.out _).mono ?_; rintro e w9 ⟨rfl, hw⟩; rw [hw])
  clear hmk hcp
  go_loopw [8] (fun s wr => ∃ k : Nat, 1 ≤ k ∧ k ≤ N ∧ s = .int .i64 k ∧ Hid (RB wr w.heap.size (List.replicate k x ++ List.replicate (N - k) rt0)) ∧ Hid (Below w.heap.size w wr)) (fun s _ => N - (intOf s).toNat)
  case atStart => exact ⟨1, by omega, hN, rfl, HB.out, HW.out⟩
  case round =>
    obtain ⟨k, hk1, hkN, rfl, HBk, HWk⟩ := hrel
    clear HB HW
    by_cases hlt : k < N
    · obtain ⟨M, hM⟩ : ∃ M, M = min k (N - k) := ⟨_, rfl⟩
      have hM1 : 1 ≤ M := by omega
      have hMk : M ≤ k := by omega
      have hMN : M ≤ N - k := by omega
      obtain ⟨cs, hcs⟩ : ∃ cs, cs = rtl (List.replicate M x) := ⟨_, rfl⟩
      obtain ⟨cur, hcur⟩ : ∃ cur, cur = (rtl (List.replicate k x ++ List.replicate (N - k) rt0)).toArray := ⟨_, rfl⟩
      have hl : cs.length = M * 4 := by rw [hcs, rtl_len, List.length_replicate]; omega
      have hcl : cur.size = N * 4 := by rw [hcur]; simp [rtl_len]; omega
      have hblk : wr.drew.heap[w.heap.size]? = some (.cells cur 105 (0, 0)) := by rw [hcur]; exact HBk.out
      have hcp := fun ty => run_copy_wide (P := Tryz.prog) wr.drew 94 94 ty 105 w.heap.size (k * 4) (N - k) (N - k) ⟨w.heap.size, 0, none⟩ k N cur 105 cs j0 M Tryz.underlying94 ji0 hblk
        (by rw [hM]) (by rw [hl, jz1])
        (by
          intro j v hj
          have hjl : j < M * 4 := by rw [← hl]; exact (List.getElem?_eq_some_iff.1 hj).1
          rw [Srt.addr_add, Blk.cell (show Blk wr.drew w.heap.size 105 cur from hblk) j, hcur, List.getElem?_toArray, rtl_app, List.getElem?_append_left (by rw [rtl_len, List.length_replicate]; omega)]
          have e2 : List.replicate k x = List.replicate M x ++ List.replicate (k - M) x := by rw [List.replicate_append_replicate]; congr 1; omega
          rw [e2, rtl_app, List.getElem?_append_left (by rw [rtl_len, List.length_replicate]; omega), ← hcs]
          exact hj)
        (by rw [hl, hcl]; omega) (by rw [hcs]; exact rtl_rep x M)
      have HB2 : Hid (RB (wr.drew.setRow w.heap.size (cur.toList.take (k * 4) ++ cs ++ cur.toList.drop (k * 4 + cs.length)).toArray) w.heap.size (List.replicate (k + M) x ++ List.replicate (N - (k + M)) rt0)) := by
        show Blk _ _ _ _
        unfold Blk
        rw [setRow_heap _ _ _ _ _ _ hblk, hl, hcs, hcur]
        rw [rtl_copy x N k M hMN (by omega)]
      have HW2 := Lib.hid (below_setRow HWk.out.drew (Nat.le_refl _) (cur.toList.take (k * 4) ++ cs ++ cur.toList.drop (k * 4 + cs.length)).toArray)
      generalize wr.drew.setRow w.heap.size (cur.toList.take (k * 4) ++ cs ++ cur.toList.drop (k * 4 + cs.length)).toArray = w2 at *
      have hs1 : ∀ W, (Instr.slice 94 (.slice (some ⟨w.heap.size, 0, none⟩) N N) (some (.int .i64 k)) none none).run Tryz.prog W = .ok (.slice (some ⟨w.heap.size, k * 4, none⟩) (N - k) (N - k)) W := fun W => by
        rw [run_slice_l W 94 (some ⟨w.heap.size, 0, none⟩) N N elem_rats .i64 k (by omega) (by omega), size_rats]
        simp [sliced, Result.andThen, Srt.addr_add]
        omega
      clear hM hcs hcur hl hblk hcl
      go_wp2_with fail
      go_region
      refine ⟨?_, ?measure⟩
      repeat apply Exists.intro
      refine ⟨?rel, rfl⟩
      case rel => exact ⟨k + M, by omega, by omega, by go_num, HB2.out, HW2.out⟩
      case measure => simp [intOf]; omega
    · have hkN2 : k = N := by omega
      subst hkN2
      go_wp2_with fail
      go_ret
      refine ⟨w.heap.size, rfl, Nat.le_refl _, ?_, HWk.out⟩
      have := HBk.out
      rw [Nat.sub_self, List.replicate_zero, List.append_nil] at this
      exact this
set_option maxHeartbeats 1600000 in
set_option maxRecDepth 100000 in
theorem repR_zero (x : Rt) (g0 : Nat) (w : World) :
    Calls Tryz.prog 68 #[.slice (some ⟨g0, 0, none⟩) 1 1, .int .i64 0] w fun e w' => ∃ g, e = .returned (.slice (some ⟨g, 0, none⟩) 0 0) ∧ w.heap.size ≤ g ∧ RB w' g (List.replicate 0 x) ∧ Below w.heap.size w w' := by
  have hmul : ∀ w, Calls Tryz.prog 117 #[.int .u64 1, .int .u64 0] w fun e w' => e = .returned (.tuple #[.int .u64 0, .int .u64 0]) ∧ w' = w := fun w => by
    have h := Any.bits_Mul mulS 1 0 (by omega) (by omega) w
    change Calls Tryz.prog 117 _ _ _ at h
    exact h
  have HMU := Lib.hid hmul
  clear hmul
  obtain ⟨j0, ji0, jz0, jz1, jz2⟩ := info_parts info_rat
  have hmk : ∀ w, (Instr.makeSlice 94 (.int .i64 0) (.int .i64 0)).run Tryz.prog w = .ok (.slice (some ⟨w.heap.size, 0, none⟩) 0 0) (w.alloc (.cells #[] 105)) := fun w => by
    have := make_rat 0 (by omega) w
    simpa [rtl] using this
  have hcp : ∀ ty, (Builtin.copy_ #[94, 94] ty #[.slice (some ⟨w.heap.size, 0, none⟩) 0 0, .slice (some ⟨g0, 0, none⟩) 1 1]).run Tryz.prog (w.alloc (.cells #[] 105)) = .ok (goInt 0) ((w.alloc (.cells #[] 105)).setRow w.heap.size #[]) := fun ty => by
    have := run_copy_wide (P := Tryz.prog) (w.alloc (.cells #[] 105)) 94 94 ty 105 w.heap.size 0 0 0 ⟨g0, 0, none⟩ 1 1 #[] 105 [] j0 0 Tryz.underlying94 ji0 (heap_alloc_new w _) rfl (by simp) (by intro j v h; simp at h) (by simp) (by simp)
    simpa using this
  have HB : Hid (RB ((w.alloc (.cells #[] 105)).setRow w.heap.size #[]) w.heap.size (List.replicate 0 x)) := by
    show Blk _ _ _ _
    unfold Blk
    rw [setRow_heap _ _ _ _ _ _ (heap_alloc_new w _)]
    simp [rtl]
  have HW : Hid (Below w.heap.size w ((w.alloc (.cells #[] 105)).setRow w.heap.size #[])) := below_setRow ((Below.refl _ _).alloc (Nat.le_refl _) _) (Nat.le_refl _) _
  go_enter Tryz.func68, Tryz.ntmps68
  generalize (w.alloc (.cells #[] 105)).setRow w.heap.size #[] = w1' at *
  go_wp2_with (go_at_call 117; refine (HMU.out _).mono ?_; rintro e w9 ⟨rfl, hw⟩; rw [hw])
  clear hmk hcp
  refine wp_loop_rounds 1 ?_
  rw [rounds_succ]
  go_wp2_with fail
  go_ret
  exact ⟨w.heap.size, rfl, Nat.le_refl _, HB.out, HW.out⟩
theorem repR0_any (x : Rt) (g0 : Nat) (N : Nat) (hN2 : N ≤ 1000000) (w : World) (hx : Blk w g0 105 (rtC x).toArray) :
    Calls Tryz.prog 68 #[.slice (some ⟨g0, 0, none⟩) 1 1, .int .i64 N] w fun e w' => ∃ g, e = .returned (.slice (some ⟨g, 0, none⟩) N N) ∧ w.heap.size ≤ g ∧ RB w' g (List.replicate N x) ∧ Below w.heap.size w w' := by
  rcases Nat.eq_zero_or_pos N with h | h
  · subst h
    exact repR_zero x g0 w
  · exact repR_any x g0 N h hN2 w hx
theorem below_oneS9 (w : World) (o : Obj) : Below w.heap.size w (w.alloc o) := (Below.refl _ w).alloc (Nat.le_refl _) o
def ZerosSaid (n : Nat) (w : World) (e : Ending) (w' : World) : Prop :=
  ∃ (g : Nat) (x : Rt), e = .returned (.slice (some ⟨g, 0, none⟩) n n) ∧ w.heap.size ≤ g ∧ RL w' g (List.replicate n ((0 : Rat), x)) 0 ∧ Below w.heap.size w w'
set_option maxRecDepth 100000 in
theorem zeros_any (n : Nat) (hn : n ≤ 1000000) (w : World) : Calls Tryz.prog 66 #[.int .i64 n] w (ZerosSaid n w) := by
  go_enter Tryz.func66, Tryz.ntmps66
  go_wp2_with fail
  refine (whole_any 0 w (by omega) (by omega)).mono ?_
  rintro e w1 ⟨x, rfl, hx, hb⟩
  have HX : Hid (RatIs w1 w1.heap.size 0 x) := Lib.hid hx
  have D := Lib.hid hb
  clear hx hb
  go_wp2_with fail
  have BX : Hid (Blk (w1.alloc (.cells #[.bool x.N.b, .slice x.N.A x.N.n x.N.c, .bool x.D.b, .slice x.D.A x.D.n x.D.c] 105)) w1.heap.size 105 (rtC x).toArray) := Blk.new_ w1 w1.heap.size 105 (rtC x).toArray rfl
  have hb5 := below_oneS9 w1 (.cells #[.bool x.N.b, .slice x.N.A x.N.n x.N.c, .bool x.D.b, .slice x.D.A x.D.n x.D.c] 105)
  replace HX := Lib.hid (HX.out.go hb5)
  replace D := Lib.hid (D.out.trans (hb5.mono D.out.size))
  clear hb5
  generalize w1.alloc (.cells #[.bool x.N.b, .slice x.N.A x.N.n x.N.c, .bool x.D.b, .slice x.D.A x.D.n x.D.c] 105) = w2 at *
  refine (repR0_any x _ n hn w2 BX.out).mono ?_
  rintro e w3 ⟨g, rfl, hg, hrb, hb⟩
  have HB := Lib.hid hrb
  have D3 := Lib.hid (D.out.trans (hb.mono D.out.size))
  have HG : Hid (w.heap.size ≤ g) := Nat.le_trans D.out.size hg
  have HX3 := Lib.hid (HX.out.go hb)
  clear hg hrb hb
  go_wp2_with fail
  go_ret
  refine ⟨g, x, rfl, HG.out, ⟨?_, fun y hy => ?_⟩, D3.out⟩
  · rw [List.map_replicate, List.replicate_zero, List.append_nil]; exact HB.out
  · rw [(List.mem_replicate.1 hy).2]; exact HX3.out
end Go.Proofs.YtoblpcljhblnmaaGreatDoor
