/- slices.Repeat of one integer. Condition: at most a million of them. -/
import Derived.Shelf.Bits.Mul64
import Derived.Laws.CopyOwn
import Derived.Laws.MakeOwn
import Derived.Deep.RegionLaw
import Derived.Handy
import Derived.Test.YtoblpcljhblnmaaGreatDoorQuiet
import Derived.Test.YtoblpcljhblnmaaGreatDoorSrt
import Derived.Test.YtoblpcljhblnmaaGreatDoorBase
namespace Go.Proofs.YtoblpcljhblnmaaGreatDoor
open Go.RowKit
def mulS_ren : Go.Shelf.Ren := ⟨fun | 212 => 117 | 263 => 161 | 264 => 162 | n => n, fun | 46 => 206 | 51 => 225 | 146 => 261 | 53 => 229 | 148 => 263 | n => n, fun | n => n⟩
set_option maxRecDepth 100000 in
theorem mulS : Go.Proofs.Lays.n212 Tryz.prog mulS_ren := {
  mixed := by kernel_rfl,
  f212 := Tryz.func117.trans (congrArg some (by kernel_rfl)),
  f263 := Tryz.func161.trans (congrArg some (by kernel_rfl)),
  f264 := Tryz.func162.trans (congrArg some (by kernel_rfl)),
  t46 := Tryz.underlying206,
  a46 := Tryz.isAgg206,
  z46 := Tryz.sizeOf206,
  v46 := Tryz.zeroValue206,
  t51 := Tryz.underlying225,
  a51 := Tryz.isAgg225,
  z51 := Tryz.sizeOf225,
  v51 := Tryz.zeroValue225,
  t53 := Tryz.underlying229,
  a53 := Tryz.isAgg229,
  z53 := Tryz.sizeOf229,
  v53 := Tryz.zeroValue229,
  t146 := Tryz.underlying261,
  a146 := Tryz.isAgg261,
  z146 := Tryz.sizeOf261,
  v146 := Tryz.zeroValue261,
  t148 := Tryz.underlying263,
  a148 := Tryz.isAgg263,
  z148 := Tryz.sizeOf263,
  v148 := Tryz.zeroValue263 }
theorem repl_at (k : Nat) (x : Int) (j : Nat) (u : Value) (h : (ints (List.replicate k x))[j]? = some u) : u = .int .i64 x := by
  unfold ints at h
  rw [List.getElem?_map, List.getElem?_replicate] at h
  split at h
  · simpa using h.symm
  · simp at h
set_option maxHeartbeats 1600000 in
set_option maxRecDepth 100000 in
theorem repI_any (x : Int) (g0 : Nat) (N : Nat) (hN : 1 ≤ N) (hN2 : N ≤ 1000000) (w : World) (hx : w.cell? ⟨g0, 0, none⟩ = some (.int .i64 x)) :
    Calls Tryz.prog 193 #[.slice (some ⟨g0, 0, none⟩) 1 1, .int .i64 N] w fun e w' => ∃ g, e = .returned (.slice (some ⟨g, 0, none⟩) N N) ∧ w.heap.size ≤ g ∧ IBlk w' g 3 (List.replicate N x) ∧ Below w.heap.size w w' := by
  have hmul : ∀ w, Calls Tryz.prog 117 #[.int .u64 1, .int .u64 N] w fun e w' => e = .returned (.tuple #[.int .u64 0, .int .u64 N]) ∧ w' = w := fun w => by
    have h := Any.bits_Mul mulS 1 N (by omega) (by omega) w
    change Calls Tryz.prog 117 _ _ _ at h
    rw [show 1 * N / 18446744073709551616 = 0 by omega, show 1 * N % 18446744073709551616 = N by omega] at h
    exact h
  have HMU := Lib.hid hmul
  clear hmul
  obtain ⟨j0, ji0, jz0, jz1, jz2⟩ := info_parts info_int
  have hmk : ∀ w, (Instr.makeSlice 57 (.int .i64 (N : Int)) (.int .i64 (N : Int))).run Tryz.prog w = .ok (.slice (some ⟨w.heap.size, 0, none⟩) N N) (w.alloc (.cells (ints (List.replicate N 0)).toArray 3)) := fun w => by
    have := run_make (P := Tryz.prog) w 57 3 j0 (.int .i64 0) Tryz.underlying57 ji0 jz0 .i64 .i64 N N (by omega) (by omega) (by rw [jz2]; omega) (by omega)
    rw [jz1, show (Value.int .i64 0).cells = #[.int .i64 0] from rfl] at this
    rw [show (ints (List.replicate N 0)).toArray = madeCells #[.int .i64 0] N from by
      apply Array.ext'
      rw [toList_madeCells_one]
      simp [ints]]
    simpa using this
  have w1 : IntKind.u64.wrap (N : Int) = N := by rw [IntKind.wrap_u64]; omega
  have w2 : IntKind.i64.wrap (N : Int) = N := IntWalk.i64_in _ (by omega)
  have lt0 := lt_of_cello hx
  go_enter Tryz.func193, Tryz.ntmps193
  have hsz : (Tryz.prog.info? 3).map (·.size) = some 1 := by rw [ji0]; simp [jz1]
  obtain ⟨ZC, hZC⟩ : ∃ ZC, ZC = (ints (List.replicate N 0)).toArray := ⟨_, rfl⟩
  rw [← hZC] at hmk
  have HZ := Lib.hid hZC
  clear hZC
  have HSR := Lib.hid (show ∀ j v, [Value.int .i64 x][j]? = some v → (w.alloc (.cells ZC 3)).cell? ((⟨g0, 0, none⟩ : Addr).add j) = some v from by
    intro j v hj
    match j, hj with
    | 0, hj =>
      simp at hj
      subst hj
      rw [World.cell?_alloc_lt _ _ _ (by simpa [Addr.add] using lt0)]
      simpa [Addr.add] using hx)
  have HN1 : Hid ([Value.int .i64 x].length = Nat.min 1 N) := (Nat.min_eq_left hN).symm
  have HFT : Hid (0 + [Value.int .i64 x].length ≤ ZC.size) := by show _ ≤ _; rw [HZ.out]; simp [ints]; omega
  have hcp := run_copy_row (P := Tryz.prog) (w.alloc (.cells ZC 3)) 57 57 3 3 w.heap.size 0 N N ⟨g0, 0, none⟩ 1 1 ZC 3 [.int .i64 x] Tryz.underlying57 hsz (heap_alloc_new w _) HN1.out HSR.out HFT.out (by simp [Value.oneCell'])
  have HB : Hid (IBlk ((w.alloc (.cells ZC 3)).setRow w.heap.size (ZC.toList.take 0 ++ [Value.int .i64 x] ++ ZC.toList.drop (0 + [Value.int .i64 x].length)).toArray) w.heap.size 3 (List.replicate 1 x ++ List.replicate (N - 1) 0)) := by
    show Blk _ _ _ _
    unfold Blk
    rw [setRow_heap _ _ _ _ _ _ (heap_alloc_new w _), HZ.out]
    simp [ints]
  have HW : Hid (Below w.heap.size w ((w.alloc (.cells ZC 3)).setRow w.heap.size (ZC.toList.take 0 ++ [Value.int .i64 x] ++ ZC.toList.drop (0 + [Value.int .i64 x].length)).toArray)) := below_setRow ((Below.refl _ _).alloc (Nat.le_refl _) _) (Nat.le_refl _) _
  generalize (w.alloc (.cells ZC 3)).setRow w.heap.size (ZC.toList.take 0 ++ [Value.int .i64 x] ++ ZC.toList.drop (0 + [Value.int .i64 x].length)).toArray = w1' at *
  clear HSR HFT HN1
  go_wp2_with (go_at_call 117; refine (HMU.out _).mono ?_; rintro e w9 ⟨rfl, hw⟩; rw [hw])
  clear hmk hcp
  go_loopw [8] (fun s wr => ∃ k : Nat, 1 ≤ k ∧ k ≤ N ∧ s = .int .i64 k ∧ Hid (IBlk wr w.heap.size 3 (List.replicate k x ++ List.replicate (N - k) 0)) ∧ Hid (Below w.heap.size w wr)) (fun s _ => N - (intOf s).toNat)
  case atStart => exact ⟨1, by omega, hN, rfl, HB.out, HW.out⟩
  case round =>
    obtain ⟨k, hk1, hkN, rfl, HBk, HWk⟩ := hrel
    clear HB HW
    by_cases hlt : k < N
    · have hcells := fun j (hj : j < N) => HBk.out.cell j (by simp; omega)
      obtain ⟨M, hM⟩ : ∃ M, M = min k (N - k) := ⟨_, rfl⟩
      have hM1 : 1 ≤ M := by omega
      have hMk : M ≤ k := by omega
      have hMN : M ≤ N - k := by omega
      obtain ⟨cs, hcs⟩ : ∃ cs, cs = ints (List.replicate M x) := ⟨_, rfl⟩
      obtain ⟨cur, hcur⟩ : ∃ cur, cur = (ints (List.replicate k x ++ List.replicate (N - k) 0)).toArray := ⟨_, rfl⟩
      have hl : cs.length = M := by rw [hcs]; simp [ints]
      have hblk : wr.drew.heap[w.heap.size]? = some (.cells cur 3 (0, 0)) := by rw [hcur]; exact HBk.out
      have hcp := run_copy_row (P := Tryz.prog) wr.drew 57 57 3 3 w.heap.size k (N - k) (N - k) ⟨w.heap.size, 0, none⟩ k N cur 3 cs Tryz.underlying57 hsz hblk
        (by rw [hl, hM])
        (by
          intro j v hj
          have e := repl_at M x j v (by rw [← hcs]; exact hj)
          have hjl : j < M := by rw [← hl]; exact (List.getElem?_eq_some_iff.1 hj).1
          have := HBk.out.cell j (by simp; omega)
          rw [Srt.addr_add]
          rw [List.getD_eq_getElem?_getD, List.getElem?_append_left (by simp; omega)] at this
          rw [e]
          simpa [show j < k by omega] using this)
        (by rw [hl, hcur]; simp [ints]; omega) (by rw [hcs]; unfold ints; simp [Value.oneCell'])
      rw [hl] at hcp
      have HB2 : Hid (IBlk (wr.drew.setRow w.heap.size (cur.toList.take k ++ cs ++ cur.toList.drop (k + M)).toArray) w.heap.size 3 (List.replicate (k + M) x ++ List.replicate (N - (k + M)) 0)) := by
        show Blk _ _ _ _
        unfold Blk
        rw [setRow_heap _ _ _ _ _ _ hblk, hcs, hcur]
        congr 3
        unfold ints
        rw [List.map_append, List.map_append, List.take_append_of_le_length (by simp), List.take_of_length_le (by simp), List.drop_append, List.drop_of_length_le (by simp)]
        simp only [List.map_replicate, List.nil_append, List.drop_replicate, List.length_replicate, List.replicate_append_replicate]
        rw [show N - k - (k + M - k) = N - (k + M) by omega]
      have HW2 := Lib.hid (below_setRow HWk.out.drew (Nat.le_refl _) (cur.toList.take k ++ cs ++ cur.toList.drop (k + M)).toArray)
      generalize wr.drew.setRow w.heap.size (cur.toList.take k ++ cs ++ cur.toList.drop (k + M)).toArray = w2 at *
      have hs1 : ∀ W, (Instr.slice 57 (.slice (some ⟨w.heap.size, 0, none⟩) N N) (some (.int .i64 k)) none none).run Tryz.prog W = .ok (.slice (some ⟨w.heap.size, k, none⟩) (N - k) (N - k)) W := fun W => by
        rw [run_slice_l W 57 (some ⟨w.heap.size, 0, none⟩) N N elem_ints .i64 k (by omega) (by omega), size_ints]
        simp [sliced, Result.andThen, Srt.addr_add]
        omega
      clear hM hcs hcur hl hblk hcells
      go_wp2_with fail
      go_region
      refine ⟨?_, ?measure⟩
      repeat apply Exists.intro
      refine ⟨?rel, rfl⟩
      case rel => exact ⟨k + M, by omega, by omega, by go_num, HB2.out, HW2.out⟩
      case measure => simp [intOf]; omega
    · have hkN2 : k = N := by omega
      subst hkN2
      go_wp2_with fail
      go_ret
      refine ⟨w.heap.size, rfl, Nat.le_refl _, ?_, HWk.out⟩
      have := HBk.out
      simpa using this
set_option maxHeartbeats 1600000 in
set_option maxRecDepth 100000 in
theorem repI_zero (g0 : Nat) (w : World) :
    Calls Tryz.prog 193 #[.slice (some ⟨g0, 0, none⟩) 1 1, .int .i64 0] w fun e w' => ∃ g, e = .returned (.slice (some ⟨g, 0, none⟩) 0 0) ∧ w.heap.size ≤ g ∧ IBlk w' g 3 [] ∧ Below w.heap.size w w' := by
  have hmul : ∀ w, Calls Tryz.prog 117 #[.int .u64 1, .int .u64 0] w fun e w' => e = .returned (.tuple #[.int .u64 0, .int .u64 0]) ∧ w' = w := fun w => by
    have h := Any.bits_Mul mulS 1 0 (by omega) (by omega) w
    change Calls Tryz.prog 117 _ _ _ at h
    exact h
  have HMU := Lib.hid hmul
  clear hmul
  obtain ⟨j0, ji0, jz0, jz1, jz2⟩ := info_parts info_int
  have hmk : ∀ w, (Instr.makeSlice 57 (.int .i64 0) (.int .i64 0)).run Tryz.prog w = .ok (.slice (some ⟨w.heap.size, 0, none⟩) 0 0) (w.alloc (.cells #[] 3)) := fun w => by
    have := run_make (P := Tryz.prog) w 57 3 j0 (.int .i64 0) Tryz.underlying57 ji0 jz0 .i64 .i64 0 0 (by omega) (by omega) (by rw [jz2]; omega) (by omega)
    rw [jz1, show (Value.int .i64 0).cells = #[.int .i64 0] from rfl] at this
    rw [show (#[] : Array Value) = madeCells #[.int .i64 0] 0 from by
      apply Array.ext'
      rw [toList_madeCells_one]
      simp]
    simpa using this
  have hsz : (Tryz.prog.info? 3).map (·.size) = some 1 := by rw [ji0]; simp [jz1]
  have hcp : ∀ ty, (Builtin.copy_ #[57, 57] ty #[.slice (some ⟨w.heap.size, 0, none⟩) 0 0, .slice (some ⟨g0, 0, none⟩) 1 1]).run Tryz.prog (w.alloc (.cells #[] 3)) = .ok (goInt 0) ((w.alloc (.cells #[] 3)).setRow w.heap.size #[]) := fun ty => by
    have := run_copy_row (P := Tryz.prog) (w.alloc (.cells #[] 3)) 57 57 ty 3 w.heap.size 0 0 0 ⟨g0, 0, none⟩ 1 1 #[] 3 [] Tryz.underlying57 hsz (heap_alloc_new w _) rfl (by intro j v h; simp at h) (by simp) (by simp)
    simpa using this
  have HB : Hid (IBlk ((w.alloc (.cells #[] 3)).setRow w.heap.size #[]) w.heap.size 3 []) := by
    show Blk _ _ _ _
    unfold Blk
    rw [setRow_heap _ _ _ _ _ _ (heap_alloc_new w _)]
    simp [ints]
  have HW : Hid (Below w.heap.size w ((w.alloc (.cells #[] 3)).setRow w.heap.size #[])) := below_setRow ((Below.refl _ _).alloc (Nat.le_refl _) _) (Nat.le_refl _) _
  go_enter Tryz.func193, Tryz.ntmps193
  generalize (w.alloc (.cells #[] 3)).setRow w.heap.size #[] = w1' at *
  go_wp2_with (go_at_call 117; refine (HMU.out _).mono ?_; rintro e w9 ⟨rfl, hw⟩; rw [hw])
  clear hmk hcp
  refine wp_loop_rounds 1 ?_
  rw [rounds_succ]
  go_wp2_with fail
  go_ret
  exact ⟨w.heap.size, rfl, Nat.le_refl _, HB.out, HW.out⟩
theorem repI0_any (x : Int) (g0 : Nat) (N : Nat) (hN2 : N ≤ 1000000) (w : World) (hx : w.cell? ⟨g0, 0, none⟩ = some (.int .i64 x)) :
    Calls Tryz.prog 193 #[.slice (some ⟨g0, 0, none⟩) 1 1, .int .i64 N] w fun e w' => ∃ g, e = .returned (.slice (some ⟨g, 0, none⟩) N N) ∧ w.heap.size ≤ g ∧ IBlk w' g 3 (List.replicate N x) ∧ Below w.heap.size w w' := by
  rcases Nat.eq_zero_or_pos N with h | h
  · subst h
    exact repI_zero g0 w
  · exact repI_any x g0 N h hN2 w hx
end Go.Proofs.YtoblpcljhblnmaaGreatDoor
