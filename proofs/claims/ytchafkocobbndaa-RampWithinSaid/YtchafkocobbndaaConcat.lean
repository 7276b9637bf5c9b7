/- slices.Grow from nil and slices.Concat of two at pieces of convex functions: a new row that the call owns. Condition: at most 1000 pieces. -/
import Derived.Test.YtchafkocobbndaaOwn
import Derived.Test.YtchafkocobbndaaBaseC
import Derived.Outline
import Derived.Lib.AppendZerosOnto
namespace Go.Proofs.Ytchafkocobbndaa
open Go.RowKit
theorem info_piece : (Try.prog.info? 94).map (fun i => (i.zero, i.size, i.bytes)) = some (some (.agg #[.int .i64 0, .int .i64 0]), 2, 16) := by kernel_rfl
theorem pairs_one (l : List (Int × Int)) : ∀ u ∈ pairs l, u.oneCell' = true := by
  intro u hu
  unfold pairs at hu
  obtain ⟨o, _, h⟩ := List.mem_flatMap.1 hu
  simp at h
  rcases h with rfl | rfl <;> rfl
def EmptyRow (w : World) (e : Ending) (w' : World) : Prop :=
  ∃ A c, e = .returned (.slice A 0 c) ∧ w'.ownsRow w.heap.size 94 2 (.slice A 0 c) 0 [] ∧ Below w.heap.size w w'
set_option maxRecDepth 100000 in
theorem growP_any (n : Nat) (w : World) (hn : n ≤ 1000) : Calls Try.prog 78 #[.slice none 0 0, .int .i64 n] w (EmptyRow w) := by
  rcases Nat.eq_zero_or_pos n with h0 | h0
  · subst h0
    go_enter Try.func78, Try.ntmps78
    go_wp2_with fail
    go_ret
    exact ⟨none, 0, rfl, World.ownsRow_nil _ _ _ _, Below.refl _ _⟩
  · obtain ⟨i0, hi0, hz0, hz1, hz2⟩ := info_parts info_piece
    have hold : (Builtin.firstCells i0.size 0 (.slice none 0 0)).run Try.prog w.drew = .ok ([] : List Value).toArray w.drew := run_firstCells_none w.drew i0.size 0 0 0
    have hbig : (0 + n) * i0.bytes ≤ 140737488355328 := by rw [hz2]; omega
    have h63 : ((0 + n : Nat) : Int) ≤ 9223372036854775807 := by omega
    have hrz := fun ty => Lib.run_append_grow_zeros (P := Try.prog) w 90 3 ty 94 i0 (.agg #[.int .i64 0, .int .i64 0]) .i64 .i64 Try.underlying90 Try.underlying3 hi0 hz0 none 0 0 [] hold n h0 (by rw [hz1]; omega) (by omega) h63 (by rw [hz2]; omega) (growslice_fits (by omega) hbig)
    have hge := grownCap_ge w (0 + n) 0 94
    have hle := grownCap_le_maxLen w (0 + n) 0 94 (by unfold maxLen; omega)
    rw [Nat.zero_add] at hrz hge hle
    generalize grownCap w n 0 94 = G at *
    have hcs : (([] : List Value).toArray ++ Builtin.zeroCells (Value.agg #[.int .i64 0, .int .i64 0]).cells n ++ Builtin.zeroCells (Value.agg #[.int .i64 0, .int .i64 0]).cells (G - n)).size = G * 2 := by
      rw [Array.size_append, Array.size_append, size_zeroCells, size_zeroCells, show (Value.agg #[.int .i64 0, .int .i64 0]).cells.size = 2 from rfl]
      simp
      omega
    generalize ([] : List Value).toArray ++ Builtin.zeroCells (Value.agg #[.int .i64 0, .int .i64 0]).cells n ++ Builtin.zeroCells (Value.agg #[.int .i64 0, .int .i64 0]).cells (G - n) = ZC at *
    have HZ := Lib.hid hcs
    have HRZ := Lib.hid hrz
    have HLE := Lib.hid hle
    have hG63 : G ≤ 9223372036854775807 := by unfold maxLen at hle; omega
    clear hold hbig h63 hcs hrz hle hi0 hz0 hz1 hz2
    go_enter Try.func78, Try.ntmps78
    go_wp2_with (at_builtin; refine Lib.wpList_append_run _ rfl _ _ _ _ rfl _ _ rfl rfl _ _ (HRZ.out _) ?_)
    all_goals
      go_ret
      refine ⟨_, _, rfl, ⟨rfl, Or.inr ⟨w.heap.size, G, ZC, rfl, Nat.le_refl _, ?_, Nat.zero_le _, HLE.out, HZ.out, by simp⟩⟩, (Below.refl _ _).drew.alloc (Nat.le_refl _) _⟩
      exact heap_alloc_new w.drew _
def kLen (n m k : Nat) : Nat := if k = 0 then 0 else if k = 1 then n else n + m
def kList (a b : List (Int × Int)) (k : Nat) : List (Int × Int) := if k = 0 then [] else if k = 1 then a else a ++ b
def ConcatSaid (a b : List (Int × Int)) (m : Nat) (w : World) (e : Ending) (w' : World) : Prop :=
  ∃ A c, e = .returned (.slice A m c) ∧ w'.ownsRow w.heap.size 94 2 (.slice A m c) m (pairs (a ++ b)) ∧ Below w.heap.size w w'
set_option maxHeartbeats 1600000 in
set_option maxRecDepth 100000 in
theorem concat_any (AA A B : Option Addr) (cc n m c1 c2 : Nat) (a b : List (Int × Int)) (w : World) (hs : Reads w w.heap.size 1 AA 2 [.slice A n c1, .slice B m c2]) (ha : Reads w w.heap.size 2 A n (pairs a)) (hb : Reads w w.heap.size 2 B m (pairs b)) (hn : n ≤ 64) (hm : m ≤ 64) :
    Calls Try.prog 60 #[.slice AA 2 cc] w (ConcatSaid a b (n + m) w) := by
  obtain ⟨i0, hi0, hz0, hz1, hz2⟩ := info_parts info_piece
  obtain ⟨bb, oo, rfl, _, hc⟩ := hs.where_ (by omega) (by omega)
  have q0 : w.cell? ⟨bb, oo, none⟩ = some (.slice A n c1) := hc 0 _ rfl
  have q1 : w.cell? ⟨bb, oo + 1, none⟩ = some (.slice B m c2) := hc 1 _ rfl
  have HA := Lib.hid ha
  have HB := Lib.hid hb
  clear hs hc ha hb
  go_enter Try.func60, Try.ntmps60
  go_wp2_with fail
  go_loopw [3, 11] (fun v i wr => ∃ k : Nat, k ≤ 2 ∧ i = .int .i64 k ∧ v = .int .i64 (kLen n m k : Nat) ∧ w = wr) (fun _ i _ => 2 - (intOf i).toNat)
  case atStart => exact ⟨0, by omega, rfl, rfl, rfl⟩
  case round =>
    obtain ⟨k, hk, rfl, rfl, rfl⟩ := hrel
    have h3 : k = 0 ∨ k = 1 ∨ k = 2 := by omega
    rcases h3 with rfl | rfl | rfl
    · rw [show kLen n m 0 = 0 from rfl]
      go_wp2_with fail
      go_roundw
      case rel => exact ⟨1, by omega, rfl, by rw [show kLen n m 1 = n from rfl] <;> go_num, by trivial⟩
      case measure => simp [intOf]
    · rw [show kLen n m 1 = n from rfl]
      go_wp2_with fail
      go_roundw
      case rel => exact ⟨2, by omega, rfl, by rw [show kLen n m 2 = n + m from rfl] <;> go_num, by trivial⟩
      case measure => simp [intOf]
    · rw [show kLen n m 2 = n + m from rfl]
      go_wp2_with fail
      refine (growP_any (n + m) _ (by omega)).mono ?_
      rintro e w1 ⟨Ag, cg, rfl, hown, hb⟩
      have OF1 := Lib.hid hown
      have HB1 := Lib.hid hb
      have HQ0 := Lib.hid q0
      have HQ1 := Lib.hid q1
      have bl : bb < w.heap.size := lt_of_cello q0
      clear hown hb q0 q1
      go_wp2_with fail
      go_loopw [6, 27] (fun v i wr => ∃ (k : Nat) (Ac : Option Addr) (cc' : Nat), k ≤ 2 ∧ i = .int .i64 k ∧ v = .slice Ac (kLen n m k) cc' ∧ Hid (wr.ownsRow w.heap.size 94 2 (.slice Ac (kLen n m k) cc') (kLen n m k) (pairs (kList a b k))) ∧ Hid (Below w.heap.size w wr)) (fun _ i _ => 2 - (intOf i).toNat)
      case atStart => exact ⟨0, Ag, cg, by omega, rfl, rfl, OF1, HB1⟩
      case round =>
        clear OF1 HB1
        obtain ⟨k, Ac, cc', hk2, rfl, rfl, OF, HBW⟩ := hrel
        have p0 : wr.cell? ⟨bb, oo, none⟩ = some (.slice A n c1) := (HBW.out.cell (p := ⟨bb, oo, none⟩) bl).trans HQ0.out
        have p1 : wr.cell? ⟨bb, oo + 1, none⟩ = some (.slice B m c2) := (HBW.out.cell (p := ⟨bb, oo + 1, none⟩) bl).trans HQ1.out
        have HRA := Lib.hid (HA.out.go HBW.out)
        have HRB := Lib.hid (HB.out.go HBW.out)
        have hsz := HBW.out.size
        have h3 : k = 0 ∨ k = 1 ∨ k = 2 := by omega
        rcases h3 with rfl | rfl | rfl
        · go_wp2_with (at_builtin; go_must (refine wpList_append_any _ rfl (.tmp 31) (.tmp 32) 90 rfl w.heap.size 94 i0 _ 2 16 Try.underlying90 hi0 hz0 hz1 hz2 rfl (by decide) (.slice Ac (kLen n m 0) cc') (kLen n m 0) (pairs (kList a b 0)) rfl OF.out wr.heap.size A n c1 (pairs a) rfl HRA.out (pairs_one a) (by unfold maxLen kLen; simp; omega) (by unfold kLen; simp; omega) hsz ?_); intro v' w3 hown3 hg3 _; obtain ⟨A3, c3, rfl, _⟩ := own_slice hown3; have HO3 := Lib.hid hown3; have HG3 := Lib.hid hg3; clear hown3 hg3)
          have HB3 := Lib.hid (below_grown HBW.out HG3.out OF.out (Nat.le_refl _) hsz)
          go_roundw
          case rel =>
            refine ⟨1, A3, c3, by omega, rfl, ?_, ?_, HB3⟩
            · rw [show kLen n m 1 = n from rfl, show kLen n m 0 = 0 from rfl, Nat.zero_add]
            · have := HO3.out
              rw [show kLen n m 0 = 0 from rfl, Nat.zero_add, show pairs (kList a b 0) = [] from rfl, List.nil_append] at this
              exact this
          case measure => simp [intOf]
        · go_wp2_with (at_builtin; go_must (refine wpList_append_any _ rfl (.tmp 31) (.tmp 32) 90 rfl w.heap.size 94 i0 _ 2 16 Try.underlying90 hi0 hz0 hz1 hz2 rfl (by decide) (.slice Ac (kLen n m 1) cc') (kLen n m 1) (pairs (kList a b 1)) rfl OF.out wr.heap.size B m c2 (pairs b) rfl HRB.out (pairs_one b) (by unfold maxLen kLen; simp; omega) (by unfold kLen; simp; omega) hsz ?_); intro v' w3 hown3 hg3 _; obtain ⟨A3, c3, rfl, _⟩ := own_slice hown3; have HO3 := Lib.hid hown3; have HG3 := Lib.hid hg3; clear hown3 hg3)
          have HB3 := Lib.hid (below_grown HBW.out HG3.out OF.out (Nat.le_refl _) hsz)
          go_roundw
          case rel =>
            refine ⟨2, A3, c3, by omega, rfl, rfl, ?_, HB3⟩
            have := HO3.out
            have e : pairs (kList a b 1) ++ pairs b = pairs (kList a b 2) := by
              show pairs a ++ pairs b = pairs (a ++ b)
              unfold pairs
              rw [List.flatMap_append]
            rw [e] at this
            exact this
          case measure => simp [intOf]
        · go_wp2_with fail
          go_ret
          exact ⟨Ac, cc', rfl, OF.out, HBW.out⟩
/-- what slices.SortFunc says of a row of pieces that the call owns -/
def SortPSaid (base : Nat) (Ab : Option Addr) (cb : Nat) (S : List (Int × Int)) (w : World) (e : Ending) (w' : World) : Prop :=
  e = .returned (.tuple #[]) ∧ ∃ d : List (Int × Int), d.Perm S ∧ d.Pairwise (fun a b => a.2 ≤ b.2) ∧ w'.ownsRow base 94 2 (.slice Ab S.length cb) S.length (pairs d) ∧ w.grownBy w' (Value.slice Ab S.length cb).ownBlock
def SortPOk : Prop := ∀ (base : Nat) (Ab : Option Addr) (cb : Nat) (S : List (Int × Int)) (w : World), S.length ≤ 1000 → (∀ p ∈ S, -10000000 ≤ p.2 ∧ p.2 ≤ 10000000) → w.ownsRow base 94 2 (.slice Ab S.length cb) S.length (pairs S) →
    Calls Try.prog 61 #[.slice Ab S.length cb, .func (.func 62) #[] #[]] w (SortPSaid base Ab cb S w)
end Go.Proofs.Ytchafkocobbndaa
