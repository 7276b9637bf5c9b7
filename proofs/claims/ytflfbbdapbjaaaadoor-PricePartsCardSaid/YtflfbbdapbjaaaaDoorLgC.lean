/- Package large: arrays of words; cmpWords, addWords answer as integers. Condition: the words read. -/
import Derived.Test.YtflfbbdapbjaaaaDoorLgB
namespace Go.Proofs.YtflfbbdapbjaaaaDoor
open Go.RowKit
set_option maxRecDepth 100000
/-- an array of words that the call has made -/
def WB (w : World) (g : Nat) (l : List Nat) : Prop := Blk w g 57 (u32s l).toArray
section
variable {w w' : World} {g : Nat} {l : List Nat}
theorem WB.lt (h : WB w g l) : g < w.heap.size := Blk.lt h
theorem WB.at_ (h : WB w g l) {k : Nat} (hk : k < l.length) : w.cell? ⟨g, k, none⟩ = some (.int .u32 (l[k] : Nat)) := by
  refine (Blk.cell h k).trans ?_
  unfold u32s
  simp [hk]
theorem WB.ex (h : WB w g l) {k : Nat} (hk : k < l.length) : ∃ v, w.cell? ⟨g, k, none⟩ = some (.int .u32 v) := ⟨_, h.at_ hk⟩
theorem WB.frozen (h : WB w g l) (k : Nat) : w.frozen? ⟨g, k, none⟩ = false := Blk.frozen h k
theorem WB.set_ (h : WB w g l) (k x : Nat) : WB (w.setCell ⟨g, k, none⟩ (.int .u32 (x : Int))) g (l.set k x) := by
  have := Blk.set_ h k (.int .u32 (x : Int))
  unfold WB
  have e : (u32s l).toArray.setIfInBounds k (.int .u32 (x : Int)) = (u32s (l.set k x)).toArray := by
    unfold u32s
    rw [List.map_set]; simp
  rw [e] at this
  exact this
theorem WB.go (h : WB w g l) (hb : Below w.heap.size w w') : WB w' g l := Blk.go h hb
theorem WB.reads (h : WB w g l) : Reads w w.heap.size 1 (some ⟨g, 0, none⟩) l.length (u32s l) := by
  refine ⟨by simp [u32s], fun _ => ⟨_, rfl, h.lt, fun j u hu => ?_⟩⟩
  have e : (⟨g, 0, none⟩ : Addr).add j = ⟨g, j, none⟩ := by
    unfold Addr.add
    by_cases hj : j = 0
    · subst hj; rfl
    · simp [hj]
  rw [e]
  refine (Blk.cell h j).trans ?_
  rw [List.getElem?_toArray]; exact hu
end
theorem info_u32 : (Tryd.prog.info? 57).map (fun i => (i.zero, i.size, i.bytes)) = some (some (.int .u32 0), 1, 4) := by kernel_rfl
theorem make_u32 (n : Nat) (hn : n ≤ 70368744177664) (w : World) : (Instr.makeSlice 38 (.int .i64 (n : Int)) (.int .i64 (n : Int))).run Tryd.prog w = .ok (.slice (some ⟨w.heap.size, 0, none⟩) n n) (w.alloc (.cells (u32s (List.replicate n 0)).toArray 57)) := by
  obtain ⟨j0, ji0, jz0, jz1, jz2⟩ := info_parts info_u32
  have := run_make (P := Tryd.prog) w 38 57 j0 (.int .u32 0) Tryd.underlying38 ji0 jz0 .i64 .i64 n n (by omega) (by omega) (by rw [jz2]; omega) (by omega)
  rw [jz1, show (Value.int .u32 0).cells = #[.int .u32 0] from rfl] at this
  rw [show (u32s (List.replicate n 0)).toArray = madeCells #[.int .u32 0] n from by
    apply Array.ext'
    rw [toList_madeCells_one]
    unfold u32s
    simp]
  simpa using this
theorem WB.new_ (w : World) (n : Nat) : WB (w.alloc (.cells (u32s (List.replicate n 0)).toArray 57)) w.heap.size (List.replicate n 0) := Blk.new_ w _ _ _ rfl
theorem below_dn {B : Nat} {a w : World} (h : Below B a w) (n : Nat) : Below B a (w.drewN n) := ⟨h.os, h.tape, h.output, h.size, h.block⟩
/-- words come in two slices; they are compared -/
def CmpSaid (a b : Nat) (r : Int) : Prop := (r < 0 ↔ a < b) ∧ (r = 0 ↔ a = b)
set_option maxHeartbeats 1600000 in
theorem cmpw_any (A : Option Addr) (n c : Nat) (la : List Nat) (B : Option Addr) (m d : Nat) (lb : List Nat) (w : World) (hn : n ≤ 9223372036854775807) (hm : m ≤ 9223372036854775807) (ha : Reads w w.heap.size 1 A n (u32s la)) (hb : Reads w w.heap.size 1 B m (u32s lb)) (ca : Pl.Can la) (cb : Pl.Can lb) :
    Calls Tryd.prog 28 #[.slice A n c, .slice B m d] w fun e w' => ∃ r : Int, e = .returned (.int .i64 r) ∧ CmpSaid (Pl.lv la) (Pl.lv lb) r ∧ Below w.heap.size w w' := by
  have H := Lib.hid ha
  have H' := Lib.hid hb
  have hla := u32_len ha
  have hlb := u32_len hb
  by_cases hnm : n = m
  · subst hnm
    have HLA := Lib.hid hla
    have HLB := Lib.hid hlb
    clear ha hb hla hlb
    have wn1 : IntKind.i64.wrap ((n : Int) - 1) = (n : Int) - 1 := IntWalk.i64_in _ (by omega)
    go_enter Tryd.func28, Tryd.ntmps28
    go_wp2_with fail
    go_loopw [5] (fun i wr => ∃ k : Nat, k ≤ n ∧ i = .int .i64 ((k : Int) - 1) ∧ Hid (la.drop k = lb.drop k) ∧ Hid (Below w.heap.size w wr)) (fun i _ => (intOf i + 1).toNat)
    case atStart => exact ⟨n, Nat.le_refl _, rfl, Lib.hid (by rw [List.drop_of_length_le (by have := HLA.out; omega), List.drop_of_length_le (by have := HLB.out; omega)]), Below.refl _ _⟩
    case round =>
      obtain ⟨k, hk, rfl, HD, HB⟩ := hrel
      by_cases hk0 : k = 0
      · subst hk0
        have he : la = lb := by simpa using HD.out
        have HE := Lib.hid he
        clear he
        go_wp2_with fail
        go_ret
        exact ⟨0, rfl, ⟨by rw [HE.out]; omega, by rw [HE.out]; simp⟩, HB.out⟩
      · obtain ⟨j, rfl⟩ : ∃ j, k = j + 1 := ⟨k - 1, by omega⟩
        obtain ⟨b, o, rfl, hb1, hjl, y0⟩ := u32_at (H.out.below HB.out) (k := j) (by omega)
        obtain ⟨b', o', rfl, hb2, hjl', y1⟩ := u32_at (H'.out.below HB.out) (k := j) (by omega)
        have hbr : b < wr.heap.size := by have := HB.out.size; omega
        have hbr2 : b' < wr.heap.size := by have := HB.out.size; omega
        have e1 : (((j + 1 : Nat) : Int) - 1) = (j : Int) := by omega
        rw [e1]
        have j0 : (0 : Int) ≤ (j : Int) := by omega
        have j1 : (j : Int) < (n : Int) := by omega
        have HX : Hid (∃ x y, x = la[j] ∧ y = lb[j]) := ⟨_, _, rfl, rfl⟩
        obtain ⟨x, y, hx, hy⟩ := HX.out
        rw [← hx] at y0
        rw [← hy] at y1
        have HXE := Lib.hid hx
        have HYE := Lib.hid hy
        clear hx hy HX e1
        by_cases hxy : x = y
        · subst hxy
          have HD2 : Hid (la.drop j = lb.drop j) := by
            show _ = _
            rw [List.drop_eq_getElem_cons hjl, List.drop_eq_getElem_cons hjl', ← HXE.out, ← HYE.out, HD.out]
          have wj : IntKind.i64.wrap ((j : Int) - 1) = (j : Int) - 1 := IntWalk.i64_in _ (by omega)
          clear HD
          go_wp2_with fail
          go_quiet (fail)
          have GS := Lib.hid (below_dn HB.out nq)
          go_wp2_with fail
          go_roundw
          case rel => exact ⟨j, by omega, rfl, HD2, GS⟩
          case measure => simp [intOf]
        · have hv : (x < y → Pl.lv la < Pl.lv lb) ∧ (y < x → Pl.lv lb < Pl.lv la) := by
            constructor
            · intro h
              exact Pl.lv_top_lt ca.1 (by rw [HLA.out, HLB.out]) hjl HD.out (by rw [← HXE.out, ← HYE.out]; exact h)
            · intro h
              exact Pl.lv_top_lt cb.1 (by rw [HLA.out, HLB.out]) hjl' HD.out.symm (by rw [← HXE.out, ← HYE.out]; exact h)
          have HV := Lib.hid hv
          have hne : ((x : Int) != (y : Int)) = true := by simp; omega
          clear hv HD
          by_cases hlt : x < y
          · have hlt2 : (x : Int) < (y : Int) := by omega
            have HL := Lib.hid hlt
            clear hlt
            go_wp2_with fail
            go_quiet (fail)
            have GS := Lib.hid (below_dn HB.out nq)
            go_wp2_with fail
            go_quiet (fail)
            have GS2 := Lib.hid (below_dn GS.out nq)
            go_wp2_with fail
            go_ret
            refine ⟨-1, rfl, ⟨?_, ?_⟩, GS2.out⟩
            · have := HV.out.1 HL.out; omega
            · have := HV.out.1 HL.out; omega
          · have hlt2 : ¬ (x : Int) < (y : Int) := by omega
            have HL := Lib.hid (show y < x by omega)
            clear hlt
            go_wp2_with fail
            go_quiet (fail)
            have GS := Lib.hid (below_dn HB.out nq)
            go_wp2_with fail
            go_quiet (fail)
            have GS2 := Lib.hid (below_dn GS.out nq)
            go_wp2_with fail
            go_ret
            refine ⟨1, rfl, ⟨?_, ?_⟩, GS2.out⟩
            · have := HV.out.2 HL.out; omega
            · have := HV.out.2 HL.out; omega
  · have hne : ((n : Int) != (m : Int)) = true := by simp; omega
    have wnm : IntKind.i64.wrap ((n : Int) - (m : Int)) = (n : Int) - (m : Int) := IntWalk.i64_in _ (by omega)
    have HV : Hid (CmpSaid (Pl.lv la) (Pl.lv lb) ((n : Int) - (m : Int))) := by
      rcases Nat.lt_or_gt_of_ne hnm with h | h
      · have := Pl.can_lt ca cb (by omega)
        exact ⟨by omega, by omega⟩
      · have := Pl.can_lt cb ca (by omega)
        exact ⟨by omega, by omega⟩
    clear ha hb hla hlb hnm
    go_enter Tryd.func28, Tryd.ntmps28
    go_wp2_with fail
    go_ret
    exact ⟨_, rfl, HV.out, Below.refl _ _⟩
end Go.Proofs.YtflfbbdapbjaaaaDoor
