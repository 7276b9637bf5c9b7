/- Numbers of package large in memory: words; norm and Neg answer as integers. Condition: the words read. Package large: Neg, Sign, cmpWords, addWords, subWords answer as integers. Condition: the words read. Package large: arrays of words; cmpWords, addWords answer as integers. Condition: the words read. Package large: addWords, subWords answer as integers. Condition: the words read. Package large: subWords answers as integers. Condition: the words read; what is taken away is not larger. -/
import Derived.Test.YtoblpcljhblnmaaGreatDoorBase
import Derived.Test.YtoblpcljhblnmaaGreatDoorPLarge
import Derived.Deep.RegionHeld3
import Derived.BigQuiet
import Derived.Test.YtoblpcljhblnmaaGreatDoorPLargeB
namespace Go.Proofs.YtoblpcljhblnmaaGreatDoor
open Go.RowKit
set_option maxRecDepth 100000
def u32s (l : List Nat) : List Value := l.map fun (x : Nat) => Value.int .u32 (x : Int)
theorem u32_len {w : World} {B n : Nat} {A : Option Addr} {l : List Nat} (h : Reads w B 1 A n (u32s l)) : l.length = n := by
  have := h.1; simpa [u32s] using this
theorem u32_at {w : World} {B n : Nat} {A : Option Addr} {l : List Nat} (h : Reads w B 1 A n (u32s l)) {k : Nat} (hk : k < n) :
    ∃ b o, A = some ⟨b, o, none⟩ ∧ b < B ∧ ∃ hl : k < l.length, w.cell? ⟨b, o + k, none⟩ = some (.int .u32 (l[k]'hl : Nat)) := by
  obtain ⟨b, o, rfl, hb, hc⟩ := h.where_ (by omega) (by omega)
  have hl : k < l.length := by have := u32_len h; omega
  exact ⟨b, o, rfl, hb, hl, hc k _ (by simp [u32s, hl])⟩
theorem u32_take {w : World} {B n : Nat} {A : Option Addr} {l : List Nat} (h : Reads w B 1 A n (u32s l)) {k : Nat} (hk : k ≤ n) : Reads w B 1 A k (u32s (l.take k)) := by
  refine ⟨by have := u32_len h; simp [u32s]; omega, fun h0 => ?_⟩
  obtain ⟨ad, e, hb, hc⟩ := h.2 (by omega)
  refine ⟨ad, e, hb, fun j u hu => hc j u ?_⟩
  unfold u32s at hu ⊢
  rw [List.map_take, List.getElem?_take] at hu
  split at hu
  · exact hu
  · cases hu
def vNum (z : Int) (A : Option Addr) (c : Nat) : Value := .agg #[.bool (decide (z < 0)), .slice A (Pl.nw z.natAbs) c]
def NumAt (w : World) (B : Nat) (z : Int) (A : Option Addr) (c : Nat) : Prop := Pl.nw z.natAbs ≤ c ∧ Reads w B 1 A (Pl.nw z.natAbs) (u32s (Pl.digs z.natAbs))
theorem NumAt.more {w : World} {B B' : Nat} {z : Int} {A : Option Addr} {c : Nat} (h : NumAt w B z A c) (hb : B ≤ B') : NumAt w B' z A c := ⟨h.1, h.2.more hb⟩
theorem NumAt.go {w w' : World} {z : Int} {A : Option Addr} {c : Nat} (h : NumAt w w.heap.size z A c) (hb : Below w.heap.size w w') : NumAt w' w'.heap.size z A c := ⟨h.1, h.2.go hb⟩
theorem elem_u32 : Tryz.prog.underlying 101 = some (.slice (Tryz.prog.elem 101)) := by kernel_rfl
theorem size_u32 : ∀ w : World, (sizeOf (Tryz.prog.elem 101)).run Tryz.prog w = .ok 1 w := fun _ => by kernel_rfl
theorem u32_to {n c : Nat} {A : Option Addr} (m : Int) (k : Nat) (hm : m = k) (hk : k ≤ n) (hnc : n ≤ c) (w : World) : (Instr.slice 101 (.slice A n c) none (some (.int .i64 m)) none).run Tryz.prog w = .ok (.slice A k c) w := by
  subst hm
  have e : A.map (·.add 0) = A := by
    cases A with
    | none => rfl
    | some a => simp [Addr.add]
  rw [run_slice_h w 101 A n c elem_u32 .i64 k (by omega) (by omega), size_u32]
  simp [sliced, Result.andThen]
  exact fun _ => e
def sgn (m : Bool) (n : Nat) : Int := if m = true then -(n : Int) else (n : Int)
theorem sgn_abs (m : Bool) (n : Nat) : (sgn m n).natAbs = n := by unfold sgn; split <;> omega
theorem sgn_neg (m : Bool) (n : Nat) : decide (sgn m n < 0) = (m && decide (0 < n)) := by
  unfold sgn
  cases m <;> simp
theorem take_digs {l : List Nat} (h : Pl.W32 l) {k : Nat} (hk : k ≤ l.length) (hv : Pl.lv (l.take k) = Pl.lv l) (hc : ∀ h1 : 0 < k, l[k - 1]'(by omega) ≠ 0) : Pl.digs (Pl.lv l) = l.take k ∧ Pl.nw (Pl.lv l) = k := by
  have e := Pl.digs_take h hk hv hc
  refine ⟨e, ?_⟩
  unfold Pl.nw
  rw [e, List.length_take, Nat.min_eq_left hk]
set_option maxHeartbeats 1600000 in
theorem norm_any (m : Bool) (A : Option Addr) (n c : Nat) (l : List Nat) (w : World) (hn : n ≤ 9223372036854775807) (hc : n ≤ c) (h : Reads w w.heap.size 1 A n (u32s l)) (hW : Pl.W32 l) :
    Calls Tryz.prog 133 #[.bool m, .slice A n c] w fun e w' => e = .returned (vNum (sgn m (Pl.lv l)) A c) ∧ NumAt w' w'.heap.size (sgn m (Pl.lv l)) A c ∧ Below w.heap.size w w' := by
  have H := Lib.hid h
  have HW := Lib.hid hW
  have HL := Lib.hid (u32_len h)
  clear h hW
  go_enter Tryz.func133, Tryz.ntmps133
  go_wp2_with fail
  go_loopw [1] (fun s wr => ∃ k : Nat, k ≤ n ∧ s = .slice A k c ∧ Hid (Pl.lv (l.take k) = Pl.lv l) ∧ Hid (Below w.heap.size w wr) ∧ Hid (Blk wr w.heap.size 103 #[.bool false, .slice none 0 0])) (fun s _ => match s with | .slice _ k _ => k | _ => 0)
  case atStart => exact ⟨n, Nat.le_refl _, rfl, Lib.hid (by rw [← HL.out, List.take_length]), (Below.refl _ w).alloc (Nat.le_refl _) _, Blk.new_ w _ _ _ rfl⟩
  case round =>
    obtain ⟨k, hk, rfl, HV, HB, HK⟩ := hrel
    have hkl : k ≤ l.length := by have := HL.out; omega
    have hend : ∀ hc0 : (∀ h1 : 0 < k, l[k - 1]'(by omega) ≠ 0), Pl.digs (Pl.lv l) = l.take k ∧ Pl.nw (Pl.lv l) = k := fun hc0 => take_digs HW.out hkl HV.out hc0
    have HEND := Lib.hid hend
    have fin : ∀ (b : Bool), b = (m && decide (0 < k)) → Pl.digs (Pl.lv l) = l.take k ∧ Pl.nw (Pl.lv l) = k → Hid (Value.agg #[.bool b, .slice A k c] = vNum (sgn m (Pl.lv l)) A c ∧ NumAt ((wr.setCell ⟨w.heap.size, 0, none⟩ (.bool b)).setCell ⟨w.heap.size, 1, none⟩ (.slice A k c)) ((wr.setCell ⟨w.heap.size, 0, none⟩ (.bool b)).setCell ⟨w.heap.size, 1, none⟩ (.slice A k c)).heap.size (sgn m (Pl.lv l)) A c ∧ Below w.heap.size w ((wr.setCell ⟨w.heap.size, 0, none⟩ (.bool b)).setCell ⟨w.heap.size, 1, none⟩ (.slice A k c)) ∧ Blk ((wr.setCell ⟨w.heap.size, 0, none⟩ (.bool b)).setCell ⟨w.heap.size, 1, none⟩ (.slice A k c)) w.heap.size 103 #[.bool b, .slice A k c]) := fun b hb hd => by
      have hbl : Below w.heap.size w ((wr.setCell ⟨w.heap.size, 0, none⟩ (.bool b)).setCell ⟨w.heap.size, 1, none⟩ (.slice A k c)) := (HB.out.setCell (Nat.le_refl _) _).setCell (Nat.le_refl _) _
      refine ⟨?_, ⟨?_, ?_⟩, hbl, (HK.out.set_ 0 (.bool b)).set_ 1 (.slice A k c)⟩
      · unfold vNum
        rw [sgn_abs, sgn_neg, hd.2, hb]
        have e : decide (0 < Pl.lv l) = decide (0 < k) := by
          rw [← hd.2]
          rw [decide_eq_decide]
          constructor
          · intro h
            rcases Nat.eq_zero_or_pos (Pl.nw (Pl.lv l)) with h0 | h0
            · have := Pl.digs_nil.1 (List.eq_nil_of_length_eq_zero h0)
              omega
            · exact h0
          · intro h
            rcases Nat.eq_zero_or_pos (Pl.lv l) with h0 | h0
            · rw [h0, Pl.nw_zero] at h; exact absurd h (by omega)
            · exact h0
        rw [e]
      · rw [sgn_abs, hd.2]; omega
      · rw [sgn_abs, hd.2, hd.1]
        exact (u32_take (H.out.below hbl) hk).more hbl.size
    have FIN := Lib.hid fin
    have bc := HK.out.cell
    have fz := HK.out.frozen
    have lb := HK.out.lt
    clear hend fin
    by_cases hk0 : k = 0
    · subst hk0
      have F := FIN.out false (by simp) (HEND.out (fun h => by omega))
      clear FIN HEND HV
      cases m with
      | true =>
        go_wp2_with fail
        have k7 := F.out.2.2.2.cell
        refine bodyPost_ret (v := .agg #[.bool false, .slice A 0 c]) (by simp [results, Tryz.results133, go_sem, k7]) rfl ⟨by rw [← F.out.1], F.out.2.1, F.out.2.2.1⟩
      | false =>
        go_wp2_with fail
        have k7 := F.out.2.2.2.cell
        refine bodyPost_ret (v := .agg #[.bool false, .slice A 0 c]) (by simp [results, Tryz.results133, go_sem, k7]) rfl ⟨by rw [← F.out.1], F.out.2.1, F.out.2.2.1⟩
    · obtain ⟨j, rfl⟩ : ∃ j, k = j + 1 := ⟨k - 1, by omega⟩
      obtain ⟨b, o, rfl, hb, hjl, y0⟩ := u32_at (H.out.below HB.out) (k := j) (by omega)
      have HBR := Lib.hid hb
      have wj : IntKind.i64.wrap ((j : Int) + 1 - 1) = (j : Int) := by rw [show (j : Int) + 1 - 1 = j by omega]; exact IntWalk.i64_in _ (by omega)
      have j0 : (0 : Int) ≤ (j : Int) := by omega
      have j1 : (j : Int) < (j : Int) + 1 := by omega
      have j2 : (0 : Int) < (j : Int) + 1 := by omega
      have hsl := fun W => u32_to (n := j + 1) (c := c) (A := some ⟨b, o, none⟩) (j : Int) j rfl (by omega) (by omega) W
      have HX : Hid (∃ x, x = l[j]) := ⟨_, rfl⟩
      obtain ⟨x, hx⟩ := HX.out
      rw [← hx] at y0
      have HXE := Lib.hid hx
      clear hx HX
      by_cases h0 : x = 0
      · subst h0
        have HV2 : Hid (Pl.lv (l.take j) = Pl.lv l) := Pl.lv_take_zero hjl HXE.out.symm HV.out
        clear FIN HEND HV bc fz lb
        go_wp2_with fail
        exact ⟨⟨j, by omega, rfl, HV2, HB, HK⟩, Nat.lt_succ_self j⟩
      · have hx1 : ((x : Int) == 0) = false := by simpa using h0
        have hd := HEND.out (fun _ => by
          have e : l[j + 1 - 1]'(by omega) = l[j] := by congr 1
          rw [e, ← HXE.out]; exact h0)
        cases m with
        | true =>
          have F := FIN.out true (by simp) hd
          clear FIN HEND HV hd h0
          go_wp2_with fail
          have k7 := F.out.2.2.2.cell
          refine bodyPost_ret (v := .agg #[.bool true, .slice (some ⟨b, o, none⟩) (j + 1) c]) (by simp [results, Tryz.results133, go_sem, k7]) rfl ⟨by rw [← F.out.1], F.out.2.1, F.out.2.2.1⟩
        | false =>
          have F := FIN.out false (by simp) hd
          clear FIN HEND HV hd h0
          go_wp2_with fail
          have k7 := F.out.2.2.2.cell
          refine bodyPost_ret (v := .agg #[.bool false, .slice (some ⟨b, o, none⟩) (j + 1) c]) (by simp [results, Tryz.results133, go_sem, k7]) rfl ⟨by rw [← F.out.1], F.out.2.1, F.out.2.2.1⟩
end Go.Proofs.YtoblpcljhblnmaaGreatDoor
namespace Go.Proofs.YtoblpcljhblnmaaGreatDoor
open Go.RowKit
set_option maxRecDepth 100000
theorem sgn_not (z : Int) : sgn (!decide (z < 0)) z.natAbs = -z := by
  unfold sgn
  by_cases h : z < 0
  · simp [h]; omega
  · simp [h]; omega
theorem below_one (w : World) (o : Obj) : Below w.heap.size w (w.alloc o) := (Below.refl _ w).alloc (Nat.le_refl _) o
theorem u32_far {w : World} {B n r : Nat} {A A1 : Option Addr} {l : List Nat} {x : Bool} {n1 c1 : Nat} {t : TypeId} (h : Reads w B 1 A n (u32s l)) (hb : Blk w r t #[.bool x, .slice A1 n1 c1]) (i : Nat) (u : Value) : Reads (w.setCell ⟨r, i, none⟩ u) B 1 A n (u32s l) := by
  refine ⟨h.1, fun hn => ?_⟩
  obtain ⟨b, o, rfl, hbB, hc⟩ := h.where_ hn (by omega)
  have hl := u32_len h
  refine ⟨⟨b, o, none⟩, rfl, hbB, fun j v hv => ?_⟩
  obtain ⟨ad, e, _, hc2⟩ := h.2 hn
  injection e with e
  subst e
  have h0 := hc 0 _ (by unfold u32s; rw [List.getElem?_map, List.getElem?_eq_getElem (by omega)]; rfl)
  have hne : b ≠ r := by
    rintro rfl
    have := hb.cell o
    rw [Nat.add_zero] at h0
    rw [h0] at this
    match o, this with
    | 0, this => cases this
    | 1, this => cases this
    | o + 2, this => simp at this
  refine (World.cell?_setCell_other w _ _ u (fun e => ?_)).trans (hc2 j v hv)
  have e2 := congrArg Addr.block e
  rw [block_of_add] at e2
  first | exact hne e2 | exact hne e2.symm
theorem NumAt.far {w : World} {B r : Nat} {z : Int} {A A1 : Option Addr} {c : Nat} {x : Bool} {n1 c1 : Nat} {t : TypeId} (h : NumAt w B z A c) (hb : Blk w r t #[.bool x, .slice A1 n1 c1]) (i : Nat) (u : Value) : NumAt (w.setCell ⟨r, i, none⟩ u) B z A c := ⟨h.1, u32_far h.2 hb i u⟩
theorem num_put {w0 w : World} {z : Int} {A A1 : Option Addr} {c r n1 c1 : Nat} {x : Bool} {t : TypeId} (hb : Blk w r t #[.bool x, .slice A1 n1 c1]) (h : NumAt w w.heap.size z A c) (hd : Below w0.heap.size w0 w) (hr : w0.heap.size ≤ r) :
    Blk ((w.setCell ⟨r, 0, none⟩ (.bool (decide (z < 0)))).setCell ⟨r, 1, none⟩ (.slice A (Pl.nw z.natAbs) c)) r t #[.bool (decide (z < 0)), .slice A (Pl.nw z.natAbs) c] ∧
    NumAt ((w.setCell ⟨r, 0, none⟩ (.bool (decide (z < 0)))).setCell ⟨r, 1, none⟩ (.slice A (Pl.nw z.natAbs) c)) ((w.setCell ⟨r, 0, none⟩ (.bool (decide (z < 0)))).setCell ⟨r, 1, none⟩ (.slice A (Pl.nw z.natAbs) c)).heap.size z A c ∧
    Below w0.heap.size w0 ((w.setCell ⟨r, 0, none⟩ (.bool (decide (z < 0)))).setCell ⟨r, 1, none⟩ (.slice A (Pl.nw z.natAbs) c)) := by
  have b1 : Blk (w.setCell ⟨r, 0, none⟩ (.bool (decide (z < 0)))) r t #[.bool (decide (z < 0)), .slice A1 n1 c1] := hb.set_ 0 _
  refine ⟨b1.set_ 1 _, ?_, (hd.setCell hr _).setCell hr _⟩
  have h1 := (h.far hb 0 (.bool (decide (z < 0)))).far b1 1 (.slice A (Pl.nw z.natAbs) c)
  refine h1.more ?_
  simp
theorem neg_any (z : Int) (A : Option Addr) (c : Nat) (w : World) (hc : Pl.nw z.natAbs ≤ 9223372036854775807) (h : NumAt w w.heap.size z A c) :
    Calls Tryz.prog 118 #[vNum z A c] w fun e w' => e = .returned (vNum (-z) A c) ∧ NumAt w' w'.heap.size (-z) A c ∧ Below w.heap.size w w' := by
  have B0 := Lib.hid ((Blk.new_ w w.heap.size 103 #[.bool (decide (z < 0)), .slice A (Pl.nw z.natAbs) c] rfl).alloc (.cells #[.bool false, .slice none 0 0] 103))
  have B1 := Lib.hid (Blk.new_ (w.alloc (.cells #[.bool (decide (z < 0)), .slice A (Pl.nw z.natAbs) c] 103)) (w.heap.size + 1) 103 #[.bool false, .slice none 0 0] (by simp))
  have D := Lib.hid (((Below.refl w.heap.size w).alloc (Nat.le_refl _) (.cells #[.bool (decide (z < 0)), .slice A (Pl.nw z.natAbs) c] 103)).alloc (by simp) (.cells #[.bool false, .slice none 0 0] 103))
  have HN := Lib.hid (norm_any (!decide (z < 0)) A (Pl.nw z.natAbs) c (Pl.digs z.natAbs) _ hc h.1 (h.2.go D.out) (Pl.digs_can _).1)
  rw [Pl.lv_digs, sgn_not] at HN
  generalize -z = y at *
  unfold vNum
  generalize hb : decide (z < 0) = b at *
  clear hb
  go_enter Tryz.func118, Tryz.ntmps118
  generalize HW : ((w.alloc (.cells #[.bool b, .slice A (Pl.nw z.natAbs) c] 103)).alloc (.cells #[.bool false, .slice none 0 0] 103)) = w1 at *
  have b0 := B0.out.cell
  have l0 := B0.out.lt
  go_wp2_with fail
  refine HN.out.mono ?_
  rintro e w2 ⟨rfl, hna, hb⟩
  have B2 := Lib.hid (B1.out.go hb)
  have D2 := Lib.hid (D.out.trans (hb.mono D.out.size))
  have HA := Lib.hid hna
  clear hb hna HN b0 l0 h
  have b2 := B2.out.cell
  have f2 := B2.out.frozen
  have l2 := B2.out.lt
  unfold vNum
  go_wp2_with fail
  have F := Lib.hid (num_put B2.out HA.out D2.out (Nat.le_succ _))
  have k7 := F.out.1.cell
  refine bodyPost_ret (v := vNum y A c) (by simp [results, Tryz.results118, go_sem, vNum, k7]) rfl ⟨rfl, F.out.2⟩
end Go.Proofs.YtoblpcljhblnmaaGreatDoor
namespace Go.Proofs.YtoblpcljhblnmaaGreatDoor
open Go.RowKit
set_option maxRecDepth 100000
def WB (w : World) (g : Nat) (l : List Nat) : Prop := Blk w g 225 (u32s l).toArray
section
variable {w w' : World} {g : Nat} {l : List Nat}
theorem WB.lt (h : WB w g l) : g < w.heap.size := Blk.lt h
theorem WB.at_ (h : WB w g l) {k : Nat} (hk : k < l.length) : w.cell? ⟨g, k, none⟩ = some (.int .u32 (l[k] : Nat)) := by
  refine (Blk.cell h k).trans ?_
  unfold u32s
  simp [hk]
theorem WB.ex (h : WB w g l) {k : Nat} (hk : k < l.length) : ∃ v, w.cell? ⟨g, k, none⟩ = some (.int .u32 v) := ⟨_, h.at_ hk⟩
theorem WB.frozen (h : WB w g l) (k : Nat) : w.frozen? ⟨g, k, none⟩ = false := Blk.frozen h k
theorem WB.set_ (h : WB w g l) (k x : Nat) : WB (w.setCell ⟨g, k, none⟩ (.int .u32 (x : Int))) g (l.set k x) := by
  have := Blk.set_ h k (.int .u32 (x : Int))
  unfold WB
  have e : (u32s l).toArray.setIfInBounds k (.int .u32 (x : Int)) = (u32s (l.set k x)).toArray := by
    unfold u32s
    rw [List.map_set]; simp
  rw [e] at this
  exact this
theorem WB.go (h : WB w g l) (hb : Below w.heap.size w w') : WB w' g l := Blk.go h hb
theorem WB.reads (h : WB w g l) : Reads w w.heap.size 1 (some ⟨g, 0, none⟩) l.length (u32s l) := by
  refine ⟨by simp [u32s], fun _ => ⟨_, rfl, h.lt, fun j u hu => ?_⟩⟩
  have e : (⟨g, 0, none⟩ : Addr).add j = ⟨g, j, none⟩ := by
    unfold Addr.add
    by_cases hj : j = 0
    · subst hj; rfl
    · simp [hj]
  rw [e]
  refine (Blk.cell h j).trans ?_
  rw [List.getElem?_toArray]; exact hu
end
theorem info_u32 : (Tryz.prog.info? 225).map (fun i => (i.zero, i.size, i.bytes)) = some (some (.int .u32 0), 1, 4) := by kernel_rfl
theorem make_u32 (n : Nat) (hn : n ≤ 70368744177664) (w : World) : (Instr.makeSlice 101 (.int .i64 (n : Int)) (.int .i64 (n : Int))).run Tryz.prog w = .ok (.slice (some ⟨w.heap.size, 0, none⟩) n n) (w.alloc (.cells (u32s (List.replicate n 0)).toArray 225)) := by
  obtain ⟨j0, ji0, jz0, jz1, jz2⟩ := info_parts info_u32
  have := run_make (P := Tryz.prog) w 101 225 j0 (.int .u32 0) Tryz.underlying101 ji0 jz0 .i64 .i64 n n (by omega) (by omega) (by rw [jz2]; omega) (by omega)
  rw [jz1, show (Value.int .u32 0).cells = #[.int .u32 0] from rfl] at this
  rw [show (u32s (List.replicate n 0)).toArray = madeCells #[.int .u32 0] n from by
    apply Array.ext'
    rw [toList_madeCells_one]
    unfold u32s
    simp]
  simpa using this
theorem WB.new_ (w : World) (n : Nat) : WB (w.alloc (.cells (u32s (List.replicate n 0)).toArray 225)) w.heap.size (List.replicate n 0) := Blk.new_ w _ _ _ rfl
theorem below_dn {B : Nat} {a w : World} (h : Below B a w) (n : Nat) : Below B a (w.drewN n) := ⟨h.os, h.tape, h.output, h.size, h.block⟩
def CmpSaid (a b : Nat) (r : Int) : Prop := (r < 0 ↔ a < b) ∧ (r = 0 ↔ a = b)
set_option maxHeartbeats 1600000 in
theorem cmpw_any (A : Option Addr) (n c : Nat) (la : List Nat) (B : Option Addr) (m d : Nat) (lb : List Nat) (w : World) (hn : n ≤ 9223372036854775807) (hm : m ≤ 9223372036854775807) (ha : Reads w w.heap.size 1 A n (u32s la)) (hb : Reads w w.heap.size 1 B m (u32s lb)) (ca : Pl.Can la) (cb : Pl.Can lb) :
    Calls Tryz.prog 135 #[.slice A n c, .slice B m d] w fun e w' => ∃ r : Int, e = .returned (.int .i64 r) ∧ CmpSaid (Pl.lv la) (Pl.lv lb) r ∧ Below w.heap.size w w' := by
  have H := Lib.hid ha
  have H' := Lib.hid hb
  have hla := u32_len ha
  have hlb := u32_len hb
  by_cases hnm : n = m
  · subst hnm
    have HLA := Lib.hid hla
    have HLB := Lib.hid hlb
    clear ha hb hla hlb
    have wn1 : IntKind.i64.wrap ((n : Int) - 1) = (n : Int) - 1 := IntWalk.i64_in _ (by omega)
    go_enter Tryz.func135, Tryz.ntmps135
    go_wp2_with fail
    go_loopw [5] (fun i wr => ∃ k : Nat, k ≤ n ∧ i = .int .i64 ((k : Int) - 1) ∧ Hid (la.drop k = lb.drop k) ∧ Hid (Below w.heap.size w wr)) (fun i _ => (intOf i + 1).toNat)
    case atStart => exact ⟨n, Nat.le_refl _, rfl, Lib.hid (by rw [List.drop_of_length_le (by have := HLA.out; omega), List.drop_of_length_le (by have := HLB.out; omega)]), Below.refl _ _⟩
    case round =>
      obtain ⟨k, hk, rfl, HD, HB⟩ := hrel
      by_cases hk0 : k = 0
      · subst hk0
        have he : la = lb := by simpa using HD.out
        have HE := Lib.hid he
        clear he
        go_wp2_with fail
        go_ret
        exact ⟨0, rfl, ⟨by rw [HE.out]; omega, by rw [HE.out]; simp⟩, HB.out⟩
      · obtain ⟨j, rfl⟩ : ∃ j, k = j + 1 := ⟨k - 1, by omega⟩
        obtain ⟨b, o, rfl, hb1, hjl, y0⟩ := u32_at (H.out.below HB.out) (k := j) (by omega)
        obtain ⟨b', o', rfl, hb2, hjl', y1⟩ := u32_at (H'.out.below HB.out) (k := j) (by omega)
        have hbr : b < wr.heap.size := by have := HB.out.size; omega
        have hbr2 : b' < wr.heap.size := by have := HB.out.size; omega
        have e1 : (((j + 1 : Nat) : Int) - 1) = (j : Int) := by omega
        rw [e1]
        have j0 : (0 : Int) ≤ (j : Int) := by omega
        have j1 : (j : Int) < (n : Int) := by omega
        have HX : Hid (∃ x y, x = la[j] ∧ y = lb[j]) := ⟨_, _, rfl, rfl⟩
        obtain ⟨x, y, hx, hy⟩ := HX.out
        rw [← hx] at y0
        rw [← hy] at y1
        have HXE := Lib.hid hx
        have HYE := Lib.hid hy
        clear hx hy HX e1
        by_cases hxy : x = y
        · subst hxy
          have HD2 : Hid (la.drop j = lb.drop j) := by
            show _ = _
            rw [List.drop_eq_getElem_cons hjl, List.drop_eq_getElem_cons hjl', ← HXE.out, ← HYE.out, HD.out]
          have wj : IntKind.i64.wrap ((j : Int) - 1) = (j : Int) - 1 := IntWalk.i64_in _ (by omega)
          clear HD
          go_wp2_with fail
          go_quiet (fail)
          have GS := Lib.hid (below_dn HB.out nq)
          go_wp2_with fail
          go_roundw
          case rel => exact ⟨j, by omega, rfl, HD2, GS⟩
          case measure => simp [intOf]
        · have hv : (x < y → Pl.lv la < Pl.lv lb) ∧ (y < x → Pl.lv lb < Pl.lv la) := by
            constructor
            · intro h
              exact Pl.lv_top_lt ca.1 (by rw [HLA.out, HLB.out]) hjl HD.out (by rw [← HXE.out, ← HYE.out]; exact h)
            · intro h
              exact Pl.lv_top_lt cb.1 (by rw [HLA.out, HLB.out]) hjl' HD.out.symm (by rw [← HXE.out, ← HYE.out]; exact h)
          have HV := Lib.hid hv
          have hne : ((x : Int) != (y : Int)) = true := by simp; omega
          clear hv HD
          by_cases hlt : x < y
          · have hlt2 : (x : Int) < (y : Int) := by omega
            have HL := Lib.hid hlt
            clear hlt
            go_wp2_with fail
            go_quiet (fail)
            have GS := Lib.hid (below_dn HB.out nq)
            go_wp2_with fail
            go_quiet (fail)
            have GS2 := Lib.hid (below_dn GS.out nq)
            go_wp2_with fail
            go_ret
            refine ⟨-1, rfl, ⟨?_, ?_⟩, GS2.out⟩
            · have := HV.out.1 HL.out; omega
            · have := HV.out.1 HL.out; omega
          · have hlt2 : ¬ (x : Int) < (y : Int) := by omega
            have HL := Lib.hid (show y < x by omega)
            clear hlt
            go_wp2_with fail
            go_quiet (fail)
            have GS := Lib.hid (below_dn HB.out nq)
            go_wp2_with fail
            go_quiet (fail)
            have GS2 := Lib.hid (below_dn GS.out nq)
            go_wp2_with fail
            go_ret
            refine ⟨1, rfl, ⟨?_, ?_⟩, GS2.out⟩
            · have := HV.out.2 HL.out; omega
            · have := HV.out.2 HL.out; omega
  · have hne : ((n : Int) != (m : Int)) = true := by simp; omega
    have wnm : IntKind.i64.wrap ((n : Int) - (m : Int)) = (n : Int) - (m : Int) := IntWalk.i64_in _ (by omega)
    have HV : Hid (CmpSaid (Pl.lv la) (Pl.lv lb) ((n : Int) - (m : Int))) := by
      rcases Nat.lt_or_gt_of_ne hnm with h | h
      · have := Pl.can_lt ca cb (by omega)
        exact ⟨by omega, by omega⟩
      · have := Pl.can_lt cb ca (by omega)
        exact ⟨by omega, by omega⟩
    clear ha hb hla hlb hnm
    go_enter Tryz.func135, Tryz.ntmps135
    go_wp2_with fail
    go_ret
    exact ⟨_, rfl, HV.out, Below.refl _ _⟩
end Go.Proofs.YtoblpcljhblnmaaGreatDoor
namespace Go.Proofs.YtoblpcljhblnmaaGreatDoor
open Go.RowKit
set_option maxRecDepth 100000
def WordsSaid (v bound : Nat) (w : World) (e : Ending) (w' : World) : Prop :=
  ∃ (A : Option Addr) (n c : Nat) (l : List Nat), e = .returned (.slice A n c) ∧ n ≤ c ∧ n ≤ bound ∧ Pl.W32 l ∧ Pl.lv l = v ∧ Reads w' w'.heap.size 1 A n (u32s l) ∧ Below w.heap.size w w'
theorem set_next (pre : List Nat) (m x : Nat) : (pre ++ List.replicate (m + 1) 0).set pre.length x = (pre ++ [x]) ++ List.replicate m 0 := by
  rw [List.set_append_right _ _ (Nat.le_refl _), Nat.sub_self, List.replicate_succ, List.set_cons_zero, List.append_assoc]
  rfl
theorem take_all {l : List Nat} {n k : Nat} (h : l.length = n) (hk : n ≤ k) : l.take k = l := List.take_of_length_le (by omega)
set_option maxHeartbeats 3200000 in
theorem addw_any (A : Option Addr) (n c : Nat) (la : List Nat) (B : Option Addr) (m d : Nat) (lb : List Nat) (w : World) (hn : n ≤ 35184372088832) (hm : m ≤ 35184372088832) (ha : Reads w w.heap.size 1 A n (u32s la)) (hb : Reads w w.heap.size 1 B m (u32s lb)) (ca : Pl.W32 la) (cb : Pl.W32 lb) :
    Calls Tryz.prog 134 #[.slice A n c, .slice B m d] w (WordsSaid (Pl.lv la + Pl.lv lb) (max n m + 1) w) := by
  have H := Lib.hid ha
  have H' := Lib.hid hb
  have HLA := Lib.hid (u32_len ha)
  have HLB := Lib.hid (u32_len hb)
  have HCA := Lib.hid ca
  have HCB := Lib.hid cb
  clear ha hb ca cb
  by_cases hnm : n < m
  · have hnmi : (n : Int) < (m : Int) := by omega
    obtain ⟨z, hz⟩ : ∃ z : Nat, z = m + 1 := ⟨_, rfl⟩
    have wn1 : IntKind.i64.wrap ((m : Int) + 1) = (z : Int) := by rw [show (z : Int) = (m : Int) + 1 by omega]; exact IntWalk.i64_in _ (by omega)
    have hmk := fun W => make_u32 z (by omega) W
    have HZ := Lib.hid hz
    have hz1 : m < z := by omega
    clear hz
    go_enter Tryz.func134, Tryz.ntmps134
    go_wp2_with fail
    have B0 := Lib.hid (WB.new_ w z)
    have D0 := Lib.hid ((Below.refl w.heap.size w).alloc (Nat.le_refl _) (.cells (u32s (List.replicate z 0)).toArray 225))
    generalize (w.alloc (.cells (u32s (List.replicate z 0)).toArray 225)) = w1 at *
    clear hmk
    clear wn1
    go_loopw [6, 21] (fun cv i wr => ∃ (k cy : Nat) (pre : List Nat), k ≤ m ∧ i = .int .i64 (k : Int) ∧ cv = .int .u64 (cy : Int) ∧ cy ≤ 1 ∧ Hid (pre.length = k ∧ Pl.W32 pre ∧ Pl.lv pre + 4294967296 ^ k * cy = Pl.lv (lb.take k) + Pl.lv (la.take k)) ∧ Hid (WB wr w.heap.size (pre ++ List.replicate (z - k) 0)) ∧ Hid (Below w.heap.size w wr)) (fun _ i _ => m - (intOf i).toNat)
    case atStart => exact ⟨0, 0, [], Nat.zero_le _, rfl, rfl, by omega, Lib.hid ⟨rfl, Pl.W32.nil, by simp [Pl.lv]⟩, B0.out, D0.out⟩
    case round =>
      obtain ⟨k, cy, pre, hk, rfl, rfl, hcy, HP, HW, HD⟩ := hrel
      by_cases hlt : k < m
      · obtain ⟨b, o, rfl, hb1, hkl, y0⟩ := u32_at (H'.out.below HD.out) hlt
        have hbr : b < wr.heap.size := by have := HD.out.size; omega
        have hxb := HCB.out.at_ hkl
        have HX : Hid (∃ x, x = lb[k]) := ⟨_, rfl⟩
        obtain ⟨x, hx⟩ := HX.out
        rw [← hx] at y0 hxb
        have HXE := Lib.hid hx
        have k0 : (0 : Int) ≤ (k : Int) := by omega
        have k1 : (k : Int) < (m : Int) := by omega
        clear hx HX
        obtain ⟨v0, c0⟩ := HW.out.ex (k := k) (by have := HP.out.1; have := HZ.out; simp; omega)
        have f0 := HW.out.frozen k
        have l0 := HW.out.lt
        have k3 : (k : Int) < (z : Int) := by omega
        have ws1 : IntKind.u64.wrap ((cy : Int) + (x : Int)) = (cy : Int) + (x : Int) := IntWalk.u64_in _ (by omega)
        by_cases hkm : k < n
        · have k2 : (k : Int) < (n : Int) := by omega
          obtain ⟨b', o', rfl, hb2, hkl', y1⟩ := u32_at (H.out.below HD.out) hkm
          have hbr2 : b' < wr.heap.size := by have := HD.out.size; omega
          have hyb := HCA.out.at_ hkl'
          have HY : Hid (∃ y, y = la[k]) := ⟨_, rfl⟩
          obtain ⟨y, hy⟩ := HY.out
          rw [← hy] at y1 hyb
          have HYE := Lib.hid hy
          clear hy HY
          obtain ⟨s, hs⟩ : ∃ s, s = cy + (x + y) := ⟨_, rfl⟩
          obtain ⟨r, hr⟩ : ∃ r, r = s % 4294967296 := ⟨_, rfl⟩
          obtain ⟨q, hq⟩ : ∃ q, q = s / 4294967296 := ⟨_, rfl⟩
          have ws2 : IntKind.u64.wrap ((cy : Int) + (x : Int) + (y : Int)) = (s : Int) := by rw [show (s : Int) = (cy : Int) + x + y by omega]; exact IntWalk.u64_in _ (by omega)
          have em : (s : Int) % 4294967296 = (r : Int) := by omega
          have ed : (s : Int) / 4294967296 = (q : Int) := by omega
          have hq1 : q ≤ 1 := by omega
          have hrb : r < 4294967296 := by omega
          have HP2 : Hid ((pre ++ [r]).length = k + 1 ∧ Pl.W32 (pre ++ [r]) ∧ Pl.lv (pre ++ [r]) + 4294967296 ^ (k + 1) * q = Pl.lv (lb.take (k + 1)) + Pl.lv (la.take (k + 1))) := by
            refine ⟨by simp [HP.out.1], HP.out.2.1.append (Pl.W32.one hrb), ?_⟩
            have h1 := Pl.word_step HP.out.1 HP.out.2.2 hs
            rw [← hr, ← hq] at h1
            rw [h1, Pl.lv_take_succ hkl, Pl.lv_take_succ hkl', ← HXE.out, ← HYE.out, Nat.mul_add]
            omega
          have HW2 : Hid (WB (wr.setCell ⟨w.heap.size, k, none⟩ (.int .u32 (r : Int))) w.heap.size ((pre ++ [r]) ++ List.replicate (z - (k + 1)) 0)) := by
            have h1 := HW.out.set_ k r
            have h2 := set_next pre (z - (k + 1)) r
            rw [HP.out.1, show z - (k + 1) + 1 = z - k by omega] at h2
            rw [h2] at h1
            exact h1
          have HD2 : Hid (Below w.heap.size w (wr.setCell ⟨w.heap.size, k, none⟩ (.int .u32 (r : Int)))) := HD.out.setCell (Nat.le_refl _) _
          clear HP HW HD hs hr hq
          go_wp2_with fail
          refine ⟨⟨k + 1, q, pre ++ [r], by omega, by go_num, rfl, hq1, HP2, HW2, HD2⟩, ?_⟩
          simp [intOf]; omega
        · have k2 : ¬ (k : Int) < (n : Int) := by omega
          obtain ⟨s, hs⟩ : ∃ s, s = cy + x := ⟨_, rfl⟩
          obtain ⟨r, hr⟩ : ∃ r, r = s % 4294967296 := ⟨_, rfl⟩
          obtain ⟨q, hq⟩ : ∃ q, q = s / 4294967296 := ⟨_, rfl⟩
          have em : ((cy : Int) + (x : Int)) % 4294967296 = (r : Int) := by omega
          have ed : ((cy : Int) + (x : Int)) / 4294967296 = (q : Int) := by omega
          have hq1 : q ≤ 1 := by omega
          have hrb : r < 4294967296 := by omega
          have HP2 : Hid ((pre ++ [r]).length = k + 1 ∧ Pl.W32 (pre ++ [r]) ∧ Pl.lv (pre ++ [r]) + 4294967296 ^ (k + 1) * q = Pl.lv (lb.take (k + 1)) + Pl.lv (la.take (k + 1))) := by
            refine ⟨by simp [HP.out.1], HP.out.2.1.append (Pl.W32.one hrb), ?_⟩
            have h1 := Pl.word_step HP.out.1 HP.out.2.2 hs
            rw [← hr, ← hq] at h1
            rw [h1, Pl.lv_take_succ hkl, ← HXE.out, take_all HLA.out (by omega), take_all HLA.out (by omega)]
            omega
          have HW2 : Hid (WB (wr.setCell ⟨w.heap.size, k, none⟩ (.int .u32 (r : Int))) w.heap.size ((pre ++ [r]) ++ List.replicate (z - (k + 1)) 0)) := by
            have h1 := HW.out.set_ k r
            have h2 := set_next pre (z - (k + 1)) r
            rw [HP.out.1, show z - (k + 1) + 1 = z - k by omega] at h2
            rw [h2] at h1
            exact h1
          have HD2 : Hid (Below w.heap.size w (wr.setCell ⟨w.heap.size, k, none⟩ (.int .u32 (r : Int)))) := HD.out.setCell (Nat.le_refl _) _
          clear HP HW HD hs hr hq
          go_wp2_with fail
          refine ⟨⟨k + 1, q, pre ++ [r], by omega, by go_num, rfl, hq1, HP2, HW2, HD2⟩, ?_⟩
          simp [intOf]; omega
      · have hkn : k = m := by omega
        subst hkn
        have k1 : ¬ (k : Int) < (k : Int) := by omega
        obtain ⟨v0, c0⟩ := HW.out.ex (k := k) (by have := HP.out.1; have := HZ.out; simp; omega)
        have f0 := HW.out.frozen k
        have l0 := HW.out.lt
        have k3 : (k : Int) < (z : Int) := by omega
        have k0 : (0 : Int) ≤ (k : Int) := by omega
        have em : (cy : Int) % 4294967296 = (cy : Int) := by omega
        have HW2 : Hid (WB (wr.setCell ⟨w.heap.size, k, none⟩ (.int .u32 (cy : Int))) w.heap.size (pre ++ [cy])) := by
          have h1 := HW.out.set_ k cy
          have h2 := set_next pre (z - (k + 1)) cy
          have h3 := HZ.out
          rw [HP.out.1, show z - (k + 1) + 1 = z - k by omega] at h2
          rw [h2, show z - (k + 1) = 0 by omega] at h1
          exact Lib.hid (by simpa using h1)
        have HD2 : Hid (Below w.heap.size w (wr.setCell ⟨w.heap.size, k, none⟩ (.int .u32 (cy : Int)))) := HD.out.setCell (Nat.le_refl _) _
        have HV : Hid (Pl.lv (pre ++ [cy]) = Pl.lv la + Pl.lv lb ∧ Pl.W32 (pre ++ [cy]) ∧ (pre ++ [cy]).length = z) := by
          refine ⟨?_, HP.out.2.1.append (Pl.W32.one (by omega)), by have := HZ.out; simp [HP.out.1]; omega⟩
          rw [Pl.lv_snoc, HP.out.1, HP.out.2.2, take_all HLB.out (Nat.le_refl _), take_all HLA.out (by omega)]
          all_goals omega
        have HZ2 := Lib.hid HZ.out
        clear HP HW HD HZ
        go_wp2_with fail
        go_ret
        have hr := HW2.out.reads
        rw [HV.out.2.2] at hr
        exact ⟨_, z, z, _, rfl, Nat.le_refl _, by have := HZ2.out; omega, HV.out.2.1, HV.out.1, hr, HD2.out⟩
  · have hnmi : ¬ (n : Int) < (m : Int) := by omega
    obtain ⟨z, hz⟩ : ∃ z : Nat, z = n + 1 := ⟨_, rfl⟩
    have wn1 : IntKind.i64.wrap ((n : Int) + 1) = (z : Int) := by rw [show (z : Int) = (n : Int) + 1 by omega]; exact IntWalk.i64_in _ (by omega)
    have hmk := fun W => make_u32 z (by omega) W
    have HZ := Lib.hid hz
    have hz1 : n < z := by omega
    clear hz
    go_enter Tryz.func134, Tryz.ntmps134
    go_wp2_with fail
    have B0 := Lib.hid (WB.new_ w z)
    have D0 := Lib.hid ((Below.refl w.heap.size w).alloc (Nat.le_refl _) (.cells (u32s (List.replicate z 0)).toArray 225))
    generalize (w.alloc (.cells (u32s (List.replicate z 0)).toArray 225)) = w1 at *
    clear hmk
    clear wn1
    go_loopw [6, 21] (fun cv i wr => ∃ (k cy : Nat) (pre : List Nat), k ≤ n ∧ i = .int .i64 (k : Int) ∧ cv = .int .u64 (cy : Int) ∧ cy ≤ 1 ∧ Hid (pre.length = k ∧ Pl.W32 pre ∧ Pl.lv pre + 4294967296 ^ k * cy = Pl.lv (la.take k) + Pl.lv (lb.take k)) ∧ Hid (WB wr w.heap.size (pre ++ List.replicate (z - k) 0)) ∧ Hid (Below w.heap.size w wr)) (fun _ i _ => n - (intOf i).toNat)
    case atStart => exact ⟨0, 0, [], Nat.zero_le _, rfl, rfl, by omega, Lib.hid ⟨rfl, Pl.W32.nil, by simp [Pl.lv]⟩, B0.out, D0.out⟩
    case round =>
      obtain ⟨k, cy, pre, hk, rfl, rfl, hcy, HP, HW, HD⟩ := hrel
      by_cases hlt : k < n
      · obtain ⟨b, o, rfl, hb1, hkl, y0⟩ := u32_at (H.out.below HD.out) hlt
        have hbr : b < wr.heap.size := by have := HD.out.size; omega
        have hxb := HCA.out.at_ hkl
        have HX : Hid (∃ x, x = la[k]) := ⟨_, rfl⟩
        obtain ⟨x, hx⟩ := HX.out
        rw [← hx] at y0 hxb
        have HXE := Lib.hid hx
        have k0 : (0 : Int) ≤ (k : Int) := by omega
        have k1 : (k : Int) < (n : Int) := by omega
        clear hx HX
        obtain ⟨v0, c0⟩ := HW.out.ex (k := k) (by have := HP.out.1; have := HZ.out; simp; omega)
        have f0 := HW.out.frozen k
        have l0 := HW.out.lt
        have k3 : (k : Int) < (z : Int) := by omega
        have ws1 : IntKind.u64.wrap ((cy : Int) + (x : Int)) = (cy : Int) + (x : Int) := IntWalk.u64_in _ (by omega)
        by_cases hkm : k < m
        · have k2 : (k : Int) < (m : Int) := by omega
          obtain ⟨b', o', rfl, hb2, hkl', y1⟩ := u32_at (H'.out.below HD.out) hkm
          have hbr2 : b' < wr.heap.size := by have := HD.out.size; omega
          have hyb := HCB.out.at_ hkl'
          have HY : Hid (∃ y, y = lb[k]) := ⟨_, rfl⟩
          obtain ⟨y, hy⟩ := HY.out
          rw [← hy] at y1 hyb
          have HYE := Lib.hid hy
          clear hy HY
          obtain ⟨s, hs⟩ : ∃ s, s = cy + (x + y) := ⟨_, rfl⟩
          obtain ⟨r, hr⟩ : ∃ r, r = s % 4294967296 := ⟨_, rfl⟩
          obtain ⟨q, hq⟩ : ∃ q, q = s / 4294967296 := ⟨_, rfl⟩
          have ws2 : IntKind.u64.wrap ((cy : Int) + (x : Int) + (y : Int)) = (s : Int) := by rw [show (s : Int) = (cy : Int) + x + y by omega]; exact IntWalk.u64_in _ (by omega)
          have em : (s : Int) % 4294967296 = (r : Int) := by omega
          have ed : (s : Int) / 4294967296 = (q : Int) := by omega
          have hq1 : q ≤ 1 := by omega
          have hrb : r < 4294967296 := by omega
          have HP2 : Hid ((pre ++ [r]).length = k + 1 ∧ Pl.W32 (pre ++ [r]) ∧ Pl.lv (pre ++ [r]) + 4294967296 ^ (k + 1) * q = Pl.lv (la.take (k + 1)) + Pl.lv (lb.take (k + 1))) := by
            refine ⟨by simp [HP.out.1], HP.out.2.1.append (Pl.W32.one hrb), ?_⟩
            have h1 := Pl.word_step HP.out.1 HP.out.2.2 hs
            rw [← hr, ← hq] at h1
            rw [h1, Pl.lv_take_succ hkl, Pl.lv_take_succ hkl', ← HXE.out, ← HYE.out, Nat.mul_add]
            omega
          have HW2 : Hid (WB (wr.setCell ⟨w.heap.size, k, none⟩ (.int .u32 (r : Int))) w.heap.size ((pre ++ [r]) ++ List.replicate (z - (k + 1)) 0)) := by
            have h1 := HW.out.set_ k r
            have h2 := set_next pre (z - (k + 1)) r
            rw [HP.out.1, show z - (k + 1) + 1 = z - k by omega] at h2
            rw [h2] at h1
            exact h1
          have HD2 : Hid (Below w.heap.size w (wr.setCell ⟨w.heap.size, k, none⟩ (.int .u32 (r : Int)))) := HD.out.setCell (Nat.le_refl _) _
          clear HP HW HD hs hr hq
          go_wp2_with fail
          refine ⟨⟨k + 1, q, pre ++ [r], by omega, by go_num, rfl, hq1, HP2, HW2, HD2⟩, ?_⟩
          simp [intOf]; omega
        · have k2 : ¬ (k : Int) < (m : Int) := by omega
          obtain ⟨s, hs⟩ : ∃ s, s = cy + x := ⟨_, rfl⟩
          obtain ⟨r, hr⟩ : ∃ r, r = s % 4294967296 := ⟨_, rfl⟩
          obtain ⟨q, hq⟩ : ∃ q, q = s / 4294967296 := ⟨_, rfl⟩
          have em : ((cy : Int) + (x : Int)) % 4294967296 = (r : Int) := by omega
          have ed : ((cy : Int) + (x : Int)) / 4294967296 = (q : Int) := by omega
          have hq1 : q ≤ 1 := by omega
          have hrb : r < 4294967296 := by omega
          have HP2 : Hid ((pre ++ [r]).length = k + 1 ∧ Pl.W32 (pre ++ [r]) ∧ Pl.lv (pre ++ [r]) + 4294967296 ^ (k + 1) * q = Pl.lv (la.take (k + 1)) + Pl.lv (lb.take (k + 1))) := by
            refine ⟨by simp [HP.out.1], HP.out.2.1.append (Pl.W32.one hrb), ?_⟩
            have h1 := Pl.word_step HP.out.1 HP.out.2.2 hs
            rw [← hr, ← hq] at h1
            rw [h1, Pl.lv_take_succ hkl, ← HXE.out, take_all HLB.out (by omega), take_all HLB.out (by omega)]
            omega
          have HW2 : Hid (WB (wr.setCell ⟨w.heap.size, k, none⟩ (.int .u32 (r : Int))) w.heap.size ((pre ++ [r]) ++ List.replicate (z - (k + 1)) 0)) := by
            have h1 := HW.out.set_ k r
            have h2 := set_next pre (z - (k + 1)) r
            rw [HP.out.1, show z - (k + 1) + 1 = z - k by omega] at h2
            rw [h2] at h1
            exact h1
          have HD2 : Hid (Below w.heap.size w (wr.setCell ⟨w.heap.size, k, none⟩ (.int .u32 (r : Int)))) := HD.out.setCell (Nat.le_refl _) _
          clear HP HW HD hs hr hq
          go_wp2_with fail
          refine ⟨⟨k + 1, q, pre ++ [r], by omega, by go_num, rfl, hq1, HP2, HW2, HD2⟩, ?_⟩
          simp [intOf]; omega
      · have hkn : k = n := by omega
        subst hkn
        have k1 : ¬ (k : Int) < (k : Int) := by omega
        obtain ⟨v0, c0⟩ := HW.out.ex (k := k) (by have := HP.out.1; have := HZ.out; simp; omega)
        have f0 := HW.out.frozen k
        have l0 := HW.out.lt
        have k3 : (k : Int) < (z : Int) := by omega
        have k0 : (0 : Int) ≤ (k : Int) := by omega
        have em : (cy : Int) % 4294967296 = (cy : Int) := by omega
        have HW2 : Hid (WB (wr.setCell ⟨w.heap.size, k, none⟩ (.int .u32 (cy : Int))) w.heap.size (pre ++ [cy])) := by
          have h1 := HW.out.set_ k cy
          have h2 := set_next pre (z - (k + 1)) cy
          have h3 := HZ.out
          rw [HP.out.1, show z - (k + 1) + 1 = z - k by omega] at h2
          rw [h2, show z - (k + 1) = 0 by omega] at h1
          exact Lib.hid (by simpa using h1)
        have HD2 : Hid (Below w.heap.size w (wr.setCell ⟨w.heap.size, k, none⟩ (.int .u32 (cy : Int)))) := HD.out.setCell (Nat.le_refl _) _
        have HV : Hid (Pl.lv (pre ++ [cy]) = Pl.lv la + Pl.lv lb ∧ Pl.W32 (pre ++ [cy]) ∧ (pre ++ [cy]).length = z) := by
          refine ⟨?_, HP.out.2.1.append (Pl.W32.one (by omega)), by have := HZ.out; simp [HP.out.1]; omega⟩
          rw [Pl.lv_snoc, HP.out.1, HP.out.2.2, take_all HLA.out (Nat.le_refl _), take_all HLB.out (by omega)]
          all_goals omega
        have HZ2 := Lib.hid HZ.out
        clear HP HW HD HZ
        go_wp2_with fail
        go_ret
        have hr := HW2.out.reads
        rw [HV.out.2.2] at hr
        exact ⟨_, z, z, _, rfl, Nat.le_refl _, by have := HZ2.out; omega, HV.out.2.1, HV.out.1, hr, HD2.out⟩
end Go.Proofs.YtoblpcljhblnmaaGreatDoor
namespace Go.Proofs.YtoblpcljhblnmaaGreatDoor
open Go.RowKit
set_option maxRecDepth 100000
set_option maxHeartbeats 3200000 in
theorem subw_any (A : Option Addr) (n c : Nat) (la : List Nat) (B : Option Addr) (m d : Nat) (lb : List Nat) (w : World) (hn : n ≤ 35184372088832) (hm : m ≤ n) (ha : Reads w w.heap.size 1 A n (u32s la)) (hb : Reads w w.heap.size 1 B m (u32s lb)) (ca : Pl.W32 la) (cb : Pl.W32 lb) (hle : Pl.lv lb ≤ Pl.lv la) :
    Calls Tryz.prog 136 #[.slice A n c, .slice B m d] w (WordsSaid (Pl.lv la - Pl.lv lb) n w) := by
  have H := Lib.hid ha
  have H' := Lib.hid hb
  have HLA := Lib.hid (u32_len ha)
  have HLB := Lib.hid (u32_len hb)
  have HCA := Lib.hid ca
  have HCB := Lib.hid cb
  have HLE := Lib.hid hle
  clear ha hb ca cb hle
  have hmk := fun W => make_u32 n (by omega) W
  go_enter Tryz.func136, Tryz.ntmps136
  go_wp2_with fail
  have B0 := Lib.hid (WB.new_ w n)
  have D0 := Lib.hid ((Below.refl w.heap.size w).alloc (Nat.le_refl _) (.cells (u32s (List.replicate n 0)).toArray 225))
  generalize (w.alloc (.cells (u32s (List.replicate n 0)).toArray 225)) = w1 at *
  clear hmk
  go_loopw [6, 13] (fun cv i wr => ∃ (k : Nat) (cy : Int) (pre : List Nat), k ≤ n ∧ i = .int .i64 (k : Int) ∧ cv = .int .i64 cy ∧ (-1 ≤ cy ∧ cy ≤ 0) ∧ Hid (pre.length = k ∧ Pl.W32 pre ∧ (Pl.lv pre : Int) + 4294967296 ^ k * cy = (Pl.lv (la.take k) : Int) - (Pl.lv (lb.take k) : Int)) ∧ Hid (WB wr w.heap.size (pre ++ List.replicate (n - k) 0)) ∧ Hid (Below w.heap.size w wr)) (fun _ i _ => n - (intOf i).toNat)
  case atStart => exact ⟨0, 0, [], Nat.zero_le _, rfl, rfl, by omega, Lib.hid ⟨rfl, Pl.W32.nil, by simp [Pl.lv]⟩, B0.out, D0.out⟩
  case round =>
    obtain ⟨k, cy, pre, hk, rfl, rfl, ⟨hcy1, hcy2⟩, HP, HW, HD⟩ := hrel
    by_cases hlt : k < n
    · obtain ⟨b, o, rfl, hb1, hkl, y0⟩ := u32_at (H.out.below HD.out) hlt
      have hbr : b < wr.heap.size := by have := HD.out.size; omega
      have hxb := HCA.out.at_ hkl
      have HX : Hid (∃ x, x = la[k]) := ⟨_, rfl⟩
      obtain ⟨x, hx⟩ := HX.out
      rw [← hx] at y0 hxb
      have HXE := Lib.hid hx
      have k0 : (0 : Int) ≤ (k : Int) := by omega
      have k1 : (k : Int) < (n : Int) := by omega
      clear hx HX
      obtain ⟨v0, c0⟩ := HW.out.ex (k := k) (by have := HP.out.1; simp; omega)
      have f0 := HW.out.frozen k
      have l0 := HW.out.lt
      have ws0 : IntKind.i64.wrap (x : Int) = (x : Int) := IntWalk.i64_in _ (by omega)
      have ws1 : IntKind.i64.wrap (cy + (x : Int)) = cy + (x : Int) := IntWalk.i64_in _ (by omega)
      by_cases hkm : k < m
      · have k2 : (k : Int) < (m : Int) := by omega
        obtain ⟨b', o', rfl, hb2, hkl', y1⟩ := u32_at (H'.out.below HD.out) hkm
        have hbr2 : b' < wr.heap.size := by have := HD.out.size; omega
        have hyb := HCB.out.at_ hkl'
        have HY : Hid (∃ y, y = lb[k]) := ⟨_, rfl⟩
        obtain ⟨y, hy⟩ := HY.out
        rw [← hy] at y1 hyb
        have HYE := Lib.hid hy
        clear hy HY
        have wsy : IntKind.i64.wrap (y : Int) = (y : Int) := IntWalk.i64_in _ (by omega)
        have ws2 : IntKind.i64.wrap (cy + (x : Int) - (y : Int)) = cy + (x : Int) - (y : Int) := IntWalk.i64_in _ (by omega)
        obtain ⟨r, hr⟩ : ∃ r : Nat, r = ((cy + (x : Int) - (y : Int)) % 4294967296).toNat := ⟨_, rfl⟩
        obtain ⟨q, hq⟩ : ∃ q : Int, q = (cy + (x : Int) - (y : Int)) / 4294967296 := ⟨_, rfl⟩
        have em : (cy + (x : Int) - (y : Int)) % 4294967296 = (r : Int) := by omega
        have ed : (cy + (x : Int) - (y : Int)) / 4294967296 = q := hq.symm
        have hq1 : -1 ≤ q ∧ q ≤ 0 := by omega
        have hrb : r < 4294967296 := by omega
        have HP2 : Hid ((pre ++ [r]).length = k + 1 ∧ Pl.W32 (pre ++ [r]) ∧ (Pl.lv (pre ++ [r]) : Int) + 4294967296 ^ (k + 1) * q = (Pl.lv (la.take (k + 1)) : Int) - (Pl.lv (lb.take (k + 1)) : Int)) := by
          refine ⟨by simp [HP.out.1], HP.out.2.1.append (Pl.W32.one hrb), ?_⟩
          have h1 := Pl.sub_step HP.out.1 HP.out.2.2 (s := cy + (x : Int) - (y : Int)) rfl
          rw [← hr, ← hq] at h1
          rw [h1, Pl.lv_take_succ hkl, Pl.lv_take_succ hkl', ← HXE.out, ← HYE.out, Int.natCast_add, Int.natCast_add, Int.natCast_mul, Int.natCast_mul, Int.natCast_pow]
          rfl
        have HW2 : Hid (WB (wr.setCell ⟨w.heap.size, k, none⟩ (.int .u32 (r : Int))) w.heap.size ((pre ++ [r]) ++ List.replicate (n - (k + 1)) 0)) := by
          have h1 := HW.out.set_ k r
          have h2 := set_next pre (n - (k + 1)) r
          rw [HP.out.1, show n - (k + 1) + 1 = n - k by omega] at h2
          rw [h2] at h1
          exact h1
        have HD2 : Hid (Below w.heap.size w (wr.setCell ⟨w.heap.size, k, none⟩ (.int .u32 (r : Int)))) := HD.out.setCell (Nat.le_refl _) _
        clear HP HW HD hr hq
        go_wp2_with fail
        refine ⟨⟨k + 1, q, pre ++ [r], by omega, by go_num, rfl, hq1, HP2, HW2, HD2⟩, ?_⟩
        simp [intOf]; omega
      · have k2 : ¬ (k : Int) < (m : Int) := by omega
        obtain ⟨r, hr⟩ : ∃ r : Nat, r = ((cy + (x : Int)) % 4294967296).toNat := ⟨_, rfl⟩
        obtain ⟨q, hq⟩ : ∃ q : Int, q = (cy + (x : Int)) / 4294967296 := ⟨_, rfl⟩
        have em : (cy + (x : Int)) % 4294967296 = (r : Int) := by omega
        have ed : (cy + (x : Int)) / 4294967296 = q := hq.symm
        have hq1 : -1 ≤ q ∧ q ≤ 0 := by omega
        have hrb : r < 4294967296 := by omega
        have HP2 : Hid ((pre ++ [r]).length = k + 1 ∧ Pl.W32 (pre ++ [r]) ∧ (Pl.lv (pre ++ [r]) : Int) + 4294967296 ^ (k + 1) * q = (Pl.lv (la.take (k + 1)) : Int) - (Pl.lv (lb.take (k + 1)) : Int)) := by
          refine ⟨by simp [HP.out.1], HP.out.2.1.append (Pl.W32.one hrb), ?_⟩
          have h1 := Pl.sub_step HP.out.1 HP.out.2.2 (s := cy + (x : Int)) (x := x) (y := 0) (by omega)
          rw [← hr, ← hq] at h1
          rw [h1, Pl.lv_take_succ hkl, ← HXE.out, take_all HLB.out (by omega), take_all HLB.out (by omega), Int.natCast_add, Int.natCast_mul, Int.natCast_pow]
          simp
        have HW2 : Hid (WB (wr.setCell ⟨w.heap.size, k, none⟩ (.int .u32 (r : Int))) w.heap.size ((pre ++ [r]) ++ List.replicate (n - (k + 1)) 0)) := by
          have h1 := HW.out.set_ k r
          have h2 := set_next pre (n - (k + 1)) r
          rw [HP.out.1, show n - (k + 1) + 1 = n - k by omega] at h2
          rw [h2] at h1
          exact h1
        have HD2 : Hid (Below w.heap.size w (wr.setCell ⟨w.heap.size, k, none⟩ (.int .u32 (r : Int)))) := HD.out.setCell (Nat.le_refl _) _
        clear HP HW HD hr hq
        go_wp2_with fail
        refine ⟨⟨k + 1, q, pre ++ [r], by omega, by go_num, rfl, hq1, HP2, HW2, HD2⟩, ?_⟩
        simp [intOf]; omega
    · have hkn : k = n := by omega
      subst hkn
      have k1 : ¬ (k : Int) < (k : Int) := by omega
      have HV : Hid (Pl.lv pre = Pl.lv la - Pl.lv lb) := by
        have h1 := HP.out.2.2
        rw [take_all HLA.out (Nat.le_refl _), take_all HLB.out hm] at h1
        have h2 := Pl.lv_lt HP.out.2.1
        rw [HP.out.1] at h2
        have h3 := HLE.out
        have h4 : ((4294967296 ^ k : Nat) : Int) = (4294967296 : Int) ^ k := Int.natCast_pow _ _
        rw [← h4] at h1
        show _ = _
        rcases (show cy = 0 ∨ cy = -1 by omega) with e | e
        · rw [e] at h1; omega
        · rw [e] at h1
          exfalso
          have h5 : ((4294967296 ^ k : Nat) : Int) * (-1) = -((4294967296 ^ k : Nat) : Int) := by omega
          rw [h5] at h1
          generalize 4294967296 ^ k = P at *
          omega
      have HW2 : Hid (WB wr w.heap.size pre) := by
        have h1 := HW.out
        rw [Nat.sub_self, List.replicate_zero, List.append_nil] at h1
        exact h1
      go_wp2_with fail
      go_ret
      have hr := HW2.out.reads
      rw [HP.out.1] at hr
      exact ⟨_, k, k, _, rfl, Nat.le_refl _, Nat.le_refl _, HP.out.2.1, HV.out, hr, HD.out⟩
end Go.Proofs.YtoblpcljhblnmaaGreatDoor
