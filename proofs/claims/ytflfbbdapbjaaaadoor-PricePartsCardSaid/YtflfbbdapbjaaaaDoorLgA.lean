/- Numbers of package large in memory: words; norm and Neg answer as integers. Condition: the words read. -/
import Derived.Test.YtflfbbdapbjaaaaDoorBase
import Derived.Test.YtflfbbdapbjaaaaDoorPLarge
import Derived.Deep.RegionHeld3
import Derived.BigQuiet
namespace Go.Proofs.YtflfbbdapbjaaaaDoor
open Go.RowKit
set_option maxRecDepth 100000
/-- 32-bit words as values -/
def u32s (l : List Nat) : List Value := l.map fun (x : Nat) => Value.int .u32 (x : Int)
theorem u32_len {w : World} {B n : Nat} {A : Option Addr} {l : List Nat} (h : Reads w B 1 A n (u32s l)) : l.length = n := by
  have := h.1; simpa [u32s] using this
theorem u32_at {w : World} {B n : Nat} {A : Option Addr} {l : List Nat} (h : Reads w B 1 A n (u32s l)) {k : Nat} (hk : k < n) :
    ∃ b o, A = some ⟨b, o, none⟩ ∧ b < B ∧ ∃ hl : k < l.length, w.cell? ⟨b, o + k, none⟩ = some (.int .u32 (l[k]'hl : Nat)) := by
  obtain ⟨b, o, rfl, hb, hc⟩ := h.where_ (by omega) (by omega)
  have hl : k < l.length := by have := u32_len h; omega
  exact ⟨b, o, rfl, hb, hl, hc k _ (by simp [u32s, hl])⟩
theorem u32_take {w : World} {B n : Nat} {A : Option Addr} {l : List Nat} (h : Reads w B 1 A n (u32s l)) {k : Nat} (hk : k ≤ n) : Reads w B 1 A k (u32s (l.take k)) := by
  refine ⟨by have := u32_len h; simp [u32s]; omega, fun h0 => ?_⟩
  obtain ⟨ad, e, hb, hc⟩ := h.2 (by omega)
  refine ⟨ad, e, hb, fun j u hu => hc j u ?_⟩
  unfold u32s at hu ⊢
  rw [List.map_take, List.getElem?_take] at hu
  split at hu
  · exact hu
  · cases hu
/-- a number, and where its words lie -/
def vNum (z : Int) (A : Option Addr) (c : Nat) : Value := .agg #[.bool (decide (z < 0)), .slice A (Pl.nw z.natAbs) c]
def NumAt (w : World) (B : Nat) (z : Int) (A : Option Addr) (c : Nat) : Prop := Pl.nw z.natAbs ≤ c ∧ Reads w B 1 A (Pl.nw z.natAbs) (u32s (Pl.digs z.natAbs))
theorem NumAt.below {w w' : World} {B : Nat} {z : Int} {A : Option Addr} {c : Nat} (h : NumAt w B z A c) (hb : Below B w w') : NumAt w' B z A c := ⟨h.1, h.2.below hb⟩
theorem NumAt.more {w : World} {B B' : Nat} {z : Int} {A : Option Addr} {c : Nat} (h : NumAt w B z A c) (hb : B ≤ B') : NumAt w B' z A c := ⟨h.1, h.2.more hb⟩
theorem NumAt.go {w w' : World} {z : Int} {A : Option Addr} {c : Nat} (h : NumAt w w.heap.size z A c) (hb : Below w.heap.size w w') : NumAt w' w'.heap.size z A c := ⟨h.1, h.2.go hb⟩
theorem elem_u32 : Tryd.prog.underlying 38 = some (.slice (Tryd.prog.elem 38)) := by kernel_rfl
theorem size_u32 : ∀ w : World, (sizeOf (Tryd.prog.elem 38)).run Tryd.prog w = .ok 1 w := fun _ => by kernel_rfl
theorem u32_to {n c : Nat} {A : Option Addr} (m : Int) (k : Nat) (hm : m = k) (hk : k ≤ n) (hnc : n ≤ c) (w : World) : (Instr.slice 38 (.slice A n c) none (some (.int .i64 m)) none).run Tryd.prog w = .ok (.slice A k c) w := by
  subst hm
  have e : A.map (·.add 0) = A := by
    cases A with
    | none => rfl
    | some a => simp [Addr.add]
  rw [run_slice_h w 38 A n c elem_u32 .i64 k (by omega) (by omega), size_u32]
  simp [sliced, Result.andThen]
  exact fun _ => e
/-- a number of a sign and words -/
def sgn (m : Bool) (n : Nat) : Int := if m = true then -(n : Int) else (n : Int)
theorem sgn_abs (m : Bool) (n : Nat) : (sgn m n).natAbs = n := by unfold sgn; split <;> omega
theorem sgn_neg (m : Bool) (n : Nat) : decide (sgn m n < 0) = (m && decide (0 < n)) := by
  unfold sgn
  cases m <;> simp
theorem take_digs {l : List Nat} (h : Pl.W32 l) {k : Nat} (hk : k ≤ l.length) (hv : Pl.lv (l.take k) = Pl.lv l) (hc : ∀ h1 : 0 < k, l[k - 1]'(by omega) ≠ 0) : Pl.digs (Pl.lv l) = l.take k ∧ Pl.nw (Pl.lv l) = k := by
  have e := Pl.digs_take h hk hv hc
  refine ⟨e, ?_⟩
  unfold Pl.nw
  rw [e, List.length_take, Nat.min_eq_left hk]
set_option maxHeartbeats 1600000 in
theorem norm_any (m : Bool) (A : Option Addr) (n c : Nat) (l : List Nat) (w : World) (hn : n ≤ 9223372036854775807) (hc : n ≤ c) (h : Reads w w.heap.size 1 A n (u32s l)) (hW : Pl.W32 l) :
    Calls Tryd.prog 26 #[.bool m, .slice A n c] w fun e w' => e = .returned (vNum (sgn m (Pl.lv l)) A c) ∧ NumAt w' w'.heap.size (sgn m (Pl.lv l)) A c ∧ Below w.heap.size w w' := by
  have H := Lib.hid h
  have HW := Lib.hid hW
  have HL := Lib.hid (u32_len h)
  clear h hW
  go_enter Tryd.func26, Tryd.ntmps26
  go_wp2_with fail
  go_loopw [1] (fun s wr => ∃ k : Nat, k ≤ n ∧ s = .slice A k c ∧ Hid (Pl.lv (l.take k) = Pl.lv l) ∧ Hid (Below w.heap.size w wr) ∧ Hid (Blk wr w.heap.size 40 #[.bool false, .slice none 0 0])) (fun s _ => match s with | .slice _ k _ => k | _ => 0)
  case atStart => exact ⟨n, Nat.le_refl _, rfl, Lib.hid (by rw [← HL.out, List.take_length]), (Below.refl _ w).alloc (Nat.le_refl _) _, Blk.new_ w _ _ _ rfl⟩
  case round =>
    obtain ⟨k, hk, rfl, HV, HB, HK⟩ := hrel
    have hkl : k ≤ l.length := by have := HL.out; omega
    have hend : ∀ hc0 : (∀ h1 : 0 < k, l[k - 1]'(by omega) ≠ 0), Pl.digs (Pl.lv l) = l.take k ∧ Pl.nw (Pl.lv l) = k := fun hc0 => take_digs HW.out hkl HV.out hc0
    have HEND := Lib.hid hend
    have fin : ∀ (b : Bool), b = (m && decide (0 < k)) → Pl.digs (Pl.lv l) = l.take k ∧ Pl.nw (Pl.lv l) = k → Hid (Value.agg #[.bool b, .slice A k c] = vNum (sgn m (Pl.lv l)) A c ∧ NumAt ((wr.setCell ⟨w.heap.size, 0, none⟩ (.bool b)).setCell ⟨w.heap.size, 1, none⟩ (.slice A k c)) ((wr.setCell ⟨w.heap.size, 0, none⟩ (.bool b)).setCell ⟨w.heap.size, 1, none⟩ (.slice A k c)).heap.size (sgn m (Pl.lv l)) A c ∧ Below w.heap.size w ((wr.setCell ⟨w.heap.size, 0, none⟩ (.bool b)).setCell ⟨w.heap.size, 1, none⟩ (.slice A k c)) ∧ Blk ((wr.setCell ⟨w.heap.size, 0, none⟩ (.bool b)).setCell ⟨w.heap.size, 1, none⟩ (.slice A k c)) w.heap.size 40 #[.bool b, .slice A k c]) := fun b hb hd => by
      have hbl : Below w.heap.size w ((wr.setCell ⟨w.heap.size, 0, none⟩ (.bool b)).setCell ⟨w.heap.size, 1, none⟩ (.slice A k c)) := (HB.out.setCell (Nat.le_refl _) _).setCell (Nat.le_refl _) _
      refine ⟨?_, ⟨?_, ?_⟩, hbl, (HK.out.set_ 0 (.bool b)).set_ 1 (.slice A k c)⟩
      · unfold vNum
        rw [sgn_abs, sgn_neg, hd.2, hb]
        have e : decide (0 < Pl.lv l) = decide (0 < k) := by
          rw [← hd.2]
          rw [decide_eq_decide]
          constructor
          · intro h
            rcases Nat.eq_zero_or_pos (Pl.nw (Pl.lv l)) with h0 | h0
            · have := Pl.digs_nil.1 (List.eq_nil_of_length_eq_zero h0)
              omega
            · exact h0
          · intro h
            rcases Nat.eq_zero_or_pos (Pl.lv l) with h0 | h0
            · rw [h0, Pl.nw_zero] at h; exact absurd h (by omega)
            · exact h0
        rw [e]
      · rw [sgn_abs, hd.2]; omega
      · rw [sgn_abs, hd.2, hd.1]
        exact (u32_take (H.out.below hbl) hk).more hbl.size
    have FIN := Lib.hid fin
    have bc := HK.out.cell
    have fz := HK.out.frozen
    have lb := HK.out.lt
    clear hend fin
    by_cases hk0 : k = 0
    · subst hk0
      have F := FIN.out false (by simp) (HEND.out (fun h => by omega))
      clear FIN HEND HV
      cases m with
      | true =>
        go_wp2_with fail
        have k7 := F.out.2.2.2.cell
        refine bodyPost_ret (v := .agg #[.bool false, .slice A 0 c]) (by simp [results, Tryd.results26, go_sem, k7]) rfl ⟨by rw [← F.out.1], F.out.2.1, F.out.2.2.1⟩
      | false =>
        go_wp2_with fail
        have k7 := F.out.2.2.2.cell
        refine bodyPost_ret (v := .agg #[.bool false, .slice A 0 c]) (by simp [results, Tryd.results26, go_sem, k7]) rfl ⟨by rw [← F.out.1], F.out.2.1, F.out.2.2.1⟩
    · obtain ⟨j, rfl⟩ : ∃ j, k = j + 1 := ⟨k - 1, by omega⟩
      obtain ⟨b, o, rfl, hb, hjl, y0⟩ := u32_at (H.out.below HB.out) (k := j) (by omega)
      have HBR := Lib.hid hb
      have wj : IntKind.i64.wrap ((j : Int) + 1 - 1) = (j : Int) := by rw [show (j : Int) + 1 - 1 = j by omega]; exact IntWalk.i64_in _ (by omega)
      have j0 : (0 : Int) ≤ (j : Int) := by omega
      have j1 : (j : Int) < (j : Int) + 1 := by omega
      have j2 : (0 : Int) < (j : Int) + 1 := by omega
      have hsl := fun W => u32_to (n := j + 1) (c := c) (A := some ⟨b, o, none⟩) (j : Int) j rfl (by omega) (by omega) W
      have HX : Hid (∃ x, x = l[j]) := ⟨_, rfl⟩
      obtain ⟨x, hx⟩ := HX.out
      rw [← hx] at y0
      have HXE := Lib.hid hx
      clear hx HX
      by_cases h0 : x = 0
      · subst h0
        have HV2 : Hid (Pl.lv (l.take j) = Pl.lv l) := Pl.lv_take_zero hjl HXE.out.symm HV.out
        clear FIN HEND HV bc fz lb
        go_wp2_with fail
        exact ⟨⟨j, by omega, rfl, HV2, HB, HK⟩, Nat.lt_succ_self j⟩
      · have hx1 : ((x : Int) == 0) = false := by simpa using h0
        have hd := HEND.out (fun _ => by
          have e : l[j + 1 - 1]'(by omega) = l[j] := by congr 1
          rw [e, ← HXE.out]; exact h0)
        cases m with
        | true =>
          have F := FIN.out true (by simp) hd
          clear FIN HEND HV hd h0
          go_wp2_with fail
          have k7 := F.out.2.2.2.cell
          refine bodyPost_ret (v := .agg #[.bool true, .slice (some ⟨b, o, none⟩) (j + 1) c]) (by simp [results, Tryd.results26, go_sem, k7]) rfl ⟨by rw [← F.out.1], F.out.2.1, F.out.2.2.1⟩
        | false =>
          have F := FIN.out false (by simp) hd
          clear FIN HEND HV hd h0
          go_wp2_with fail
          have k7 := F.out.2.2.2.cell
          refine bodyPost_ret (v := .agg #[.bool false, .slice (some ⟨b, o, none⟩) (j + 1) c]) (by simp [results, Tryd.results26, go_sem, k7]) rfl ⟨by rw [← F.out.1], F.out.2.1, F.out.2.2.1⟩
end Go.Proofs.YtflfbbdapbjaaaaDoor
