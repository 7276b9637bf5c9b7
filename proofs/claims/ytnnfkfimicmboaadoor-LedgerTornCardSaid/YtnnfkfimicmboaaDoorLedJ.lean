/- slices.Equal at entries (equal lists); the laws' helper written: the text of one entry is read as one entry. Condition: the library's tables lie as they are laid. -/
import Derived.Test.YtnnfkfimicmboaaDoorLedI
import Derived.Test.YtnnfkfimicmboaaDoorFine
namespace Go.Proofs.YtnnfkfimicmboaaDoor
open Go.RowKit
set_option maxHeartbeats 800000 in
theorem eqle_any (A B : Option Addr) (n m c d : Nat) (x y : List Pl.LE) (w : World) (hn : n ≤ 1000000000000000) (hx : Ents w A n x) (hy : Ents w B m y) (hxy : x = y) :
    Calls Tryd.prog 10 #[.slice A n c, .slice B m d] w fun e w' => e = .returned (.bool true) ∧ Below w.heap.size w w' := by
  subst hxy
  have hnm : m = n := by have := hx.len; have := hy.len; omega
  subst hnm
  have e0 : ((m : Int) != (m : Int)) = false := by simp
  have HX := Lib.hid hx
  have HY := Lib.hid hy
  clear hx hy
  go_enter Tryd.func10, Tryd.ntmps10
  go_wp2_with fail
  go_loopw [13] (fun i wr => ∃ k : Nat, k ≤ m ∧ i = .int .i64 k ∧ Below w.heap.size w wr) (fun i _ => m - (intOf i).toNat)
  case atStart => exact ⟨0, Nat.zero_le _, rfl, Below.refl _ _⟩
  case round =>
    obtain ⟨k, hk, rfl, hb⟩ := hrel
    have HB := Lib.hid hb
    by_cases hlt : k < m
    · obtain ⟨b, o, rfl, hl1, c1, c2, c3, _⟩ := (HX.out.go hb).at_ hlt
      obtain ⟨b', o', rfl, hl2, d1, d2, d3, _⟩ := (HY.out.go hb).at_ hlt
      clear hb
      generalize x[k] = z at *
      obtain ⟨z0, z1, z2⟩ := z
      simp only at c1 c2 c3 d1 d2 d3
      have ez : (z2 != z2) = false := by simp
      go_wp2_with fail
      go_region
      go_wp2_with fail
      go_roundw
      case rel => exact ⟨k + 1, by omega, by go_num, HB.out.drew⟩
      case measure => simp [intOf]; omega
    · go_wp2_with fail
      go_ret
      exact ⟨rfl, HB.out⟩
namespace Pl
/-- the entry of the laws' first check -/
def lAB : List LE := [(⟨#[65]⟩, ⟨#[66]⟩, 5)]
theorem lAB_ok : lcheck lAB = 0 := by
  rw [lcheck_ok]
  refine ⟨by decide, fun x hx => ?_, ?_⟩
  · rw [List.mem_singleton.1 hx]
    decide +kernel
  · have h : (accL lAB).length ≤ (nmsL lAB).length := nodup_len (accL_nodup lAB) fun x hx => accL_mem.1 hx
    exact Nat.le_trans h (by decide)
theorem lAB_text : ∃ r, textS s0 lAB = [65, 32, 66, 32, 53, 32] ++ r := by
  refine ⟨Go.Lib.itoa (sumK s0 (⟨#[65]⟩, ⟨#[66]⟩, 5)) ++ [10], ?_⟩
  have h5 : Go.Lib.itoa 5 = [53] := by decide +kernel
  unfold lAB textS textS lineS line0 lineT
  rw [h5]
  simp only [List.append_assoc, List.append_nil]
  rfl
end Pl
theorem lAB_in : ∀ x ∈ Pl.lAB, EntIn x := fun x hx => by rw [List.mem_singleton.1 hx]; exact ⟨by decide, by decide, by decide, by decide⟩
theorem lAB_ents (w : World) : Ents (w.alloc (.cells #[.string ⟨#[65]⟩, .string ⟨#[66]⟩, .int .i64 5] 31)) (some ⟨w.heap.size, 0, none⟩) 1 Pl.lAB := by
  refine ⟨?_, lAB_in⟩
  have := Reads.lit w #[.string ⟨#[65]⟩, .string ⟨#[66]⟩, .int .i64 5] 31 1 3 w.heap.size rfl rfl
  simpa [ents, ecells, Pl.lAB] using this
theorem lAB_pre {S : List UInt8} (h : S = Pl.textS Pl.s0 Pl.lAB) : Go.Lib.hasPrefix S [65, 32, 66, 32, 53, 32] = true := by
  obtain ⟨r, hr⟩ := Pl.lAB_text
  rw [h, hr]
  simp [Go.Lib.hasPrefix]
set_option maxHeartbeats 1600000 in
set_option maxRecDepth 100000 in
theorem written_any (w : World) (hl : LW w) : Calls Tryd.prog 7 #[] w fun e w' => e = .returned (.bool true) ∧ Below w.heap.size w w' := by
  have HLW := Lib.hid hl
  clear hl
  have AL := Lib.hid ((Below.refl w.heap.size w).alloc (Nat.le_refl _) (.cells #[.string ⟨#[65]⟩, .string ⟨#[66]⟩, .int .i64 5] 31))
  have HE := Lib.hid (lAB_ents w)
  have HTX := Lib.hid (text_any (some ⟨w.heap.size, 0, none⟩) 1 1 Pl.lAB _ HE.out (HLW.out.go AL.out))
  have htx : Pl.lText Pl.lAB = (Pl.textS Pl.s0 Pl.lAB, 0) := by unfold Pl.lText; rw [if_neg (by rw [Pl.lAB_ok]; simp)]
  rw [htx] at HTX
  have HPRE := Lib.hid (lAB_pre rfl)
  have HRD := Lib.hid (fun w h => read_any (Pl.textS Pl.s0 Pl.lAB) w h)
  unfold ReadSaid at HRD
  have HBACK : Hid (∀ l : List Pl.LE, Pl.lcheck l = 0 → Pl.textS Pl.s0 Pl.lAB = Pl.textS Pl.s0 l → l = Pl.lAB ∨ True) := fun _ _ _ => .inr trivial
  clear HBACK htx
  generalize hS : Pl.textS Pl.s0 Pl.lAB = S at *
  have HS := Lib.hid hS
  clear hS
  simp only at HTX
  unfold txt at HTX HRD
  go_enter Tryd.func7, Tryd.ntmps7
  go_wp2_with fail
  refine HTX.out.mono ?_
  rintro e w2 ⟨rfl, hb⟩
  have HB2 := Lib.hid (AL.out.trans (hb.mono AL.out.size))
  clear hb AL HE HTX
  go_wp2_with fail
  refine (HRD.out w2 (HLW.out.go HB2.out)).mono ?_
  rintro e w3 ⟨out, A, c, er, rfl, g1, g2, hback, hown, g3, hb⟩
  obtain ⟨rfl, rfl⟩ := hback Pl.lAB Pl.lAB_ok HS.out.symm
  have HB3 := Lib.hid (HB2.out.trans (hb.mono HB2.out.size))
  have hlen : Pl.lAB.length = 1 := rfl
  rw [hlen]
  clear g1 g2 g3 hback hown hb HB2 HRD hlen
  have HB4 := Lib.hid (HB3.out.alloc HB3.out.size (.cells #[.int .i64 0, .int .i64 0] 24))
  have RF := Lib.hid (Reads.lit w3 #[.int .i64 0, .int .i64 0] 24 2 1 w3.heap.size rfl rfl)
  have HF := Lib.hid (fine_any (some ⟨w3.heap.size, 0, none⟩) 2 2 [0, 0] _ _ (by decide) RF.out)
  have ea : allOk [0, 0] = true := by decide
  rw [ea] at HF
  have HPF := Lib.hid (fun w => Any.strings_HasPrefix prefS ⟨S.toArray⟩ ⟨#[65, 32, 66, 32, 53, 32]⟩ w)
  have hpp : Go.Lib.hasPrefix (⟨S.toArray⟩ : ByteArray).data.toList (⟨#[65, 32, 66, 32, 53, 32]⟩ : ByteArray).data.toList = true := HPRE.out
  rw [hpp] at HPF
  change Hid (∀ w, Calls Tryd.prog 20 _ w _) at HPF
  clear hpp ea RF
  go_wp2_with (first | (go_at_call 19; refine HF.out.mono ?_; rintro e w4 ⟨rfl, rfl⟩) | (go_at_call 20; refine (HPF.out _).mono ?_; rintro e w5 ⟨rfl, hw5⟩; rw [hw5]))
  go_ret
  exact ⟨rfl, HB4.out⟩
end Go.Proofs.YtnnfkfimicmboaaDoor
