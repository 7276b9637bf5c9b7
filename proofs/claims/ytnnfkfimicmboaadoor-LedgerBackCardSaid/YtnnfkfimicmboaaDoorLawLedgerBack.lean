/- The law LedgerBack, its walk: the text of entries is read as these entries, and what is read has this text. Condition: the entries lie in memory as the words say; the library's tables lie as they are laid. -/
import Derived.Test.YtnnfkfimicmboaaDoorLedJ
namespace Go.Proofs.YtnnfkfimicmboaaDoor
open Go.RowKit
theorem own_ents {w : World} {base : Nat} {A : Option Addr} {c : Nat} {l : List Pl.LE} (h : w.ownsRow base 31 3 (.slice A l.length c) l.length (ents l)) (hx : ∀ x ∈ l, EntIn x) : Ents w A l.length l := ⟨Reads.of_own h, hx⟩
theorem txt_eq {l m : List UInt8} (h : l = m) : ((⟨l.toArray⟩ : ByteArray).toList == (⟨m.toArray⟩ : ByteArray).toList) = true := by rw [h]; simp
set_option maxHeartbeats 1600000 in
set_option maxRecDepth 100000 in
theorem back_any (A : Option Addr) (n c : Nat) (l : List Pl.LE) (S : List UInt8) (w : World) (h : Ents w A n l) (hl : LW w) :
    Calls Tryd.prog 3 #[.slice A n c, txt S] w fun e w' => e = .returned (.bool true) ∧ Below w.heap.size w w' := by
  have L := Lib.hid h.len
  have H := Lib.hid h
  have HLW := Lib.hid hl
  have HWR := Lib.hid (fun w h => written_any w h)
  have HTX := Lib.hid (fun (A : Option Addr) (c : Nat) (l : List Pl.LE) w h1 h2 => text_any A l.length c l w h1 h2)
  have HRD := Lib.hid (fun S w h => read_any S w h)
  unfold ReadSaid at HRD
  clear h hl
  obtain rfl : l.length = n := L.out
  clear L
  unfold txt at HTX HRD ⊢
  go_enter Tryd.func3, Tryd.ntmps3
  go_wp2_with fail
  refine (HWR.out w HLW.out).mono ?_
  rintro e w1 ⟨rfl, hb⟩
  have HB1 := Lib.hid hb
  clear hb
  go_wp2_with fail
  refine (HTX.out A c l w1 (H.out.go HB1.out) (HLW.out.go HB1.out)).mono ?_
  rintro e w2 ⟨rfl, hb⟩
  have HB2 := Lib.hid (HB1.out.trans (hb.mono HB1.out.size))
  clear hb HB1
  have tail : Hid (∀ (w3 : World) (K : Ending → World → Prop), Below w.heap.size w w3 → True) := fun _ _ _ => trivial
  clear tail
  by_cases hc : Pl.lcheck l = 0
  · have HC := Lib.hid hc
    have htx : Pl.lText l = (Pl.textS Pl.s0 l, 0) := by unfold Pl.lText; rw [if_neg (by rw [hc]; simp)]
    rw [htx]
    simp only
    clear htx hc
    go_wp2_with fail
    refine (HRD.out _ w2 (HLW.out.go HB2.out)).mono ?_
    rintro e w3 ⟨out, A3, c3, er, rfl, g1, g2, hback, hown, g3, hb⟩
    obtain ⟨rfl, rfl⟩ := hback l HC.out rfl
    have HB3 := Lib.hid (HB2.out.trans (hb.mono HB2.out.size))
    have HE3 := Lib.hid (own_ents hown g3)
    have HEQ := Lib.hid (eqle_any A A3 out.length out.length c c3 out out w3 (by have := (Pl.lcheck_ok.1 HC.out).1; omega) (H.out.go HB3.out) HE3.out rfl)
    clear g1 g2 g3 hback hown hb HB2
    go_wp2_with fail
    refine HEQ.out.mono ?_
    rintro e w4 ⟨rfl, hb⟩
    have HB4 := Lib.hid (HB3.out.trans (hb.mono HB3.out.size))
    clear hb HB3 HE3 HEQ
    go_wp2_with fail
    refine (HRD.out S _ (HLW.out.go HB4.out)).mono ?_
    rintro e w5 ⟨out, A5, c5, er, rfl, g1, g2, _, hown, g3, hb⟩
    have HB5 := Lib.hid (HB4.out.trans (hb.mono HB4.out.size))
    have HE5 := Lib.hid (own_ents hown g3)
    have G1 := Lib.hid g1
    have G2 := Lib.hid g2
    clear g1 g2 g3 hown hb HB4
    by_cases he : er = 0
    · obtain ⟨k1, k2⟩ := G1.out he
      subst he
      have htx : Pl.lText out = (Pl.textS Pl.s0 out, 0) := by unfold Pl.lText; rw [if_neg (by rw [k1]; simp)]
      have HT5 := Lib.hid (HTX.out A5 c5 out w5 HE5.out (HLW.out.go HB5.out))
      rw [htx, ← k2] at HT5
      clear k1 k2 htx G1 G2
      go_wp2_with fail
      refine HT5.out.mono ?_
      rintro e w6 ⟨rfl, hb⟩
      have HB6 := Lib.hid (HB5.out.trans (hb.mono HB5.out.size))
      have htt := txt_eq (l := S) rfl
      clear hb HB5 HE5 HT5
      go_wp2_with fail
      go_ret
      exact ⟨rfl, HB6.out⟩
    · obtain rfl := G2.out he
      have he2 : (er != 0) = true := by simpa using he
      clear G1 G2 he
      go_wp2_with fail
      go_ret
      exact ⟨rfl, HB5.out⟩
  · have hc2 : ((Pl.lText l).2 == 0) = false := by
      rw [beq_eq_false_iff_ne]
      unfold Pl.lText
      rw [if_pos hc]
      exact hc
    generalize Pl.lText l = R at *
    have HB4 := HB2
    clear HB2 hc
    go_wp2_with fail
    refine (HRD.out S _ (HLW.out.go HB4.out)).mono ?_
    rintro e w5 ⟨out, A5, c5, er, rfl, g1, g2, _, hown, g3, hb⟩
    have HB5 := Lib.hid (HB4.out.trans (hb.mono HB4.out.size))
    have HE5 := Lib.hid (own_ents hown g3)
    have G1 := Lib.hid g1
    have G2 := Lib.hid g2
    clear g1 g2 g3 hown hb HB4
    by_cases he : er = 0
    · obtain ⟨k1, k2⟩ := G1.out he
      subst he
      have htx : Pl.lText out = (Pl.textS Pl.s0 out, 0) := by unfold Pl.lText; rw [if_neg (by rw [k1]; simp)]
      have HT5 := Lib.hid (HTX.out A5 c5 out w5 HE5.out (HLW.out.go HB5.out))
      rw [htx, ← k2] at HT5
      clear k1 k2 htx G1 G2
      go_wp2_with fail
      refine HT5.out.mono ?_
      rintro e w6 ⟨rfl, hb⟩
      have HB6 := Lib.hid (HB5.out.trans (hb.mono HB5.out.size))
      have htt := txt_eq (l := S) rfl
      clear hb HB5 HE5 HT5
      go_wp2_with fail
      go_ret
      exact ⟨rfl, HB6.out⟩
    · obtain rfl := G2.out he
      have he2 : (er != 0) = true := by simpa using he
      clear G1 G2 he
      go_wp2_with fail
      go_ret
      exact ⟨rfl, HB5.out⟩
end Go.Proofs.YtnnfkfimicmboaaDoor
