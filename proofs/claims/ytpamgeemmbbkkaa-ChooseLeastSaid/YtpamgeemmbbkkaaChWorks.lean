/- The fixed example of package choose holds: chooseWorks returns true. No condition. -/
import Derived.Test.YtpamgeemmbbkkaaIsol
import Derived.Test.YtpamgeemmbbkkaaFieldOf
import Derived.Test.YtpamgeemmbbkkaaLine
import Derived.Test.YtpamgeemmbbkkaaPWorks
import Derived.Test.YtpamgeemmbbkkaaPIso
import Derived.Test.YtpamgeemmbbkkaaRefT
namespace Go.Proofs.Ytpamgeemmbbkkaa
open Go.RowKit
set_option maxRecDepth 100000
theorem works_place : Pl.placeE LN tL 500 = 0 ∧ Pl.placeE LN tL 0 = 0 := by decide +kernel
theorem works_shape : (Pl.fEdges LN [] tL 500).map Pl.shp = [(0, 1, tS, true), (3, 1, tL, false), (3, 2, tL, false)] ∧ Pl.fPlace LN [] tL 500 = 3 ∧ Pl.fSrc LN = [true, false, false, false] := by decide +kernel
theorem works_iso {is : Bool} {e : Int} (h : Pl.IsolSaid LN [] tL 0 is e) : is = false ∧ e = 0 := by
  obtain ⟨h1, h2⟩ := h.2.2 works_place.2 rfl
  refine ⟨?_, h1⟩
  cases is with
  | false => rfl
  | true =>
    exfalso
    obtain ⟨hok, b, hp⟩ := placeE_ok works_place.2
    have hpl : Pl.fPlace LN [] tL 0 = 1 := by decide +kernel
    have he : Pl.edgS LN.nodes ⟨tS, tA, tB, true, false⟩ ∈ Pl.fEdges LN [] tL 0 := (Pl.fEdges_iff LN [] tL 0 _).2 (.inl ⟨_, by unfold LN; simp, by decide +kernel, rfl⟩)
    have ha : Pl.idxT LN.nodes tA = 0 := by decide +kernel
    have hb : Pl.idxT LN.nodes tB = 1 := by decide +kernel
    have hr : Pl.Rch (Pl.fEdges LN [] tL 0) (Pl.fPlace LN [] tL 0) 0 := by
      refine .step .start he ((Pl.leads_zero rfl _ _).2 (.inr ⟨?_, ha⟩))
      rw [hpl]; exact hb
    exact h2.1 rfl 0 hr (by rw [works_shape.2.2]; rfl)
set_option maxHeartbeats 1600000 in
theorem chooseWorks_any (w : World) : Calls Try.prog 14 #[] w fun e w' => e = .returned (.bool true) ∧ Below w.heap.size w w' := by
  go_enter Try.func14, Try.ntmps14
  go_wp2_with fail
  refine (line_any _).mono ?_
  rintro e w1 ⟨M, rfl, hMN, hM, hb1⟩
  have F1 := Lib.hid hb1
  have HL := Lib.hid (leastE_any M tL 500 w1 hM (Lib.hid fun w2 h2 hok => fieldOf_any M none 0 0 [] tL 500 w2 h2 hok Reads.none_ (by omega)))
  unfold vPlace tL at HL
  clear hb1 hM
  go_wp2_with fail
  refine HL.out.mono ?_
  rintro e w2 ⟨A, m, c, out, er, rfl, hls, hr, hm, hb2⟩
  have F2 := Lib.hid (F1.out.trans (hb2.mono F1.out.size))
  rw [hMN] at hls
  have hpl := works_place.1
  unfold tL at hpl
  obtain ⟨is, hle, hf, ht⟩ := hls.2 hpl
  have hsh := works_shape
  unfold tL at hsh
  rw [hsh.2.1, hsh.2.2] at hle
  obtain ⟨rfl, ho⟩ := Pl.works_least hsh.1 hle
  obtain ⟨rfl, hm2⟩ := ht rfl
  subst ho
  have HR := Lib.hid (hr rfl)
  have hm3 : m = 1 := hm2
  subst hm3
  clear hls hr hm hb2 hpl hle hf ht hsh hm2 HL hMN
  go_wp2_with fail
  refine (line_any _).mono ?_
  rintro e w3 ⟨M2, rfl, hMN, hM, hb3⟩
  have F3 := Lib.hid (F2.out.trans (hb3.mono F2.out.size))
  have R3 := Lib.hid (HR.out.go hb3)
  have HI := Lib.hid (isolated_any M2 none 0 0 [] tL 0 w3 hM Reads.none_ (by omega) (Lib.hid fun w2 h2 hok _ => fieldOf_any M2 none 0 0 [] tL 0 w2 h2 hok Reads.none_ (by omega)))
  unfold vPlace tL at HI
  clear hb3 hM
  go_wp2_with fail
  refine HI.out.mono ?_
  rintro e w4 ⟨is, er, rfl, hsd, hb4⟩
  rw [hMN] at hsd
  obtain ⟨rfl, rfl⟩ := works_iso hsd
  have F4 := Lib.hid (F3.out.trans (hb4.mono F3.out.size))
  have R4 := Lib.hid (R3.out.go hb4)
  clear hsd hb4 HI hMN
  have d5 := (Below.refl w4.heap.size w4).alloc (Nat.le_refl _) (.cells #[.string ⟨#[83]⟩] 9)
  have F5 := Lib.hid (F4.out.trans (d5.mono F4.out.size))
  have CS := Lib.hid (sameTexts_any A (some ⟨w4.heap.size, 0, none⟩) 1 c 1 1 [tS] [tS] _ (by omega) (R4.out.go d5) (Reads.lit w4 #[.string ⟨#[83]⟩] 9 1 1 w4.heap.size rfl rfl))
  rw [Pl.sameT_iff.2 rfl] at CS
  clear d5
  go_wp2_with fail
  refine CS.out.mono ?_
  rintro e w6 ⟨rfl, hb6⟩
  have F6 := Lib.hid (F5.out.trans (hb6.mono F5.out.size))
  clear hb6
  go_wp2_with fail
  go_ret
  exact ⟨rfl, F6.out⟩
end Go.Proofs.Ytpamgeemmbbkkaa
