/- settle.Round as the plain words say. Condition: the texts read; each is at most 2^63 - 1 bytes. -/
import Derived.Test.YtgdbodnfibiafaaGreatDoorSetB
import Derived.Test.YtgdbodnfibiafaaGreatDoorPBal
import Derived.Test.YtgdbodnfibiafaaGreatDoorRatAS
namespace Go.Proofs.YtgdbodnfibiafaaGreatDoor
open Go.RowKit
set_option maxRecDepth 100000
theorem Pl.rats_all : ∀ {ls : List (List UInt8)}, Pl.ratsE ls = 0 → ∃ rs : List Rat, ls = rs.map Pl.ratTxt ∧ ∀ q ∈ rs, Pl.Fits q
  | [], _ => ⟨[], rfl, fun q hq => by cases hq⟩
  | l :: ls, h => by
    have h1 := Pl.ratsE_ok.1 h
    obtain ⟨q, hq, fq⟩ := Pl.ratE_ok.1 (h1 l (by simp))
    obtain ⟨rs, hrs, fs⟩ := Pl.rats_all (ls := ls) (Pl.ratsE_ok.2 fun x hx => h1 x (List.mem_cons_of_mem _ hx))
    refine ⟨q :: rs, by rw [hq, hrs, List.map_cons], fun x hx => ?_⟩
    rcases List.mem_cons.1 hx with rfl | hx
    · exact fq
    · exact fs x hx
theorem Pl.rats_map {rs : List Rat} (h : ∀ q ∈ rs, Pl.Fits q) : Pl.ratsE (rs.map Pl.ratTxt) = 0 := Pl.ratsE_ok.2 fun l hl => by
  obtain ⟨q, hq, rfl⟩ := List.mem_map.1 hl
  exact Pl.ratE_txt (h q hq)
/-- what settle.Round returns -/
def SRSaid (ls : List (List UInt8)) (w : World) (e : Ending) (w' : World) : Prop :=
  ((256 < ls.length ∨ Pl.ratsE ls ≠ 0) ∧ (∃ er, er ≠ 0 ∧ e = .returned (.tuple #[.slice none 0 0, .int .i64 er])) ∧ Below w.heap.size w w') ∨
    ∃ rs : List Rat, ls = rs.map Pl.ratTxt ∧ (∀ q ∈ rs, Pl.Fits q) ∧ rs.length ≤ 256 ∧ RoundSaid rs w e w'
theorem sround_any (A : Option Addr) (n c : Nat) (ls : List (List UInt8)) (w : World) (hn : n ≤ 9223372036854775807) (hr : Reads w w.heap.size 1 A n (txs ls)) (hs : ∀ l ∈ ls, l.length ≤ 9223372036854775807) (hl : LV w) :
    Calls Tryz.prog 5 #[.slice A n c] w (SRSaid ls w) := by
  have HN := Lib.hid (txs_len hr)
  have HR := Lib.hid hr
  by_cases h1 : 256 < n
  · have h2 : (256 : Int) < (n : Int) := by omega
    clear hr hs hl
    go_enter Tryz.func5, Tryz.ntmps5
    go_wp2_with fail
    go_ret2
    exact .inl ⟨.inl (by rw [HN.out]; exact h1), ⟨2, by decide, rfl⟩, Below.refl _ _⟩
  · have h2 : ¬ (256 : Int) < (n : Int) := by omega
    have HC := Lib.hid (rcheckall_any A n c ls w hn hr hs hl)
    obtain ⟨E, hE⟩ : ∃ E, E = Pl.ratsE ls := ⟨_, rfl⟩
    rw [← hE] at HC
    have HE := Lib.hid hE
    clear hr hs hl hE
    go_enter Tryz.func5, Tryz.ntmps5
    go_wp2_with fail
    refine HC.out.mono ?_
    rintro e w2 ⟨rfl, hb5⟩
    have D := Lib.hid hb5
    clear hb5 HC
    by_cases h3 : E = 0
    · obtain ⟨rs, hrs, hf⟩ := Pl.rats_all (HE.out.symm.trans h3)
      subst hrs
      have HF := Lib.hid hf
      have HP := Lib.hid (parseAll_any A n c rs w2 (by omega) (HR.out.go D.out) hf)
      subst h3
      clear hf
      go_wp2_with fail
      refine HP.out.mono ?_
      rintro e w3 ⟨g, L, rfl, hg, hrl, hLm, hb5⟩
      have HLN : L.length = n := by
        have h9 := HN.out
        have h8 := congrArg List.length hLm
        rw [List.length_map] at h8 h9
        omega
      have HRT := Lib.hid hrl.rats
      rw [HLN] at HRT
      have D3 := Lib.hid (D.out.trans (hb5.mono D.out.size))
      have HLM := Lib.hid hLm
      have HNN : Hid (rs.length = n) := by show _ = _; have h9 := HN.out; simpa using h9
      clear hb5 hrl hLm HLN hg HP HN
      go_wp2_with fail
      refine (round_any (some ⟨g, 0, none⟩) n n L rs w3 (by omega) HRT.out HLM.out (fun q hq => Pl.rsz_fits (HF.out q hq))).mono ?_
      rintro e w4 ⟨hc, hb5⟩
      have D4 := Lib.hid (D3.out.trans (hb5.mono D3.out.size))
      clear hb5
      rcases hc with ⟨nok, er, her, rfl⟩ | ⟨hok, os, go, hde, hst, rfl, hrd⟩
      · have NOK := Lib.hid (And.intro nok her)
        clear nok her
        go_wp2_with fail
        go_ret2
        exact .inr ⟨rs, rfl, HF.out, by rw [HNN.out]; omega, .inl ⟨NOK.out.1, er, NOK.out.2, rfl⟩, D4.out⟩
      · have OK := Lib.hid (And.intro hok (And.intro hde (And.intro hst hrd)))
        clear hok hde hst hrd
        go_wp2_with fail
        go_ret2
        exact .inr ⟨rs, rfl, HF.out, by rw [HNN.out]; omega, .inr ⟨OK.out.1, os, go, OK.out.2.1, OK.out.2.2.1, rfl, OK.out.2.2.2⟩, D4.out⟩
    · have h4 : (E != 0) = true := by simpa using h3
      have HE2 := Lib.hid h3
      clear h3
      go_wp2_with fail
      go_ret2
      exact .inl ⟨.inr (by rw [← HE.out]; exact HE2.out), ⟨E, HE2.out, rfl⟩, D.out⟩
/-- what a comparison of texts returns, whatever they are -/
theorem rcmp_some (a b : List UInt8) (w : World) (ha : a.length ≤ 9223372036854775807) (hb : b.length ≤ 9223372036854775807) (hl : LV w) :
    Calls Tryz.prog 9 #[tx a, tx b] w fun e w' => ∃ c er : Int, e = .returned (.tuple #[.int .i64 c, .int .i64 er]) ∧ (∀ p q, a = Pl.ratTxt p → b = Pl.ratTxt q → Pl.Fits p → Pl.Fits q → c = Pl.cmpR p q ∧ er = 0) ∧ Below w.heap.size w w' := by
  refine (rcompare_any a b w ha hb hl).mono ?_
  rintro e w' (⟨h1, rfl, hb⟩ | ⟨p, q, rfl, fp, rfl, fq, rfl, hb⟩)
  · exact ⟨_, _, rfl, fun p q e1 e2 fp fq => absurd (Pl.ratsE_ok.2 fun l hl => by
      simp only [List.mem_cons, List.not_mem_nil, or_false] at hl
      rcases hl with rfl | rfl
      · rw [e1]; exact Pl.ratE_txt fp
      · rw [e2]; exact Pl.ratE_txt fq) h1, hb⟩
  · exact ⟨_, _, rfl, fun p' q' e1 e2 _ _ => by rw [Pl.ratTxt_inj e1, Pl.ratTxt_inj e2]; exact ⟨rfl, rfl⟩, hb⟩
/-- what a sum or a difference of texts of numbers returns -/
theorem rop_txt {F : Rat → Rat → Rat} {p q : Rat} {w w' : World} {e : Ending} (fp : Pl.Fits p) (fq : Pl.Fits q) (h : ROpSaid F (Pl.ratTxt p) (Pl.ratTxt q) w e w') : RTxtSaid (F p q) w e w' := by
  rcases h with ⟨h1, _⟩ | ⟨p', q', e1, _, e2, _, h⟩
  · exact absurd (Pl.ratsE_ok.2 fun l hl => by
      simp only [List.mem_cons, List.not_mem_nil, or_false] at hl
      rcases hl with rfl | rfl
      · exact Pl.ratE_txt fp
      · exact Pl.ratE_txt fq) h1
  · rw [Pl.ratTxt_inj e1, Pl.ratTxt_inj e2]; exact h
end Go.Proofs.YtgdbodnfibiafaaGreatDoor
