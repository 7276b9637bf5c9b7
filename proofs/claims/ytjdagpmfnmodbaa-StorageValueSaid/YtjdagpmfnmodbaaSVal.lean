/- storage.Value: it returns what its plain function gives, in new memory, and leaves old memory as it is. Condition: what the sort of pieces says. -/
import Derived.Test.YtjdagpmfnmodbaaCosts
namespace Go.Proofs.Ytjdagpmfnmodbaa
open Go.RowKit
/-- a convex function and an error; the pieces in memory -/
def CxSaid (x : Pl.Cx × Int) (w : World) (e : Ending) (w' : World) : Prop :=
  ∃ A c, e = .returned (.tuple #[vCx x.1.1 x.1.2.1 A x.1.2.2.length c, .int .i64 x.2]) ∧ Reads w' w'.heap.size 2 A x.1.2.2.length (pairs x.1.2.2) ∧ Below w.heap.size w w'
set_option maxHeartbeats 6400000 in
set_option maxRecDepth 100000 in
theorem sValue_any (hsort : SortPOk) (ch dis cap beg en : Int) (A : Option Addr) (n c : Nat) (ps : List Int) (w : World) (hr : Reads w w.heap.size 1 A n (ints ps)) :
    Calls Try.prog 33 #[vSt ch dis cap beg en, .slice A n c] w (CxSaid (Pl.sValue ch dis cap beg en ps) w) := by
  have HR := Lib.hid hr
  have HL := Lib.hid hr.int_len
  have HC := Lib.hid (fun w h => sCheckP_any ch dis cap beg en A n c ps w h)
  obtain ⟨wd, hwd, HS, HT, HB⟩ : ∃ wd, wd = (w.alloc (.cells #[.int .i64 ch, .int .i64 dis, .int .i64 cap, .int .i64 beg, .int .i64 en] 70)).alloc (.cells #[.int .i64 0, .int .i64 0, .slice none 0 0] 30) ∧ Hid (Blk wd w.heap.size 70 #[.int .i64 ch, .int .i64 dis, .int .i64 cap, .int .i64 beg, .int .i64 en]) ∧ Hid (Blk wd (w.heap.size + 1) 30 #[.int .i64 0, .int .i64 0, .slice none 0 0]) ∧ Hid (Below w.heap.size w wd) := by
    refine ⟨_, rfl, ?_, ?_, ?_⟩
    · exact (Blk.new_ w w.heap.size _ _ rfl).alloc _
    · exact Blk.new_ _ (w.heap.size + 1) _ _ (by simp)
    · exact ((Below.refl w.heap.size w).alloc (Nat.le_refl _) _).alloc (by simp) _
  clear hr
  by_cases h0 : Pl.sCheckP ch dis cap beg en ps = 0
  · obtain ⟨hs, hn24, hp⟩ := Pl.sCheckP_ok h0
    have HX : Hid (Pl.sValue ch dis cap beg en ps = Pl.sK ch dis cap beg ps n) := by show _ = _; unfold Pl.sValue; rw [if_neg (by simpa using h0), HL.out]
    have HCO := Lib.hid (fun w h => costs_any hsort ch dis cap beg en A n c ps w hs hp (by rw [← HL.out]; exact hn24) h)
    have HG := Lib.hid (Pl.sK_good hs hp n)
    have hn : n ≤ 24 := by rw [← HL.out]; exact hn24
    rw [h0] at HC
    clear h0 hs hp hn24 hsort
    unfold CxSaid
    unfold CostsSaid at HCO
    generalize Pl.sValue ch dis cap beg en ps = R at *
    unfold vSt at *
    go_enter Try.func33, Try.ntmps33
    go_wp2_with fail
    rw [← hwd]
    clear hwd
    refine (HC.out _ (HR.out.go HB.out)).mono ?_
    rintro e w1 ⟨rfl, hb⟩
    have HB1 := Lib.hid (HB.out.trans (hb.mono HB.out.size))
    have HS1 := Lib.hid (HS.out.go hb)
    have HT1 := Lib.hid (HT.out.go hb)
    clear hb HB HS HT HC
    have cs := HS1.out.cell
    go_wp2_with fail
    refine (HCO.out _ (HR.out.go HB1.out)).mono ?_
    rintro e w2 (⟨hF, g, cp, ms, rfl, hx, hml, hms, hb⟩ | ⟨hF, rfl, hb⟩)
    · have HB2 := Lib.hid (HB1.out.trans (hb.mono HB1.out.size))
      have HT2 := Lib.hid (HT1.out.go hb)
      obtain ⟨q0, q1, q2, hrd⟩ := hx.at_ (k := n) (by omega)
      have hcx := hms n (by omega)
      have HV : Hid (R = ((ms[n]'(by omega)).cx, 0)) := by
        show _ = _
        rw [HX.out, hcx]
        exact Prod.ext rfl hF
      have hlt2 := HT1.out.lt
      have hxl : w.heap.size + 1 < g := Nat.lt_of_lt_of_le hlt2 hx.lt.1
      have hgl := hx.lt.2
      have ct := HT2.out.cell
      have ft := HT2.out.frozen
      have lt := HT2.out.lt
      have k0 : (0 : Int) ≤ (n : Int) := by omega
      have k1 : (n : Int) < (n : Int) + 1 := by omega
      have hin := hx.ins _ (List.getElem_mem (show n < ms.length by omega))
      have hbs : w.heap.size + 1 < w1.heap.size := hlt2
      clear hb hx hms hcx hF HCO HG
      generalize ms[n] = oo at *
      obtain ⟨lo, va, Ao, co, sto⟩ := oo
      simp only [MCx.cx] at q0 q1 q2 HV hrd
      have HIN := Lib.hid hin
      clear hrd hin
      go_wp2_with fail
      have E6 := Lib.hid (((HT2.out.set_ 0 (.int .i64 lo)).set_ 1 (.int .i64 va)).set_ 2 (.slice Ao sto.length co))
      have k7 := E6.out.cell
      refine bodyPost_ret (v := .tuple #[vCx lo va Ao sto.length co, .int .i64 0]) (by simp [results, Try.results33, go_sem, vCx, k7]) rfl ⟨Ao, co, by rw [HV.out], ?_, ?_⟩
      · rw [HV.out]
        exact (((HIN.out.far (p := ⟨w.heap.size + 1, 0, none⟩) hbs (.int .i64 lo)).far (p := ⟨w.heap.size + 1, 1, none⟩) hbs (.int .i64 va)).far (p := ⟨w.heap.size + 1, 2, none⟩) hbs (.slice Ao sto.length co)).reads
      · exact (((HB2.out.setCell (by simp) _).setCell (by simp) _).setCell (by simp) _)
    · have HB2 := Lib.hid (HB1.out.trans (hb.mono HB1.out.size))
      have HT2 := Lib.hid (HT1.out.go hb)
      have hF2 : ((Pl.sK ch dis cap beg ps n).2 != 0) = true := by simpa using hF
      have HV : Hid (R = ((0, 0, []), (Pl.sK ch dis cap beg ps n).2)) := by
        show _ = _
        rw [HX.out]
        rcases HG.out with ⟨_, e⟩ | ⟨e, _⟩
        · exact Prod.ext e rfl
        · exact absurd e hF
      have ct := HT2.out.cell
      have ft := HT2.out.frozen
      have lt := HT2.out.lt
      clear hb hF HCO HG
      go_wp2_with fail
      have E6 := Lib.hid (((HT2.out.set_ 0 (.int .i64 0)).set_ 1 (.int .i64 0)).set_ 2 (.slice none 0 0))
      have k7 := E6.out.cell
      refine bodyPost_ret (v := .tuple #[vCx 0 0 none 0 0, .int .i64 (Pl.sK ch dis cap beg ps n).2]) (by simp [results, Try.results33, go_sem, vCx, k7]) rfl ⟨none, 0, by rw [HV.out]; rfl, by rw [HV.out]; exact Reads.none_, ?_⟩
      exact (((HB2.out.setCell (by simp) _).setCell (by simp) _).setCell (by simp) _)
  · have HX : Hid (Pl.sValue ch dis cap beg en ps = ((0, 0, []), Pl.sCheckP ch dis cap beg en ps)) := by show _ = _; unfold Pl.sValue; rw [if_pos h0]
    have h2 : (Pl.sCheckP ch dis cap beg en ps != 0) = true := by simpa using h0
    clear h0
    unfold CxSaid
    generalize Pl.sValue ch dis cap beg en ps = R at *
    generalize Pl.sCheckP ch dis cap beg en ps = u at *
    unfold vSt at *
    go_enter Try.func33, Try.ntmps33
    go_wp2_with fail
    rw [← hwd]
    clear hwd
    refine (HC.out _ (HR.out.go HB.out)).mono ?_
    rintro e w1 ⟨rfl, hb⟩
    have HB1 := Lib.hid (HB.out.trans (hb.mono HB.out.size))
    have HT1 := Lib.hid (HT.out.go hb)
    clear hb HB HS HT HC
    have ct := HT1.out.cell
    have ft := HT1.out.frozen
    have lt := HT1.out.lt
    go_wp2_with fail
    have E6 := Lib.hid (((HT1.out.set_ 0 (.int .i64 0)).set_ 1 (.int .i64 0)).set_ 2 (.slice none 0 0))
    have k7 := E6.out.cell
    refine bodyPost_ret (v := .tuple #[vCx 0 0 none 0 0, .int .i64 u]) (by simp [results, Try.results33, go_sem, vCx, k7]) rfl ⟨none, 0, by rw [HX.out]; rfl, by rw [HX.out]; exact Reads.none_, ?_⟩
    exact (((HB1.out.setCell (by simp) _).setCell (by simp) _).setCell (by simp) _)
end Go.Proofs.Ytjdagpmfnmodbaa
