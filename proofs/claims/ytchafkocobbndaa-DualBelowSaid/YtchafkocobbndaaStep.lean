/- dual.check, Single and Step give what their plain functions give. Condition: the generators lie in memory as the words of DUnit say. -/
import Derived.Test.YtchafkocobbndaaDAll
import Derived.Test.YtchafkocobbndaaSingle
import Derived.Test.YtchafkocobbndaaPDualB
import Derived.Test.YtchafkocobbndaaCloI
namespace Go.Proofs.Ytchafkocobbndaa
open Go.RowKit
theorem enters_badPr : ∀ args w, Sem.run Try.prog (callFunc 27 args) w = .ok (.enter 27 args) w := by intro args w; go_simp
set_option maxRecDepth 100000 in
theorem badPr_any (z : Int) (w : World) : Calls Try.prog 27 #[.int .i64 z] w fun e w' => e = .returned (.bool (Pl.badPr z)) ∧ w = w' := by
  unfold Pl.badPr
  by_cases h : z < -2000000
  · have e1 : decide (z < -2000000) = true := decide_eq_true h
    go_enter Try.func27, Try.ntmps27
    go_wp2_with fail
    go_ret
    exact ⟨by first | rfl | (rw [e1]; rfl), rfl⟩
  · have e1 : decide (z < -2000000) = false := decide_eq_false h
    go_enter Try.func27, Try.ntmps27
    go_wp2_with fail
    go_ret
    exact ⟨by first | rfl | (rw [e1]; rfl) | (simp [h]), rfl⟩
theorem has_badPr (B : Option Addr) (m d : Nat) (ps : List Int) (w : World) (hm : m ≤ 1000000000000000) (h : Reads w w.heap.size 1 B m (ints ps)) :
    Calls Try.prog 26 #[.slice B m d, .func (.func 27) #[] #[]] w fun e w' => e = .returned (.bool (Pl.has Pl.badPr ps)) ∧ w = w' :=
  contains_int B m d ps 27 Pl.badPr w.heap.size w hm enters_badPr (Lib.hid fun z w => badPr_any z w) h
set_option maxHeartbeats 1600000 in
set_option maxRecDepth 100000 in
theorem dchk_any (A B C : Option Addr) (n c m d q e : Nat) (l : List MU) (ds ps : List Int) (w : World) (hcap : n ≤ c) (h : Unis w A n l) (hq : Reads w w.heap.size 1 B m (ints ds)) (hp : Reads w w.heap.size 1 C q (ints ps)) :
    Calls Try.prog 21 #[.slice A n c, .slice B m d, .slice C q e] w fun e w' => e = .returned (.int .i64 (Pl.dchk (plus l) ds ps)) ∧ Below w.heap.size w w' := by
  have HC := Lib.hid (fun w h hq => duall_any A B n c m d l ds w hcap h hq)
  have H := Lib.hid h
  have HQ := Lib.hid hq
  have HP := Lib.hid hp
  have L1 := Lib.hid hq.int_len
  have L2 := Lib.hid hp.int_len
  have HX : Hid (Pl.dchk (plus l) ds ps = if Pl.duAll (plus l) ds ≠ 0 then Pl.duAll (plus l) ds else if ps.length ≠ ds.length then 3 else if Pl.has Pl.badPr ps = true then 4 else 0) := rfl
  generalize Pl.dchk (plus l) ds ps = R at *
  by_cases h0 : Pl.duAll (plus l) ds = 0
  · rw [if_neg (by simpa using h0)] at HX
    have hm8 : m ≤ 8 := by rw [← L1.out]; exact (Pl.duAll_ok h0).hd
    rw [h0] at HC
    clear h hq hp h0
    by_cases hl : q = m
    · subst hl
      rw [if_neg (by rw [L1.out, L2.out]; simp)] at HX
      have HB := Lib.hid (fun (w : World) (h : Reads w w.heap.size 1 C q (ints ps)) => has_badPr C q e ps w (by omega) h)
      go_enter Try.func21, Try.ntmps21
      go_wp2_with fail
      refine (HC.out _ H.out HQ.out).mono ?_
      rintro e1 w1 ⟨rfl, hb⟩
      have HB1 := Lib.hid hb
      have HP1 := Lib.hid (HP.out.go hb)
      clear hb HC
      cases hv : Pl.has Pl.badPr ps
      · rw [hv] at HB HX
        clear hv
        rw [if_neg (by decide)] at HX
        go_wp2_with fail
        refine (HB.out _ HP1.out).mono ?_
        rintro e1 w2 ⟨rfl, rfl⟩
        go_wp2_with fail
        go_ret
        exact ⟨by rw [HX.out]; rfl, HB1.out⟩
      · rw [hv] at HB HX
        clear hv
        rw [if_pos rfl] at HX
        go_wp2_with fail
        refine (HB.out _ HP1.out).mono ?_
        rintro e1 w2 ⟨rfl, rfl⟩
        go_wp2_with fail
        go_ret
        exact ⟨by rw [HX.out]; rfl, HB1.out⟩
    · rw [if_pos (by rw [L1.out, L2.out]; exact hl)] at HX
      have hl2 : ((q : Int) != (m : Int)) = true := by simp; omega
      go_enter Try.func21, Try.ntmps21
      go_wp2_with fail
      refine (HC.out _ H.out HQ.out).mono ?_
      rintro e1 w1 ⟨rfl, hb⟩
      have HB1 := Lib.hid hb
      clear hb HC
      go_wp2_with fail
      go_ret
      exact ⟨by rw [HX.out]; rfl, HB1.out⟩
  · rw [if_pos h0] at HX
    have h2 : (Pl.duAll (plus l) ds != 0) = true := by simpa using h0
    clear h hq hp h0
    generalize Pl.duAll (plus l) ds = u at *
    go_enter Try.func21, Try.ntmps21
    go_wp2_with fail
    refine (HC.out _ H.out HQ.out).mono ?_
    rintro e1 w1 ⟨rfl, hb⟩
    have HB1 := Lib.hid hb
    clear hb HC
    go_wp2_with fail
    go_ret
    exact ⟨by rw [HX.out]; rfl, HB1.out⟩
/-- a list of the call's own, a number and an error -/
def RdSaid (x : List Int × Int × Int) (w : World) (e : Ending) (w' : World) : Prop :=
  ∃ A c, e = .returned (.tuple #[.slice A x.1.length c, .int .i64 x.2.1, .int .i64 x.2.2]) ∧ w'.ownsRow w.heap.size 3 1 (.slice A x.1.length c) x.1.length (ints x.1) ∧ Below w.heap.size w w'
set_option maxHeartbeats 3200000 in
set_option maxRecDepth 100000 in
theorem sgl_any (u : MU) (B : Option Addr) (m d : Nat) (ps : List Int) (w : World) (hin : UnIn w u) (hq : Reads w w.heap.size 1 B m (ints ps)) :
    Calls Try.prog 12 #[vUn u, .slice B m d] w (RdSaid (Pl.dSingle (plu u) ps) w) := by
  have HC := Lib.hid (fun w h => ducheck_any u w h)
  have H := Lib.hid hin
  have HQ := Lib.hid hq
  have L1 := Lib.hid hq.int_len
  have HX : Hid (Pl.dSingle (plu u) ps = if Pl.duCheck (plu u) ≠ 0 then ([], 0, Pl.duCheck (plu u)) else if 8 < ps.length then ([], 0, 2) else if Pl.has Pl.badPr ps = true then ([], 0, 4) else ((Pl.dsingle (plu u) ps).1, (Pl.dsingle (plu u) ps).2.1, 0)) := rfl
  have HSG := Lib.hid (fun (w : World) h1 h2 h3 h4 h5 => single_any u B m d ps w h1 h2 h3 h4 h5)
  have HCK : Hid (∃ x, x = Pl.duCheck (plu u)) := ⟨_, rfl⟩
  generalize Pl.dSingle (plu u) ps = R at *
  unfold RdSaid
  unfold SingleSaid at HSG
  unfold vUn at *
  have B0 := Lib.hid (Blk.new_ w w.heap.size 35 #[.string u.r.name, .int .i64 u.r.least, .int .i64 u.r.most, .int .i64 u.r.up, .int .i64 u.r.down, .int .i64 u.r.minOn, .int .i64 u.r.minOff, .int .i64 u.r.start, .string u.nm, .slice u.A u.n u.c, .bool u.s.on, .int .i64 u.s.since, .int .i64 u.s.power] rfl)
  have A0 := Lib.hid ((Below.refl w.heap.size w).alloc (Nat.le_refl _) (.cells #[.string u.r.name, .int .i64 u.r.least, .int .i64 u.r.most, .int .i64 u.r.up, .int .i64 u.r.down, .int .i64 u.r.minOn, .int .i64 u.r.minOff, .int .i64 u.r.start, .string u.nm, .slice u.A u.n u.c, .bool u.s.on, .int .i64 u.s.since, .int .i64 u.s.power] 35))
  have H0 := Lib.hid (H.out.go A0.out)
  have HQ0 := Lib.hid (HQ.out.go A0.out)
  clear hin hq H HQ HCK
  by_cases h0 : Pl.duCheck (plu u) = 0
  · rw [if_neg (by simpa using h0)] at HX
    have HC0 := Lib.hid h0
    rw [h0] at HC
    clear h0
    by_cases hm : m ≤ 8
    · rw [if_neg (by rw [L1.out]; omega)] at HX
      have HB := Lib.hid (fun (w : World) (h : Reads w w.heap.size 1 B m (ints ps)) => has_badPr B m d ps w (by omega) h)
      go_enter Try.func12, Try.ntmps12
      go_wp2_with fail
      refine (HC.out _ H0.out).mono ?_
      rintro e1 w1 ⟨rfl, hb⟩
      have HB1 := Lib.hid (A0.out.trans (hb.mono A0.out.size))
      have B1 := Lib.hid (B0.out.go hb)
      have H1 := Lib.hid (H0.out.go hb)
      have HQ1 := Lib.hid (HQ0.out.go hb)
      clear hb HC A0 B0 H0 HQ0
      cases hv : Pl.has Pl.badPr ps
      · have HPS := Lib.hid (Pl.prices_ok hv)
        rw [hv] at HB HX
        clear hv
        rw [if_neg (by decide)] at HX
        generalize Pl.dsingle (plu u) ps = D at *
        obtain ⟨DL, dm, df⟩ := D
        simp only at HX HSG
        have bc := B1.out.cell
        go_wp2_with fail
        refine (HB.out _ HQ1.out).mono ?_
        rintro e1 w2 ⟨rfl, rfl⟩
        go_wp2_with fail
        refine (HSG.out _ HC0.out H1.out hm HPS.out HQ1.out).mono ?_
        rintro e1 w2 ⟨Ar, cr, rfl, hrd, hb⟩
        have HB2 := Lib.hid (HB1.out.trans (hb.mono HB1.out.size))
        have HRD := Lib.hid hrd
        clear hb hrd bc
        go_wp2_with fail
        go_ret3
        rw [HX.out]
        exact ⟨Ar, cr, rfl, own_base HRD.out HB1.out.size, HB2.out⟩
      · rw [hv] at HB HX
        clear hv HSG
        rw [if_pos rfl] at HX
        go_wp2_with fail
        refine (HB.out _ HQ1.out).mono ?_
        rintro e1 w2 ⟨rfl, rfl⟩
        go_wp2_with fail
        go_ret3
        rw [HX.out]
        exact ⟨none, 0, rfl, World.ownsRow_nil _ _ _ _, HB1.out⟩
    · rw [if_pos (by rw [L1.out]; omega)] at HX
      clear HSG
      go_enter Try.func12, Try.ntmps12
      go_wp2_with fail
      refine (HC.out _ H0.out).mono ?_
      rintro e1 w1 ⟨rfl, hb⟩
      have HB1 := Lib.hid (A0.out.trans (hb.mono A0.out.size))
      clear hb HC A0 B0 H0 HQ0
      go_wp2_with fail
      go_ret3
      rw [HX.out]
      exact ⟨none, 0, rfl, World.ownsRow_nil _ _ _ _, HB1.out⟩
  · rw [if_pos h0] at HX
    have h2 : (Pl.duCheck (plu u) != 0) = true := by simpa using h0
    clear h0 HSG
    generalize Pl.duCheck (plu u) = dc at *
    go_enter Try.func12, Try.ntmps12
    go_wp2_with fail
    refine (HC.out _ H0.out).mono ?_
    rintro e1 w1 ⟨rfl, hb⟩
    have HB1 := Lib.hid (A0.out.trans (hb.mono A0.out.size))
    clear hb HC A0 B0 H0 HQ0
    go_wp2_with fail
    go_ret3
    rw [HX.out]
    exact ⟨none, 0, rfl, World.ownsRow_nil _ _ _ _, HB1.out⟩
end Go.Proofs.Ytchafkocobbndaa
