/- The law DispatchSum: for all valid lengths the call returns true, and old memory is left as it is. No condition. -/
import Derived.Test.YtpbomomgjhbljaaServed
namespace Go.Proofs.Ytpbomomgjhbljaa
open Go.RowKit
set_option maxHeartbeats 3200000 in
set_option maxRecDepth 100000 in
theorem dispatchSum_walk (A : Option Addr) (n c : Nat) (l : List MOff) (d : Int) (B : Option Addr) (m e' : Nat) (xs : List Int) (w : World) (hcap : n ≤ c) (h : Offs w A n l) (hx : Reads w w.heap.size 1 B m (ints xs)) :
    Calls Try.prog 7 #[.slice A n c, .int .i64 d, .slice B m e'] w fun e w' => e = .returned (.bool true) ∧ Below w.heap.size w w' := by
  have L1 := Lib.hid h.len
  have H := Lib.hid h
  have HCX := Lib.hid (fun w a b => dCost_any A B n c m e' l xs w hcap a b)
  have HCP := Lib.hid (fun A2 c2 ps w a b => dCost_any A A2 n c n c2 l ps w hcap a b)
  unfold ThreeSaid at HCX HCP
  clear h
  go_enter Try.func7, Try.ntmps7
  go_wp2_with fail
  refine (served_any _).mono ?_
  rintro e w1 ⟨rfl, hb⟩
  have HB1 := Lib.hid hb
  clear hb
  go_wp2_with fail
  by_cases h0 : Pl.dcheck (plo l) d = 0
  · refine (best_good A n c l d w1 hcap (H.out.go HB1.out) h0).mono ?_
    rintro e w2 ⟨A2, ps, cost, p, rfl, hs, _, hc1, hc2, hr, hb⟩
    have HB2 := Lib.hid (HB1.out.trans (hb.mono HB1.out.size))
    have HR := Lib.hid hr
    have hs' : Pl.Served (plo l) (plo l).length d ps cost p := by rw [plo_len, L1.out]; exact hs
    obtain ⟨e1, e2⟩ := Pl.dispatch_sum (xs := xs) h0 hs'
    have HL := Lib.hid e2
    rw [show Pl.dCost (plo l) xs = ((Pl.dCost (plo l) xs).1, (Pl.dCost (plo l) xs).2.1, (Pl.dCost (plo l) xs).2.2) from rfl] at HCX
    have HE1 := Lib.hid e1
    clear h0 hs hs' hb hr e1 e2 HB1
    go_wp2_with fail
    refine (HCP.out A2 _ ps w2 (H.out.go HB2.out) HR.out).mono ?_
    rintro e w3 ⟨rfl, hb⟩
    rw [HE1.out]
    have HB3 := Lib.hid (HB2.out.trans (hb.mono HB2.out.size))
    clear hb HCP HE1
    go_wp2_with fail
    refine (HCX.out w3 (H.out.go HB3.out) (hx.go HB3.out)).mono ?_
    rintro e w4 ⟨rfl, hb⟩
    have HB4 := Lib.hid (HB3.out.trans (hb.mono HB3.out.size))
    clear hb HCX HB3 HB2
    generalize (Pl.dCost (plo l) xs).1 = x1 at *
    generalize (Pl.dCost (plo l) xs).2.1 = x2 at *
    generalize (Pl.dCost (plo l) xs).2.2 = x3 at *
    by_cases t3 : x3 = 0
    · subst t3
      by_cases t2 : x2 = d
      · subst t2
        have hle := HL.out rfl rfl
        clear HL
        go_wp2_with fail
        go_ret
        exact ⟨rfl, HB4.out⟩
      · have t2' : (x2 != d) = true := by simpa using t2
        clear HL t2
        go_wp2_with fail
        go_ret
        exact ⟨rfl, HB4.out⟩
    · have t3' : (x3 != 0) = true := by simpa using t3
      clear HL t3
      go_wp2_with fail
      go_ret
      exact ⟨rfl, HB4.out⟩
  · have hne : (Pl.dcheck (plo l) d != 0) = true := by simpa using h0
    refine (best_bad A n c l d w1 hcap (H.out.go HB1.out) h0).mono ?_
    rintro e w3 ⟨rfl, hb⟩
    have HB4 := Lib.hid (HB1.out.trans (hb.mono HB1.out.size))
    clear h0 hb
    generalize Pl.dcheck (plo l) d = u at *
    go_wp2_with fail
    go_ret
    exact ⟨rfl, HB4.out⟩
end Go.Proofs.Ytpbomomgjhbljaa
