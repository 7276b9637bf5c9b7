/- convexpl.Convolve, whatever the functions are: the plain function. Condition: what the sort of pieces says. -/
import Derived.Test.YtchafkocobbndaaConv
import Derived.Test.YtchafkocobbndaaPRing
namespace Go.Proofs.Ytchafkocobbndaa
open Go.RowKit
theorem cConv_any (hsort : SortPOk) (lo1 va1 lo2 va2 : Int) (A B : Option Addr) (n m c1 c2 : Nat) (ps qs : List (Int × Int)) (w : World) (ha : Reads w w.heap.size 2 A n (pairs ps)) (hb : Reads w w.heap.size 2 B m (pairs qs)) :
    Calls Try.prog 37 #[vCx lo1 va1 A n c1, vCx lo2 va2 B m c2] w (MadeSaid (Pl.cConv lo1 va1 ps lo2 va2 qs) w) := by
  by_cases h1 : Pl.ccheck lo1 va1 ps = 0
  · by_cases h2 : Pl.ccheck lo2 va2 qs = 0
    · refine (cConv_good hsort lo1 va1 lo2 va2 A B n m c1 c2 ps qs w ha hb h1 h2).mono ?_
      rintro e w' ⟨L, hp, hs, h⟩
      rw [Pl.cConv_of h1 h2 hp hs] at h
      exact h
    · refine (cConv_bad lo1 va1 lo2 va2 (Pl.ccheck lo2 va2 qs) A B n m c1 c2 ps qs w ha hb (by rw [if_neg (by simpa using h1)]) h2).mono ?_
      rintro e w' ⟨rfl, hbel⟩
      have e : Pl.cConv lo1 va1 ps lo2 va2 qs = ((0, 0, []), Pl.ccheck lo2 va2 qs) := by unfold Pl.cConv; rw [if_neg (by simpa using h1), if_pos h2]
      rw [e]
      exact ⟨none, 0, rfl, World.ownsRow_nil _ _ _ _, hbel⟩
  · refine (cConv_bad lo1 va1 lo2 va2 (Pl.ccheck lo1 va1 ps) A B n m c1 c2 ps qs w ha hb (by rw [if_pos h1]) h1).mono ?_
    rintro e w' ⟨rfl, hbel⟩
    have e : Pl.cConv lo1 va1 ps lo2 va2 qs = ((0, 0, []), Pl.ccheck lo1 va1 ps) := by unfold Pl.cConv; rw [if_pos h1]
    rw [e]
    exact ⟨none, 0, rfl, World.ownsRow_nil _ _ _ _, hbel⟩
end Go.Proofs.Ytchafkocobbndaa
