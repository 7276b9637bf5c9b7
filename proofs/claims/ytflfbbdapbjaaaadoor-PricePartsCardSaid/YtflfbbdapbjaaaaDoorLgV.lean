/- Package large: Sign, Floor of rational numbers, Whole, Frac. Condition: the words read; at most 400000 words. -/
import Derived.Test.YtflfbbdapbjaaaaDoorLgU
namespace Go.Proofs.YtflfbbdapbjaaaaDoor
open Go.RowKit
set_option maxRecDepth 100000
theorem small_nw {n : Int} (h : n.natAbs < 18446744073709551616) : Pl.nw n.natAbs ≤ 2 := by
  have e : (4294967296 : Nat) ^ 2 = 18446744073709551616 := by decide +kernel
  exact Pl.nw_le (by rw [e]; exact h)
end Go.Proofs.YtflfbbdapbjaaaaDoor
