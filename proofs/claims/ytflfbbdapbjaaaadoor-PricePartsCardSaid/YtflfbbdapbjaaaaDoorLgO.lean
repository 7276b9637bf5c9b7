/- Package large: divWords answers as integers. Condition: the words read; the divisor is not 0. -/
import Derived.Test.YtflfbbdapbjaaaaDoorLgN
namespace Go.Proofs.YtflfbbdapbjaaaaDoor
open Go.RowKit
theorem divw_any (A : Option Addr) (c : Nat) (B : Option Addr) (d : Nat) (a b : Nat) (w : World) (hn : Pl.nw a ≤ 17592186044416) (hm : Pl.nw b ≤ 17592186044416) (hac : Pl.nw a ≤ c) (ha : Reads w w.heap.size 1 A (Pl.nw a) (u32s (Pl.digs a))) (hb : Reads w w.heap.size 1 B (Pl.nw b) (u32s (Pl.digs b))) (h0 : b ≠ 0) :
    Calls Tryd.prog 38 #[.slice A (Pl.nw a) c, .slice B (Pl.nw b) d] w (DivSaid a b w) := by
  rcases Nat.lt_or_ge a b with h | h
  · exact divw_short A c B d a b w hn hm hac ha hb h
  · have hp := Pl.nw_pos h0
    by_cases h1 : Pl.nw b = 1
    · exact divw_one A c B d a b w hn ha hb h h1
    · exact divw_long A c B d a b w hn ha hb h (by omega)
end Go.Proofs.YtflfbbdapbjaaaaDoor
