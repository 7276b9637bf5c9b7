/- What a function that returns a list of integers, a number and an error says. No condition. -/
import Derived.Test.YtchafkocobbndaaBase
import Derived.Test.YtchafkocobbndaaOwn
namespace Go.Proofs.Ytchafkocobbndaa
open Go.RowKit
/-- a list, a number and an error; the list in new memory -/
def SchedSaid (x : List Int × Int × Int) (w : World) (e : Ending) (w' : World) : Prop :=
  ∃ A c, e = .returned (.tuple #[.slice A x.1.length c, .int .i64 x.2.1, .int .i64 x.2.2]) ∧ w'.ownsRow w.heap.size 3 1 (.slice A x.1.length c) x.1.length (ints x.1) ∧ Below w.heap.size w w'
theorem ints_snoc (l : List Int) (x : Int) : ints (l ++ [x]) = ints l ++ [.int .i64 x] := by simp [ints]
end Go.Proofs.Ytchafkocobbndaa
