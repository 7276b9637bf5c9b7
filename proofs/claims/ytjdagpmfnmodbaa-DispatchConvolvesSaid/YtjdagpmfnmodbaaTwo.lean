/- The contract of the laws' helper two: an offer of two steps. No condition. -/
import Derived.Test.YtjdagpmfnmodbaaOfferC
import Derived.Test.YtjdagpmfnmodbaaFine
namespace Go.Proofs.Ytjdagpmfnmodbaa
open Go.RowKit
def twoSt : List (Int × Int) := [(10, 5), (10, 8)]
theorem two_any (s : ByteArray) (w : World) : Calls Try.prog 43 #[.string s] w fun e w' => ∃ A, e = .returned (vOff s A 2 2) ∧ Reads w' w'.heap.size 2 A 2 (pairs twoSt) ∧ Below w.heap.size w w' := by
  go_enter Try.func43, Try.ntmps43
  go_wp2_with fail
  refine bodyPost_ret (v := vOff s (some ⟨w.heap.size + 1, 0, none⟩) 2 2) (by simp [results, Try.results43, go_sem, vOff]) rfl ⟨_, rfl, ?_, ?_⟩
  · exact Reads.lit _ #[.int .i64 10, .int .i64 5, .int .i64 10, .int .i64 8] 57 2 2 _ (by simp) rfl
  · exact ((Below.refl _ _).alloc (Nat.le_refl _) _).alloc (by simp) _
end Go.Proofs.Ytjdagpmfnmodbaa
