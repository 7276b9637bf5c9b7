/- The contract of the laws' helper two: an offer of two steps. No condition. -/
import Derived.Test.YtchafkocobbndaaOfferC
namespace Go.Proofs.Ytchafkocobbndaa
open Go.RowKit
def twoSt : List (Int × Int) := [(10, 5), (10, 8)]
theorem two_any (s : ByteArray) (w : World) : Calls Try.prog 24 #[.string s] w fun e w' => ∃ A, e = .returned (vOff s A 2 2) ∧ Reads w' w'.heap.size 2 A 2 (pairs twoSt) ∧ Below w.heap.size w w' := by
  go_enter Try.func24, Try.ntmps24
  go_wp2_with fail
  refine bodyPost_ret (v := vOff s (some ⟨w.heap.size + 1, 0, none⟩) 2 2) (by simp [results, Try.results24, go_sem, vOff]) rfl ⟨_, rfl, ?_, ?_⟩
  · exact Reads.lit _ #[.int .i64 10, .int .i64 5, .int .i64 10, .int .i64 8] 45 2 2 _ (by simp) rfl
  · exact ((Below.refl _ _).alloc (Nat.le_refl _) _).alloc (by simp) _
theorem two_new (s : ByteArray) (w : World) : Calls Try.prog 24 #[.string s] w fun e w' => ∃ g, w.heap.size ≤ g ∧ e = .returned (vOff s (some ⟨g, 0, none⟩) 2 2) ∧ Reads w' w'.heap.size 2 (some ⟨g, 0, none⟩) 2 (pairs twoSt) ∧ Below w.heap.size w w' := by
  go_enter Try.func24, Try.ntmps24
  go_wp2_with fail
  refine bodyPost_ret (v := vOff s (some ⟨w.heap.size + 1, 0, none⟩) 2 2) (by simp [results, Try.results24, go_sem, vOff]) rfl ⟨_, Nat.le_succ _, rfl, ?_, ?_⟩
  · exact Reads.lit _ #[.int .i64 10, .int .i64 5, .int .i64 10, .int .i64 8] 45 2 2 _ (by simp) rfl
  · exact ((Below.refl _ _).alloc (Nat.le_refl _) _).alloc (by simp) _
theorem Reads.far {w : World} {B size n g : Nat} {xs : List Value} (h : Reads w B size (some ⟨g, 0, none⟩) n xs) {p : Addr} (hp : p.block ≠ g) (u : Value) : Reads (w.setCell p u) B size (some ⟨g, 0, none⟩) n xs :=
  ⟨h.1, fun hn => by
    obtain ⟨ad, e, hb, hc⟩ := h.2 hn
    cases e
    exact ⟨_, rfl, hb, fun j v hv => (World.cell?_setCell_other w p _ u (fun e => hp (by have := congrArg Addr.block e; rw [block_of_add] at this; first | exact this | exact this.symm))).trans (hc j v hv)⟩⟩
end Go.Proofs.Ytchafkocobbndaa
