/- The contract of the laws' helper alone: a generator of two steps. No condition. -/
import Derived.Test.YtchafkocobbndaaDUnit
import Derived.Test.YtchafkocobbndaaTwoO
import Derived.Test.YtchafkocobbndaaPDualB
namespace Go.Proofs.Ytchafkocobbndaa
open Go.RowKit
def aloneU (A : Option Addr) : MU := ⟨⟨⟨#[65]⟩, 0, 20, 20, 20, 1, 1, 9⟩, ⟨#[65]⟩, A, 2, 2, twoSt, ⟨false, 5, 0⟩⟩
theorem plu_alone (A : Option Addr) : plu (aloneU A) = Pl.aloneCU := rfl
theorem Unis.lit {w : World} {u : MU} (h : UnIn w u) (t : TypeId) (g : Nat) (hg : g = w.heap.size) : Unis (w.alloc (.cells (ucells u).toArray t)) (some ⟨g, 0, none⟩) 1 [u] := by
  refine ⟨?_, fun v hv => ?_⟩
  · have := Reads.lit w (ucells u).toArray t 1 13 g hg rfl
    simpa [unis] using this
  · rw [List.mem_singleton.1 hv]
    exact h.go ((Below.refl _ _).alloc (Nat.le_refl _) _)
set_option maxRecDepth 100000 in
theorem alone_any (w : World) : Calls Try.prog 10 #[] w fun e w' => ∃ A, e = .returned (vUn (aloneU A)) ∧ UnIn w' (aloneU A) ∧ Below w.heap.size w w' := by
  have HT := Lib.hid (fun w => two_new ⟨#[65]⟩ w)
  unfold vOff at HT
  have B0 := Lib.hid (Blk.new_ w w.heap.size 35 #[.string ⟨#[]⟩, .int .i64 0, .int .i64 0, .int .i64 0, .int .i64 0, .int .i64 0, .int .i64 0, .int .i64 0, .string ⟨#[]⟩, .slice none 0 0, .bool false, .int .i64 0, .int .i64 0] rfl)
  have A0 := Lib.hid ((Below.refl w.heap.size w).alloc (Nat.le_refl _) (.cells #[.string ⟨#[]⟩, .int .i64 0, .int .i64 0, .int .i64 0, .int .i64 0, .int .i64 0, .int .i64 0, .int .i64 0, .string ⟨#[]⟩, .slice none 0 0, .bool false, .int .i64 0, .int .i64 0] 35))
  go_enter Try.func10, Try.ntmps10
  go_wp2_with fail
  refine (HT.out _).mono ?_
  rintro e w1 ⟨g, hg, rfl, hr, hb⟩
  have hgl : w.heap.size ≠ g := by simp at hg; omega
  have HR := Lib.hid hr
  have B1 := Lib.hid (B0.out.go hb)
  have HB1 := Lib.hid (A0.out.trans (hb.mono A0.out.size))
  clear hr hb
  have fz := B1.out.frozen
  have bc := B1.out.cell
  have lb := B1.out.lt
  go_wp2_with fail
  clear fz bc lb
  have BF := Lib.hid (((((((((((((B1.out.set_ 0 (.string ⟨#[65]⟩)).set_ 1 (.int .i64 0)).set_ 2 (.int .i64 20)).set_ 3 (.int .i64 20)).set_ 4 (.int .i64 20)).set_ 5 (.int .i64 1)).set_ 6 (.int .i64 1)).set_ 7 (.int .i64 9)).set_ 8 (.string ⟨#[65]⟩)).set_ 9 (.slice (some ⟨g, 0, none⟩) 2 2)).set_ 10 (.bool false)).set_ 11 (.int .i64 5)).set_ 12 (.int .i64 0))
  have HBF := Lib.hid (((((((((((((HB1.out.setCell (p := ⟨w.heap.size, 0, none⟩) (Nat.le_refl _) (.string ⟨#[65]⟩)).setCell (p := ⟨w.heap.size, 1, none⟩) (Nat.le_refl _) (.int .i64 0)).setCell (p := ⟨w.heap.size, 2, none⟩) (Nat.le_refl _) (.int .i64 20)).setCell (p := ⟨w.heap.size, 3, none⟩) (Nat.le_refl _) (.int .i64 20)).setCell (p := ⟨w.heap.size, 4, none⟩) (Nat.le_refl _) (.int .i64 20)).setCell (p := ⟨w.heap.size, 5, none⟩) (Nat.le_refl _) (.int .i64 1)).setCell (p := ⟨w.heap.size, 6, none⟩) (Nat.le_refl _) (.int .i64 1)).setCell (p := ⟨w.heap.size, 7, none⟩) (Nat.le_refl _) (.int .i64 9)).setCell (p := ⟨w.heap.size, 8, none⟩) (Nat.le_refl _) (.string ⟨#[65]⟩)).setCell (p := ⟨w.heap.size, 9, none⟩) (Nat.le_refl _) (.slice (some ⟨g, 0, none⟩) 2 2)).setCell (p := ⟨w.heap.size, 10, none⟩) (Nat.le_refl _) (.bool false)).setCell (p := ⟨w.heap.size, 11, none⟩) (Nat.le_refl _) (.int .i64 5)).setCell (p := ⟨w.heap.size, 12, none⟩) (Nat.le_refl _) (.int .i64 0))
  have HRF := Lib.hid ((Reads.far (Reads.far (Reads.far (Reads.far (Reads.far (Reads.far (Reads.far (Reads.far (Reads.far (Reads.far (Reads.far (Reads.far (Reads.far HR.out (p := ⟨w.heap.size, 0, none⟩) hgl (.string ⟨#[65]⟩)) (p := ⟨w.heap.size, 1, none⟩) hgl (.int .i64 0)) (p := ⟨w.heap.size, 2, none⟩) hgl (.int .i64 20)) (p := ⟨w.heap.size, 3, none⟩) hgl (.int .i64 20)) (p := ⟨w.heap.size, 4, none⟩) hgl (.int .i64 20)) (p := ⟨w.heap.size, 5, none⟩) hgl (.int .i64 1)) (p := ⟨w.heap.size, 6, none⟩) hgl (.int .i64 1)) (p := ⟨w.heap.size, 7, none⟩) hgl (.int .i64 9)) (p := ⟨w.heap.size, 8, none⟩) hgl (.string ⟨#[65]⟩)) (p := ⟨w.heap.size, 9, none⟩) hgl (.slice (some ⟨g, 0, none⟩) 2 2)) (p := ⟨w.heap.size, 10, none⟩) hgl (.bool false)) (p := ⟨w.heap.size, 11, none⟩) hgl (.int .i64 5)) (p := ⟨w.heap.size, 12, none⟩) hgl (.int .i64 0)).more (B' := ((((((((((((((w1.setCell ⟨w.heap.size, 0, none⟩ (.string ⟨#[65]⟩)).setCell ⟨w.heap.size, 1, none⟩ (.int .i64 0)).setCell ⟨w.heap.size, 2, none⟩ (.int .i64 20)).setCell ⟨w.heap.size, 3, none⟩ (.int .i64 20)).setCell ⟨w.heap.size, 4, none⟩ (.int .i64 20)).setCell ⟨w.heap.size, 5, none⟩ (.int .i64 1)).setCell ⟨w.heap.size, 6, none⟩ (.int .i64 1)).setCell ⟨w.heap.size, 7, none⟩ (.int .i64 9)).setCell ⟨w.heap.size, 8, none⟩ (.string ⟨#[65]⟩)).setCell ⟨w.heap.size, 9, none⟩ (.slice (some ⟨g, 0, none⟩) 2 2)).setCell ⟨w.heap.size, 10, none⟩ (.bool false)).setCell ⟨w.heap.size, 11, none⟩ (.int .i64 5)).setCell ⟨w.heap.size, 12, none⟩ (.int .i64 0))).heap.size) (by simp))
  generalize (((((((((((((w1.setCell ⟨w.heap.size, 0, none⟩ (.string ⟨#[65]⟩)).setCell ⟨w.heap.size, 1, none⟩ (.int .i64 0)).setCell ⟨w.heap.size, 2, none⟩ (.int .i64 20)).setCell ⟨w.heap.size, 3, none⟩ (.int .i64 20)).setCell ⟨w.heap.size, 4, none⟩ (.int .i64 20)).setCell ⟨w.heap.size, 5, none⟩ (.int .i64 1)).setCell ⟨w.heap.size, 6, none⟩ (.int .i64 1)).setCell ⟨w.heap.size, 7, none⟩ (.int .i64 9)).setCell ⟨w.heap.size, 8, none⟩ (.string ⟨#[65]⟩)).setCell ⟨w.heap.size, 9, none⟩ (.slice (some ⟨g, 0, none⟩) 2 2)).setCell ⟨w.heap.size, 10, none⟩ (.bool false)).setCell ⟨w.heap.size, 11, none⟩ (.int .i64 5)).setCell ⟨w.heap.size, 12, none⟩ (.int .i64 0)) = w2 at *
  have bc := BF.out.cell
  refine bodyPost_ret (v := vUn (aloneU (some ⟨g, 0, none⟩))) (by simp [results, Try.results10, go_sem, vUn, aloneU, bc]) rfl ⟨_, rfl, ⟨?_, ?_, Nat.le_refl _, ?_⟩, HBF.out⟩
  · show (1 : Nat) ≤ _; decide
  · show (1 : Nat) ≤ _; decide
  · exact HRF.out
end Go.Proofs.Ytchafkocobbndaa
