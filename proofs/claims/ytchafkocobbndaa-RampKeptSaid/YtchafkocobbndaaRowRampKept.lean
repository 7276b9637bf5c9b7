/- RampKept: whatever the arguments are, the call returns true, and all read afterwards as they read before. No condition. -/
import Derived.Test.YtchafkocobbndaaLawRampKept
import Derived.Test.YtchafkocobbndaaLawRow
import Derived.Test.YtchafkocobbndaaSortP
namespace Go.Proofs.Ytchafkocobbndaa
open Go.ChangeShapes Go.WideShapes Go.ChangeAt Go.RowKit
set_option maxRecDepth 100000 in
theorem rampKept_lifted (os : Os) (started : os.Started) (H : Type) (enc : TypeId × Value → H) :
    ReturnsInHanded {} Try.checked os 7 .any (Rows.rampKeptSpec.pre6 enc Try.prog Try.f7 Rows.rampKeptRow.domain false) (Rows.rampKeptSpec.post enc Try.prog Try.f7 false true false false) := by
  refine returnsInHanded_of_change (C := Try.checked) Try.own started (by kernel_rfl) Try.func7
    (ChangeSpec.witness6 (enc := enc) (C := Try.checked) false ⟨#[], #[.slice none 0 0, .int .i64 0, .int .i64 0, .int .i64 0, .slice none 0 0, .slice none 0 0], []⟩ 8 (by kernel_rfl) (by kernel_rfl) (by kernel_rfl) (by kernel_rfl)) ?_
  intro W base args ds gs before hval0 hW _ _
  have hval : ∀ (j : Nat) t v, Try.f7.params[j]? = some t → args[j]? = some v → Value.okWide Try.prog W .any base t v := hval0
  have hW' := hW
  obtain ⟨p, q, hA0, hV, rfl, _, _⟩ := hW
  have hA : DataW.TrodAll enc Try.prog W 0 (fun _ => true) true Try.f7.params.toList args.toList ds p := hA0
  rw [Try.params7] at hA hval
  obtain ⟨v0, v1, v2, v3, v4, v5, d0, d1, d2, d3, d4, d5, p0, p1, p2, p3, p4, p5, rfl, rfl, rfl, h0, h1, h2, h3, h4, h5⟩ := trodAll_six hA
  obtain ⟨rfl, rfl⟩ := trodVars_none hV
  obtain ⟨A0, n0, c0, l0, rfl, q0, m0, r0⟩ := open_pairs_arg Try.underlying52 Try.underlying56 (by kernel_rfl) (by kernel_rfl) Try.underlying3 Try.underlying3 (hval 0 52 v0 rfl rfl) h0
  obtain ⟨z1, rfl, b1⟩ := open_int_arg Try.underlying3 (hval 1 3 v1 rfl rfl) h1
  obtain ⟨z2, rfl, b2⟩ := open_int_arg Try.underlying3 (hval 2 3 v2 rfl rfl) h2
  obtain ⟨z3, rfl, b3⟩ := open_int_arg Try.underlying3 (hval 3 3 v3 rfl rfl) h3
  obtain ⟨A4, n4, c4, z4, rfl, q4, m4, r4, b4⟩ := open_ints_arg Try.underlying23 Try.underlying3 (by kernel_rfl) (hval 4 23 v4 rfl rfl) h4
  obtain ⟨A5, n5, c5, z5, rfl, q5, m5, r5, b5⟩ := open_ints_arg Try.underlying23 Try.underlying3 (by kernel_rfl) (hval 5 23 v5 rfl rfl) h5
  refine (rampKept_walk sortP_ok A0 n0 c0 l0 z1 z2 z3 A4 n4 c4 z4 A5 n5 c5 z5 W r0 r4 r5).mono fun e W' ⟨he, hw⟩ => ?_
  refine ⟨_, he, law_post Try.laidOut ?_ rfl Try.underlying4 rfl rfl hW' hw⟩
  rw [Try.params7]
  intro t ht
  simp at ht
  rcases ht with rfl | rfl | rfl
  · exact ⟨by kernel_rfl, of_decide_eq_true (by kernel_rfl)⟩
  · exact ⟨by kernel_rfl, of_decide_eq_true (by kernel_rfl)⟩
  · exact ⟨by kernel_rfl, of_decide_eq_true (by kernel_rfl)⟩
theorem rampKept_holds : Rows.RampKeptSaid :=
  OpenClaim.holds_of_wide 7 Try.f7 rfl rfl rfl rfl rfl rfl rfl ⟨rfl, rfl, rfl, rfl, rfl⟩ rfl rfl rfl rfl rfl (by kernel_rfl) Try.func7 (by kernel_rfl)
    (of_decide_eq_true (by kernel_rfl)) (by unfold Func.isWrapper; rw [if_neg (of_decide_eq_false (by kernel_rfl))]; exact ⟨rfl, rfl⟩)
    (fun os started H enc _ => rampKept_lifted os started H enc)
end Go.Proofs.Ytchafkocobbndaa
