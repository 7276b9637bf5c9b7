/- UnitParts: whatever the arguments are, the call returns true, and all read afterwards as they read before. No condition. -/
import Derived.Test.YthodaikggpbiiaaLawUnit
import Derived.Test.YthodaikggpbiiaaLawUnitParts
namespace Go.Proofs.Ythodaikggpbiiaa
open Go.ChangeShapes Go.WideShapes Go.ChangeAt Go.RowKit
set_option maxRecDepth 100000 in
theorem unitParts_lifted (os : Os) (started : os.Started) (H : Type) (enc : TypeId × Value → H) :
    ReturnsInHanded {} Try.checked os 10 .any (Rows.unitPartsSpec.pre6 enc Try.prog Try.f10 Rows.unitPartsRow.domain false) (Rows.unitPartsSpec.post enc Try.prog Try.f10 false true false false) := by
  refine returnsInHanded_of_change (C := Try.checked) Try.own started (by kernel_rfl) Try.func10
    (ChangeSpec.witness6 (enc := enc) (C := Try.checked) false ⟨#[], #[.agg #[.string ⟨#[]⟩, .int .i64 0, .int .i64 0, .int .i64 0, .int .i64 0, .int .i64 0, .int .i64 0, .int .i64 0], .agg #[.bool false, .int .i64 0, .int .i64 0], .slice none 0 0, .int .i64 0], []⟩ 8 (by kernel_rfl) (by kernel_rfl) (by kernel_rfl) (by kernel_rfl)) ?_
  intro W base args ds gs before hval0 hW _ _
  have hval : ∀ (j : Nat) t v, Try.f10.params[j]? = some t → args[j]? = some v → Value.okWide Try.prog W .any base t v := hval0
  have hW' := hW
  obtain ⟨p, q, hA0, hV, rfl, _, _⟩ := hW
  have hA : DataW.TrodAll enc Try.prog W 0 (fun _ => true) true Try.f10.params.toList args.toList ds p := hA0
  rw [Try.params10] at hA hval
  obtain ⟨v0, v1, v2, v3, d0, d1, d2, d3, p0, p1, p2, p3, rfl, rfl, rfl, h0, h1, h2, h3⟩ := trodAll_four hA
  obtain ⟨rfl, rfl⟩ := trodVars_none hV
  obtain ⟨R0, rfl, b0⟩ := open_rule (hval 0 43 v0 rfl rfl) h0
  obtain ⟨S1, rfl⟩ := open_state (hval 1 45 v1 rfl rfl) h1
  obtain ⟨A2, n2, c2, z2, rfl, q2, m2, r2, b2⟩ := open_ints_arg Try.underlying22 Try.underlying3 (by kernel_rfl) (hval 2 22 v2 rfl rfl) h2
  obtain ⟨z3, rfl, b3⟩ := open_int_arg Try.underlying3 (hval 3 3 v3 rfl rfl) h3
  refine (unitParts_walk R0 S1 A2 n2 c2 z2 z3 W b0 r2 q2).mono fun e W' ⟨he, hw⟩ => ?_
  refine ⟨_, he, law_post Try.laidOut ?_ rfl Try.underlying4 rfl rfl hW' hw⟩
  rw [Try.params10]
  intro t ht
  simp at ht
  rcases ht with rfl | rfl | rfl | rfl
  · exact ⟨by kernel_rfl, of_decide_eq_true (by kernel_rfl)⟩
  · exact ⟨by kernel_rfl, of_decide_eq_true (by kernel_rfl)⟩
  · exact ⟨by kernel_rfl, of_decide_eq_true (by kernel_rfl)⟩
  · exact ⟨by kernel_rfl, of_decide_eq_true (by kernel_rfl)⟩
theorem unitParts_holds : Rows.UnitPartsSaid :=
  OpenClaim.holds_of_wide 10 Try.f10 rfl rfl rfl rfl rfl rfl rfl ⟨rfl, rfl, rfl, rfl, rfl⟩ rfl rfl rfl rfl rfl (by kernel_rfl) Try.func10 (by kernel_rfl)
    (of_decide_eq_true (by kernel_rfl)) (by unfold Func.isWrapper; rw [if_neg (of_decide_eq_false (by kernel_rfl))]; exact ⟨rfl, rfl⟩)
    (fun os started H enc _ => unitParts_lifted os started H enc)
end Go.Proofs.Ythodaikggpbiiaa
