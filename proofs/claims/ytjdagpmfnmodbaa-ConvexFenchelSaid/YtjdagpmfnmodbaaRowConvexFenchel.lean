/- ConvexFenchel: whatever the arguments are, the call returns true, and all read afterwards as they read before. No condition. -/
import Derived.Test.YtjdagpmfnmodbaaLawConvex
import Derived.Test.YtjdagpmfnmodbaaLawConvexFenchel
import Derived.Test.YtjdagpmfnmodbaaSortP
namespace Go.Proofs.Ytjdagpmfnmodbaa
open Go.ChangeShapes Go.WideShapes Go.ChangeAt Go.RowKit
set_option maxRecDepth 100000 in
theorem convexFenchel_lifted (os : Os) (started : os.Started) (H : Type) (enc : TypeId × Value → H) :
    ReturnsInHanded {} Try.checked os 8 .any (Rows.convexFenchelSpec.pre6 enc Try.prog Try.f8 Rows.convexFenchelRow.domain false) (Rows.convexFenchelSpec.post enc Try.prog Try.f8 false true false false) := by
  refine returnsInHanded_of_change (C := Try.checked) Try.own started (by kernel_rfl) Try.func8
    (ChangeSpec.witness6 (enc := enc) (C := Try.checked) false ⟨#[], #[.agg #[.int .i64 0, .int .i64 0, .slice none 0 0], .agg #[.int .i64 0, .int .i64 0, .slice none 0 0], .int .i64 0, .int .i64 0], []⟩ 8 (by kernel_rfl) (by kernel_rfl) (by kernel_rfl) (by kernel_rfl)) ?_
  intro W base args ds gs before hval0 hW _ _
  have hval : ∀ (j : Nat) t v, Try.f8.params[j]? = some t → args[j]? = some v → Value.okWide Try.prog W .any base t v := hval0
  have hW' := hW
  obtain ⟨p, q, hA0, hV, rfl, _, _⟩ := hW
  have hA : DataW.TrodAll enc Try.prog W 0 (fun _ => true) true Try.f8.params.toList args.toList ds p := hA0
  rw [Try.params8] at hA hval
  obtain ⟨v0, v1, v2, v3, d0, d1, d2, d3, p0, p1, p2, p3, rfl, rfl, rfl, h0, h1, h2, h3⟩ := trodAll_four hA
  obtain ⟨rfl, rfl⟩ := trodVars_none hV
  obtain ⟨l0, u0, A0, n0, c0, s0, rfl, r0⟩ := open_convex (hval 0 30 v0 rfl rfl) h0
  obtain ⟨l1, u1, A1, n1, c1, s1, rfl, r1⟩ := open_convex (hval 1 30 v1 rfl rfl) h1
  obtain ⟨z2, rfl, b2⟩ := open_int_arg Try.underlying3 (hval 2 3 v2 rfl rfl) h2
  obtain ⟨z3, rfl, b3⟩ := open_int_arg Try.underlying3 (hval 3 3 v3 rfl rfl) h3
  refine (convexFenchel_walk sortP_ok l0 u0 l1 u1 A0 A1 n0 n1 c0 c1 s0 s1 z2 z3 W r0 r1).mono fun e W' ⟨he, hw⟩ => ?_
  refine ⟨_, he, law_post Try.laidOut ?_ rfl Try.underlying4 rfl rfl hW' hw⟩
  rw [Try.params8]
  intro t ht
  simp at ht
  rcases ht with rfl | rfl
  · exact ⟨by kernel_rfl, of_decide_eq_true (by kernel_rfl)⟩
  · exact ⟨by kernel_rfl, of_decide_eq_true (by kernel_rfl)⟩
theorem convexFenchel_holds : Rows.ConvexFenchelSaid :=
  OpenClaim.holds_of_wide 8 Try.f8 rfl rfl rfl rfl rfl rfl rfl ⟨rfl, rfl, rfl, rfl, rfl⟩ rfl rfl rfl rfl rfl (by kernel_rfl) Try.func8 (by kernel_rfl)
    (of_decide_eq_true (by kernel_rfl)) (by unfold Func.isWrapper; rw [if_neg (of_decide_eq_false (by kernel_rfl))]; exact ⟨rfl, rfl⟩)
    (fun os started H enc _ => convexFenchel_lifted os started H enc)
end Go.Proofs.Ytjdagpmfnmodbaa
