/- ConvexRing: whatever the arguments are, the call returns true, and all read afterwards as they read before. No condition. -/
import Derived.Test.YtjdagpmfnmodbaaLawConvex
import Derived.Test.YtjdagpmfnmodbaaLawConvexRing
import Derived.Test.YtjdagpmfnmodbaaSortP
namespace Go.Proofs.Ytjdagpmfnmodbaa
open Go.ChangeShapes Go.WideShapes Go.ChangeAt Go.RowKit
set_option maxRecDepth 100000 in
theorem convexRing_lifted (os : Os) (started : os.Started) (H : Type) (enc : TypeId × Value → H) :
    ReturnsInHanded {} Try.checked os 9 .any (Rows.convexRingSpec.pre6 enc Try.prog Try.f9 Rows.convexRingRow.domain false) (Rows.convexRingSpec.post enc Try.prog Try.f9 false true false false) := by
  refine returnsInHanded_of_change (C := Try.checked) Try.own started (by kernel_rfl) Try.func9
    (ChangeSpec.witness6 (enc := enc) (C := Try.checked) false ⟨#[], #[.agg #[.int .i64 0, .int .i64 0, .slice none 0 0], .agg #[.int .i64 0, .int .i64 0, .slice none 0 0], .agg #[.int .i64 0, .int .i64 0, .slice none 0 0]], []⟩ 8 (by kernel_rfl) (by kernel_rfl) (by kernel_rfl) (by kernel_rfl)) ?_
  intro W base args ds gs before hval0 hW _ _
  have hval : ∀ (j : Nat) t v, Try.f9.params[j]? = some t → args[j]? = some v → Value.okWide Try.prog W .any base t v := hval0
  have hW' := hW
  obtain ⟨p, q, hA0, hV, rfl, _, _⟩ := hW
  have hA : DataW.TrodAll enc Try.prog W 0 (fun _ => true) true Try.f9.params.toList args.toList ds p := hA0
  rw [Try.params9] at hA hval
  obtain ⟨v0, v1, v2, d0, d1, d2, p0, p1, p2, rfl, rfl, rfl, h0, h1, h2⟩ := trodAll_three hA
  obtain ⟨rfl, rfl⟩ := trodVars_none hV
  obtain ⟨l0, u0, A0, n0, c0, s0, rfl, r0⟩ := open_convex (hval 0 30 v0 rfl rfl) h0
  obtain ⟨l1, u1, A1, n1, c1, s1, rfl, r1⟩ := open_convex (hval 1 30 v1 rfl rfl) h1
  obtain ⟨l2, u2, A2, n2, c2, s2, rfl, r2⟩ := open_convex (hval 2 30 v2 rfl rfl) h2
  refine (convexRing_walk sortP_ok l0 u0 A0 n0 c0 s0 l1 u1 A1 n1 c1 s1 l2 u2 A2 n2 c2 s2 W r0 r1 r2).mono fun e W' ⟨he, hw⟩ => ?_
  refine ⟨_, he, law_post Try.laidOut ?_ rfl Try.underlying4 rfl rfl hW' hw⟩
  rw [Try.params9]
  intro t ht
  simp at ht
  subst ht
  exact ⟨by kernel_rfl, of_decide_eq_true (by kernel_rfl)⟩
theorem convexRing_holds : Rows.ConvexRingSaid :=
  OpenClaim.holds_of_wide 9 Try.f9 rfl rfl rfl rfl rfl rfl rfl ⟨rfl, rfl, rfl, rfl, rfl⟩ rfl rfl rfl rfl rfl (by kernel_rfl) Try.func9 (by kernel_rfl)
    (of_decide_eq_true (by kernel_rfl)) (by unfold Func.isWrapper; rw [if_neg (of_decide_eq_false (by kernel_rfl))]; exact ⟨rfl, rfl⟩)
    (fun os started H enc _ => convexRing_lifted os started H enc)
end Go.Proofs.Ytjdagpmfnmodbaa
