/- RightsPaid: whatever the arguments are, the call returns true, and all read afterwards as they read before; the listed variables are the program's own (the tied card). No condition. -/
import Derived.Test.YtoblpcljhblnmaaGreatDoorLawLaidV
import Derived.Test.YtoblpcljhblnmaaGreatDoorLawNetV
import Derived.Test.YtoblpcljhblnmaaGreatDoorLawRightsPaid
import Derived.Test.YtoblpcljhblnmaaGreatDoorCards
import Derived.Test.YtoblpcljhblnmaaGreatDoorTie
import Derived.SevenTiedAt
import Derived.ChangeMaps5
namespace Go.Proofs.YtoblpcljhblnmaaGreatDoor
open Go.ChangeShapes Go.WideShapes Go.ChangeAt Go.RowKit
set_option maxRecDepth 100000 in
theorem rightsPaid_lifted (os : Os) (started : os.Started) (H : Type) (enc : TypeId × Value → H) :
    ReturnsInHanded {} Tryz.checked os 3 .any (fun w args => (Rows.rightsPaidSpec.pre enc Tryz.prog Tryz.f3 Rows.rightsPaidRow.domain false w args ∧ laidMetH Tryz.prog Rows.rightsPaidRow.laid w) ∧ sizedMet enc Tryz.prog Tryz.f3 (OpenSpec.ofChange Rows.rightsPaidSpec) false w args) (Rows.rightsPaidSpec.post enc Tryz.prog Tryz.f3 false true false false) := by
  refine handed_laid (C := Tryz.checked) (X := fun w _ => laidMetH Tryz.prog Rows.rightsPaidRow.laid w) (fun _ _ _ hh h => h.of_heap hh) Tryz.own started (by kernel_rfl) Tryz.func3
    (ChangeSpec.witness_shaped (enc := enc) (C := Tryz.checked) (os := os) (X := fun w _ => laidMetH Tryz.prog Rows.rightsPaidRow.laid w) false (World.laidAll Tryz.prog os Rows.rightsPaidRow.laid) #[.agg #[.slice none 0 0, .slice none 0 0, .slice none 0 0, .slice none 0 0, .slice none 0 0, .slice none 0 0], .agg #[.string ⟨#[]⟩, .string ⟨#[]⟩, .int .i64 0], .slice none 0 0, .int .i64 0] 8 (World.laidAll_os _ _ _)
      (World.shaped_of_ZipB (by kernel_rfl) (by kernel_rfl)) (by kernel_rfl) (by kernel_rfl) (by kernel_rfl)
      (by rw [MakeChecks.laidMetH_plain _ _ _ (by kernel_rfl)]; exact laidMet_laidAll _ (by kernel_rfl) (by kernel_rfl))) ?_
  intro W base args ds gs before hval0 hW hsz0 hL hS
  have hval : ∀ (j : Nat) t v, Tryz.f3.params[j]? = some t → args[j]? = some v → Value.okWide Tryz.prog W .any base t v := hval0
  have hW' := hW
  obtain ⟨p, q, hA0, hV, rfl, _, _⟩ := hW
  have hA : DataW.TrodAll enc Tryz.prog W 0 (fun _ => true) true Tryz.f3.params.toList args.toList ds p := hA0
  rw [Tryz.params3] at hA hval
  obtain ⟨v0, v1, v2, v3, d0, d1, d2, d3, p0, p1, p2, p3, rfl, rfl, rfl, h0, h1, h2, h3⟩ := trodAll_four hA
  obtain ⟨rfl, rfl⟩ := trodVars_none hV
  obtain ⟨M0, rfl, r0⟩ := open_net (hval 0 29 v0 rfl rfl) h0
  obtain ⟨x1, rfl, _⟩ := open_item (hval 1 31 v1 rfl rfl) h1
  obtain ⟨A2, n2, c2, l2, rfl, q2, m2, r2, z2⟩ := open_rats_arg Tryz.underlying33 Tryz.underlying41 (hval 2 33 v2 rfl rfl) h2 (by kernel_rfl)
  obtain ⟨z3, rfl, _⟩ := open_int_arg Tryz.underlying3 (hval 3 3 v3 rfl rfl) h3
  refine (rightsPaid_any M0 x1 A2 n2 c2 l2 z3 W r0 (by unfold maxLen at m2; omega) r2 z2 (lv_of_laid hL)).mono fun e W' ⟨he, hw⟩ => ?_
  refine ⟨_, he, law_post Tryz.laidOut ?_ rfl Tryz.underlying4 rfl rfl hW' hw⟩
  rw [Tryz.params3]
  intro t ht
  simp at ht
  rcases ht with rfl | rfl | rfl | rfl
  · exact ⟨by kernel_rfl, of_decide_eq_true (by kernel_rfl)⟩
  · exact ⟨by kernel_rfl, of_decide_eq_true (by kernel_rfl)⟩
  · exact ⟨by kernel_rfl, of_decide_eq_true (by kernel_rfl)⟩
  · exact ⟨by kernel_rfl, of_decide_eq_true (by kernel_rfl)⟩
theorem rightsPaid_holds : Rows.RightsPaidSaid :=
  OpenClaim.holds_of_wide 3 Tryz.f3 rfl rfl rfl rfl rfl rfl rfl ⟨rfl, rfl, rfl, rfl, rfl⟩ rfl rfl rfl rfl rfl (by kernel_rfl) Tryz.func3 (by kernel_rfl)
    (of_decide_eq_true (by kernel_rfl)) (by unfold Func.isWrapper; rw [if_neg (of_decide_eq_false (by kernel_rfl))]; exact ⟨rfl, rfl⟩)
    (fun os started H enc _ => rightsPaid_lifted os started H enc)
theorem rightsPaid_card : Rows.RightsPaidCardSaid :=
  Claim7.holds_tied_plain_at .later [] [.data, .data, .data, .sentinel, .sentinel] true (true, "170be9cc8a7b01701e90be02b99214cf1144c4293e8667803956234172545691") true
    rightsPaid_holds (fun _ h => by cases h) (by kernel_rfl) (fun _ h => by cases h) rightsPaid_row_tie rfl ⟨rfl, rfl⟩ (by kernel_rfl) rfl
    (fun f fn hf hfn => by
      obtain rfl : f = 3 := Option.some.inj ((show Tryz.prog.funcNamed "gridhall/gridhallkeep3.RightsPaid" = some 3 by kernel_rfl).symm.trans hf) |>.symm
      obtain rfl : fn = Tryz.f3 := (Option.some.inj (Tryz.func3.symm.trans hfn)).symm
      exact ⟨by kernel_rfl, fun j t ht => by
        rw [Tryz.params3] at ht
        have hm := Array.mem_of_getElem? ht
        have hall : ([29, 31, 33, 3].all fun u => !Tryz.prog.wantsStandIn u) = true := by kernel_rfl
        have hm2 : t ∈ [29, 31, 33, 3] := by simpa using hm
        exact (show Tryz.prog.wantsStandIn t = false by simpa using List.all_eq_true.1 hall t hm2)⟩)
    (by kernel_rfl)
end Go.Proofs.YtoblpcljhblnmaaGreatDoor
