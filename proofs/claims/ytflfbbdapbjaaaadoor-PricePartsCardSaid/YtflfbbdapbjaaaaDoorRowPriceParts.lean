/- PriceParts: whatever the arguments are, the call returns true, and all read afterwards as they read before; the listed variables are the program's own (the tied card). No condition. -/
import Derived.Test.YtflfbbdapbjaaaaDoorLawLaidV
import Derived.Test.YtflfbbdapbjaaaaDoorLawPriceParts
import Derived.Test.YtflfbbdapbjaaaaDoorCards
import Derived.Test.YtflfbbdapbjaaaaDoorTie
import Derived.SevenTiedAt
import Derived.ChangeMaps5
namespace Go.Proofs.YtflfbbdapbjaaaaDoor
open Go.ChangeShapes Go.WideShapes Go.ChangeAt Go.RowKit
set_option maxRecDepth 100000 in
theorem priceParts_lifted (os : Os) (started : os.Started) (H : Type) (enc : TypeId × Value → H) :
    ReturnsInHanded {} Tryd.checked os 3 .any (fun w args => (Rows.pricePartsSpec.pre enc Tryd.prog Tryd.f3 Rows.pricePartsRow.domain false w args ∧ laidMetH Tryd.prog Rows.pricePartsRow.laid w) ∧ sizedMet enc Tryd.prog Tryd.f3 (OpenSpec.ofChange Rows.pricePartsSpec) false w args) (Rows.pricePartsSpec.post enc Tryd.prog Tryd.f3 false true false false) := by
  refine handed_laid (C := Tryd.checked) (X := fun w _ => laidMetH Tryd.prog Rows.pricePartsRow.laid w) (fun _ _ _ hh h => h.of_heap hh) Tryd.own started (by kernel_rfl) Tryd.func3
    (ChangeSpec.witness_shaped (enc := enc) (C := Tryd.checked) (os := os) (X := fun w _ => laidMetH Tryd.prog Rows.pricePartsRow.laid w) false (World.laidAll Tryd.prog os Rows.pricePartsRow.laid) #[.slice none 0 0] 8 (World.laidAll_os _ _ _)
      (World.shaped_of_ZipB (by kernel_rfl) (by kernel_rfl)) (by kernel_rfl) (by kernel_rfl) (by kernel_rfl)
      (by rw [MakeChecks.laidMetH_plain _ _ _ (by kernel_rfl)]; exact laidMet_laidAll _ (by kernel_rfl) (by kernel_rfl))) ?_
  intro W base args ds gs before hval0 hW hsz0 hL hS
  have hval : ∀ (j : Nat) t v, Tryd.f3.params[j]? = some t → args[j]? = some v → Value.okWide Tryd.prog W .any base t v := hval0
  have hW' := hW
  obtain ⟨p, q, hA0, hV, rfl, _, _⟩ := hW
  have hA : DataW.TrodAll enc Tryd.prog W 0 (fun _ => true) true Tryd.f3.params.toList args.toList ds p := hA0
  rw [Tryd.params3] at hA hval
  obtain ⟨v0, d0, rfl, rfl, h0⟩ := trodAll_one hA
  obtain ⟨rfl, rfl⟩ := trodVars_none hV
  obtain ⟨A0, n0, c0, l0, rfl, q0, m0, r0, z0⟩ := open_rats_arg Tryd.underlying23 Tryd.underlying28 (hval 0 23 v0 rfl rfl) h0 (by kernel_rfl)
  refine (priceParts_any A0 n0 c0 l0 W (by unfold maxLen at m0; omega) r0 z0 (lv_of_laid hL)).mono fun e W' ⟨he, hw⟩ => ?_
  refine ⟨_, he, law_post Tryd.laidOut ?_ rfl Tryd.underlying4 rfl rfl hW' hw⟩
  rw [Tryd.params3]
  intro t ht
  simp at ht
  rcases ht with rfl
  · exact ⟨by kernel_rfl, of_decide_eq_true (by kernel_rfl)⟩
theorem priceParts_holds : Rows.PricePartsSaid :=
  OpenClaim.holds_of_wide 3 Tryd.f3 rfl rfl rfl rfl rfl rfl rfl ⟨rfl, rfl, rfl, rfl, rfl⟩ rfl rfl rfl rfl rfl (by kernel_rfl) Tryd.func3 (by kernel_rfl)
    (of_decide_eq_true (by kernel_rfl)) (by unfold Func.isWrapper; rw [if_neg (of_decide_eq_false (by kernel_rfl))]; exact ⟨rfl, rfl⟩)
    (fun os started H enc _ => priceParts_lifted os started H enc)
theorem priceParts_card : Rows.PricePartsCardSaid :=
  Claim7.holds_tied_plain_at .later [] [.data, .data, .data, .sentinel, .sentinel] true (true, "73a06e69f20e3615896a43d12e1e93edf12fba14b38a51ae2c437cc54c122729") true
    priceParts_holds (fun _ h => by cases h) (by kernel_rfl) (fun _ h => by cases h) priceParts_row_tie rfl ⟨rfl, rfl⟩ (by kernel_rfl) rfl
    (fun f fn hf hfn => by
      obtain rfl : f = 3 := Option.some.inj ((show Tryd.prog.funcNamed "gridhall/gridhallkeep3.PriceParts" = some 3 by kernel_rfl).symm.trans hf) |>.symm
      obtain rfl : fn = Tryd.f3 := (Option.some.inj (Tryd.func3.symm.trans hfn)).symm
      exact ⟨by kernel_rfl, fun j t ht => by
        rw [Tryd.params3] at ht
        have hm := Array.mem_of_getElem? ht
        have hall : ([23].all fun u => !Tryd.prog.wantsStandIn u) = true := by kernel_rfl
        have hm2 : t ∈ [23] := by simpa using hm
        exact (show Tryd.prog.wantsStandIn t = false by simpa using List.all_eq_true.1 hall t hm2)⟩)
    (by kernel_rfl)
end Go.Proofs.YtflfbbdapbjaaaaDoor
