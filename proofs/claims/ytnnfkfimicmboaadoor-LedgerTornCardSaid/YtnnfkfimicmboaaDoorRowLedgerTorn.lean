/- LedgerTorn: whatever the arguments are, the call returns true, and all read afterwards as they read before; the listed variables are the program's own (the tied card). No condition. -/
import Derived.Test.YtnnfkfimicmboaaDoorRowLed
import Derived.Test.YtnnfkfimicmboaaDoorLawLedgerTorn
import Derived.Test.YtnnfkfimicmboaaDoorCards
import Derived.Test.YtnnfkfimicmboaaDoorTie
import Derived.SevenTiedAt
import Derived.ChangeMaps5
namespace Go.Proofs.YtnnfkfimicmboaaDoor
open Go.ChangeShapes Go.WideShapes Go.ChangeAt Go.RowKit
section
variable {H : Type} {enc : TypeId × Value → H} {P : Program} {W : World} {base : Nat} {sp : Nat → Bool} {held : Bool}
theorem open_byte_arg {r : Reach} {b0 : Nat} {t : TypeId} (ht : P.underlying t = some (.int .u8)) {v : Value} {d : DataW H} {p : List MemPlace}
    (hv : Value.okWide P W r b0 t v) (h : DataW.Trod enc P W base sp held t v d p) : ∃ z : Int, v = .int .u8 z ∧ 0 ≤ z ∧ z ≤ 255 := by
  obtain ⟨z, rfl, _, _, hw⟩ := open_int ht hv h
  have hw2 : (Lit.int .u8 z).wf = true := hw
  simp [Lit.wf, IntKind.min, IntKind.max, IntKind.signed, IntKind.bits] at hw2
  exact ⟨z, rfl, by omega, by omega⟩
end
set_option maxRecDepth 100000 in
theorem ledgerTorn_lifted (os : Os) (started : os.Started) (H : Type) (enc : TypeId × Value → H) :
    ReturnsInHanded {} Tryd.checked os 4 .any (fun w args => (Rows.ledgerTornSpec.pre enc Tryd.prog Tryd.f4 Rows.ledgerTornRow.domain false w args ∧ laidMetH Tryd.prog Rows.ledgerTornRow.laid w) ∧ sizedMet enc Tryd.prog Tryd.f4 (OpenSpec.ofChange Rows.ledgerTornSpec) false w args) (Rows.ledgerTornSpec.post enc Tryd.prog Tryd.f4 false true false false) := by
  refine handed_laid (C := Tryd.checked) (X := fun w _ => laidMetH Tryd.prog Rows.ledgerTornRow.laid w) (fun _ _ _ hh h => h.of_heap hh) Tryd.own started (by kernel_rfl) Tryd.func4
    (ChangeSpec.witness_shaped (enc := enc) (C := Tryd.checked) (os := os) (X := fun w _ => laidMetH Tryd.prog Rows.ledgerTornRow.laid w) false (World.laidAll Tryd.prog os Rows.ledgerTornRow.laid) #[.slice none 0 0, .int .i64 0, .int .i64 0, .int .u8 0] 8 (World.laidAll_os _ _ _)
      (World.shaped_of_ZipB (by kernel_rfl) (by kernel_rfl)) (by kernel_rfl) (by kernel_rfl) (by kernel_rfl)
      (by rw [MakeChecks.laidMetH_plain _ _ _ (by kernel_rfl)]; exact laidMet_laidAll _ (by kernel_rfl) (by kernel_rfl))) ?_
  intro W base args ds gs before hval0 hW hsz0 hL hS
  have hval : ∀ (j : Nat) t v, Tryd.f4.params[j]? = some t → args[j]? = some v → Value.okWide Tryd.prog W .any base t v := hval0
  have hW' := hW
  obtain ⟨p, q, hA0, hV, rfl, _, _⟩ := hW
  have hA : DataW.TrodAll enc Tryd.prog W 0 (fun _ => true) true Tryd.f4.params.toList args.toList ds p := hA0
  rw [Tryd.params4] at hA hval
  obtain ⟨v0, v1, v2, v3, d0, d1, d2, d3, p0, p1, p2, p3, rfl, rfl, rfl, h0, h1, h2, h3⟩ := trodAll_four hA
  obtain ⟨rfl, rfl⟩ := trodVars_none hV
  obtain ⟨A0, n0, c0, l0, rfl, q0, _, r0⟩ := open_ents_arg (hval 0 22 v0 rfl rfl) h0
  obtain ⟨z1, rfl, b1⟩ := open_int_arg Tryd.underlying3 (hval 1 3 v1 rfl rfl) h1
  obtain ⟨z2, rfl, b2⟩ := open_int_arg Tryd.underlying3 (hval 2 3 v2 rfl rfl) h2
  obtain ⟨y3, rfl, b3⟩ := open_byte_arg Tryd.underlying5 (hval 3 5 v3 rfl rfl) h3
  refine (torn_any A0 n0 c0 l0 z1 z2 y3 W q0 r0 b3 (lw_of_laid hL hS)).mono fun e W' ⟨he, hw⟩ => ?_
  refine ⟨_, he, law_post Tryd.laidOut ?_ rfl Tryd.underlying4 rfl rfl hW' hw⟩
  rw [Tryd.params4]
  intro t ht
  simp at ht
  rcases ht with rfl | rfl | rfl
  · exact ⟨by kernel_rfl, of_decide_eq_true (by kernel_rfl)⟩
  · exact ⟨by kernel_rfl, of_decide_eq_true (by kernel_rfl)⟩
  · exact ⟨by kernel_rfl, of_decide_eq_true (by kernel_rfl)⟩
theorem ledgerTorn_holds : Rows.LedgerTornSaid :=
  OpenClaim.holds_of_wide 4 Tryd.f4 rfl rfl rfl rfl rfl rfl rfl ⟨rfl, rfl, rfl, rfl, rfl⟩ rfl rfl rfl rfl rfl (by kernel_rfl) Tryd.func4 (by kernel_rfl)
    (of_decide_eq_true (by kernel_rfl)) (by unfold Func.isWrapper; rw [if_neg (of_decide_eq_false (by kernel_rfl))]; exact ⟨rfl, rfl⟩)
    (fun os started H enc _ => ledgerTorn_lifted os started H enc)
theorem ledgerTorn_card : Rows.LedgerTornCardSaid :=
  Claim7.holds_tied_plain_at .later [] [.data, .data, .data, .data, .sentinel, .sentinel, .pinned] true (true, "0c50d55ef649a67dd9344a814e62bec130e08807e4fed8a7803baddc73db3d38") true
    ledgerTorn_holds (fun _ h => by cases h) (by kernel_rfl) (fun _ h => by cases h) ledgerTorn_row_tie rfl ⟨rfl, rfl⟩ (by kernel_rfl) rfl
    (fun f fn hf hfn => by
      obtain rfl : f = 4 := Option.some.inj ((show Tryd.prog.funcNamed "gridhall/gridhallkeep3.LedgerTorn" = some 4 by kernel_rfl).symm.trans hf) |>.symm
      obtain rfl : fn = Tryd.f4 := (Option.some.inj (Tryd.func4.symm.trans hfn)).symm
      exact ⟨by kernel_rfl, fun j t ht => by
        rw [Tryd.params4] at ht
        have hm := Array.mem_of_getElem? ht
        have hall : ([22, 3, 3, 5].all fun u => !Tryd.prog.wantsStandIn u) = true := by kernel_rfl
        have hm2 : t ∈ [22, 3, 3, 5] := by simpa using hm
        exact (show Tryd.prog.wantsStandIn t = false by simpa using List.all_eq_true.1 hall t hm2)⟩)
    (by kernel_rfl)
end Go.Proofs.YtnnfkfimicmboaaDoor
