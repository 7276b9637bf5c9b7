/- TopLedger: whatever the arguments are, the call returns true, and all read afterwards as they read before; the listed variables are the program's own (the tied card). No condition. -/
import Derived.Test.YtibhgcldogfonaaGreatDoorLawLaid
import Derived.Test.YtibhgcldogfonaaGreatDoorLawTopLedger
import Derived.Test.YtibhgcldogfonaaGreatDoorCards
import Derived.Test.YtibhgcldogfonaaGreatDoorTie
import Derived.SevenTiedAt
import Derived.ChangeMaps5
namespace Go.Proofs.YtibhgcldogfonaaGreatDoor
open Go.ChangeShapes Go.WideShapes Go.ChangeAt Go.RowKit
set_option maxRecDepth 100000
section
open Go.ChangeShapes Go.WideShapes Go.ChangeAt Go.RowKit
variable {H : Type} {enc : TypeId × Value → H} {W : World} {base : Nat} {sp : Nat → Bool} {held : Bool}
def decOrd (s : Pl.Ord) : List Value := [.string s.name, .bool s.buy, .int .i64 s.pow, .int .i64 s.price]
/-- what an order of a program holds -/
def OrdIn (s : Pl.Ord) : Prop := s.name.size ≤ 9223372036854775807 ∧ (-9223372036854775808 ≤ s.pow ∧ s.pow ≤ 9223372036854775807) ∧ (-9223372036854775808 ≤ s.price ∧ s.price ≤ 9223372036854775807)
theorem open_order {f0 f1 f2 f3 : Field} (he : Tryz.prog.underlying 24 = some (.struct #[f0, f1, f2, f3])) (hone : Go.Deep.oneCellFields Tryz.prog #[f0, f1, f2, f3] = true) (hC : Tryz.prog.cellsOf 24 = 4)
    (h0 : Tryz.prog.underlying f0.type = some .string) (h1 : Tryz.prog.underlying f1.type = some .bool) (h2 : Tryz.prog.underlying f2.type = some (.int .i64)) (h3 : Tryz.prog.underlying f3.type = some (.int .i64))
    {n : Nat} {cs : List Value} {y : DataW H × List MemPlace} (h : DataW.trod enc Tryz.prog W base sp held n 24 cs = some y) : ∃ a, cs = decOrd a ∧ OrdIn a := by
  obtain ⟨hl, m, hf⟩ := open_struct_cells he hone h (by rw [hC]; rfl)
  obtain ⟨a, b, c, d, rfl⟩ := list4 (l := cs) (by simpa using hl)
  obtain ⟨_, y0, e0, t0⟩ := hf 0 f0 rfl
  obtain ⟨_, y1, e1, t1⟩ := hf 1 f1 rfl
  obtain ⟨_, y2, e2, t2⟩ := hf 2 f2 rfl
  obtain ⟨_, y3, e3, t3⟩ := hf 3 f3 rfl
  injection e0 with e0; subst e0
  injection e1 with e1; subst e1
  injection e2 with e2; subst e2
  injection e3 with e3; subst e3
  obtain ⟨s, rfl, hs⟩ := string_cell h0 t0
  obtain ⟨bb, rfl⟩ := bool_cell h1 t1
  obtain ⟨p, rfl, hp⟩ := int_cell h2 t2
  obtain ⟨q, rfl, hq⟩ := int_cell h3 t3
  exact ⟨⟨s, bb, p, q⟩, rfl, hs, hp, hq⟩
theorem open_orders_arg {f0 f1 f2 f3 : Field} (he : Tryz.prog.underlying 24 = some (.struct #[f0, f1, f2, f3])) (hone : Go.Deep.oneCellFields Tryz.prog #[f0, f1, f2, f3] = true) (hC : Tryz.prog.cellsOf 24 = 4)
    (h0 : Tryz.prog.underlying f0.type = some .string) (h1 : Tryz.prog.underlying f1.type = some .bool) (h2 : Tryz.prog.underlying f2.type = some (.int .i64)) (h3 : Tryz.prog.underlying f3.type = some (.int .i64))
    {r : Reach} {b0 : Nat} {v : Value} {d : DataW H} {p : List MemPlace} (hv : Value.okWide Tryz.prog W r b0 22 v) (h : DataW.Trod enc Tryz.prog W base sp held 22 v d p) :
    ∃ (A : Option Addr) (n c : Nat) (l : List Pl.Ord), v = .slice A n c ∧ n ≤ c ∧ c ≤ maxLen ∧ Reads W W.heap.size 4 A n (orders l) ∧ ∀ a ∈ l, OrdIn a := by
  obtain ⟨A, n, c, rfl⟩ := okWide_slice Tryz.underlying22 hv
  obtain ⟨fuel, hf⟩ := h
  exact open_slice_of decOrd OrdIn 4 (by omega) (fun _ => rfl) Tryz.underlying22 hC (fun n cs y h => open_order he hone hC h0 h1 h2 h3 h) hf
end
set_option maxRecDepth 100000 in
theorem topLedger_lifted (os : Os) (started : os.Started) (H : Type) (enc : TypeId × Value → H) :
    ReturnsInHanded {} Tryz.checked os 3 .any (fun w args => (Rows.topLedgerSpec.pre enc Tryz.prog Tryz.f3 Rows.topLedgerRow.domain false w args ∧ laidMetH Tryz.prog Rows.topLedgerRow.laid w) ∧ sizedMet enc Tryz.prog Tryz.f3 (OpenSpec.ofChange Rows.topLedgerSpec) false w args) (Rows.topLedgerSpec.post enc Tryz.prog Tryz.f3 false true false false) := by
  refine handed_laid (C := Tryz.checked) (X := fun w _ => laidMetH Tryz.prog Rows.topLedgerRow.laid w) (fun _ _ _ hh h => h.of_heap hh) Tryz.own started (by kernel_rfl) Tryz.func3
    (ChangeSpec.witness_shaped (enc := enc) (C := Tryz.checked) (os := os) (X := fun w _ => laidMetH Tryz.prog Rows.topLedgerRow.laid w) false (World.laidAll Tryz.prog os Rows.topLedgerRow.laid) #[.slice none 0 0] 8 (World.laidAll_os _ _ _)
      (World.shaped_of_ZipB (by kernel_rfl) (by kernel_rfl)) (by kernel_rfl) (by kernel_rfl) (by kernel_rfl)
      (by rw [MakeChecks.laidMetH_plain _ _ _ (by kernel_rfl)]; exact laidMet_laidAll _ (by kernel_rfl) (by kernel_rfl))) ?_
  intro W base args ds gs before hval0 hW hsz0 hL hS
  have hval : ∀ (j : Nat) t v, Tryz.f3.params[j]? = some t → args[j]? = some v → Value.okWide Tryz.prog W .any base t v := hval0
  have hW' := hW
  obtain ⟨p, q, hA0, hV, rfl, _, _⟩ := hW
  have hA : DataW.TrodAll enc Tryz.prog W 0 (fun _ => true) true Tryz.f3.params.toList args.toList ds p := hA0
  rw [Tryz.params3] at hA hval
  obtain ⟨v0, d0, rfl, rfl, h0⟩ := trodAll_one hA
  obtain ⟨rfl, rfl⟩ := trodVars_none hV
  obtain ⟨A0, n0, c0, l0, rfl, q0, m0, r0, b0⟩ := open_orders_arg Tryz.underlying24 (by kernel_rfl) (by kernel_rfl) Tryz.underlying9 Tryz.underlying4 Tryz.underlying3 Tryz.underlying3 (hval 0 22 v0 rfl rfl) h0
  refine (topLedger_any A0 n0 c0 l0 W q0 (fun z hz => (b0 z hz).1) r0 (lw_of_laid hL hS)).mono fun e W' ⟨he, hw⟩ => ?_
  refine ⟨_, he, law_post Tryz.laidOut ?_ rfl Tryz.underlying4 rfl rfl hW' hw⟩
  rw [Tryz.params3]
  intro t ht
  simp at ht
  subst ht
  exact ⟨by kernel_rfl, of_decide_eq_true (by kernel_rfl)⟩
theorem topLedger_holds : Rows.TopLedgerSaid :=
  OpenClaim.holds_of_wide 3 Tryz.f3 rfl rfl rfl rfl rfl rfl rfl ⟨rfl, rfl, rfl, rfl, rfl⟩ rfl rfl rfl rfl rfl (by kernel_rfl) Tryz.func3 (by kernel_rfl)
    (of_decide_eq_true (by kernel_rfl)) (by unfold Func.isWrapper; rw [if_neg (of_decide_eq_false (by kernel_rfl))]; exact ⟨rfl, rfl⟩)
    (fun os started H enc _ => topLedger_lifted os started H enc)
theorem topLedger_card : Rows.TopLedgerCardSaid :=
  Claim7.holds_tied_plain_at .later [] [.data, .data, .data, .data, .sentinel, .sentinel, .pinned] true (true, "99b094462a34ce32c8b3d14160380f92643ee2358fa363e79bce2bca2748e986") true
    topLedger_holds (fun _ h => by cases h) (by kernel_rfl) (fun _ h => by cases h) topLedger_row_tie rfl ⟨rfl, rfl⟩ (by kernel_rfl) rfl
    (fun f fn hf hfn => by
      obtain rfl : f = 3 := Option.some.inj ((show Tryz.prog.funcNamed "gridhall/gridhalltop.TopLedger" = some 3 by kernel_rfl).symm.trans hf) |>.symm
      obtain rfl : fn = Tryz.f3 := (Option.some.inj (Tryz.func3.symm.trans hfn)).symm
      exact ⟨by kernel_rfl, fun j t ht => by
        rw [Tryz.params3] at ht
        have hm := Array.mem_of_getElem? ht
        have hall : ([22].all fun u => !Tryz.prog.wantsStandIn u) = true := by kernel_rfl
        have hm2 : t ∈ [22] := by simpa using hm
        exact (show Tryz.prog.wantsStandIn t = false by simpa using List.all_eq_true.1 hall t hm2)⟩)
    (by kernel_rfl)
end Go.Proofs.YtibhgcldogfonaaGreatDoor
