/- Rows over rational texts that list variables of the library: the wrap that hands the contract the list and the world's shape; from the list to the table of powers of ten (LV); arguments opened (slices of texts). No condition. -/
import Derived.Test.YtoblpcljhblnmaaGreatDoorShLg
import Derived.Test.YtoblpcljhblnmaaGreatDoorRatChk
import Derived.Test.YtoblpcljhblnmaaGreatDoorLawRow
import Derived.LaidMore
import Derived.OpenShut
import Derived.Lay
import Derived.HandedShaped
import Derived.Stop.Joined
import Derived.Stop.LaidErr
import Derived.Lib.LaidTab
namespace Go.Proofs.YtoblpcljhblnmaaGreatDoor
open Go.ChangeShapes Go.WideShapes Go.ChangeAt Go.RowKit
section
variable {H : Type} {enc : TypeId × Value → H}
theorem handed_laid {a : Assume} {C : Checked} {os : Os} {f : FuncId} {fn : Func} {s : ChangeSpec} {conds : List PathCond} {apart fresh handsOn again : Bool} {X : World → Array Value → Prop}
    (hX : ∀ (w w' : World) (args : Array Value), w.heap = w'.heap → X w args → X w' args)
    (own : ownKnob C.prog.godebug = none) (started : os.Started) (noInit : C.prog.inits.idxOf? f = none) (hfn : C.prog.funcs[f]? = some fn)
    (wit : ∃ (w : World) (tape : Tape) (i : Input), w.os = os ∧ (w.forCall tape i).Shaped C.prog ∧ i.vars = [] ∧ Input.okWide C.prog (w.forCall tape i) .any w.heap.size f i ∧
      ((s.pre enc C.prog fn conds apart (w.forCall tape i).memory i.args ∧ X (w.forCall tape i).memory i.args) ∧ sizedMet enc C.prog fn (OpenSpec.ofChange s) apart (w.forCall tape i).memory i.args) ∧ a.holds C.prog (lone (Frame.enter C.prog f i.args .normal) [] (w.forCall tape i)))
    (hc : ∀ (W : World) (base : Nat) (args : Array Value) (ds gs : List (DataW H)) (before : List MemPlace),
      (∀ (j : Nat) t v, fn.params[j]? = some t → args[j]? = some v → Value.okWide C.prog W .any base t v) →
      DataW.Whole enc C.prog fn.params.toList s.vars apart W args.toList ds gs before →
      (DataW.weightsEach C.prog (fn.params.toList ++ s.plain.varTypes C.prog) (ds ++ gs)).all (· ≤ reachBytes) = true → X W args → W.ShapedOpen C.prog →
      Calls C.prog f args W fun e W' => ∃ v, e = .returned v ∧ s.post enc C.prog fn apart fresh handsOn again W args v W') :
    ReturnsInHanded a C os f .any (fun w args => (s.pre enc C.prog fn conds apart w args ∧ X w args) ∧ sizedMet enc C.prog fn (OpenSpec.ofChange s) apart w args) (s.post enc C.prog fn apart fresh handsOn again) := by
  refine returnsInHanded_of_calls own started noInit wit fun w tape i _ hsh _ hok hpre _ => ?_
  obtain ⟨_, _, _, fn', hfn', _, _, _, _, hval⟩ := hok
  obtain rfl : fn' = fn := Option.some.inj (hfn'.symm.trans hfn)
  obtain ⟨⟨⟨ds, gs, before, hw, _⟩, hx⟩, hz⟩ := hpre
  exact (hc (w.forCall tape i) w.heap.size i.args ds gs before hval (DataW.Whole.of_heap (w' := w.forCall tape i) (by rfl) hw) (hz.weights hw) (hX _ _ _ (by rfl) hx) hsh).mono fun e W' ⟨v, he, hp⟩ => by
    subst he
    exact ChangeSpec.post_blind hp
end
/-- the list of the rows -/
def laidLs : List (String × DataW Unit) := [("math/bits.deBruijn32tab", Rows.laid_math_bits_deBruijn32tab), ("math/bits.deBruijn64tab", Rows.laid_math_bits_deBruijn64tab), ("internal/strconv.uint64pow10", Rows.laid_internal_strconv_uint64pow10), ("strconv.ErrRange", Rows.laid_strconv_ErrRange), ("strconv.ErrSyntax", Rows.laid_strconv_ErrSyntax)]
set_option maxRecDepth 100000 in
/-- what the list gives the road -/
theorem lv_of_laid {W : World} (h0 : laidMetH Tryz.prog laidLs W) : LV W := by
  rw [MakeChecks.laidMetH_plain _ _ _ (by kernel_rfl)] at h0
  have h : laidMet Tryz.prog [("math/bits.deBruijn32tab", Rows.laid_math_bits_deBruijn32tab), ("math/bits.deBruijn64tab", Rows.laid_math_bits_deBruijn64tab), ("internal/strconv.uint64pow10", Lib.tabData .u64 Lib.pow10Tab), ("strconv.ErrRange", Rows.laid_strconv_ErrRange), ("strconv.ErrSyntax", Rows.laid_strconv_ErrSyntax)] W := h0
  exact ⟨Lib.tabIs_of_head (g := 3) (t := 323) (e := 229) (n := 20) (by kernel_rfl) (by kernel_rfl) Tryz.underlying323 Tryz.underlying229 (by kernel_rfl) (by kernel_rfl) h.tail.tail⟩
set_option maxRecDepth 100000
section
variable {H : Type} {enc : TypeId × Value → H} {W : World} {base : Nat} {sp : Nat → Bool} {held : Bool}
theorem flat_tx : ∀ l : List ByteArray, l.flatMap (fun s : ByteArray => [Value.string s]) = txs (l.map fun s => s.data.toList)
  | [] => rfl
  | a :: l => by rw [List.flatMap_cons, flat_tx l]; rfl
theorem open_tx1 {n : Nat} {t : TypeId} (ht : Tryz.prog.underlying t = some .string) {cs : List Value} {y : DataW H × List MemPlace} (h : DataW.trod enc Tryz.prog W base sp held n t cs = some y) : ∃ a : ByteArray, cs = [.string a] ∧ a.size ≤ 9223372036854775807 := by
  obtain ⟨z, hc, _, hw⟩ := DataW.trod_string ht h
  exact ⟨z, hc, hw⟩
theorem open_rats_arg {r : Reach} {b0 : Nat} {u t : TypeId} (hu : Tryz.prog.underlying u = some (.slice t)) (ht : Tryz.prog.underlying t = some .string) {v : Value} {d : DataW H} {p : List MemPlace} (hv : Value.okWide Tryz.prog W r b0 u v) (h : DataW.Trod enc Tryz.prog W base sp held u v d p) (hcl : Tryz.prog.cellsOf t = 1) :
    ∃ (A : Option Addr) (n c : Nat) (ls : List (List UInt8)), v = .slice A n c ∧ n ≤ c ∧ c ≤ maxLen ∧ Reads W W.heap.size 1 A n (txs ls) ∧ ∀ l ∈ ls, l.length ≤ 9223372036854775807 := by
  obtain ⟨A, n, c, rfl⟩ := okWide_slice hu hv
  obtain ⟨fuel, hf⟩ := h
  obtain ⟨A', n', c', l, h1, h2, h3, h4, h5⟩ := open_slice_of (fun s : ByteArray => [Value.string s]) (fun a => a.size ≤ 9223372036854775807) 1 (by omega) (fun _ => rfl) hu hcl (fun n cs y h => open_tx1 ht h) hf
  refine ⟨A', n', c', l.map fun s => s.data.toList, h1, h2, h3, ?_, fun x hx => ?_⟩
  · rw [← flat_tx]; exact h4
  · obtain ⟨s, hs, rfl⟩ := List.mem_map.1 hx
    have := h5 s hs
    rw [Array.length_toList]
    exact this
end
end Go.Proofs.YtoblpcljhblnmaaGreatDoor
