/- Rows over rational texts that list variables of the library: the wrap that hands the contract the list and the world's shape; from the list to the table of powers of ten (LV); arguments opened (slices of texts). No condition. Plain functions for package hours, and their laws; nothing of the program stands here. Plain functions for names; nothing of the program stands here. -/
import Derived.Test.YtoblpcljhblnmaaGreatDoorShLg
import Derived.Test.YtoblpcljhblnmaaGreatDoorRatChk
import Derived.Test.YtoblpcljhblnmaaGreatDoorLawRow
import Derived.LaidMore
import Derived.OpenShut
import Derived.Lay
import Derived.HandedShaped
import Derived.Stop.Joined
import Derived.Stop.LaidErr
import Derived.Lib.LaidTab
namespace Go.Proofs.YtoblpcljhblnmaaGreatDoor
open Go.ChangeShapes Go.WideShapes Go.ChangeAt Go.RowKit
section
variable {H : Type} {enc : TypeId × Value → H}
theorem handed_laid {a : Assume} {C : Checked} {os : Os} {f : FuncId} {fn : Func} {s : ChangeSpec} {conds : List PathCond} {apart fresh handsOn again : Bool} {X : World → Array Value → Prop}
    (hX : ∀ (w w' : World) (args : Array Value), w.heap = w'.heap → X w args → X w' args)
    (own : ownKnob C.prog.godebug = none) (started : os.Started) (noInit : C.prog.inits.idxOf? f = none) (hfn : C.prog.funcs[f]? = some fn)
    (wit : ∃ (w : World) (tape : Tape) (i : Input), w.os = os ∧ (w.forCall tape i).Shaped C.prog ∧ i.vars = [] ∧ Input.okWide C.prog (w.forCall tape i) .any w.heap.size f i ∧
      ((s.pre enc C.prog fn conds apart (w.forCall tape i).memory i.args ∧ X (w.forCall tape i).memory i.args) ∧ sizedMet enc C.prog fn (OpenSpec.ofChange s) apart (w.forCall tape i).memory i.args) ∧ a.holds C.prog (lone (Frame.enter C.prog f i.args .normal) [] (w.forCall tape i)))
    (hc : ∀ (W : World) (base : Nat) (args : Array Value) (ds gs : List (DataW H)) (before : List MemPlace),
      (∀ (j : Nat) t v, fn.params[j]? = some t → args[j]? = some v → Value.okWide C.prog W .any base t v) →
      DataW.Whole enc C.prog fn.params.toList s.vars apart W args.toList ds gs before →
      (DataW.weightsEach C.prog (fn.params.toList ++ s.plain.varTypes C.prog) (ds ++ gs)).all (· ≤ reachBytes) = true → X W args → W.ShapedOpen C.prog →
      Calls C.prog f args W fun e W' => ∃ v, e = .returned v ∧ s.post enc C.prog fn apart fresh handsOn again W args v W') :
    ReturnsInHanded a C os f .any (fun w args => (s.pre enc C.prog fn conds apart w args ∧ X w args) ∧ sizedMet enc C.prog fn (OpenSpec.ofChange s) apart w args) (s.post enc C.prog fn apart fresh handsOn again) := by
  refine returnsInHanded_of_calls own started noInit wit fun w tape i _ hsh _ hok hpre _ => ?_
  obtain ⟨_, _, _, fn', hfn', _, _, _, _, hval⟩ := hok
  obtain rfl : fn' = fn := Option.some.inj (hfn'.symm.trans hfn)
  obtain ⟨⟨⟨ds, gs, before, hw, _⟩, hx⟩, hz⟩ := hpre
  exact (hc (w.forCall tape i) w.heap.size i.args ds gs before hval (DataW.Whole.of_heap (w' := w.forCall tape i) (by rfl) hw) (hz.weights hw) (hX _ _ _ (by rfl) hx) hsh).mono fun e W' ⟨v, he, hp⟩ => by
    subst he
    exact ChangeSpec.post_blind hp
end
def laidLs : List (String × DataW Unit) := [("math/bits.deBruijn32tab", Rows.laid_math_bits_deBruijn32tab), ("math/bits.deBruijn64tab", Rows.laid_math_bits_deBruijn64tab), ("internal/strconv.uint64pow10", Rows.laid_internal_strconv_uint64pow10), ("strconv.ErrRange", Rows.laid_strconv_ErrRange), ("strconv.ErrSyntax", Rows.laid_strconv_ErrSyntax)]
set_option maxRecDepth 100000 in
theorem lv_of_laid {W : World} (h0 : laidMetH Tryz.prog laidLs W) : LV W := by
  rw [MakeChecks.laidMetH_plain _ _ _ (by kernel_rfl)] at h0
  have h : laidMet Tryz.prog [("math/bits.deBruijn32tab", Rows.laid_math_bits_deBruijn32tab), ("math/bits.deBruijn64tab", Rows.laid_math_bits_deBruijn64tab), ("internal/strconv.uint64pow10", Lib.tabData .u64 Lib.pow10Tab), ("strconv.ErrRange", Rows.laid_strconv_ErrRange), ("strconv.ErrSyntax", Rows.laid_strconv_ErrSyntax)] W := h0
  exact ⟨Lib.tabIs_of_head (g := 3) (t := 323) (e := 229) (n := 20) (by kernel_rfl) (by kernel_rfl) Tryz.underlying323 Tryz.underlying229 (by kernel_rfl) (by kernel_rfl) h.tail.tail⟩
set_option maxRecDepth 100000
section
variable {H : Type} {enc : TypeId × Value → H} {W : World} {base : Nat} {sp : Nat → Bool} {held : Bool}
end
end Go.Proofs.YtoblpcljhblnmaaGreatDoor
namespace Go.Proofs.YtoblpcljhblnmaaGreatDoor.Pl
def idxOf {α : Type} (p : α → Bool) (zs : List α) : Int := match zs.findIdx? p with | some i => (i : Int) | none => -1
def has {α : Type} (p : α → Bool) (zs : List α) : Bool := zs.any p
theorem idxOf_hit {α : Type} (p : α → Bool) (zs : List α) (k : Nat) (hk : k < zs.length) (h1 : p zs[k] = true) (h0 : ∀ j (hj : j < zs.length), j < k → p zs[j] = false) : idxOf p zs = k := by
  have : zs.findIdx? p = some k := by
    rw [List.findIdx?_eq_some_iff_getElem]
    exact ⟨hk, h1, fun j hj => by simp [h0 j (by omega) hj]⟩
  simp [idxOf, this]
theorem idxOf_miss {α : Type} (p : α → Bool) (zs : List α) (h0 : ∀ j (hj : j < zs.length), p zs[j] = false) : idxOf p zs = -1 := by
  have : zs.findIdx? p = none := by
    rw [List.findIdx?_eq_none_iff]
    intro x hx
    obtain ⟨j, hj, rfl⟩ := List.getElem_of_mem hx
    exact h0 j hj
  simp [idxOf, this]
theorem has_idx {α : Type} (p : α → Bool) (zs : List α) : decide (0 ≤ idxOf p zs) = has p zs := by
  unfold idxOf has
  cases h : zs.findIdx? p with
  | none =>
    have : zs.any p = false := by
      rw [List.findIdx?_eq_none_iff] at h
      simpa using h
    simp [this]
  | some i =>
    have : zs.any p = true := by
      rw [List.findIdx?_eq_some_iff_getElem] at h
      obtain ⟨hi, h1, _⟩ := h
      rw [List.any_eq_true]
      exact ⟨_, List.getElem_mem hi, h1⟩
    simp [this]
theorem snocInd {α : Type} {P : List α → Prop} (h0 : P []) (h1 : ∀ l x, P l → P (l ++ [x])) (l : List α) : P l := by
  have h : ∀ r : List α, P r.reverse := by
    intro r
    induction r with
    | nil => exact h0
    | cons x r ih => rw [List.reverse_cons]; exact h1 _ _ ih
  have := h l.reverse
  rwa [List.reverse_reverse] at this
end Go.Proofs.YtoblpcljhblnmaaGreatDoor.Pl
namespace Go.Proofs.YtoblpcljhblnmaaGreatDoor.Pl
def okByte (i : Nat) (c : UInt8) : Bool := decide ((65 ≤ c.toNat ∧ c.toNat ≤ 90) ∨ (0 < i ∧ 48 ≤ c.toNat ∧ c.toNat ≤ 57))
def nameB (s : ByteArray) : Bool := (s.data.toList.zipIdx.all fun p => okByte p.2 p.1) && decide (1 ≤ s.size ∧ s.size ≤ 8)
theorem nameB_all {s : ByteArray} (h : ∀ j (hj : j < s.size), okByte j s[j] = true) : nameB s = decide (1 ≤ s.size ∧ s.size ≤ 8) := by
  unfold nameB
  have : (s.data.toList.zipIdx.all fun p => okByte p.2 p.1) = true := by
    rw [List.all_eq_true]
    rintro ⟨c, j⟩ hp
    obtain ⟨hj, e⟩ := List.mem_zipIdx_iff_getElem?.1 hp |> List.getElem?_eq_some_iff.1
    have := h j (by simpa using hj)
    rw [← e]
    exact this
  rw [this, Bool.true_and]
theorem nameB_no {s : ByteArray} (j : Nat) (hj : j < s.size) (h : okByte j s[j] = false) : nameB s = false := by
  unfold nameB
  have : (s.data.toList.zipIdx.all fun p => okByte p.2 p.1) = false := by
    rw [List.all_eq_false]
    refine ⟨(s[j], j), ?_, by simp [h]⟩
    rw [List.mem_zipIdx_iff_getElem?]
    exact List.getElem?_eq_some_iff.2 ⟨by simpa using hj, rfl⟩
  rw [this, Bool.false_and]
end Go.Proofs.YtoblpcljhblnmaaGreatDoor.Pl
