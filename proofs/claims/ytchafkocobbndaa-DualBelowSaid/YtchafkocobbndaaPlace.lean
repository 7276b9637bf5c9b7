/- A map from places to numbers: it holds, for each place of a list of ways, the number of the first way there. No condition. -/
import Derived.Test.YtchafkocobbndaaPCommitF
import Derived.Test.YtchafkocobbndaaWay
import Derived.Maps.OwnSet
import Derived.Maps.OwnOps
import Derived.DeepKeys4
namespace Go.Proofs.Ytchafkocobbndaa
open Go.RowKit
open Go.Maps (Keyed)
theorem laidOut_prog : laidOutB Try.prog = true := by kernel_rfl
theorem place_row : (75 : TypeId) < Try.prog.types.size := of_decide_eq_true (by kernel_rfl)
theorem place_wide : (match Try.prog.underlying 75 with | some (.array _ _) | some (.struct _) => true | _ => false) = true := by rw [Try.underlying75]
set_option maxRecDepth 100000 in
theorem place_deep : Try.prog.keyTypeAt 4 75 = true := by kernel_rfl
set_option maxRecDepth 100000 in
theorem place_keyed : Keyed Try.prog 75 := Keyed.of_law (deep_law_laid laidOut_prog (m := 4) (by omega) place_row place_deep place_wide)
theorem cells_place : Try.prog.cellsOf 75 = 6 := by kernel_rfl
theorem cells_unit : Try.prog.cellsOf 73 = 2 := by kernel_rfl
theorem cells_b : Try.prog.cellsOf 4 = 1 := by kernel_rfl
theorem cells_i : Try.prog.cellsOf 3 = 1 := by kernel_rfl
set_option maxRecDepth 100000 in
theorem place_type : Try.prog.keyType 75 = true := by kernel_rfl
/-- the words of a place as a key -/
def kLits (a0 : Bool) (b0 : Int) (a1 : Bool) (b1 : Int) (a2 : Bool) (b2 : Int) : List Lit := [.bool a0, .int .i64 b0, .bool a1, .int .i64 b1, .bool a2, .int .i64 b2]
def kLit (a0 : Bool) (b0 : Int) (a1 : Bool) (b1 : Int) (a2 : Bool) (b2 : Int) : Lit := .string (keyBytes (kLits a0 b0 a1 b1 a2 b2))
theorem lit_wf {n : Int} (h : 0 ≤ n ∧ n ≤ 200000) : (Lit.int .i64 n).wf = true := by
  have e : IntKind.i64.min = -9223372036854775808 := rfl
  simp [Lit.wf, e]
  omega
theorem keyLits_place (d : Nat) (a0 : Bool) (b0 : Int) (a1 : Bool) (b1 : Int) (a2 : Bool) (b2 : Int) (h0 : (Lit.int .i64 b0).wf = true) (h1 : (Lit.int .i64 b1).wf = true) (h2 : (Lit.int .i64 b2).wf = true) :
    Try.prog.keyLits (d + 3) 75 [.bool a0, .int .i64 b0, .bool a1, .int .i64 b1, .bool a2, .int .i64 b2] = some (kLits a0 b0 a1 b1 a2 b2) := by
  have hb : ∀ (a : Bool), Try.prog.keyLits (d + 1) 4 [.bool a] = some [.bool a] := fun a => by
    simp [Program.keyLits, Try.underlying4]
  have hi : ∀ (b : Int), (Lit.int .i64 b).wf = true → Try.prog.keyLits (d + 1) 3 [.int .i64 b] = some [.int .i64 b] := fun b h => by
    simp [Program.keyLits, Try.underlying3, h]
  have hu : ∀ (a : Bool) (b : Int), (Lit.int .i64 b).wf = true → Try.prog.keyLits (d + 2) 73 [.bool a, .int .i64 b] = some [.bool a, .int .i64 b] := fun a b h => by
    unfold Program.keyLits
    simp [Try.underlying73, cells_unit, cells_b, cells_i, hb a, hi b h]
  unfold Program.keyLits
  simp [Try.underlying75, cells_place, cells_unit, List.range_succ, hu _ _ h0, hu _ _ h1, hu _ _ h2, kLits]
set_option maxRecDepth 100000 in
theorem keyOf_place (a0 : Bool) (b0 : Int) (a1 : Bool) (b1 : Int) (a2 : Bool) (b2 : Int) (h0 : (Lit.int .i64 b0).wf = true) (h1 : (Lit.int .i64 b1).wf = true) (h2 : (Lit.int .i64 b2).wf = true) :
    keyOf Try.prog 75 (.agg #[.bool a0, .int .i64 b0, .bool a1, .int .i64 b1, .bool a2, .int .i64 b2]) = some (kLit a0 b0 a1 b1 a2 b2) := by
  have h3 : 3 ≤ Try.prog.types.size := of_decide_eq_true (by kernel_rfl)
  obtain ⟨m, hm⟩ : ∃ m, Try.prog.types.size + 1 = m + 3 := ⟨Try.prog.types.size - 2, by omega⟩
  unfold keyOf
  rw [Try.underlying75]
  simp only [place_type, hm, Bool.true_and]
  have hf : (Value.agg #[.bool a0, .int .i64 b0, .bool a1, .int .i64 b1, .bool a2, .int .i64 b2]).formed Try.prog 75 = true := by simp [Value.formed, Try.underlying75, cells_place]
  rw [hf, if_pos rfl]
  have e : (Value.agg #[.bool a0, .int .i64 b0, .bool a1, .int .i64 b1, .bool a2, .int .i64 b2]).cells.toList = [.bool a0, .int .i64 b0, .bool a1, .int .i64 b1, .bool a2, .int .i64 b2] := rfl
  rw [e, keyLits_place m a0 b0 a1 b1 a2 b2 h0 h1 h2]
  rfl
set_option maxRecDepth 100000 in
/-- a place is told by its key -/
theorem kLit_inj {a0 a1 a2 c0 c1 c2 : Bool} {b0 b1 b2 d0 d1 d2 : Int} (h0 : (Lit.int .i64 b0).wf = true) (h1 : (Lit.int .i64 b1).wf = true) (h2 : (Lit.int .i64 b2).wf = true) (g0 : (Lit.int .i64 d0).wf = true) (g1 : (Lit.int .i64 d1).wf = true) (g2 : (Lit.int .i64 d2).wf = true)
    (h : kLit a0 b0 a1 b1 a2 b2 = kLit c0 d0 c1 d1 c2 d2) : [(a0, b0), (a1, b1), (a2, b2)] = [(c0, d0), (c1, d1), (c2, d2)] := by
  have k1 := keyOf_place a0 b0 a1 b1 a2 b2 h0 h1 h2
  have k2 := keyOf_place c0 d0 c1 d1 c2 d2 g0 g1 g2
  rw [h] at k1
  have := place_keyed.inj k1 k2
  injection this with this
  simp at this
  obtain ⟨rfl, rfl, rfl, rfl, rfl, rfl⟩ := this
  rfl
def litOf : List (Bool × Int) → Lit
  | [(a0, b0), (a1, b1), (a2, b2)] => kLit a0 b0 a1 b1 a2 b2
  | _ => .bool false
/-- three generators, the times as they can be -/
def Pl3 (p : List (Bool × Int)) : Prop := ∃ x0 x1 x2 : Bool × Int, p = [x0, x1, x2] ∧ (0 ≤ x0.2 ∧ x0.2 ≤ 200000) ∧ (0 ≤ x1.2 ∧ x1.2 ≤ 200000) ∧ (0 ≤ x2.2 ∧ x2.2 ≤ 200000)
set_option maxRecDepth 100000 in
theorem litOf_inj {p q : List (Bool × Int)} (hp : Pl3 p) (hq : Pl3 q) (h : litOf p = litOf q) : p = q := by
  obtain ⟨⟨a0, b0⟩, ⟨a1, b1⟩, ⟨a2, b2⟩, rfl, h0, h1, h2⟩ := hp
  obtain ⟨⟨c0, d0⟩, ⟨c1, d1⟩, ⟨c2, d2⟩, rfl, g0, g1, g2⟩ := hq
  exact kLit_inj (lit_wf h0) (lit_wf h1) (lit_wf h2) (lit_wf g0) (lit_wf g1) (lit_wf g2) h
set_option maxRecDepth 100000 in
theorem litOf_key (p : List (Bool × Int)) (hp : Pl3 p) : WideAt.IsKeyLit (litOf p) := by
  obtain ⟨⟨a0, b0⟩, ⟨a1, b1⟩, ⟨a2, b2⟩, rfl, h0, h1, h2⟩ := hp
  exact place_keyed.key (keyOf_place a0 b0 a1 b1 a2 b2 (lit_wf h0) (lit_wf h1) (lit_wf h2))
/-- the map D tells where in N each place stands -/
def MapOf (D : DataW Unit) (N : List Pl.Way) : Prop := Maps.IsMap D ∧ ∀ p, Pl3 p →
  match Pl.idxAt N p with
  | none => Maps.has D (litOf p) = false
  | some i => Maps.has D (litOf p) = true ∧ ∀ z, D.atKey (litOf p) z = .lit (.int .i64 i)
theorem mapOf_nil : MapOf (.map []) [] := ⟨Maps.isMap_empty, fun _ _ => rfl⟩
theorem mapOf_put {D : DataW Unit} {N : List Pl.Way} {x : Pl.Way} (h : MapOf D N) (hx : Pl3 x.at_) (hn : Pl.idxAt N x.at_ = none) : MapOf (D.put (litOf x.at_) (.lit (.int .i64 (N.length : Int)))) (N ++ [x]) := by
  refine ⟨h.1.put _ _, fun p hp => ?_⟩
  rw [Pl.idxAt_snoc hn]
  by_cases e : p = x.at_
  · subst e
    rw [if_pos rfl]
    exact ⟨Maps.has_put_same h.1 (litOf_key _ hx) _, fun z => Maps.atKey_put_same h.1 (litOf_key _ hx) _ z⟩
  · rw [if_neg e]
    have hne : litOf p ≠ litOf x.at_ := fun e2 => e (litOf_inj hp hx e2)
    have := h.2 p hp
    cases hi : Pl.idxAt N p with
    | none => rw [hi] at this; simp only at this ⊢; rw [Maps.has_put_other hne]; exact this
    | some i =>
      rw [hi] at this
      simp only at this ⊢
      exact ⟨by rw [Maps.has_put_other hne]; exact this.1, fun z => by rw [Maps.atKey_put_other hne]; exact this.2 z⟩
theorem mapOf_set {D : DataW Unit} {N : List Pl.Way} {x : Pl.Way} {i : Nat} (h : MapOf D N) (hi : Pl.idxAt N x.at_ = some i) : MapOf D (N.set i x) := ⟨h.1, fun p hp => by rw [Pl.idxAt_set hi]; exact h.2 p hp⟩
end Go.Proofs.Ytchafkocobbndaa
