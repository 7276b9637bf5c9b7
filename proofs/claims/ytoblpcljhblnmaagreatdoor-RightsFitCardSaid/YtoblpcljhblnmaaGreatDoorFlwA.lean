/- The model of a network in memory while it is built: rows of buses and numbers that grow, the record, the map of islands seen. No condition. -/
import Derived.Test.YtoblpcljhblnmaaGreatDoorLinI
import Derived.Test.YtoblpcljhblnmaaGreatDoorTop
import Derived.Test.YtoblpcljhblnmaaGreatDoorTopU
namespace Go.Proofs.YtoblpcljhblnmaaGreatDoor
open Go.RowKit Go.Maps
set_option maxRecDepth 100000
theorem int_keyed9 : Keyed Tryz.prog 3 := int_keyed Tryz.underlying3
def ISeen (w : World) (b n : Nat) (seen : List Int) : Prop :=
  ∃ D : DataW Unit, w.ownsMap Tryz.prog 3 (plainElem Tryz.prog 4) b n D ∧ ∀ z : Int, D.atKey (.int .i64 z) (.lit (.bool false)) = .lit (.bool (decide (z ∈ seen)))
theorem i64_wf {z : Int} (h0 : -9223372036854775808 ≤ z) (h1 : z ≤ 9223372036854775807) : (Lit.int .i64 z).wf = true := by
  unfold Lit.wf
  have e1 : IntKind.i64.min = -9223372036854775808 := by decide
  have e2 : IntKind.i64.max = 9223372036854775807 := by decide
  simp [e1, e2]
  omega
theorem ISeen.made (w : World) : ISeen (w.alloc (.map #[] 0)) w.heap.size 0 [] := ⟨_, World.ownsMap_made _ _ _ _, fun s => by simp; rfl⟩
theorem ISeen.look {w : World} {b n : Nat} {seen : List Int} (h : ISeen w b n seen) (z : Int) (h0 : -9223372036854775808 ≤ z) (h1 : z ≤ 9223372036854775807) : (Instr.lookup 195 (.map (some b)) (.int .i64 z) false).run Tryz.prog w = .ok (.bool (decide (z ∈ seen))) w := by
  obtain ⟨D, hown, hat⟩ := h
  obtain ⟨v, ps, hrun, hv⟩ := hown.lookup int_keyed9 Tryz.underlying195 (zero_bool w) (elem_bool false) (keyOf_int_mk Tryz.underlying3 (i64_wf h0 h1))
  obtain ⟨x, rfl, hx⟩ := elem_bool_inv hv
  rw [hat z] at hx
  injection hx with hx
  injection hx with hx
  rw [hx]
  exact hrun
theorem ISeen.kept {w w' : World} {b n : Nat} {seen : List Int} {row : Option Nat} (h : ISeen w b n seen) (hg : w.grownBy w' row) (hne : some b ≠ row) : ISeen w' b n seen := by
  obtain ⟨D, hown, hat⟩ := h
  exact ⟨D, hown.kept hg hne, hat⟩
theorem ISeen.go {w w' : World} {b n : Nat} {seen : List Int} (h : ISeen w b n seen) (hb : Below w.heap.size w w') : ISeen w' b n seen := h.kept (row := none) ⟨hb.os, hb.tape, hb.output, hb.size, fun i hi _ => hb.block i hi⟩ (by simp)
theorem ISeen.put {w : World} {b n : Nat} {seen : List Int} (h : ISeen w b n seen) (hn : n < maxLen) (z : Int) (h0 : -9223372036854775808 ≤ z) (h1 : z ≤ 9223372036854775807) :
    ∃ w', (Instr.mapUpdate 195 (.map (some b)) (.int .i64 z) (.bool true)).run Tryz.prog w = .ok () w' ∧ ISeen w' b (n + 1) (z :: seen) ∧ w.grownBy w' (some b) := by
  obtain ⟨D, hown, hat⟩ := h
  obtain ⟨w', hrun, h2, h3⟩ := hown.update int_keyed9 Tryz.underlying195 hn (keyOf_int_mk Tryz.underlying3 (i64_wf h0 h1)) (elem_bool true)
  refine ⟨w', hrun, ⟨_, h2, fun t => ?_⟩, h3⟩
  by_cases ht : t = z
  · rw [ht, Maps.atKey_put_same hown.isMap (by trivial)]
    simp
  · rw [Maps.atKey_put_other (by intro e; injection e with _ e; exact ht e), hat t]
    simp [ht]
def AllR (w : World) (L : List (Rat × Rt)) : Prop := ∀ x ∈ L, RatIs w w.heap.size x.1 x.2
theorem AllR.go {w w' : World} {L : List (Rat × Rt)} (h : AllR w L) (hb : Below w.heap.size w w') : AllR w' L := fun x hx => (h x hx).go hb
theorem AllR.chg {g : Option Nat} {w w' : World} {L : List (Rat × Rt)} (h : AllR w L) (hc : Chg g w w') : AllR w' L := fun x hx => hc.num _ _ (h x hx)
theorem AllR.snoc {w : World} {L : List (Rat × Rt)} (h : AllR w L) {q : Rat} {x : Rt} (hx : RatIs w w.heap.size q x) : AllR w (L ++ [(q, x)]) := fun y hy => by
  rw [List.mem_append, List.mem_singleton] at hy
  rcases hy with hy | rfl
  · exact h y hy
  · exact hx
theorem OQ.apart {w : World} {base base' : Nat} {e e' : TypeId} {size size' n n' : Nat} {v v' : Value} {xs xs' : List Value} (h : OQ w base e size v n xs) (h' : OQ w base' e' size' v' n' xs') (hne : e ≠ e') : ∀ b, v.ownBlock = some b → some b ≠ v'.ownBlock := fun b hb e9 => by
  obtain ⟨_, _, c1, h1, _⟩ := h.own hb
  obtain ⟨_, _, c2, h2, _⟩ := h'.own e9.symm
  exact Blk.ne_ h1 h2 hne rfl
theorem OQ.off {w : World} {base b n : Nat} {e t : TypeId} {size : Nat} {v : Value} {xs : List Value} {cs : Array Value} (h : OQ w base e size v n xs) (hb : Blk w b t cs) (hne : e ≠ t) : some b ≠ v.ownBlock := fun e9 => by
  obtain ⟨_, _, c1, h1, _⟩ := h.own e9.symm
  exact Blk.ne_ h1 hb hne rfl
theorem rat_no : ∀ u ∈ (Value.agg #[.bool false, .slice none 0 0, .bool false, .slice none 0 0]).cells.toList, ∀ k : Int, u ≠ .int .u32 k := by intro u hu k e; subst e; simp [Value.cells] at hu
theorem int_no : ∀ u ∈ (Value.int .i64 0).cells.toList, ∀ k : Int, u ≠ .int .u32 k := by intro u hu k e; subst e; simp [Value.cells] at hu
theorem OQ.pushI {w : World} {base : Nat} {v : Value} {l : List Int} (h : OQ w base 3 1 v l.length (ints l)) (z : Int) {gx : Nat} {tx : TypeId} (hx : Blk w gx tx #[.int .i64 z]) (hl : l.length ≤ 1000) (hb : base ≤ w.heap.size) :
    ∃ v' w', (∀ ty, (Builtin.append_ #[57, 57] ty #[v, .slice (some ⟨gx, 0, none⟩) 1 1]).run Tryz.prog w = .ok v' w') ∧ OQ w' base 3 1 v' (l ++ [z]).length (ints (l ++ [z])) ∧ Chg v.ownBlock w w' ∧ (v'.ownBlock = v.ownBlock ∨ v'.ownBlock = some w.heap.size) := by
  obtain ⟨i0, hi0, hz0, hz1, hz2⟩ := info_parts info_int
  obtain ⟨v', w', h1, h2, h3, h4⟩ := h.push Tryz.underlying57 hi0 hz0 hz1 hz2 rfl (by decide) int_no [.int .i64 z] rfl (by simp [Value.oneCell']) (by simp) hx (by omega) (by omega) hb
  refine ⟨v', w', h1, ?_, h3, h4⟩
  rw [List.length_append]
  unfold ints at h2 ⊢
  rw [List.map_append]
  exact h2
theorem OQ.pushR {w : World} {base : Nat} {v : Value} {L : List (Rat × Rt)} (h : OQ w base 105 4 v L.length (rts L)) (q : Rat) {x : Rt} {gx : Nat} {tx : TypeId} (hx : Blk w gx tx (rtC x).toArray) (hl : L.length ≤ 1000) (hb : base ≤ w.heap.size) :
    ∃ v' w', (∀ ty, (Builtin.append_ #[94, 94] ty #[v, .slice (some ⟨gx, 0, none⟩) 1 1]).run Tryz.prog w = .ok v' w') ∧ OQ w' base 105 4 v' (L ++ [(q, x)]).length (rts (L ++ [(q, x)])) ∧ Chg v.ownBlock w w' ∧ (v'.ownBlock = v.ownBlock ∨ v'.ownBlock = some w.heap.size) := by
  obtain ⟨i0, hi0, hz0, hz1, hz2⟩ := info_parts info_rat
  obtain ⟨v', w', h1, h2, h3, h4⟩ := h.push Tryz.underlying94 hi0 hz0 hz1 hz2 rfl (by decide) rat_no (rtC x) rfl (rtC_one x) (rtC_no x) hx (by omega) (by omega) hb
  refine ⟨v', w', h1, ?_, h3, h4⟩
  rw [List.length_append, ← rts_snoc]
  exact h2
structure OfI (w wr : World) (p : Nat) (cs : Array Value) (F T : List Int) (LB LC : List (Rat × Rt)) (vF vT vB vC : Value) : Prop where
  blk : Blk wr p 177 cs
  nou : noU32 cs
  lp : p < w.heap.size
  f : OQ wr w.heap.size 3 1 vF F.length (ints F)
  t : OQ wr w.heap.size 3 1 vT T.length (ints T)
  b : OQ wr w.heap.size 105 4 vB LB.length (rts LB)
  c : OQ wr w.heap.size 105 4 vC LC.length (rts LC)
  eb : AllR wr LB
  ec : AllR wr LC
  ft : ∀ x, vF.ownBlock = some x → vT.ownBlock ≠ some x
  bc : ∀ x, vB.ownBlock = some x → vC.ownBlock ≠ some x
  grown : w.grownBy wr (some p)
theorem grown_more {w wr w' : World} {p : Nat} {g : Option Nat} (h : w.grownBy wr (some p)) (h3 : wr.grownBy w' g) (hg : ∀ b, g = some b → w.heap.size ≤ b ∨ b = p) : w.grownBy w' (some p) := by
  refine ⟨h3.os.trans h.os, h3.tape.trans h.tape, h3.output.trans h.output, Nat.le_trans h.size h3.size, fun i hi hne => ?_⟩
  refine (h3.block i (Nat.lt_of_lt_of_le hi h.size) (fun e => ?_)).trans (h.block i hi hne)
  rcases hg i e.symm with h9 | h9
  · omega
  · exact hne (by rw [h9])
section
variable {w wr wx : World} {p : Nat} {cs : Array Value} {F T : List Int} {LB LC : List (Rat × Rt)} {vF vT vB vC : Value}
theorem OfI.go (h : OfI w wr p cs F T LB LC vF vT vB vC) (hb : Below wr.heap.size wr wx) : OfI w wx p cs F T LB LC vF vT vB vC :=
  ⟨h.blk.go hb, h.nou, h.lp, h.f.go hb, h.t.go hb, h.b.go hb, h.c.go hb, h.eb.go hb, h.ec.go hb, h.ft, h.bc, grown_more h.grown (g := none) ⟨hb.os, hb.tape, hb.output, hb.size, fun i hi _ => hb.block i hi⟩ (fun b e => by cases e)⟩
theorem OfI.pushF (h : OfI w wr p cs F T LB LC vF vT vB vC) (z : Int) {gx : Nat} {tx : TypeId} (hx : Blk wr gx tx #[.int .i64 z]) (hl : F.length ≤ 1000) :
    ∃ v' w', (∀ ty, (Builtin.append_ #[57, 57] ty #[vF, .slice (some ⟨gx, 0, none⟩) 1 1]).run Tryz.prog wr = .ok v' w') ∧ OfI w w' p cs (F ++ [z]) T LB LC v' vT vB vC ∧ Chg vF.ownBlock wr w' := by
  obtain ⟨v', w', h1, h2, h3, h4⟩ := h.f.pushI z hx hl h.grown.size
  refine ⟨v', w', h1, ⟨h3.blk _ _ _ (h.f.off h.blk (by decide)) h.blk, h.nou, h.lp, h2, h.t.chg h3 (fun b hb e => h.ft b e.symm hb), h.b.chg h3 (h.b.apart h.f (by decide)), h.c.chg h3 (h.c.apart h.f (by decide)), h.eb.chg h3, h.ec.chg h3, fun x hx e => ?_, h.bc, grown_more h.grown h3.grown (fun b hb => .inl (h.f.own hb).1)⟩, h3⟩
  rcases h4 with h4 | h4
  · exact h.ft x (h4 ▸ hx) e
  · have := (h.t.own e).2.1
    rw [h4] at hx
    injection hx with hx
    omega
theorem OfI.pushT (h : OfI w wr p cs F T LB LC vF vT vB vC) (z : Int) {gx : Nat} {tx : TypeId} (hx : Blk wr gx tx #[.int .i64 z]) (hl : T.length ≤ 1000) :
    ∃ v' w', (∀ ty, (Builtin.append_ #[57, 57] ty #[vT, .slice (some ⟨gx, 0, none⟩) 1 1]).run Tryz.prog wr = .ok v' w') ∧ OfI w w' p cs F (T ++ [z]) LB LC vF v' vB vC ∧ Chg vT.ownBlock wr w' := by
  obtain ⟨v', w', h1, h2, h3, h4⟩ := h.t.pushI z hx hl h.grown.size
  refine ⟨v', w', h1, ⟨h3.blk _ _ _ (h.t.off h.blk (by decide)) h.blk, h.nou, h.lp, h.f.chg h3 (fun b hb e => h.ft b hb e.symm), h2, h.b.chg h3 (h.b.apart h.t (by decide)), h.c.chg h3 (h.c.apart h.t (by decide)), h.eb.chg h3, h.ec.chg h3, fun x hx e => ?_, h.bc, grown_more h.grown h3.grown (fun b hb => .inl (h.t.own hb).1)⟩, h3⟩
  rcases h4 with h4 | h4
  · exact h.ft x hx (h4 ▸ e)
  · have := (h.f.own hx).2.1
    rw [h4] at e
    injection e with e
    omega
theorem OfI.pushB (h : OfI w wr p cs F T LB LC vF vT vB vC) (q : Rat) {x : Rt} {gx : Nat} {tx : TypeId} (hx : Blk wr gx tx (rtC x).toArray) (hq : RatIs wr wr.heap.size q x) (hl : LB.length ≤ 1000) :
    ∃ v' w', (∀ ty, (Builtin.append_ #[94, 94] ty #[vB, .slice (some ⟨gx, 0, none⟩) 1 1]).run Tryz.prog wr = .ok v' w') ∧ OfI w w' p cs F T (LB ++ [(q, x)]) LC vF vT v' vC ∧ Chg vB.ownBlock wr w' := by
  obtain ⟨v', w', h1, h2, h3, h4⟩ := h.b.pushR q hx hl h.grown.size
  refine ⟨v', w', h1, ⟨h3.blk _ _ _ (h.b.off h.blk (by decide)) h.blk, h.nou, h.lp, h.f.chg h3 (h.f.apart h.b (by decide)), h.t.chg h3 (h.t.apart h.b (by decide)), h2, h.c.chg h3 (fun b hb e => h.bc b e.symm hb), (h.eb.snoc hq).chg h3, h.ec.chg h3, h.ft, fun y hy e => ?_, grown_more h.grown h3.grown (fun b hb => .inl (h.b.own hb).1)⟩, h3⟩
  rcases h4 with h4 | h4
  · exact h.bc y (h4 ▸ hy) e
  · have := (h.c.own e).2.1
    rw [h4] at hy
    injection hy with hy
    omega
theorem OfI.pushC (h : OfI w wr p cs F T LB LC vF vT vB vC) (q : Rat) {x : Rt} {gx : Nat} {tx : TypeId} (hx : Blk wr gx tx (rtC x).toArray) (hq : RatIs wr wr.heap.size q x) (hl : LC.length ≤ 1000) :
    ∃ v' w', (∀ ty, (Builtin.append_ #[94, 94] ty #[vC, .slice (some ⟨gx, 0, none⟩) 1 1]).run Tryz.prog wr = .ok v' w') ∧ OfI w w' p cs F T LB (LC ++ [(q, x)]) vF vT vB v' ∧ Chg vC.ownBlock wr w' := by
  obtain ⟨v', w', h1, h2, h3, h4⟩ := h.c.pushR q hx hl h.grown.size
  refine ⟨v', w', h1, ⟨h3.blk _ _ _ (h.c.off h.blk (by decide)) h.blk, h.nou, h.lp, h.f.chg h3 (h.f.apart h.c (by decide)), h.t.chg h3 (h.t.apart h.c (by decide)), h.b.chg h3 (fun b hb e => h.bc b hb e.symm), h2, h.eb.chg h3, (h.ec.snoc hq).chg h3, h.ft, fun y hy e => ?_, grown_more h.grown h3.grown (fun b hb => .inl (h.c.own hb).1)⟩, h3⟩
  rcases h4 with h4 | h4
  · exact h.bc y hy (h4 ▸ e)
  · have := (h.b.own hy).2.1
    rw [h4] at e
    injection e with e
    omega
theorem OfI.put (h : OfI w wr p cs F T LB LC vF vT vB vC) (i : Nat) (u : Value) (hu : ∀ k : Int, u ≠ .int .u32 k) : OfI w (wr.setCell ⟨p, i, none⟩ u) p (cs.setIfInBounds i u) F T LB LC vF vT vB vC := by
  have hc := Chg.set h.blk h.nou i u
  exact ⟨h.blk.set_ i u, noU32_set h.nou i hu, h.lp, h.f.chg hc (h.f.ne h.blk (by decide)), h.t.chg hc (h.t.ne h.blk (by decide)), h.b.chg hc (h.b.ne h.blk (by decide)), h.c.chg hc (h.c.ne h.blk (by decide)), h.eb.chg hc, h.ec.chg hc, h.ft, h.bc, grown_more h.grown hc.grown (fun b hb => .inr (Option.some.inj hb).symm)⟩
end
def Pl.sus (b : Pl.Bra) : Rat := Rat.divInt 1000000 (b.x * b.tap)
def Pl.con (b : Pl.Bra) : Rat := Pl.sus b * Rat.divInt (-b.shift) 1000
theorem braOut_no {b : Pl.Bra} (h : Pl.braOut b = false) : 1 ≤ b.x ∧ b.x ≤ 10000 ∧ 500 ≤ b.tap ∧ b.tap ≤ 1500 ∧ -1000 ≤ b.shift ∧ b.shift ≤ 1000 ∧ 0 ≤ b.limit ∧ b.limit ≤ 100000 := by
  unfold Pl.braOut Pl.outN at h
  simp only [Bool.or_eq_false_iff, decide_eq_false_iff_not] at h
  omega
theorem rsz_quot {n d : Int} (hn : n.natAbs < 4294967296 * 4294967296) (hd : d.natAbs < 4294967296 * 4294967296) (h0 : 0 < d) : Pl.rsz (Rat.divInt n d) ≤ 2 := by
  have h1 : ∀ m : Nat, m < 4294967296 * 4294967296 → Pl.nw m ≤ 2 := fun m hm => Pl.nw_le (by rw [show (4294967296 : Nat) ^ 2 = 4294967296 * 4294967296 by rfl]; exact hm)
  obtain ⟨k, rfl⟩ : ∃ k : Nat, d = (k : Int) := ⟨d.toNat, by omega⟩
  rw [show Rat.divInt n (k : Int) = mkRat n k from rfl]
  exact Pl.rsz_mk (by omega) (h1 _ hn) (h1 _ (by simpa using hd))
theorem sus_rsz {b : Pl.Bra} (h : Pl.braOut b = false) : Pl.rsz (Pl.sus b) ≤ 2 := by
  obtain ⟨h1, h2, h3, h4, _⟩ := braOut_no h
  have h5 : 1 * 500 ≤ b.x * b.tap := Int.mul_le_mul h1 h3 (by omega) (by omega)
  have h6 : b.x * b.tap ≤ 10000 * 1500 := Int.mul_le_mul h2 h4 (by omega) (by omega)
  exact rsz_quot (by decide) (by omega) (by omega)
theorem con_rsz {b : Pl.Bra} (h : Pl.braOut b = false) : Pl.rsz (Pl.con b) ≤ 4 := by
  have h1 := sus_rsz h
  obtain ⟨_, _, _, _, h2, h3, _⟩ := braOut_no h
  have h4 : Pl.rsz (Rat.divInt (-b.shift) 1000) ≤ 2 := rsz_quot (by omega) (by decide) (by omega)
  have := Pl.rsz_mul (Pl.sus b) (Rat.divInt (-b.shift) 1000)
  unfold Pl.con
  omega
def Pl.frs (N : Pl.Net) (bus : List Int) (l : List Pl.Bra) : List Int := l.map fun b => Pl.lab bus (Pl.nodeAt N.nodes b.from_)
def Pl.tos (N : Pl.Net) (bus : List Int) (l : List Pl.Bra) : List Int := l.map fun b => Pl.lab bus (Pl.nodeAt N.nodes b.to_)
theorem nou_all {l : List Value} (h : ∀ u ∈ l, ∀ k : Int, u ≠ .int .u32 k) : noU32 l.toArray := noU32_of (by simpa using h)
theorem step_append_runF {P : Program} {ops : Array Oper} {o : Oper} {a : Act} {K : Act → World → Prop} {Q : Exit → Act → World → Prop} {E : Prop} {w w' : World} (hgd : o.guard = none) (s x : Operand) (t : TypeId)
    (hop : o.op = Op.call { callee := Callee.builtin Builtin.append, args := #[s, x], argTypes := #[t, t] }) (v y v' : Value) (hs : a.eval s = v) (hx : a.eval x = y)
    (hr : ∀ ty, (Builtin.append_ #[t, t] ty #[v, y]).run P w = .ok v' w') (h : K (a.put o.dst v') w') : if Region.wanted o (yielded ops a.tmps) = true then Oper.wp P o a w K Q else E := by
  have hw : Region.wanted o (yielded ops a.tmps) = true := by simp [Region.wanted, hgd]
  rw [if_pos hw]
  unfold Oper.wp
  simp [execOp, hop, resolve, invoke, builtin, hs, hx, hr, Result.andThen]
  exact h
theorem Reads.offB {w w' : World} {B n r : Nat} {A : Option Addr} {l : List Nat} {t : TypeId} {cs : Array Value} (h : Reads w B 1 A n (u32s l)) (hb : Blk w r t cs) (hc : noU32 cs) (hw : ∀ p : Addr, p.block < B → p.block ≠ r → w'.cell? p = w.cell? p) : Reads w' B 1 A n (u32s l) := by
  refine ⟨h.1, fun hn => ?_⟩
  obtain ⟨b, o, rfl, hbB, hcl⟩ := h.where_ hn (by omega)
  have hl := u32_len h
  refine ⟨⟨b, o, none⟩, rfl, hbB, fun j v hv => ?_⟩
  obtain ⟨ad, e, _, hc2⟩ := h.2 hn
  injection e with e
  subst e
  have h0 := hcl 0 _ (by unfold u32s; rw [List.getElem?_map, List.getElem?_eq_getElem (by omega)]; rfl)
  have hne : b ≠ r := by
    rintro rfl
    have := hb.cell o
    rw [Nat.add_zero] at h0
    rw [h0] at this
    exact hc _ _ this.symm
  have h9 := hc2 j v hv
  have eb : ((⟨b, o, none⟩ : Addr).add j).block = b := block_of_add _ _
  rw [hw _ (by rw [eb]; exact hbB) (by rw [eb]; exact hne)]
  exact h9
theorem RatIs.grown {w w' : World} {q : Rat} {x : Rt} {p : Nat} {t : TypeId} {cs : Array Value} (h : RatIs w w.heap.size q x) (hb : Blk w p t cs) (hc : noU32 cs) (hg : w.grownBy w' (some p)) : RatIs w' w'.heap.size q x := by
  have hw : ∀ a : Addr, a.block < w.heap.size → a.block ≠ p → w'.cell? a = w.cell? a := fun a h1 h2 => by
    unfold World.cell?
    rw [hg.block a.block h1 (fun e => h2 (Option.some.inj e))]
  exact ⟨⟨h.n.sg, h.n.ln, h.n.at_.1, (h.n.at_.2.offB hb hc hw).more hg.size⟩, ⟨h.d.sg, h.d.ln, h.d.at_.1, (h.d.at_.2.offB hb hc hw).more hg.size⟩⟩
theorem OQ.grown {w w' : World} {base n p : Nat} {e : TypeId} {size : Nat} {v : Value} {xs : List Value} (h : OQ w base e size v n xs) (hg : w.grownBy w' (some p)) (hne : ∀ b, v.ownBlock = some b → some b ≠ some p) : OQ w' base e size v n xs := by
  refine ⟨h.1, ?_⟩
  rcases h.2 with h | ⟨b, cap, cur, rfl, h2, h3, h4⟩
  · exact .inl h
  · exact .inr ⟨b, cap, cur, rfl, h2, h3.grown hg (hne b rfl), h4⟩
theorem mem_take_getD {l : List Int} {i : Nat} (hi : i < l.length) : (∃ j, j < i ∧ l.getD j (-1) = l.getD i (-1)) ↔ l[i] ∈ l.take i := by
  have e : l.getD i (-1) = l[i] := by rw [List.getD_eq_getElem?_getD, List.getElem?_eq_getElem hi]; rfl
  rw [e]
  constructor
  · rintro ⟨j, hj, h⟩
    rw [List.getD_eq_getElem?_getD, List.getElem?_eq_getElem (by omega), Option.getD_some] at h
    rw [← h]
    exact List.mem_take_iff_getElem.2 ⟨j, by omega, rfl⟩
  · intro h
    obtain ⟨j, hj, h⟩ := List.mem_take_iff_getElem.1 h
    refine ⟨j, by omega, ?_⟩
    rw [List.getD_eq_getElem?_getD, List.getElem?_eq_getElem (by omega), Option.getD_some]
    exact h
structure MdA where
  gb : Nat
  gi : Nat
  n0 : Nat
  mb : Nat
  bus : List Int
  isl : List Int
  nb : Nat
  Af : Option Addr
  cf : Nat
  At : Option Addr
  ct : Nat
  Ab : Option Addr
  cb : Nat
  Ac : Option Addr
  cc : Nat
  F : List Int
  T : List Int
  LB : List (Rat × Rt)
  LC : List (Rat × Rt)
  Ar : Option Addr
  cr : Nat
  nf : Nat
  R : List Int
def MdA.cells (X : MdA) (vI : Value) : Array Value := #[.slice (some ⟨X.gb, 0, none⟩) X.n0 X.n0, .slice (some ⟨X.gi, 0, none⟩) X.mb X.mb, .slice X.Af X.nb X.cf, .slice X.At X.nb X.ct, .slice X.Ab X.nb X.cb, .slice X.Ac X.nb X.cc, .slice X.Ar X.nf X.cr, vI]
structure ModAt (w : World) (p : Nat) (X : MdA) (vI : Value) : Prop where
  blk : Blk w p 177 (X.cells vI)
  bus : Reads w w.heap.size 1 (some ⟨X.gb, 0, none⟩) X.n0 (ints X.bus)
  isl : Reads w w.heap.size 1 (some ⟨X.gi, 0, none⟩) X.mb (ints X.isl)
  f : Reads w w.heap.size 1 X.Af X.nb (ints X.F)
  t : Reads w w.heap.size 1 X.At X.nb (ints X.T)
  b : RatsIs w w.heap.size X.Ab X.nb X.LB
  c : RatsIs w w.heap.size X.Ac X.nb X.LC
  r : Reads w w.heap.size 1 X.Ar X.nf (ints X.R)
theorem ModAt.go {w w' : World} {p : Nat} {X : MdA} {vI : Value} (h : ModAt w p X vI) (hb : Below w.heap.size w w') : ModAt w' p X vI :=
  ⟨h.blk.go hb, h.bus.go hb, h.isl.go hb, h.f.go hb, h.t.go hb, h.b.go hb, h.c.go hb, h.r.go hb⟩
structure OfJ (wC wx : World) (p bm nn base : Nat) (cs : Array Value) (FR seen : List Int) (vR : Value) : Prop where
  blk : Blk wx p 177 cs
  nou : noU32 cs
  r : OQ wx base 3 1 vR FR.length (ints FR)
  map : ISeen wx bm nn seen
  grown : wC.grownBy wx (some p)
  lb : wC.heap.size ≤ bm
  lm : bm < base
  ls : base ≤ wx.heap.size
theorem OfJ.go {wC wx wy : World} {p bm nn base : Nat} {cs : Array Value} {FR seen : List Int} {vR : Value} (h : OfJ wC wx p bm nn base cs FR seen vR) (hb : Below wx.heap.size wx wy) : OfJ wC wy p bm nn base cs FR seen vR :=
  ⟨h.blk.go hb, h.nou, h.r.go hb, h.map.go hb, grown_more h.grown (g := none) ⟨hb.os, hb.tape, hb.output, hb.size, fun i hi _ => hb.block i hi⟩ (fun b e => by cases e), h.lb, h.lm, Nat.le_trans h.ls hb.size⟩
theorem OfJ.push {wC wx : World} {p bm nn base : Nat} {cs : Array Value} {FR seen : List Int} {vR : Value} (h : OfJ wC wx p bm nn base cs FR seen vR) (hp : p < wC.heap.size) (z : Int) {gx : Nat} {tx : TypeId} (hx : Blk wx gx tx #[.int .i64 z]) (hl : FR.length ≤ 1000) :
    ∃ A c w', (∀ ty, (Builtin.append_ #[57, 57] ty #[vR, .slice (some ⟨gx, 0, none⟩) 1 1]).run Tryz.prog wx = .ok (.slice A (FR ++ [z]).length c) w') ∧ Blk w' p 177 cs ∧ OfJ wC (w'.setCell ⟨p, 6, none⟩ (.slice A (FR ++ [z]).length c)) p bm nn base (cs.setIfInBounds 6 (.slice A (FR ++ [z]).length c)) (FR ++ [z]) seen (.slice A (FR ++ [z]).length c) := by
  obtain ⟨v', w', h1, h2, h3, h4⟩ := h.r.pushI z hx hl h.ls
  obtain ⟨A, c, rfl, _⟩ := h2.slice
  have hb := h3.blk _ _ _ (h.r.off h.blk (by decide)) h.blk
  have hc := Chg.set hb h.nou 6 (.slice A (FR ++ [z]).length c)
  refine ⟨A, c, w', h1, hb, hb.set_ 6 _, noU32_set h.nou 6 (fun k e => by cases e), h2.chg hc (h2.ne hb (by decide)), ?_, ?_, h.lb, h.lm, ?_⟩
  · refine (h.map.kept h3.grown (fun e => ?_)).kept hc.grown (fun e => ?_)
    · have := (h.r.own e.symm).1
      have := h.lm
      omega
    · have := h.lb
      have := Option.some.inj e
      omega
  · refine grown_more (grown_more h.grown h3.grown (fun b hb => .inl ?_)) hc.grown (fun b hb => .inr (Option.some.inj hb).symm)
    have := (h.r.own hb).1
    have := h.lb
    have := h.lm
    omega
  · exact Nat.le_trans (Nat.le_trans h.ls h3.size) hc.size
theorem OfJ.mark {wC wx : World} {p bm nn base : Nat} {cs : Array Value} {FR seen : List Int} {vR : Value} (h : OfJ wC wx p bm nn base cs FR seen vR) (hp : p < wC.heap.size) (hn : nn ≤ 1000) (z : Int) (h0 : -9223372036854775808 ≤ z) (h1 : z ≤ 9223372036854775807) :
    ∃ w', (Instr.mapUpdate 195 (.map (some bm)) (.int .i64 z) (.bool true)).run Tryz.prog wx = .ok () w' ∧ OfJ wC w' p bm (nn + 1) base cs FR (z :: seen) vR := by
  obtain ⟨w', h2, h3, h4⟩ := h.map.put (by unfold maxLen; omega) z h0 h1
  refine ⟨w', h2, h.blk.grown h4 (fun e => ?_), h.nou, ?_, h3, grown_more h.grown h4 (fun b hb => .inl (by have := h.lb; have := Option.some.inj hb; omega)), h.lb, h.lm, Nat.le_trans h.ls h4.size⟩
  · have := h.lb
    have := Option.some.inj e
    omega
  · refine h.r.grown h4 (fun b hb e => ?_)
    have := (h.r.own hb).1
    have := h.lm
    have := Option.some.inj e
    omega
end Go.Proofs.YtoblpcljhblnmaaGreatDoor
