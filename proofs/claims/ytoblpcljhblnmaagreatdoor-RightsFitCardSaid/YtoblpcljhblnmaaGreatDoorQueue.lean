/- A queue of integers: a slice anywhere in a block of the call's own, cut at its front and appended to. No condition. -/
import Derived.Test.YtoblpcljhblnmaaGreatDoorBase
import Derived.Test.YtoblpcljhblnmaaGreatDoorQuiet
import Derived.Test.YtoblpcljhblnmaaGreatDoorSrt
namespace Go.Proofs.YtoblpcljhblnmaaGreatDoor
open Go.RowKit
theorem addr_at (g o j : Nat) : (⟨g, o, none⟩ : Addr).add j = ⟨g, o + j, none⟩ := by unfold Addr.add; split <;> simp_all
def QIn (w : World) (g : Nat) (v : Value) (q : List Int) : Prop :=
  ∃ (o cap : Nat) (cur : Array Value), v = .slice (some ⟨g, o, none⟩) q.length cap ∧ Blk w g 3 cur ∧ o + cap ≤ cur.size ∧ q.length ≤ cap ∧ cap ≤ maxLen ∧ (cur.toList.drop o).take q.length = ints q
theorem QIn.cell {w : World} {g : Nat} {o cap n : Nat} {q : List Int} (h : QIn w g (.slice (some ⟨g, o, none⟩) n cap) q) {k : Nat} (hk : k < q.length) : w.cell? ⟨g, o + k, none⟩ = some (.int .i64 (q.getD k 0)) := by
  obtain ⟨o', cap', cur, hv, hb, h1, h2, _, h3⟩ := h
  injection hv with e1 e2 e3
  injection e1 with e1
  injection e1 with _ e1
  subst e1
  rw [hb.cell]
  have h4 : (ints q)[k]? = some (.int .i64 (q.getD k 0)) := by unfold ints; simp [List.getD_eq_getElem?_getD, hk]
  rw [← h3, List.getElem?_take_of_lt hk, List.getElem?_drop] at h4
  rw [← Array.getElem?_toList]
  exact h4
theorem QIn.go {w w' : World} {g : Nat} {v : Value} {q : List Int} (h : QIn w g v q) (hb : Below w.heap.size w w') : QIn w' g v q := by
  obtain ⟨o, cap, cur, hv, hbl, r⟩ := h
  exact ⟨o, cap, cur, hv, hbl.go hb, r⟩
theorem QIn.far {w : World} {g : Nat} {v : Value} {q : List Int} (h : QIn w g v q) {p : Addr} (hp : g ≠ p.block) (u : Value) : QIn (w.setCell p u) g v q := by
  obtain ⟨o, cap, cur, hv, hbl, r⟩ := h
  exact ⟨o, cap, cur, hv, hbl.far hp u, r⟩
theorem QIn.lt {w : World} {g : Nat} {v : Value} {q : List Int} (h : QIn w g v q) : g < w.heap.size := by
  obtain ⟨o, cap, cur, hv, hbl, r⟩ := h
  exact hbl.lt
theorem QIn.new_ (w : World) (x : Int) (g : Nat) (hg : g = w.heap.size) : QIn (w.alloc (.cells #[.int .i64 x] 3)) g (.slice (some ⟨g, 0, none⟩) 1 1) [x] :=
  ⟨0, 1, _, rfl, Blk.new_ w g _ _ hg, by simp, by simp, by unfold maxLen; omega, by simp [ints]⟩
theorem QIn.pop {w : World} {g : Nat} {v : Value} {x : Int} {q : List Int} (h : QIn w g v (x :: q)) : ∃ o cap, v = .slice (some ⟨g, o, none⟩) (q.length + 1) cap ∧
    ∃ v', (∀ W, (Instr.slice 57 v (some (.int .i64 1)) none none).run Tryz.prog W = .ok v' W) ∧ QIn w g v' q := by
  obtain ⟨o, cap, cur, hv, hb, h1, h2, h4, h3⟩ := h
  simp only [List.length_cons] at hv h2 h3
  refine ⟨o, cap, hv, .slice (if cap = 1 then some ⟨g, o, none⟩ else some ⟨g, o + 1, none⟩) q.length (cap - 1), fun W => ?_, ?_⟩
  · rw [hv, run_slice_l W 57 (some ⟨g, o, none⟩) (q.length + 1) cap elem_ints .i64 1 (by omega) (by omega), size_ints]
    simp [sliced, Result.andThen, Addr.add]
  · have h5 : (cur.toList.drop (o + 1)).take q.length = ints q := by
      have := congrArg (List.drop 1) h3
      rw [List.drop_take, List.drop_drop] at this
      simpa [ints, Nat.add_comm] using this
    by_cases hc : cap = 1
    · rw [if_pos hc]
      have hq : q = [] := List.eq_nil_of_length_eq_zero (by omega)
      subst hq
      exact ⟨o, cap - 1, cur, rfl, hb, by omega, by simp, by omega, by simp [ints]⟩
    · rw [if_neg hc]
      exact ⟨o + 1, cap - 1, cur, rfl, hb, by omega, by omega, by omega, h5⟩
theorem QIn.len {w : World} {g : Nat} {v : Value} {q : List Int} (h : QIn w g v q) : ∀ (ty : TypeId) (W : World), (Builtin.len_ #[57] ty #[v]).run Tryz.prog W = .ok (.int .i64 q.length) W := by
  obtain ⟨o, cap, cur, rfl, _⟩ := h
  intro ty W
  go_simp
theorem QIn.front {w : World} {g : Nat} {v : Value} {x : Int} {q : List Int} (h : QIn w g v (x :: q)) : ∃ o v',
    (∀ W, (Instr.indexAt 57 v (.int .i64 0)).run Tryz.prog W = .ok (.pointer (some ⟨g, o, none⟩)) W) ∧ w.cell? ⟨g, o, none⟩ = some (.int .i64 x) ∧
    (∀ W, (Instr.slice 57 v (some (.int .i64 1)) none none).run Tryz.prog W = .ok v' W) ∧ QIn w g v' q := by
  obtain ⟨o, cap, rfl, v', h1, h2⟩ := h.pop
  have c := h.cell (k := 0) (by simp)
  simp only [List.getD_cons_zero, Nat.add_zero] at c
  have h0 : (0 : Int) < ((q.length + 1 : Nat) : Int) := by omega
  refine ⟨o, v', fun W => ?_, c, h1, h2⟩
  go_simp
theorem QIn.push {w : World} {g : Nat} {v : Value} {q : List Int} (h : QIn w g v q) (x : Int) (gx : Nat) (hx : w.cell? ⟨gx, 0, none⟩ = some (.int .i64 x)) (hq : q.length ≤ 1000000) :
    ∃ v' g' w', (∀ ty, (Builtin.append_ #[57, 57] ty #[v, .slice (some ⟨gx, 0, none⟩) 1 1]).run Tryz.prog w = .ok v' w') ∧ QIn w' g' v' (q ++ [x]) ∧ w.grownBy w' (some g) ∧ (g' = g ∨ g' = w.heap.size) := by
  obtain ⟨o, cap, cur, rfl, hb, h1, h2, h4, h3⟩ := h
  obtain ⟨i, hi, hz, hs, hby⟩ := info_parts info_int
  have hnews : ∀ j u, [Value.int .i64 x][j]? = some u → w.cell? ((⟨gx, 0, none⟩ : Addr).add j) = some u := by
    intro j u hj
    match j, hj with
    | 0, hj => simp at hj; subst hj; simpa [Addr.add] using hx
  by_cases hroom : q.length + 1 ≤ cap
  · have hf := run_firstCells_some (P := Tryz.prog) w i.size 1 ⟨gx, 0, none⟩ 1 1 [.int .i64 x] (by rw [hs]; rfl) hnews
    have hst := run_storeCells_at Tryz.prog g (o + q.length) 3 [.int .i64 x] 0 cur w hb (by simp; omega) (by simp [Value.oneCell'])
    simp only [Nat.add_zero] at hst
    rw [hs] at hf
    refine ⟨.slice (some ⟨g, o, none⟩) (q.length + 1) cap, g, w.setRow g (cur.toList.take (o + q.length) ++ [Value.int .i64 x] ++ cur.toList.drop (o + q.length + [Value.int .i64 x].length)).toArray, fun ty => ?_, ?_, ⟨rfl, rfl, rfl, by simp [World.setRow], fun k _ hk => setRow_other w g k _ (fun e => hk (by rw [e]))⟩, .inl rfl⟩
    · have ha := addr_at g o q.length
      simp [Builtin.append_, run_underlying Tryz.underlying57, sizeOf, typeInfo, hi, Builtin.lenOf, hroom, hf, hs, ha, hst]
    · have hcl : o + q.length < cur.toList.length := by simp; omega
      refine ⟨o, cap, _, by simp, setRow_heap w g cur _ _ _ hb, ?_, by simp; omega, h4, ?_⟩
      · simp only [List.size_toArray, List.length_append, List.length_take, List.length_drop, List.length_cons, List.length_nil, Array.length_toList]
        simp at hcl
        omega
      · simp only [List.length_append, List.length_cons, List.length_nil]
        rw [List.append_assoc, List.drop_append_of_le_length (by simp; simp at hcl; omega), List.drop_take]
        rw [show o + q.length - o = q.length by omega, h3]
        have hil : (ints q).length = q.length := by simp [ints]
        rw [List.take_append, hil, List.take_of_length_le (by omega), show q.length + (0 + 1) - q.length = 1 by omega]
        simp [ints]
  · have holds : ∀ j u, (ints q)[j]? = some u → w.cell? ((⟨g, o, none⟩ : Addr).add j) = some u := by
      intro j u hu
      rw [addr_at, hb.cell, ← Array.getElem?_toList]
      rw [← h3] at hu
      have hj : j < q.length := by
        have := (List.getElem?_eq_some_iff.1 hu).1
        simp at this
        omega
      rw [List.getElem?_take_of_lt hj, List.getElem?_drop] at hu
      exact hu
    have hge := grownCap_ge w (q.length + 1) cap 3
    have hcm : grownCap w (q.length + 1) cap 3 ≤ maxLen := grownCap_le_maxLen w (q.length + 1) cap 3 (by unfold maxLen; omega)
    refine ⟨.slice (some ⟨w.heap.size, 0, none⟩) (q.length + 1) (grownCap w (q.length + 1) cap 3), w.heap.size, w.drew.alloc (.cells ((ints q).toArray ++ [Value.int .i64 x].toArray ++ Builtin.zeroCells (Value.int .i64 0).cells (grownCap w (q.length + 1) cap 3 - (q.length + 1))) 3), fun ty => ?_, ?_, ⟨rfl, rfl, rfl, by simp, fun k hk _ => heap_alloc_old w.drew _ hk⟩, .inr rfl⟩
    · exact (run_append_grow (P := Tryz.prog) w 57 ty 3 i _ Tryz.underlying57 hi hz ⟨g, o, none⟩ q.length cap (ints q) (by rw [hs]; simp [ints]) holds ⟨gx, 0, none⟩ 1 1 [.int .i64 x] (by rw [hs]; rfl) hnews (by omega) (by omega) (by rw [hby]; exact growslice_fits (by omega) (by omega)))
    · refine ⟨0, _, _, by simp, heap_alloc_new w.drew _, ?_, by simpa using hge, hcm, ?_⟩
      · simp only [Array.size_append, List.size_toArray, size_zeroCells, Nat.zero_add]
        simp [ints, Value.cells]
        omega
      · simp only [List.drop_zero, List.length_append, List.length_cons, List.length_nil, Array.toList_append]
        rw [List.take_append_of_le_length (by simp [ints])]
        simp [ints, List.take_of_length_le]
theorem wpList_append_run {P : Program} {ops : Array Oper} {rest : List Oper} {o : Oper} {a : Act} {Q : Exit → Act → World → Prop} {w w' : World} (hg : o.guard = none) (s x : Operand) (t : TypeId)
    (hop : o.op = Op.call { callee := Callee.builtin Builtin.append, args := #[s, x], argTypes := #[t, t] }) (v y v' : Value) (hs : a.eval s = v) (hx : a.eval x = y)
    (hr : ∀ ty, (Builtin.append_ #[t, t] ty #[v, y]).run P w = .ok v' w') (h : wpList P ops Q rest (a.put o.dst v') w') : wpList P ops Q (o :: rest) a w := by
  refine wpList_plain hg fun K hK' => ?_
  unfold Oper.wp
  simp [execOp, hop, resolve, invoke, builtin, hs, hx, hr, Result.andThen]
  exact hK' _ _ h
end Go.Proofs.YtoblpcljhblnmaaGreatDoor
