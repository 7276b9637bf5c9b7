/- A relay's step in memory; its flags and inputs: relay's step.flag, step.input. Condition: the program reads. A queue of integers: a slice anywhere in a block of the call's own, cut at its front and appended to. No condition. A frame with a set of blocks that may turn. No condition. A queue of a relay's places: a slice anywhere in a block of the call's own, cut at its front and appended to. No condition. -/
import Derived.Test.YtpamgeemmbbkkaaBlk06
import Derived.Test.YtpamgeemmbbkkaaShTxt
import Derived.Test.YtpamgeemmbbkkaaBlk03
import Derived.Test.YtpamgeemmbbkkaaBlk07
import Derived.Test.YtpamgeemmbbkkaaBlk02
import Derived.Test.YtpamgeemmbbkkaaBlk05
namespace Go.Proofs.Ytpamgeemmbbkkaa
open Go.RowKit
set_option maxRecDepth 100000
/-- the values of the rules -/
def Bools (w : World) (g n : Nat) (vs : List Bool) : Prop := vs.length = n ∧ Blk w g 4 (vs.map Value.bool).toArray
/-- a step's record and its relay's -/
structure StIn (w : World) (s r gv b : Nat) (A : Option Addr) (n c : Nat) (l : List MRul) (O : Value) (vs : List Bool) (ms : Int) (Af : Option Addr) (nf cf : Nat) (fs : List ByteArray) (L : Value) : Prop where
  st : Blk w s 162 #[.pointer (some ⟨r, 0, none⟩), .int .i64 ms, .slice Af nf cf, .slice none 0 0, L]
  rel : Blk w r 153 #[.slice A n c, O, .slice (some ⟨gv, 0, none⟩) n n, .map (some b)]
  val : Bools w gv n vs
  fl : Reads w w.heap.size 1 Af nf (txts fs)
  rules : Ruls w w.heap.size A n l
  small : n ≤ 1000 ∧ nf ≤ 1000
theorem Bools.go {w w' : World} {g n : Nat} {vs : List Bool} (h : Bools w g n vs) (hb : Below w.heap.size w w') : Bools w' g n vs := ⟨h.1, h.2.go hb⟩
theorem StIn.go {w w' : World} {s r gv b : Nat} {A : Option Addr} {n c : Nat} {l : List MRul} {O : Value} {vs : List Bool} {ms : Int} {Af : Option Addr} {nf cf : Nat} {fs : List ByteArray} {L : Value} (h : StIn w s r gv b A n c l O vs ms Af nf cf fs L) (hb : Below w.heap.size w w') : StIn w' s r gv b A n c l O vs ms Af nf cf fs L :=
  ⟨h.st.go hb, h.rel.go hb, h.val.go hb, h.fl.go hb, h.rules.go hb, h.small⟩
theorem input_any (s : Nat) (nm : ByteArray) (x0 x1 x2 x4 : Value) (w : World) (h : Blk w s 162 #[x0, x1, x2, .slice none 0 0, x4]) :
    Calls Try.prog 96 #[.pointer (some ⟨s, 0, none⟩), .string nm] w fun e w' => e = .returned (.int .i64 0) ∧ w' = w := by
  have q3 := h.cell 3
  have hs := h.lt
  go_enter Try.func96, Try.ntmps96
  go_wp2_with fail
  go_loopw [12] (fun i wr => i = .int .i64 0 ∧ wr = w) (fun _ _ => 0)
  case atStart => exact ⟨rfl, rfl⟩
  case round =>
    obtain ⟨rfl, rfl⟩ := hrel
    go_wp2_with fail
    go_ret
    exact ⟨rfl, rfl⟩
theorem enters_flag1 : ∀ args w, Sem.run Try.prog (callFunc 105 args) w = .ok (.enter 105 args) w := by intro args w; go_simp
theorem flag1_any (nm : ByteArray) (bo : Nat) (x : MRul) (w : World) (hc : w.cell? ⟨bo, 0, none⟩ = some (.string nm)) :
    Calls Try.prog 105 #[.agg #[.string x.nm, .slice x.A x.n x.c], .pointer (some ⟨bo, 0, none⟩)] w fun e w' => e = .returned (.bool (x.nm.toList == nm.toList)) ∧ Below w.heap.size w w' := by
  have HX : Hid (∃ nn : ByteArray, nn = x.nm) := ⟨_, rfl⟩
  obtain ⟨nn, hnn⟩ := HX.out
  rw [← hnn]
  clear hnn HX
  have lt := cell_lt hc
  go_enter Try.func105, Try.ntmps105
  go_wp2_with fail
  all_goals
    go_ret
    exact ⟨rfl, (Below.refl _ _).alloc (Nat.le_refl _) _⟩
/-- whether a flag stands -/
def Pl.flP (l : List Pl.RRule) (vs : List Bool) (fs : List ByteArray) (nm : ByteArray) : Bool := if 0 ≤ Pl.ruleI l nm then vs.getD (Pl.ruleI l nm).toNat false else Pl.inB fs nm
theorem bools_at {w : World} {g n : Nat} {vs : List Bool} (h : Bools w g n vs) {i : Nat} (hi : i < n) : w.cell? ⟨g, i, none⟩ = some (.bool (vs.getD i false)) := by
  rw [h.2.cell i]
  have : i < vs.length := by rw [h.1]; exact hi
  simp [List.getElem?_map, List.getElem?_eq_getElem this, List.getD]
theorem ruleI_lt {l : List Pl.RRule} {nm : ByteArray} : Pl.ruleI l nm < l.length ∨ l = [] := by
  unfold Pl.ruleI Pl.idxOf
  cases e : l.findIdx? (fun z : Pl.RRule => z.name.toList == nm.toList) with
  | none => left; show (-1 : Int) < _; omega
  | some i =>
    left
    show (i : Int) < _
    have := (List.findIdx?_eq_some_iff_findIdx_eq.1 e).1
    omega
set_option maxHeartbeats 1600000 in
theorem flag_any {w : World} {s r gv b : Nat} {A : Option Addr} {n c : Nat} {l : List MRul} {O : Value} {vs : List Bool} {ms : Int} {Af : Option Addr} {nf cf : Nat} {fs : List ByteArray} {L : Value} (h : StIn w s r gv b A n c l O vs ms Af nf cf fs L) (nm : ByteArray) :
    Calls Try.prog 95 #[.pointer (some ⟨s, 0, none⟩), .string nm] w fun e w' => e = .returned (.bool (Pl.flP (prl l) vs fs nm)) ∧ Below w.heap.size w w' := by
  have d0 := (Below.refl w.heap.size w).alloc (Nat.le_refl _) (.cells #[.string nm] 9)
  have H0 := h.go d0
  have hs := h.st.lt
  have hr := h.rel.lt
  have C0 := Lib.hid (idxfn_rul 105 #[.pointer (some ⟨w.heap.size, 0, none⟩)] (fun z : MRul => z.nm.toList == nm.toList) enters_flag1 A n c l (w.alloc (.cells #[.string nm] 9)) (by have := h.small; omega) H0.rules fun x w' hb => flag1_any nm w.heap.size x w' (by
    have hc : (w.alloc (.cells #[.string nm] 9)).cell? ⟨w.heap.size, 0, none⟩ = some (.string nm) := (Blk.new_ w w.heap.size 9 #[.string nm] rfl).cell 0
    rw [hb.cell (p := ⟨w.heap.size, 0, none⟩) (cell_lt hc)]; exact hc))
  rw [ruleI_prl] at C0
  have HQ : Hid (Blk (w.alloc (.cells #[.string nm] 9)) w.heap.size 9 #[.string nm]) := Blk.new_ w w.heap.size 9 #[.string nm] rfl
  have F0 := Lib.hid d0
  have HI := Lib.hid H0
  have HLT : Hid (Pl.ruleI (prl l) nm < n) := by
    show _ < _
    have hl := h.rules.len
    rcases ruleI_lt (l := prl l) (nm := nm) with e | e
    · have e2 : (prl l).length = l.length := by simp [prl]
      rw [e2] at e; omega
    · rw [e]; show (-1 : Int) < _; omega
  have HFL : Hid (Pl.flP (prl l) vs fs nm = if 0 ≤ Pl.ruleI (prl l) nm then vs.getD (Pl.ruleI (prl l) nm).toNat false else Pl.inB fs nm) := rfl
  generalize Pl.flP (prl l) vs fs nm = RES at *
  generalize Pl.ruleI (prl l) nm = R at *
  have q0 := H0.st.cell 0
  have q2 := H0.rel.cell 0
  clear d0 h H0
  go_enter Try.func95, Try.ntmps95
  generalize HZ : (w.alloc (.cells #[.string nm] 9)) = w1 at *
  go_wp2_with fail
  refine C0.out.mono ?_
  rintro e w2 ⟨rfl, hb⟩
  have HI2 := Lib.hid (HI.out.go hb)
  have HQ2 := Lib.hid (HQ.out.go hb)
  have F2 := Lib.hid (F0.out.trans (hb.mono F0.out.size))
  clear hb q0 q2 HI C0 HZ
  have q0 := HI2.out.st.cell 0
  have q2 := HI2.out.st.cell 2
  have q3 := HI2.out.rel.cell 2
  have q4 := HQ2.out.cell 0
  have hs2 := HI2.out.st.lt
  have hr2 := HI2.out.rel.lt
  by_cases hR : 0 ≤ R
  · have e1 := HFL.out
    rw [if_pos hR] at e1
    obtain ⟨k, rfl⟩ : ∃ k : Nat, R = (k : Int) := ⟨R.toNat, by omega⟩
    have hk : k < n := by have := HLT.out; omega
    have qk := bools_at HI2.out.val hk
    rw [show ((k : Int).toNat) = k by omega] at e1
    rw [← e1] at qk
    clear e1 HFL
    have hk0 : (0 : Int) ≤ (k : Int) := by omega
    have hk1 : (k : Int) < (n : Int) := by omega
    go_wp2_with fail
    go_ret
    exact ⟨rfl, F2.out⟩
  · have e1 := HFL.out
    rw [if_neg hR] at e1
    have CC := Lib.hid (fun (w3 : World) (hb : Below w2.heap.size w2 w3) => contains_txt Af nf cf fs nm w3 w3.heap.size (by have := HI2.out.small; omega) (HI2.out.fl.go hb))
    rw [← e1] at CC
    have p0 := Wd.cell q0
    have p2 := Wd.cell q2
    have p4 := Wd.cell q4
    clear q0 q2 q3 q4
    clear e1 HFL
    have hR' : R < 0 := by omega
    go_wp2_with fail
    refine wp_region_wd (by kernel_rfl) (by kernel_rfl) ?_
    repeat (go_big_quiet_step ((go_at_call 46; exact Calls.wd_same ((CC.out _ (Wd.ok _)).mono fun e w' h => ⟨h.1, h.2.symm⟩))))
    refine wpQuiet_nil ?_
    rintro _ ⟨w6, rfl⟩
    have F6 := Lib.hid (F2.out.trans (w6.ok.mono F2.out.size))
    generalize w6.val = w7 at *
    go_wp2_with fail
    go_ret
    exact ⟨rfl, F6.out⟩
end Go.Proofs.Ytpamgeemmbbkkaa
namespace Go.Proofs.Ytpamgeemmbbkkaa
open Go.RowKit
theorem addr_at (g o j : Nat) : (⟨g, o, none⟩ : Addr).add j = ⟨g, o + j, none⟩ := by unfold Addr.add; split <;> simp_all
/-- the value v is a slice in a block g of the call's own and holds the integers q -/
def QIn (w : World) (g : Nat) (v : Value) (q : List Int) : Prop :=
  ∃ (o cap : Nat) (cur : Array Value), v = .slice (some ⟨g, o, none⟩) q.length cap ∧ Blk w g 3 cur ∧ o + cap ≤ cur.size ∧ q.length ≤ cap ∧ cap ≤ maxLen ∧ (cur.toList.drop o).take q.length = ints q
theorem QIn.cell {w : World} {g : Nat} {o cap n : Nat} {q : List Int} (h : QIn w g (.slice (some ⟨g, o, none⟩) n cap) q) {k : Nat} (hk : k < q.length) : w.cell? ⟨g, o + k, none⟩ = some (.int .i64 (q.getD k 0)) := by
  obtain ⟨o', cap', cur, hv, hb, h1, h2, _, h3⟩ := h
  injection hv with e1 e2 e3
  injection e1 with e1
  injection e1 with _ e1
  subst e1
  rw [hb.cell]
  have h4 : (ints q)[k]? = some (.int .i64 (q.getD k 0)) := by unfold ints; simp [List.getD_eq_getElem?_getD, hk]
  rw [← h3, List.getElem?_take_of_lt hk, List.getElem?_drop] at h4
  rw [← Array.getElem?_toList]
  exact h4
theorem QIn.grown {w w' : World} {g : Nat} {v : Value} {q : List Int} {row : Option Nat} (h : QIn w g v q) (hg : w.grownBy w' row) (hne : some g ≠ row) : QIn w' g v q := by
  obtain ⟨o, cap, cur, hv, hb, r⟩ := h
  exact ⟨o, cap, cur, hv, hb.grown hg hne, r⟩
theorem QIn.go {w w' : World} {g : Nat} {v : Value} {q : List Int} (h : QIn w g v q) (hb : Below w.heap.size w w') : QIn w' g v q := by
  obtain ⟨o, cap, cur, hv, hbl, r⟩ := h
  exact ⟨o, cap, cur, hv, hbl.go hb, r⟩
theorem QIn.far {w : World} {g : Nat} {v : Value} {q : List Int} (h : QIn w g v q) {p : Addr} (hp : g ≠ p.block) (u : Value) : QIn (w.setCell p u) g v q := by
  obtain ⟨o, cap, cur, hv, hbl, r⟩ := h
  exact ⟨o, cap, cur, hv, hbl.far hp u, r⟩
theorem QIn.drew {w : World} {g : Nat} {v : Value} {q : List Int} (h : QIn w g v q) : QIn w.drew g v q := h
theorem QIn.lt {w : World} {g : Nat} {v : Value} {q : List Int} (h : QIn w g v q) : g < w.heap.size := by
  obtain ⟨o, cap, cur, hv, hbl, r⟩ := h
  exact hbl.lt
theorem QIn.new_ (w : World) (x : Int) (g : Nat) (hg : g = w.heap.size) : QIn (w.alloc (.cells #[.int .i64 x] 3)) g (.slice (some ⟨g, 0, none⟩) 1 1) [x] :=
  ⟨0, 1, _, rfl, Blk.new_ w g _ _ hg, by simp, by simp, by unfold maxLen; omega, by simp [ints]⟩
/-- 'q[1:]' -/
theorem QIn.pop {w : World} {g : Nat} {v : Value} {x : Int} {q : List Int} (h : QIn w g v (x :: q)) : ∃ o cap, v = .slice (some ⟨g, o, none⟩) (q.length + 1) cap ∧
    ∃ v', (∀ W, (Instr.slice 45 v (some (.int .i64 1)) none none).run Try.prog W = .ok v' W) ∧ QIn w g v' q := by
  obtain ⟨o, cap, cur, hv, hb, h1, h2, h4, h3⟩ := h
  simp only [List.length_cons] at hv h2 h3
  refine ⟨o, cap, hv, .slice (if cap = 1 then some ⟨g, o, none⟩ else some ⟨g, o + 1, none⟩) q.length (cap - 1), fun W => ?_, ?_⟩
  · rw [hv, run_slice_l W 45 (some ⟨g, o, none⟩) (q.length + 1) cap elem_ints .i64 1 (by omega) (by omega), size_ints]
    simp [sliced, Result.andThen, Addr.add]
  · have h5 : (cur.toList.drop (o + 1)).take q.length = ints q := by
      have := congrArg (List.drop 1) h3
      rw [List.drop_take, List.drop_drop] at this
      simpa [ints, Nat.add_comm] using this
    by_cases hc : cap = 1
    · rw [if_pos hc]
      have hq : q = [] := List.eq_nil_of_length_eq_zero (by omega)
      subst hq
      exact ⟨o, cap - 1, cur, rfl, hb, by omega, by simp, by omega, by simp [ints]⟩
    · rw [if_neg hc]
      exact ⟨o + 1, cap - 1, cur, rfl, hb, by omega, by omega, by omega, h5⟩
theorem QIn.len {w : World} {g : Nat} {v : Value} {q : List Int} (h : QIn w g v q) : ∀ (ty : TypeId) (W : World), (Builtin.len_ #[45] ty #[v]).run Try.prog W = .ok (.int .i64 q.length) W := by
  obtain ⟨o, cap, cur, rfl, _⟩ := h
  intro ty W
  go_simp
/-- the first one: where it lies, and the rest -/
theorem QIn.front {w : World} {g : Nat} {v : Value} {x : Int} {q : List Int} (h : QIn w g v (x :: q)) : ∃ o v',
    (∀ W, (Instr.indexAt 45 v (.int .i64 0)).run Try.prog W = .ok (.pointer (some ⟨g, o, none⟩)) W) ∧ w.cell? ⟨g, o, none⟩ = some (.int .i64 x) ∧
    (∀ W, (Instr.slice 45 v (some (.int .i64 1)) none none).run Try.prog W = .ok v' W) ∧ QIn w g v' q := by
  obtain ⟨o, cap, rfl, v', h1, h2⟩ := h.pop
  have c := h.cell (k := 0) (by simp)
  simp only [List.getD_cons_zero, Nat.add_zero] at c
  have h0 : (0 : Int) < ((q.length + 1 : Nat) : Int) := by omega
  refine ⟨o, v', fun W => ?_, c, h1, h2⟩
  go_simp
/-- 'append(q, x)': x lies in a block of its own -/
theorem QIn.push {w : World} {g : Nat} {v : Value} {q : List Int} (h : QIn w g v q) (x : Int) (gx : Nat) (hx : w.cell? ⟨gx, 0, none⟩ = some (.int .i64 x)) (hq : q.length ≤ 1000000) :
    ∃ v' g' w', (∀ ty, (Builtin.append_ #[45, 45] ty #[v, .slice (some ⟨gx, 0, none⟩) 1 1]).run Try.prog w = .ok v' w') ∧ QIn w' g' v' (q ++ [x]) ∧ w.grownBy w' (some g) ∧ (g' = g ∨ g' = w.heap.size) := by
  obtain ⟨o, cap, cur, rfl, hb, h1, h2, h4, h3⟩ := h
  obtain ⟨i, hi, hz, hs, hby⟩ := info_parts info_int
  have hnews : ∀ j u, [Value.int .i64 x][j]? = some u → w.cell? ((⟨gx, 0, none⟩ : Addr).add j) = some u := by
    intro j u hj
    match j, hj with
    | 0, hj => simp at hj; subst hj; simpa [Addr.add] using hx
  by_cases hroom : q.length + 1 ≤ cap
  · have hf := run_firstCells_some (P := Try.prog) w i.size 1 ⟨gx, 0, none⟩ 1 1 [.int .i64 x] (by rw [hs]; rfl) hnews
    have hst := run_storeCells_at Try.prog g (o + q.length) 3 [.int .i64 x] 0 cur w hb (by simp; omega) (by simp [Value.oneCell'])
    simp only [Nat.add_zero] at hst
    rw [hs] at hf
    refine ⟨.slice (some ⟨g, o, none⟩) (q.length + 1) cap, g, w.setRow g (cur.toList.take (o + q.length) ++ [Value.int .i64 x] ++ cur.toList.drop (o + q.length + [Value.int .i64 x].length)).toArray, fun ty => ?_, ?_, ⟨rfl, rfl, rfl, by simp [World.setRow], fun k _ hk => setRow_other w g k _ (fun e => hk (by rw [e]))⟩, .inl rfl⟩
    · have ha := addr_at g o q.length
      simp [Builtin.append_, run_underlying Try.underlying45, sizeOf, typeInfo, hi, Builtin.lenOf, hroom, hf, hs, ha, hst]
    · have hcl : o + q.length < cur.toList.length := by simp; omega
      refine ⟨o, cap, _, by simp, setRow_heap w g cur _ _ _ hb, ?_, by simp; omega, h4, ?_⟩
      · simp only [List.size_toArray, List.length_append, List.length_take, List.length_drop, List.length_cons, List.length_nil, Array.length_toList]
        simp at hcl
        omega
      · simp only [List.length_append, List.length_cons, List.length_nil]
        rw [List.append_assoc, List.drop_append_of_le_length (by simp; simp at hcl; omega), List.drop_take]
        rw [show o + q.length - o = q.length by omega, h3]
        have hil : (ints q).length = q.length := by simp [ints]
        rw [List.take_append, hil, List.take_of_length_le (by omega), show q.length + (0 + 1) - q.length = 1 by omega]
        simp [ints]
  · have holds : ∀ j u, (ints q)[j]? = some u → w.cell? ((⟨g, o, none⟩ : Addr).add j) = some u := by
      intro j u hu
      rw [addr_at, hb.cell, ← Array.getElem?_toList]
      rw [← h3] at hu
      have hj : j < q.length := by
        have := (List.getElem?_eq_some_iff.1 hu).1
        simp at this
        omega
      rw [List.getElem?_take_of_lt hj, List.getElem?_drop] at hu
      exact hu
    have hge := grownCap_ge w (q.length + 1) cap 3
    have hcm : grownCap w (q.length + 1) cap 3 ≤ maxLen := grownCap_le_maxLen w (q.length + 1) cap 3 (by unfold maxLen; omega)
    refine ⟨.slice (some ⟨w.heap.size, 0, none⟩) (q.length + 1) (grownCap w (q.length + 1) cap 3), w.heap.size, w.drew.alloc (.cells ((ints q).toArray ++ [Value.int .i64 x].toArray ++ Builtin.zeroCells (Value.int .i64 0).cells (grownCap w (q.length + 1) cap 3 - (q.length + 1))) 3), fun ty => ?_, ?_, ⟨rfl, rfl, rfl, by simp, fun k hk _ => heap_alloc_old w.drew _ hk⟩, .inr rfl⟩
    · exact (run_append_grow (P := Try.prog) w 45 ty 3 i _ Try.underlying45 hi hz ⟨g, o, none⟩ q.length cap (ints q) (by rw [hs]; simp [ints]) holds ⟨gx, 0, none⟩ 1 1 [.int .i64 x] (by rw [hs]; rfl) hnews (by omega) (by omega) (by rw [hby]; exact growslice_fits (by omega) (by omega)))
    · refine ⟨0, _, _, by simp, heap_alloc_new w.drew _, ?_, by simpa using hge, hcm, ?_⟩
      · simp only [Array.size_append, List.size_toArray, size_zeroCells, Nat.zero_add]
        simp [ints, Value.cells]
        omega
      · simp only [List.drop_zero, List.length_append, List.length_cons, List.length_nil, Array.toList_append]
        rw [List.take_append_of_le_length (by simp [ints])]
        simp [ints, List.take_of_length_le]
/-- an append whose run is known, in a walk -/
theorem wpList_append_run {P : Program} {ops : Array Oper} {rest : List Oper} {o : Oper} {a : Act} {Q : Exit → Act → World → Prop} {w w' : World} (hg : o.guard = none) (s x : Operand) (t : TypeId)
    (hop : o.op = Op.call { callee := Callee.builtin Builtin.append, args := #[s, x], argTypes := #[t, t] }) (v y v' : Value) (hs : a.eval s = v) (hx : a.eval x = y)
    (hr : ∀ ty, (Builtin.append_ #[t, t] ty #[v, y]).run P w = .ok v' w') (h : wpList P ops Q rest (a.put o.dst v') w') : wpList P ops Q (o :: rest) a w := by
  refine wpList_plain hg fun K hK' => ?_
  unfold Oper.wp
  simp [execOp, hop, resolve, invoke, builtin, hs, hx, hr, Result.andThen]
  exact hK' _ _ h
end Go.Proofs.Ytpamgeemmbbkkaa
namespace Go.Proofs.Ytpamgeemmbbkkaa
open Go.RowKit
/-- w' is w, but for the blocks of S and for new ones -/
structure Fr (S : Nat → Prop) (w w' : World) : Prop where
  os : w'.os = w.os
  tape : w'.tape = w.tape
  output : w'.output = w.output
  size : w.heap.size ≤ w'.heap.size
  block : ∀ i, i < w.heap.size → ¬ S i → w'.heap[i]? = w.heap[i]?
theorem Fr.refl (S : Nat → Prop) (w : World) : Fr S w w := ⟨rfl, rfl, rfl, Nat.le_refl _, fun _ _ _ => rfl⟩
theorem Fr.trans {S T : Nat → Prop} {a b c : World} (h : Fr S a b) (k : Fr T b c) (hT : ∀ i, i < a.heap.size → T i → S i) : Fr S a c :=
  ⟨k.os.trans h.os, k.tape.trans h.tape, k.output.trans h.output, Nat.le_trans h.size k.size, fun i hi hs => (k.block i (Nat.lt_of_lt_of_le hi h.size) (fun ht => hs (hT i hi ht))).trans (h.block i hi hs)⟩
theorem Fr.mono {S T : Nat → Prop} {w w' : World} (h : Fr S w w') (hT : ∀ i, i < w.heap.size → S i → T i) : Fr T w w' :=
  ⟨h.os, h.tape, h.output, h.size, fun i hi ht => h.block i hi (fun hs => ht (hT i hi hs))⟩
theorem Fr.of_below {S : Nat → Prop} {w w' : World} (h : Below w.heap.size w w') : Fr S w w' := ⟨h.os, h.tape, h.output, h.size, fun i hi _ => h.block i hi⟩
theorem Fr.of_grown {S : Nat → Prop} {w w' : World} {b : Nat} (h : w.grownBy w' (some b)) (hb : S b) : Fr S w w' :=
  ⟨h.os, h.tape, h.output, h.size, fun i hi hs => h.block i hi (fun e => hs (by cases e; exact hb))⟩
theorem Fr.to_below {S : Nat → Prop} {w w' : World} {B : Nat} (h : Fr S w w') (hS : ∀ i, S i → B ≤ i) (hB : B ≤ w.heap.size) : Below B w w' :=
  ⟨h.os, h.tape, h.output, h.size, fun i hi => h.block i (Nat.lt_of_lt_of_le hi hB) (fun hs => by have := hS i hs; omega)⟩
theorem Fr.alloc {S : Nat → Prop} {w w' : World} (h : Fr S w w') (o : Obj) : Fr S w (w'.alloc o) :=
  h.trans (T := fun _ => False) (Fr.of_below ((Below.refl _ _).alloc (Nat.le_refl _) o)) (fun _ _ h => h.elim)
theorem Fr.drew {S : Nat → Prop} {w w' : World} (h : Fr S w w') : Fr S w w'.drew := ⟨h.os, h.tape, h.output, h.size, h.block⟩
theorem Fr.set_ {S : Nat → Prop} {w w' : World} (h : Fr S w w') (p : Addr) (u : Value) (hp : w.heap.size ≤ p.block ∨ S p.block) : Fr S w (w'.setCell p u) :=
  h.trans (T := fun i => i = p.block) ⟨rfl, rfl, rfl, by simp, fun j _ hne => Below.heap_setCell w' p u j hne⟩ (fun i hi e => by
    subst e
    rcases hp with hp | hp
    · omega
    · exact hp)
theorem Fr.blk {S : Nat → Prop} {w w' : World} (h : Fr S w w') {g : Nat} {t : TypeId} {cs : Array Value} (hg : Blk w g t cs) (hs : ¬ S g) : Blk w' g t cs := (h.block g hg.lt hs).trans hg
theorem KMap.of_block {w w' : World} {b n : Nat} {κ : Nat → Nat → Pl.Mem} (h : KMap w b n κ) (e : w'.heap[b]? = w.heap[b]?) : KMap w' b n κ := by
  obtain ⟨D, ⟨es, clock, h1, h2⟩, h3⟩ := h
  exact ⟨D, ⟨es, clock, e.trans h1, h2⟩, h3⟩
theorem KMap.fr {S : Nat → Prop} {w w' : World} {b n : Nat} {κ : Nat → Nat → Pl.Mem} (h : KMap w b n κ) (f : Fr S w w') (hs : ¬ S b) : KMap w' b n κ := h.of_block (f.block b h.lt hs)
/-- a map's block holds no cells -/
theorem KMap.ne {w : World} {b n g : Nat} {κ : Nat → Nat → Pl.Mem} {t : TypeId} {cs : Array Value} (h : KMap w b n κ) (hg : Blk w g t cs) : g ≠ b := by
  rintro rfl
  obtain ⟨D, ⟨es, clock, h1, _⟩, _⟩ := h
  have hg : w.heap[g]? = some (.cells cs t (0, 0)) := hg
  rw [h1] at hg
  cases hg
end Go.Proofs.Ytpamgeemmbbkkaa
namespace Go.Proofs.Ytpamgeemmbbkkaa
open Go.RowKit
def plcs (q : List (Nat × Nat)) : List Value := q.flatMap fun p => [Value.int .i64 (p.1 : Int), Value.int .i64 (p.2 : Int)]
theorem plcs_len (q : List (Nat × Nat)) : (plcs q).length = q.length * 2 := by
  induction q with
  | nil => rfl
  | cons p q ih => show ([_, _] ++ plcs q).length = _; simp [ih]; omega
theorem plcs_append (p q : List (Nat × Nat)) : plcs (p ++ q) = plcs p ++ plcs q := by unfold plcs; rw [List.flatMap_append]
theorem elem_plcs : Try.prog.underlying 160 = some (.slice (Try.prog.elem 160)) := by kernel_rfl
theorem size_plcs : ∀ w : World, (sizeOf (Try.prog.elem 160)).run Try.prog w = .ok 2 w := fun _ => by kernel_rfl
/-- the value v holds the places q: nothing at all, or a slice in a block from base on -/
def PQ (w : World) (base : Nat) (v : Value) (q : List (Nat × Nat)) : Prop :=
  (v = .slice none 0 0 ∧ q = []) ∨ ∃ (g o cap : Nat) (cur : Array Value), base ≤ g ∧ v = .slice (some ⟨g, o, none⟩) q.length cap ∧ Blk w g 165 cur ∧ o + cap * 2 ≤ cur.size ∧ q.length ≤ cap ∧ cap ≤ maxLen ∧ (cur.toList.drop o).take (q.length * 2) = plcs q
theorem PQ.nil (w : World) (base : Nat) : PQ w base (.slice none 0 0) [] := .inl ⟨rfl, rfl⟩
theorem PQ.fr {S : Nat → Prop} {w w' : World} {base : Nat} {v : Value} {q : List (Nat × Nat)} (h : PQ w base v q) (f : Fr S w w') (hs : ∀ g, v.ownBlock = some g → ¬ S g) : PQ w' base v q := by
  rcases h with h | ⟨g, o, cap, cur, h1, rfl, h2, r⟩
  · exact .inl h
  · exact .inr ⟨g, o, cap, cur, h1, rfl, f.blk h2 (hs g rfl), r⟩
theorem PQ.go {w w' : World} {base : Nat} {v : Value} {q : List (Nat × Nat)} (h : PQ w base v q) (hb : Below w.heap.size w w') : PQ w' base v q := h.fr (S := fun _ => False) (Fr.of_below hb) (fun _ _ h => h)
theorem PQ.len {w : World} {base : Nat} {v : Value} {q : List (Nat × Nat)} (h : PQ w base v q) : ∀ (ty : TypeId) (W : World), (Builtin.len_ #[160] ty #[v]).run Try.prog W = .ok (.int .i64 q.length) W := by
  rcases h with ⟨rfl, rfl⟩ | ⟨g, o, cap, cur, h1, rfl, h2, r⟩
  · intro ty W; go_simp
  · intro ty W; go_simp
/-- the first one, and the rest -/
theorem PQ.front {w : World} {base : Nat} {v : Value} {x : Nat × Nat} {q : List (Nat × Nat)} (h : PQ w base v (x :: q)) : ∃ g o v', base ≤ g ∧ g < w.heap.size ∧
    (∀ W, (Instr.indexAt 160 v (.int .i64 0)).run Try.prog W = .ok (.pointer (some ⟨g, o, none⟩)) W) ∧ w.cell? ⟨g, o, none⟩ = some (.int .i64 (x.1 : Int)) ∧ w.cell? ⟨g, o + 1, none⟩ = some (.int .i64 (x.2 : Int)) ∧
    (∀ W, (Instr.slice 160 v (some (.int .i64 1)) none none).run Try.prog W = .ok v' W) ∧ PQ w base v' q ∧ (∀ g', v'.ownBlock = some g' → v.ownBlock = some g') := by
  rcases h with ⟨_, h⟩ | ⟨g, o, cap, cur, h0, rfl, hb, h1, h2, h4, h3⟩
  · cases h
  simp only [List.length_cons] at h2 h3
  have hp : plcs (x :: q) = [Value.int .i64 (x.1 : Int), Value.int .i64 (x.2 : Int)] ++ plcs q := rfl
  have hcell : ∀ i, i < 2 → w.cell? ⟨g, o + i, none⟩ = [Value.int .i64 (x.1 : Int), Value.int .i64 (x.2 : Int)][i]? := by
    intro i hi
    rw [hb.cell]
    have e : ((cur.toList.drop o).take ((q.length + 1) * 2))[i]? = (plcs (x :: q))[i]? := by rw [h3]
    rw [List.getElem?_take_of_lt (by omega), List.getElem?_drop, Array.getElem?_toList, hp, List.getElem?_append_left (by simpa using hi)] at e
    exact e
  refine ⟨g, o, .slice (if cap = 1 then some ⟨g, o, none⟩ else some ⟨g, o + 2, none⟩) q.length (cap - 1), h0, hb.lt, fun W => ?_, hcell 0 (by omega), hcell 1 (by omega), fun W => ?_, .inr ?_, ?_⟩
  · have h9 : (0 : Int) < ((q.length + 1 : Nat) : Int) := by omega
    go_simp
  · rw [List.length_cons, run_slice_l W 160 (some ⟨g, o, none⟩) (q.length + 1) cap elem_plcs .i64 1 (by omega) (by omega), size_plcs]
    simp [sliced, Result.andThen, Addr.add]
  · have h5 : (cur.toList.drop (o + 2)).take (q.length * 2) = plcs q := by
      have := congrArg (List.drop 2) h3
      rw [List.drop_take, List.drop_drop, hp] at this
      rw [show (q.length + 1) * 2 - 2 = q.length * 2 by omega] at this
      simpa using this
    by_cases hc : cap = 1
    · rw [if_pos hc]
      have hq : q = [] := List.eq_nil_of_length_eq_zero (by omega)
      subst hq
      exact ⟨g, o, cap - 1, cur, h0, rfl, hb, by omega, by simp, by omega, by simp [plcs]⟩
    · rw [if_neg hc]
      exact ⟨g, o + 2, cap - 1, cur, h0, rfl, hb, by omega, by omega, by omega, h5⟩
  · intro g' e
    split at e <;> exact e
end Go.Proofs.Ytpamgeemmbbkkaa
