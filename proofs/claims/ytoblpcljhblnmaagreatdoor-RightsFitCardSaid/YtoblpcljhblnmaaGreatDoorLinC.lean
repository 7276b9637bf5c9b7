/- Matrices of rational numbers in memory: rows in blocks of their own, read, stored, exchanged. Condition: the words read. What a step changes: one block at most, and never the words of a number. Growing rows of any element type (append), told whole. Condition: at most a million elements. lin.Copy: a matrix copied row by row. Condition: the matrix reads; rows are not empty; at most a million rows and columns. -/
import Derived.Test.YtoblpcljhblnmaaGreatDoorRatQ
import Derived.Test.YtoblpcljhblnmaaGreatDoorPMat
namespace Go.Proofs.YtoblpcljhblnmaaGreatDoor
open Go.RowKit
set_option maxRecDepth 100000
theorem RQ.pushs {w : World} {base B m c : Nat} {v : Value} {A : Option Addr} {L L2 : List (Rat × Rt)} (h : RQ w base v L) (hs : Reads w B 4 A m (rts L2)) (hL : L.length + m ≤ 1000000) (hb : base ≤ w.heap.size) :
    ∃ v' w', (∀ ty, (Builtin.append_ #[94, 94] ty #[v, .slice A m c]).run Tryz.prog w = .ok v' w') ∧ RQ w' base v' (L ++ L2) ∧ Below base w w' ∧ w.heap.size ≤ w'.heap.size ∧ (∀ (z : Rat) (y : Rt), RatIs w w.heap.size z y → RatIs w' w'.heap.size z y) := by
  obtain ⟨i, hi, hz, hsz, hby⟩ := info_parts info_rat
  have hm : L2.length = m := by have := hs.1; rw [rts_len] at this; omega
  rcases Nat.eq_zero_or_pos m with h0 | h0
  · subst h0
    have hL2 : L2 = [] := List.eq_nil_of_length_eq_zero hm
    subst hL2
    refine ⟨v, w, fun ty => ?_, by rw [List.append_nil]; exact h, Below.refl _ _, Nat.le_refl _, fun z y hy => hy⟩
    have hf : (Builtin.firstCells 4 0 (.slice A 0 c)).run Tryz.prog w = .ok #[] w := by
      rcases A with _ | ad
      · simp [Builtin.firstCells]
      · exact run_firstCells_some (P := Tryz.prog) w 4 0 ad 0 c [] rfl (by simp)
    rcases h with ⟨rfl, rfl⟩ | ⟨g, cap, cur, rfl, h2, h3, h4, h5, h6, h7, h8⟩
    · simp [Builtin.append_, run_underlying Tryz.underlying94, sizeOf, typeInfo, hi, hsz, Builtin.lenOf, hf]
    · simp [Builtin.append_, run_underlying Tryz.underlying94, sizeOf, typeInfo, hi, hsz, Builtin.lenOf, hf, h6, storeCells]
  obtain ⟨ad, rfl, hadB, hnews⟩ := hs.2 h0
  have hl : (rts L2).length = m * i.size := by rw [hsz, rts_len]; omega
  have h1c : ∀ u ∈ rts L2, u.oneCell' = true := fun u hu => by
    unfold rts at hu
    rw [List.mem_flatMap] at hu
    obtain ⟨x, _, hx⟩ := hu
    exact rtC_one x.2 u hx
  have happ : rts L ++ rts L2 = rts (L ++ L2) := by unfold rts; rw [List.flatMap_append]
  rcases h with ⟨rfl, rfl⟩ | ⟨g, cap, cur, rfl, h2, h3, h4, h5, h6, h7, h8⟩
  · have hge := grownCap_ge w m 0 105
    refine ⟨.slice (some ⟨w.heap.size, 0, none⟩) m (grownCap w m 0 105), w.drew.alloc (.cells ((rts L2).toArray ++ Builtin.zeroCells (Value.agg #[.bool false, .slice none 0 0, .bool false, .slice none 0 0]).cells (grownCap w m 0 105 - m)) 105), fun ty => ?_, .inr ⟨w.heap.size, grownCap w m 0 105, _, by rw [List.nil_append, hm], hb, heap_alloc_new w.drew _, ?_, ?_, by rw [List.nil_append, hm]; exact hge, grownCap_le_maxLen w m 0 _ (by simp at hL; unfold maxLen; omega), ?_⟩, ((Below.refl base w).drew.alloc hb _), by simp, fun z y hy => hy.go ((Below.refl w.heap.size w).drew.alloc (Nat.le_refl _) _)⟩
    · exact run_append_nil (P := Tryz.prog) w 94 ty 105 i _ Tryz.underlying94 hi hz ad m c (rts L2) hl hnews h0 (by simp at hL; omega) (by rw [hby]; simp at hL; omega)
    · refine noU32_of fun u hu => ?_
      rw [Array.toList_append, List.mem_append] at hu
      rcases hu with hu | hu
      · exact rts_no L2 u (by simpa using hu)
      · exact zero_no _ u hu
    · rw [Array.size_append, size_zeroCells]
      have := rts_len L2
      simp [Value.cells]
      omega
    · rw [List.nil_append, Array.toList_append, List.take_append_of_le_length (by simp [rts_len]; omega)]
      have := rts_len L2
      rw [List.take_of_length_le (by simp; omega)]
  · by_cases hroom : L.length + m ≤ cap
    · have hap := fun ty => run_append_room (P := Tryz.prog) w 94 ty 105 i Tryz.underlying94 hi g L.length cap cur h3 ad m c (rts L2) hl hnews h1c hroom (by rw [hsz, rts_len]; omega)
      rw [hsz] at hap
      obtain ⟨cur', hcur⟩ : ∃ cur', cur' = (cur.toList.take (L.length * 4) ++ rts L2 ++ cur.toList.drop (L.length * 4 + (rts L2).length)).toArray := ⟨_, rfl⟩
      rw [← hcur] at hap
      have hsz2 : cur'.size = cap * 4 := by
        rw [hcur, ← h5]
        simp only [List.size_toArray, List.length_append, List.length_take, List.length_drop, Array.length_toList, rts_len]
        omega
      refine ⟨_, _, hap, .inr ⟨g, cap, cur', by rw [List.length_append, hm], h2, setRow_heap w g cur _ _ _ h3, ?_, hsz2, by rw [List.length_append, hm]; exact hroom, h7, ?_⟩, ?_, by simp [World.setRow], fun z y hy => ?_⟩
      · refine noU32_of fun u hu => ?_
        rw [hcur] at hu
        simp only [List.mem_append] at hu
        rcases hu with (hu | hu) | hu
        · exact noU32_mem h4 u (List.mem_of_mem_take hu)
        · exact rts_no L2 u hu
        · exact noU32_mem h4 u (List.mem_of_mem_drop hu)
      · rw [hcur]
        rw [List.length_append, h8, happ]
        have h9 := rts_len (L ++ L2)
        rw [List.length_append] at h9
        show List.take _ (rts (L ++ L2) ++ _) = _
        rw [List.take_append_of_le_length (by omega), List.take_of_length_le (by omega)]
      · exact ⟨rfl, rfl, rfl, by simp [World.setRow], fun k hk => setRow_other w g k _ (by omega)⟩
      · have e : (w.setRow g cur').heap.size = w.heap.size := by simp [World.setRow]
        rw [e]
        exact ⟨hy.n.off h3 h4 (setRow_cell w g cur'), hy.d.off h3 h4 (setRow_cell w g cur')⟩
    · have holds : ∀ j u, (rts L)[j]? = some u → w.cell? ((⟨g, 0, none⟩ : Addr).add j) = some u := by
        intro j u hu
        rw [Srt.addr_add, h3.cell, ← Array.getElem?_toList]
        have hj : j < L.length * 4 := by
          have := (List.getElem?_eq_some_iff.1 hu).1
          rw [rts_len] at this
          omega
        rw [← h8, List.getElem?_take_of_lt hj] at hu
        exact hu
      have hge := grownCap_ge w (L.length + m) cap 105
      refine ⟨.slice (some ⟨w.heap.size, 0, none⟩) (L.length + m) (grownCap w (L.length + m) cap 105), w.drew.alloc (.cells ((rts L).toArray ++ (rts L2).toArray ++ Builtin.zeroCells (Value.agg #[.bool false, .slice none 0 0, .bool false, .slice none 0 0]).cells (grownCap w (L.length + m) cap 105 - (L.length + m))) 105), fun ty => ?_, .inr ⟨w.heap.size, grownCap w (L.length + m) cap 105, _, by rw [List.length_append, hm], hb, heap_alloc_new w.drew _, ?_, ?_, by rw [List.length_append, hm]; exact hge, grownCap_le_maxLen w _ _ _ (by unfold maxLen; omega), ?_⟩, ((Below.refl base w).drew.alloc hb _), by simp, fun z y hy => hy.go ((Below.refl w.heap.size w).drew.alloc (Nat.le_refl _) _)⟩
      · exact run_append_grow (P := Tryz.prog) w 94 ty 105 i _ Tryz.underlying94 hi hz ⟨g, 0, none⟩ L.length cap (rts L) (by rw [hsz, rts_len]; omega) holds ad m c (rts L2) hl hnews (by omega) (by omega) (by rw [hby]; exact growslice_fits (by omega) (by omega))
      · refine noU32_of fun u hu => ?_
        rw [Array.toList_append, Array.toList_append, List.mem_append, List.mem_append] at hu
        rcases hu with (hu | hu) | hu
        · exact rts_no L u (by simpa using hu)
        · exact rts_no L2 u (by simpa using hu)
        · exact zero_no _ u hu
      · rw [Array.size_append, Array.size_append, size_zeroCells]
        have := rts_len L
        have := rts_len L2
        simp [Value.cells]
        omega
      · have h9 := rts_len (L ++ L2)
        rw [List.length_append] at h9
        rw [List.length_append, Array.toList_append, Array.toList_append]
        show List.take _ (rts L ++ rts L2 ++ _) = _
        rw [happ, List.take_append_of_le_length (by omega), List.take_of_length_le (by omega)]
def RowW (w : World) (g : Nat) (L : List (Rat × Rt)) : Prop := ∃ cur : Array Value, Blk w g 105 cur ∧ noU32 cur ∧ cur.toList.take (L.length * 4) = rts L
theorem RowW.go {w w' : World} {g : Nat} {L : List (Rat × Rt)} (h : RowW w g L) (hb : Below w.heap.size w w') : RowW w' g L := by
  obtain ⟨cur, h1, h2⟩ := h
  exact ⟨cur, h1.go hb, h2⟩
theorem RowW.lt {w : World} {g : Nat} {L : List (Rat × Rt)} (h : RowW w g L) : g < w.heap.size := by obtain ⟨cur, h1, _⟩ := h; exact h1.lt
theorem RowW.frozen {w : World} {g : Nat} {L : List (Rat × Rt)} (h : RowW w g L) (k : Nat) : w.frozen? ⟨g, k, none⟩ = false := by obtain ⟨cur, h1, _⟩ := h; exact h1.frozen k
theorem RowW.cell {w : World} {g : Nat} {L : List (Rat × Rt)} (h : RowW w g L) {j : Nat} {u : Value} (hj : (rts L)[j]? = some u) : w.cell? ⟨g, j, none⟩ = some u := by
  obtain ⟨cur, h1, _, h3⟩ := h
  have h4 := (List.getElem?_eq_some_iff.1 hj).1
  rw [rts_len] at h4
  rw [← h3, List.getElem?_take_of_lt (by omega), Array.getElem?_toList] at hj
  rw [h1.cell]
  exact hj
theorem RowW.at_ {w : World} {g : Nat} {L : List (Rat × Rt)} (h : RowW w g L) {j : Nat} (hj : j < L.length) : w.cell? ⟨g, j * 4, none⟩ = some (.bool L[j].2.N.b) ∧ w.cell? ⟨g, j * 4 + 1, none⟩ = some (.slice L[j].2.N.A L[j].2.N.n L[j].2.N.c) ∧ w.cell? ⟨g, j * 4 + 2, none⟩ = some (.bool L[j].2.D.b) ∧ w.cell? ⟨g, j * 4 + 3, none⟩ = some (.slice L[j].2.D.A L[j].2.D.n L[j].2.D.c) := by
  obtain ⟨h1, h2, h3, h4⟩ := rts_at hj
  exact ⟨h.cell h1, h.cell h2, h.cell h3, h.cell h4⟩
theorem RowW.far {w : World} {g b : Nat} {L : List (Rat × Rt)} (h : RowW w g L) (hb : g ≠ b) (i : Nat) (u : Value) : RowW (w.setCell ⟨b, i, none⟩ u) g L := by
  obtain ⟨cur, h1, h2⟩ := h
  exact ⟨cur, h1.far hb u, h2⟩
theorem noU32_set {cs : Array Value} (h : noU32 cs) (i : Nat) {u : Value} (hu : ∀ k : Int, u ≠ .int .u32 k) : noU32 (cs.setIfInBounds i u) := noU32_of fun x hx k => by
  rw [Array.toList_setIfInBounds] at hx
  rcases List.mem_or_eq_of_mem_set hx with hx | rfl
  · exact noU32_mem h x hx k
  · exact hu k
theorem RowW.put {w : World} {g j : Nat} {L : List (Rat × Rt)} (h : RowW w g L) (hj : j < L.length) (q : Rat) (x : Rt) : RowW (rput w g j x) g (L.set j (q, x)) ∧ ∀ (z : Rat) (y : Rt), RatIs w w.heap.size z y → RatIs (rput w g j x) (rput w g j x).heap.size z y := by
  obtain ⟨cur, h1, h2, h3⟩ := h
  have hB := (((h1.set_ (j * 4) (.bool x.N.b)).set_ (j * 4 + 1) (.slice x.N.A x.N.n x.N.c)).set_ (j * 4 + 2) (.bool x.D.b)).set_ (j * 4 + 3) (.slice x.D.A x.D.n x.D.c)
  refine ⟨⟨_, hB, ?_, ?_⟩, fun z y hy => ?_⟩
  · exact noU32_set (noU32_set (noU32_set (noU32_set h2 _ (fun k e => by cases e)) _ (fun k e => by cases e)) _ (fun k e => by cases e)) _ (fun k e => by cases e)
  · simp only [Array.toList_setIfInBounds]
    rw [List.length_set, List.take_set, List.take_set, List.take_set, List.take_set, h3]
    have h4 := rtl_set (l := L.map (·.2)) (k := j) (by rw [List.length_map]; exact hj) x
    rw [rtl_rts] at h4
    rw [h4, ← rtl_rts, List.map_set]
  · rw [rput_size]
    exact ⟨hy.n.off h1 h2 (rput_off w g j x), hy.d.off h1 h2 (rput_off w g j x)⟩
theorem RQ.rowW {w : World} {base : Nat} {v : Value} {L : List (Rat × Rt)} (h : RQ w base v L) (hL : 0 < L.length) : ∃ g c, v = .slice (some ⟨g, 0, none⟩) L.length c ∧ base ≤ g ∧ RowW w g L ∧ L.length ≤ c := by
  rcases h with ⟨_, rfl⟩ | ⟨g, cap, cur, rfl, h2, h3, h4, h5, h6, h7, h8⟩
  · simp at hL
  · exact ⟨g, cap, rfl, h2, ⟨cur, h3, h4, h8⟩, h6⟩
theorem RL.rowW {w : World} {g : Nat} {L : List (Rat × Rt)} (h : RL w g L 0) : RowW w g L := by
  have h1 := h.blk
  rw [List.replicate_zero, List.append_nil] at h1
  refine ⟨_, h1, noU32_rtl _, ?_⟩
  rw [List.take_of_length_le (by simp [rtl_len]; omega), rtl_rts]
structure MRow where
  g : Nat
  c : Nat
  L : List (Rat × Rt)
def MRow.v (n : Nat) (r : MRow) : Value := .slice (some ⟨r.g, 0, none⟩) n r.c
structure MX (w : World) (g : Nat) (n : Nat) (R : List MRow) : Prop where
  blk : Blk w g 94 (R.map (MRow.v n)).toArray
  row : ∀ r ∈ R, RowW w r.g r.L
  len : ∀ r ∈ R, r.L.length = n
  each : ∀ r ∈ R, ∀ x ∈ r.L, RatIs w w.heap.size x.1 x.2
  apart : ∀ i j (hi : i < R.length) (hj : j < R.length), R[i].g = R[j].g → i = j
  cap : ∀ r ∈ R, n ≤ r.c
def vals (R : List MRow) : Pl.Mat := R.map fun r => r.L.map (·.1)
theorem vals_len (R : List MRow) : (vals R).length = R.length := by unfold vals; rw [List.length_map]
section
variable {w w' : World} {g n : Nat} {R : List MRow}
theorem MX.lt (h : MX w g n R) : g < w.heap.size := h.blk.lt
theorem MX.go (h : MX w g n R) (hb : Below w.heap.size w w') : MX w' g n R :=
  ⟨h.blk.go hb, fun r hr => (h.row r hr).go hb, h.len, fun r hr x hx => (h.each r hr x hx).go hb, h.apart, h.cap⟩
theorem MX.frozen (h : MX w g n R) (i : Nat) : w.frozen? ⟨g, i, none⟩ = false := h.blk.frozen i
theorem MX.outer (h : MX w g n R) {i : Nat} (hi : i < R.length) : w.cell? ⟨g, i, none⟩ = some (.slice (some ⟨R[i].g, 0, none⟩) n R[i].c) := by
  rw [h.blk.cell, List.getElem?_toArray, List.getElem?_map, List.getElem?_eq_getElem hi]
  rfl
theorem MX.rlen (h : MX w g n R) {i : Nat} (hi : i < R.length) : R[i].L.length = n := h.len _ (List.getElem_mem hi)
theorem MX.rlt (h : MX w g n R) {i : Nat} (hi : i < R.length) : R[i].g < w.heap.size := (h.row _ (List.getElem_mem hi)).lt
theorem MX.rfrozen (h : MX w g n R) {i : Nat} (hi : i < R.length) (k : Nat) : w.frozen? ⟨R[i].g, k, none⟩ = false := (h.row _ (List.getElem_mem hi)).frozen k
theorem MX.inner (h : MX w g n R) {i j : Nat} (hi : i < R.length) (hj : j < R[i].L.length) : w.cell? ⟨R[i].g, j * 4, none⟩ = some (.bool R[i].L[j].2.N.b) ∧ w.cell? ⟨R[i].g, j * 4 + 1, none⟩ = some (.slice R[i].L[j].2.N.A R[i].L[j].2.N.n R[i].L[j].2.N.c) ∧ w.cell? ⟨R[i].g, j * 4 + 2, none⟩ = some (.bool R[i].L[j].2.D.b) ∧ w.cell? ⟨R[i].g, j * 4 + 3, none⟩ = some (.slice R[i].L[j].2.D.A R[i].L[j].2.D.n R[i].L[j].2.D.c) := (h.row _ (List.getElem_mem hi)).at_ hj
theorem MX.num (h : MX w g n R) {i j : Nat} (hi : i < R.length) (hj : j < R[i].L.length) : RatIs w w.heap.size R[i].L[j].1 R[i].L[j].2 := h.each _ (List.getElem_mem hi) _ (List.getElem_mem hj)
theorem RowW.ne {b : Nat} {cs : Array Value} {L : List (Rat × Rt)} (h : RowW w g L) (hb : Blk w b 94 cs) : g ≠ b := by
  obtain ⟨cur, h1, _⟩ := h
  exact Blk.ne_ h1 hb (by decide)
theorem MX.ne (h : MX w g n R) {i : Nat} (hi : i < R.length) : g ≠ R[i].g := Ne.symm ((h.row _ (List.getElem_mem hi)).ne h.blk)
def MRow.put (r : MRow) (j : Nat) (q : Rat) (x : Rt) : MRow := { r with L := r.L.set j (q, x) }
theorem MX.put (h : MX w g n R) {i j : Nat} (hi : i < R.length) (hj : j < R[i].L.length) {q : Rat} {x : Rt} (hx : RatIs w w.heap.size q x) : MX (rput w R[i].g j x) g n (R.set i (R[i].put j q x)) := by
  have hB := h.row _ (List.getElem_mem hi)
  have hg9 := h.ne hi
  refine ⟨?_, ?_, ?_, ?_, ?_, ?_⟩
  · have h1 := (((h.blk.far (p := ⟨R[i].g, j * 4, none⟩) hg9 (.bool x.N.b)).far (p := ⟨R[i].g, j * 4 + 1, none⟩) hg9 (.slice x.N.A x.N.n x.N.c)).far (p := ⟨R[i].g, j * 4 + 2, none⟩) hg9 (.bool x.D.b)).far (p := ⟨R[i].g, j * 4 + 3, none⟩) hg9 (.slice x.D.A x.D.n x.D.c)
    have e : (R.set i (R[i].put j q x)).map (MRow.v n) = R.map (MRow.v n) := by
      apply List.ext_getElem (by simp)
      intro k h2 h3
      rw [List.getElem_map, List.getElem_map, List.getElem_set]
      split
      · rename_i e; subst e; rfl
      · rfl
    rw [e]
    exact h1
  · intro r hr
    obtain ⟨k, hk, rfl⟩ := List.getElem_of_mem hr
    rw [List.length_set] at hk
    rw [List.getElem_set]
    split
    · exact (hB.put hj q x).1
    · rename_i e
      have hne : R[k].g ≠ R[i].g := fun e9 => e (h.apart k i hk hi e9).symm
      exact ((((h.row _ (List.getElem_mem hk)).far hne _ _).far hne _ _).far hne _ _).far hne _ _
  · intro r hr
    rcases List.mem_or_eq_of_mem_set hr with hr | rfl
    · exact h.len r hr
    · unfold MRow.put
      rw [List.length_set]
      exact h.rlen hi
  · intro r hr y hy
    rcases List.mem_or_eq_of_mem_set hr with hr | rfl
    · exact (hB.put hj q x).2 _ _ (h.each r hr y hy)
    · rcases List.mem_or_eq_of_mem_set hy with hy | rfl
      · exact (hB.put hj q x).2 _ _ (h.each _ (List.getElem_mem hi) y hy)
      · exact (hB.put hj q x).2 _ _ hx
  · intro a b ha hb he
    rw [List.length_set] at ha hb
    have e : ∀ k (hk : k < R.length), ((R.set i (R[i].put j q x))[k]'(by rw [List.length_set]; exact hk)).g = R[k].g := fun k hk => by
      rw [List.getElem_set]
      split
      · rename_i e; subst e; rfl
      · rfl
    rw [e a ha, e b hb] at he
    exact h.apart a b ha hb he
  · intro r hr
    rcases List.mem_or_eq_of_mem_set hr with hr | rfl
    · exact h.cap r hr
    · exact h.cap R[i] (List.getElem_mem hi)
theorem vals_put {i j : Nat} (hi : i < R.length) (q : Rat) (x : Rt) : vals (R.set i (R[i].put j q x)) = (vals R).set i (((vals R).getD i []).set j q) := by
  unfold vals
  rw [List.map_set]
  congr 1
  rw [Pl.getM (by rw [List.length_map]; exact hi), List.getElem_map]
  unfold MRow.put
  rw [List.map_set]
theorem noU32_rows (n : Nat) (R : List MRow) : noU32 (R.map (MRow.v n)).toArray := fun i k h => by
  rw [List.getElem?_toArray, List.getElem?_map] at h
  cases hq : R[i]? with
  | none => rw [hq] at h; cases h
  | some r => rw [hq] at h; cases h
theorem MX.swap (h : MX w g n R) {r p : Nat} (hr : r < R.length) (hp : p < R.length) : MX ((w.setCell ⟨g, r, none⟩ (R[p].v n)).setCell ⟨g, p, none⟩ (R[r].v n)) g n ((R.set r R[p]).set p R[r]) := by
  have hs : ((w.setCell ⟨g, r, none⟩ (R[p].v n)).setCell ⟨g, p, none⟩ (R[r].v n)).heap.size = w.heap.size := by simp
  have hmem : ∀ x ∈ (R.set r R[p]).set p R[r], x ∈ R := fun x hx => by
    rcases List.mem_or_eq_of_mem_set hx with hx | rfl
    · rcases List.mem_or_eq_of_mem_set hx with hx | rfl
      · exact hx
      · exact List.getElem_mem hp
    · exact List.getElem_mem hr
  refine ⟨?_, fun x hx => ?_, fun x hx => h.len x (hmem x hx), fun x hx y hy => ?_, fun a b ha hb he => ?_, fun x hx => h.cap x (hmem x hx)⟩
  · have h1 := (h.blk.set_ r (R[p].v n)).set_ p (R[r].v n)
    rw [List.setIfInBounds_toArray, List.setIfInBounds_toArray, ← List.map_set, ← List.map_set] at h1
    exact h1
  · have h1 := h.row x (hmem x hx)
    have hne : x.g ≠ g := h1.ne h.blk
    exact (h1.far hne _ _).far hne _ _
  · have h1 := h.each x (hmem x hx) y hy
    have h2 := h1.set_ h.blk (noU32_rows n R) r (R[p].v n)
    have h3 := h.blk.set_ r (R[p].v n)
    rw [List.setIfInBounds_toArray, ← List.map_set] at h3
    exact h2.set_ h3 (noU32_rows n _) p (R[r].v n)
  · rw [List.length_set, List.length_set] at ha hb
    have e : ∀ k (hk : k < R.length), (((R.set r R[p]).set p R[r])[k]'(by rw [List.length_set, List.length_set]; exact hk)).g = (R[if k = p then r else if k = r then p else k]'(by split <;> (try split) <;> assumption)).g := fun k hk => by
      rw [List.getElem_set]
      by_cases e1 : p = k
      · subst e1; simp
      · rw [if_neg e1, List.getElem_set]
        by_cases e2 : r = k
        · subst e2; simp [Ne.symm e1]
        · simp [e2, Ne.symm e1, Ne.symm e2]
    rw [e a ha, e b hb] at he
    have h1 := h.apart _ _ _ _ he
    split at h1 <;> split at h1 <;> (try split at h1) <;> (try split at h1) <;> omega
theorem vals_swap {r p : Nat} (hr : r < R.length) (hp : p < R.length) : vals ((R.set r R[p]).set p R[r]) = Pl.swp (vals R) r p := by
  unfold vals Pl.swp
  rw [List.map_set, List.map_set, Pl.getM (i := p) (by rw [List.length_map]; exact hp), Pl.getM (i := r) (by rw [List.length_map]; exact hr), List.getElem_map, List.getElem_map]
theorem vals_at {i : Nat} (hi : i < R.length) : (vals R).getD i [] = R[i].L.map (·.1) := by
  rw [Pl.getM (by rw [vals_len]; exact hi)]; unfold vals; rw [List.getElem_map]
theorem vals_en {i j : Nat} (hi : i < R.length) (hj : j < R[i].L.length) : Pl.en (vals R) i j = R[i].L[j].1 := by
  unfold Pl.en
  rw [vals_at hi, List.getD_eq_getElem?_getD, List.getElem?_map, List.getElem?_eq_getElem hj]
  rfl
theorem MX.wide (h : MX w g n R) : Pl.Wide n (vals R) := fun x hx => by
  unfold vals at hx
  obtain ⟨r, hr, rfl⟩ := List.mem_map.1 hx
  rw [List.length_map]
  exact h.len r hr
end
structure MatIn (w : World) (B : Nat) (A : Option Addr) (m n : Nat) (S : List (Option Addr × Nat × List (Rat × Rt))) : Prop where
  row : Reads w B 1 A m (S.map fun s => .slice s.1 n s.2.1)
  each : ∀ s ∈ S, RatsIs w B s.1 n s.2.2
def svals (S : List (Option Addr × Nat × List (Rat × Rt))) : Pl.Mat := S.map fun s => s.2.2.map (·.1)
theorem MatIn.len {w : World} {B m n : Nat} {A : Option Addr} {S : List (Option Addr × Nat × List (Rat × Rt))} (h : MatIn w B A m n S) : S.length = m := by
  have := h.row.1
  rw [List.length_map] at this
  omega
theorem MatIn.go {w w' : World} {m n : Nat} {A : Option Addr} {S : List (Option Addr × Nat × List (Rat × Rt))} (h : MatIn w w.heap.size A m n S) (hb : Below w.heap.size w w') : MatIn w' w'.heap.size A m n S :=
  ⟨h.row.go hb, fun s hs => (h.each s hs).go hb⟩
theorem MatIn.wide {w : World} {B m n : Nat} {A : Option Addr} {S : List (Option Addr × Nat × List (Rat × Rt))} (h : MatIn w B A m n S) : Pl.Wide n (svals S) := fun x hx => by
  unfold svals at hx
  obtain ⟨s, hs, rfl⟩ := List.mem_map.1 hx
  rw [List.length_map]
  exact (h.each s hs).len
theorem MatIn.at_ {w : World} {B m n : Nat} {A : Option Addr} {S : List (Option Addr × Nat × List (Rat × Rt))} (h : MatIn w B A m n S) {k : Nat} (hk : k < m) :
    ∃ b o, A = some ⟨b, o, none⟩ ∧ b < B ∧ ∃ hl : k < S.length, w.cell? ⟨b, o + k, none⟩ = some (.slice S[k].1 n S[k].2.1) ∧ RatsIs w B S[k].1 n S[k].2.2 := by
  obtain ⟨b, o, rfl, hb, hc⟩ := h.row.where_ (by omega) (by decide)
  have hl : k < S.length := by rw [h.len]; exact hk
  refine ⟨b, o, rfl, hb, hl, ?_, h.each _ (List.getElem_mem hl)⟩
  exact hc k _ (by rw [List.getElem?_map, List.getElem?_eq_getElem hl]; rfl)
theorem MX.mat {w : World} {g n : Nat} {R : List MRow} (h : MX w g n R) : MatIn w w.heap.size (some ⟨g, 0, none⟩) R.length n (R.map fun r => (some ⟨r.g, 0, none⟩, r.c, r.L)) ∧ svals (R.map fun r => (some ⟨r.g, 0, none⟩, r.c, r.L)) = vals R := by
  refine ⟨⟨⟨by simp, fun _ => ⟨_, rfl, h.lt, fun j u hu => ?_⟩⟩, fun s hs => ?_⟩, by unfold svals vals; rw [List.map_map]; rfl⟩
  · rw [Srt.addr_add, h.blk.cell, List.getElem?_toArray]
    rw [List.map_map] at hu
    exact hu
  · obtain ⟨r, hr, rfl⟩ := List.mem_map.1 hs
    have h1 := h.row r hr
    refine ⟨⟨by rw [rts_len, h.len r hr]; omega, fun _ => ⟨_, rfl, h1.lt, fun j u hu => ?_⟩⟩, h.each r hr⟩
    rw [Srt.addr_add]
    exact h1.cell hu
end Go.Proofs.YtoblpcljhblnmaaGreatDoor
namespace Go.Proofs.YtoblpcljhblnmaaGreatDoor
open Go.RowKit
set_option maxRecDepth 100000
structure Chg (g : Option Nat) (w w' : World) : Prop where
  grown : w.grownBy w' g
  num : ∀ (q : Rat) (x : Rt), RatIs w w.heap.size q x → RatIs w' w'.heap.size q x
theorem Chg.blk {g : Option Nat} {w w' : World} (h : Chg g w w') (b : Nat) (t : TypeId) (cs : Array Value) (hb : some b ≠ g) (hk : Blk w b t cs) : Blk w' b t cs := hk.grown h.grown hb
theorem Chg.size {g : Option Nat} {w w' : World} (h : Chg g w w') : w.heap.size ≤ w'.heap.size := h.grown.size
theorem Chg.below {g : Option Nat} {w w' : World} (h : Chg g w w') (B : Nat) (w0 : World) (hb : Below B w0 w) (hg : ∀ b, g = some b → B ≤ b) (hB : B ≤ w.heap.size) : Below B w0 w' := hb.grown h.grown hB hg
theorem Chg.trans {g : Option Nat} {w w1 w2 : World} (h : Chg g w w1) (h' : Chg g w1 w2) : Chg g w w2 := ⟨h.grown.trans h'.grown, fun q x hx => h'.num q x (h.num q x hx)⟩
theorem Chg.of_below {g : Option Nat} {w w' : World} (hb : Below w.heap.size w w') : Chg g w w' := ⟨⟨hb.os, hb.tape, hb.output, hb.size, fun i hi _ => hb.block i hi⟩, fun _ _ h => h.go hb⟩
theorem Chg.set {w : World} {g : Nat} {t : TypeId} {cs : Array Value} (hb : Blk w g t cs) (hc : noU32 cs) (i : Nat) (u : Value) : Chg (some g) w (w.setCell ⟨g, i, none⟩ u) := by
  have h0 : Below 0 w w := Below.refl 0 w
  refine ⟨⟨(h0.setCell (p := ⟨g, i, none⟩) (Nat.zero_le _) u).os, (h0.setCell (p := ⟨g, i, none⟩) (Nat.zero_le _) u).tape, (h0.setCell (p := ⟨g, i, none⟩) (Nat.zero_le _) u).output, by simp, fun k hk hne => ?_⟩, fun q x hx => hx.set_ hb hc i u⟩
  exact Below.heap_setCell w ⟨g, i, none⟩ u k (fun e => hne (by rw [e]))
theorem Chg.row {w : World} {g : Nat} {t : TypeId} {cur : Array Value} (hb : Blk w g t cur) (hc : noU32 cur) (cur' : Array Value) : Chg (some g) w (w.setRow g cur') := by
  have e : (w.setRow g cur').heap.size = w.heap.size := by simp [World.setRow]
  refine ⟨⟨rfl, rfl, rfl, by omega, fun k hk hne => setRow_other w g k cur' (fun e => hne (by rw [e]))⟩, fun q x hx => ?_⟩
  rw [e]
  exact ⟨hx.n.off hb hc (setRow_cell w g cur'), hx.d.off hb hc (setRow_cell w g cur')⟩
def OQ (w : World) (base : Nat) (e : TypeId) (size : Nat) (v : Value) (n : Nat) (xs : List Value) : Prop :=
  xs.length = n * size ∧ ((v = .slice none 0 0 ∧ n = 0) ∨ ∃ (g cap : Nat) (cur : Array Value), v = .slice (some ⟨g, 0, none⟩) n cap ∧ base ≤ g ∧ Blk w g e cur ∧ noU32 cur ∧ cur.size = cap * size ∧ n ≤ cap ∧ cap ≤ maxLen ∧ cur.toList.take (n * size) = xs)
section
variable {w w' : World} {base size n : Nat} {e : TypeId} {v : Value} {xs : List Value}
theorem OQ.none_ (w : World) (base : Nat) (e : TypeId) (size : Nat) : OQ w base e size (.slice none 0 0) 0 [] := ⟨by simp, .inl ⟨rfl, rfl⟩⟩
theorem OQ.go (h : OQ w base e size v n xs) (hb : Below w.heap.size w w') : OQ w' base e size v n xs := by
  refine ⟨h.1, ?_⟩
  rcases h.2 with h | ⟨g, cap, cur, h1, h2, h3, h4⟩
  · exact .inl h
  · exact .inr ⟨g, cap, cur, h1, h2, h3.go hb, h4⟩
theorem OQ.slice (h : OQ w base e size v n xs) : ∃ A c, v = .slice A n c ∧ Reads w w.heap.size size A n xs := by
  rcases h.2 with ⟨rfl, h2⟩ | ⟨g, cap, cur, rfl, _, h3, _, h5, h6, _, h7⟩
  · subst h2
    refine ⟨none, 0, rfl, h.1.trans (by omega), fun h9 => absurd h9 (by omega)⟩
  · refine ⟨_, _, rfl, h.1, fun _ => ⟨_, rfl, h3.lt, fun j u hu => ?_⟩⟩
    have hj := (List.getElem?_eq_some_iff.1 hu).1
    rw [Srt.addr_add, h3.cell, ← Array.getElem?_toList]
    rw [← h7, List.getElem?_take_of_lt (by rw [← h.1]; exact hj)] at hu
    exact hu
theorem OQ.chg {g : Option Nat} (h : OQ w base e size v n xs) (hc : Chg g w w') (hg : ∀ b, v.ownBlock = some b → some b ≠ g) : OQ w' base e size v n xs := by
  refine ⟨h.1, ?_⟩
  rcases h.2 with h | ⟨b, cap, cur, rfl, h2, h3, h4⟩
  · exact .inl h
  · exact .inr ⟨b, cap, cur, rfl, h2, hc.blk b e cur (hg b rfl) h3, h4⟩
theorem OQ.own (h : OQ w base e size v n xs) {b : Nat} (hv : v.ownBlock = some b) : base ≤ b ∧ b < w.heap.size ∧ ∃ cur, Blk w b e cur ∧ noU32 cur := by
  rcases h.2 with ⟨rfl, _⟩ | ⟨g, cap, cur, rfl, h2, h3, h4, _⟩
  · cases hv
  · injection hv with hv
    subst hv
    exact ⟨h2, h3.lt, cur, h3, h4⟩
theorem noU32_app {a : List Value} {b : List Value} (h1 : ∀ u ∈ a, ∀ k : Int, u ≠ .int .u32 k) (h2 : ∀ u ∈ b, ∀ k : Int, u ≠ .int .u32 k) : ∀ u ∈ a ++ b, ∀ k : Int, u ≠ .int .u32 k := fun u hu => by
  rw [List.mem_append] at hu
  rcases hu with hu | hu
  · exact h1 u hu
  · exact h2 u hu
theorem zeroCells_no {z : Array Value} (hz : ∀ u ∈ z.toList, ∀ k : Int, u ≠ .int .u32 k) (hz0 : 0 < z.size) (m : Nat) : ∀ u ∈ (Builtin.zeroCells z m).toList, ∀ k : Int, u ≠ .int .u32 k := by
  intro u hu k e
  subst e
  unfold Builtin.zeroCells at hu
  rw [Array.toList_map, List.mem_map] at hu
  obtain ⟨j, _, e⟩ := hu
  have hj : j % z.size < z.size := Nat.mod_lt _ hz0
  rw [getElem!_pos z _ hj] at e
  exact hz _ (by rw [Array.mem_toList_iff]; exact Array.getElem_mem hj) k e
theorem OQ.no (h : OQ w base e size v n xs) : ∀ u ∈ xs, ∀ k : Int, u ≠ .int .u32 k := by
  rcases h.2 with ⟨_, h2⟩ | ⟨g, cap, cur, _, _, _, h4, _, _, _, h7⟩
  · have : xs = [] := List.eq_nil_of_length_eq_zero (by rw [h.1, h2]; omega)
    subst this
    intro u hu; cases hu
  · intro u hu
    rw [← h7] at hu
    exact noU32_mem h4 u (List.mem_of_mem_take hu)
theorem OQ.push {t : TypeId} {i : TypeInfo} {z : Value} {bytes : Nat} (ht : Tryz.prog.underlying t = some (.slice e)) (hi : Tryz.prog.info? e = some i) (hz : i.zero = some z) (hsz : i.size = size) (hby : i.bytes = bytes) (hzs : z.cells.size = size) (hz0 : 0 < size) (hzn : ∀ u ∈ z.cells.toList, ∀ k : Int, u ≠ .int .u32 k)
    (h : OQ w base e size v n xs) (cs : List Value) (hcs : cs.length = size) (h1 : ∀ u ∈ cs, u.oneCell' = true) (hno : ∀ u ∈ cs, ∀ k : Int, u ≠ .int .u32 k) {gx : Nat} {tx : TypeId} (hg : Blk w gx tx cs.toArray) (hL : n ≤ 1000000) (hbb : bytes ≤ 1000) (hb : base ≤ w.heap.size) :
    ∃ v' w', (∀ ty, (Builtin.append_ #[t, t] ty #[v, .slice (some ⟨gx, 0, none⟩) 1 1]).run Tryz.prog w = .ok v' w') ∧ OQ w' base e size v' (n + 1) (xs ++ cs) ∧ Chg v.ownBlock w w' ∧ (v'.ownBlock = v.ownBlock ∨ v'.ownBlock = some w.heap.size) := by
  have hnews : ∀ j u, cs[j]? = some u → w.cell? ((⟨gx, 0, none⟩ : Addr).add j) = some u := by
    intro j u hj
    rw [Srt.addr_add, hg.cell, List.getElem?_toArray]
    exact hj
  have hl : cs.length = 1 * i.size := by rw [hsz, hcs]; omega
  have hbm : ∀ a : Nat, a ≤ 1000001 → a * bytes ≤ 1000001 * 1000 := fun a ha => Nat.mul_le_mul ha hbb
  have hlen : (xs ++ cs).length = (n + 1) * size := by rw [List.length_append, h.1, hcs, Nat.add_mul]; omega
  have hxn := h.no
  rcases h.2 with ⟨rfl, rfl⟩ | ⟨g, cap, cur, rfl, h2, h3, h4, h5, h6, h7, h8⟩
  · have hx0 : xs = [] := List.eq_nil_of_length_eq_zero (by rw [h.1]; omega)
    subst hx0
    have hge := grownCap_ge w 1 0 e
    refine ⟨.slice (some ⟨w.heap.size, 0, none⟩) 1 (grownCap w 1 0 e), w.drew.alloc (.cells (cs.toArray ++ Builtin.zeroCells z.cells (grownCap w 1 0 e - 1)) e), fun ty => ?_, ⟨hlen, .inr ⟨w.heap.size, grownCap w 1 0 e, _, rfl, hb, heap_alloc_new w.drew _, ?_, ?_, hge, grownCap_le_maxLen w 1 0 _ (by unfold maxLen; omega), ?_⟩⟩, Chg.of_below ((Below.refl w.heap.size w).drew.alloc (Nat.le_refl _) _), .inr rfl⟩
    · exact run_append_nil (P := Tryz.prog) w t ty e i z ht hi hz ⟨gx, 0, none⟩ 1 1 cs hl hnews (by omega) (by omega) (by rw [hby]; have := hbm 1 (by omega); omega)
    · refine noU32_of ?_
      rw [Array.toList_append]
      exact noU32_app (by simpa using hno) (zeroCells_no hzn (by omega) _)
    · rw [Array.size_append, size_zeroCells, hzs]
      simp only [List.size_toArray, hcs]
      rw [Nat.sub_mul]
      have := Nat.mul_le_mul_right size hge
      omega
    · rw [Array.toList_append, List.take_append_of_le_length (by simp [hcs]), List.take_of_length_le (by simp [hcs])]
      rfl
  · by_cases hroom : n + 1 ≤ cap
    · have hr1 := Nat.mul_le_mul_right size hroom
      rw [Nat.add_mul] at hr1
      have hap := fun ty => run_append_room (P := Tryz.prog) w t ty e i ht hi g n cap cur h3 ⟨gx, 0, none⟩ 1 1 cs hl hnews h1 hroom (by rw [hsz, hcs]; omega)
      rw [hsz] at hap
      obtain ⟨cur', hcur⟩ : ∃ cur', cur' = (cur.toList.take (n * size) ++ cs ++ cur.toList.drop (n * size + cs.length)).toArray := ⟨_, rfl⟩
      rw [← hcur] at hap
      have hsz2 : cur'.size = cap * size := by
        rw [hcur, ← h5]
        simp only [List.size_toArray, List.length_append, List.length_take, List.length_drop, Array.length_toList, hcs]
        omega
      refine ⟨_, _, hap, ⟨hlen, .inr ⟨g, cap, cur', rfl, h2, setRow_heap w g cur _ _ _ h3, ?_, hsz2, hroom, h7, ?_⟩⟩, Chg.row h3 h4 cur', .inl rfl⟩
      · refine noU32_of ?_
        rw [hcur]
        refine noU32_app (noU32_app (fun u hu => noU32_mem h4 u (List.mem_of_mem_take hu)) hno) (fun u hu => noU32_mem h4 u (List.mem_of_mem_drop hu))
      · rw [hcur, h8]
        show List.take _ (xs ++ cs ++ _) = _
        rw [List.take_append_of_le_length (by omega), List.take_of_length_le (by omega)]
    · have holds : ∀ j u, xs[j]? = some u → w.cell? ((⟨g, 0, none⟩ : Addr).add j) = some u := by
        intro j u hu
        have hj := (List.getElem?_eq_some_iff.1 hu).1
        rw [Srt.addr_add, h3.cell, ← Array.getElem?_toList]
        rw [← h8, List.getElem?_take_of_lt (by rw [← h.1]; exact hj)] at hu
        exact hu
      have hge := grownCap_ge w (n + 1) cap e
      refine ⟨.slice (some ⟨w.heap.size, 0, none⟩) (n + 1) (grownCap w (n + 1) cap e), w.drew.alloc (.cells (xs.toArray ++ cs.toArray ++ Builtin.zeroCells z.cells (grownCap w (n + 1) cap e - (n + 1))) e), fun ty => ?_, ⟨hlen, .inr ⟨w.heap.size, grownCap w (n + 1) cap e, _, rfl, hb, heap_alloc_new w.drew _, ?_, ?_, hge, grownCap_le_maxLen w _ _ _ (by unfold maxLen; omega), ?_⟩⟩, Chg.of_below ((Below.refl w.heap.size w).drew.alloc (Nat.le_refl _) _), .inr rfl⟩
      · refine run_append_grow (P := Tryz.prog) w t ty e i z ht hi hz ⟨g, 0, none⟩ n cap xs (by rw [hsz]; exact h.1) holds ⟨gx, 0, none⟩ 1 1 cs hl hnews (by omega) (by omega) ?_
        rw [hby]
        refine growslice_fits (by omega) ?_
        have := hbm (n + 1) (by omega)
        omega
      · refine noU32_of ?_
        rw [Array.toList_append, Array.toList_append]
        exact noU32_app (noU32_app (by simpa using hxn) (by simpa using hno)) (zeroCells_no hzn (by omega) _)
      · rw [Array.size_append, Array.size_append, size_zeroCells, hzs]
        simp only [List.size_toArray, hcs, h.1]
        rw [Nat.sub_mul, Nat.add_mul]
        have := Nat.mul_le_mul_right size hge
        rw [Nat.add_mul] at this
        omega
      · rw [Array.toList_append, Array.toList_append]
        show List.take _ (xs ++ cs ++ _) = _
        rw [List.take_append_of_le_length (by omega), List.take_of_length_le (by omega)]
end
end Go.Proofs.YtoblpcljhblnmaaGreatDoor
namespace Go.Proofs.YtoblpcljhblnmaaGreatDoor
open Go.RowKit
set_option maxRecDepth 100000
theorem wpList_append_run9 {P : Program} {ops : Array Oper} {rest : List Oper} {o : Oper} {a : Act} {Q : Exit → Act → World → Prop} {w w' : World} (hgd : o.guard = none) (s x : Operand) (t : TypeId)
    (hop : o.op = Op.call { callee := Callee.builtin Builtin.append, args := #[s, x], argTypes := #[t, t] }) (v y v' : Value) (hs : a.eval s = v) (hx : a.eval x = y)
    (hr : ∀ ty, (Builtin.append_ #[t, t] ty #[v, y]).run P w = .ok v' w') (h : wpList P ops Q rest (a.put o.dst v') w') : wpList P ops Q (o :: rest) a w := by
  refine wpList_plain hgd fun K hK => ?_
  unfold Oper.wp
  simp [execOp, hop, resolve, invoke, builtin, hs, hx, hr, Result.andThen]
  exact hK _ _ h
theorem info_row : (Tryz.prog.info? 94).map (fun i => (i.zero, i.size, i.bytes)) = some (some (.slice none 0 0), 1, 24) := by kernel_rfl
theorem make_mat (n : Nat) (hn : n ≤ 1000000) (w : World) : (Instr.makeSlice 175 (.int .i64 (n : Int)) (.int .i64 (n : Int))).run Tryz.prog w = .ok (.slice (some ⟨w.heap.size, 0, none⟩) n n) (w.alloc (.cells (Array.replicate n (Value.slice none 0 0)) 94)) := by
  obtain ⟨j0, ji0, jz0, jz1, jz2⟩ := info_parts info_row
  have := run_make (P := Tryz.prog) w 175 94 j0 (.slice none 0 0) Tryz.underlying175 ji0 jz0 .i64 .i64 n n (by omega) (by omega) (by rw [jz2]; omega) (by omega)
  rw [jz1, show (Value.slice none 0 0).cells = #[.slice none 0 0] from rfl] at this
  rw [show (Array.replicate n (Value.slice none 0 0)) = madeCells #[.slice none 0 0] n from by
    apply Array.ext'
    rw [toList_madeCells_one]
    simp]
  simpa using this
structure MB (w : World) (g n base : Nat) (R : List MRow) (z : Nat) : Prop where
  blk : Blk w g 94 (R.map (MRow.v n) ++ List.replicate z (Value.slice none 0 0)).toArray
  row : ∀ r ∈ R, RowW w r.g r.L
  len : ∀ r ∈ R, r.L.length = n
  each : ∀ r ∈ R, ∀ x ∈ r.L, RatIs w w.heap.size x.1 x.2
  apart : ∀ i j (hi : i < R.length) (hj : j < R.length), R[i].g = R[j].g → i = j
  own : ∀ r ∈ R, base ≤ r.g
  cap : ∀ r ∈ R, n ≤ r.c
section
variable {w w' : World} {g n base z : Nat} {R : List MRow}
theorem MB.lt (h : MB w g n base R z) : g < w.heap.size := h.blk.lt
theorem MB.go (h : MB w g n base R z) (hb : Below w.heap.size w w') : MB w' g n base R z :=
  ⟨h.blk.go hb, fun r hr => (h.row r hr).go hb, h.len, fun r hr x hx => (h.each r hr x hx).go hb, h.apart, h.own, h.cap⟩
theorem MB.frozen (h : MB w g n base R z) (i : Nat) : w.frozen? ⟨g, i, none⟩ = false := h.blk.frozen i
theorem MB.done (h : MB w g n base R 0) : MX w g n R := ⟨by have := h.blk; rwa [List.replicate_zero, List.append_nil] at this, h.row, h.len, h.each, h.apart, h.cap⟩
theorem MB.new_ (w : World) (n m base : Nat) : MB (w.alloc (.cells (Array.replicate m (Value.slice none 0 0)) 94)) w.heap.size n base [] m :=
  ⟨by have := Blk.new_ w w.heap.size 94 (Array.replicate m (Value.slice none 0 0)) rfl; simpa using this, (fun r hr => by cases hr), (fun r hr => by cases hr), (fun r hr => by cases hr), (fun i j hi => by simp at hi), (fun r hr => by cases hr), (fun r hr => by cases hr)⟩
theorem MB.cell (h : MB w g n base R (z + 1)) : w.cell? ⟨g, R.length, none⟩ = some (.slice none 0 0) := by
  rw [h.blk.cell, List.getElem?_toArray, List.getElem?_append_right (by rw [List.length_map]; exact Nat.le_refl _), List.length_map, Nat.sub_self]
  rfl
theorem noU32_part (n z : Nat) (R : List MRow) : noU32 (R.map (MRow.v n) ++ List.replicate z (Value.slice none 0 0)).toArray := noU32_of fun u hu k e => by
  simp only [List.mem_append, List.mem_map] at hu
  rcases hu with ⟨r, _, rfl⟩ | hu
  · cases e
  · rw [(List.mem_replicate.1 hu).2] at e
    cases e
theorem MB.add (h : MB w g n base R (z + 1)) {g' c' : Nat} {L : List (Rat × Rt)} (hr : RowW w g' L) (hl : L.length = n) (he : ∀ x ∈ L, RatIs w w.heap.size x.1 x.2) (hn : ∀ r ∈ R, r.g ≠ g') (hb : base ≤ g') (hcap : n ≤ c') :
    MB (w.setCell ⟨g, R.length, none⟩ (.slice (some ⟨g', 0, none⟩) n c')) g n base (R ++ [⟨g', c', L⟩]) z := by
  have hs : (w.setCell ⟨g, R.length, none⟩ (.slice (some ⟨g', 0, none⟩) n c')).heap.size = w.heap.size := by simp
  have hne : ∀ {g'' : Nat} {L' : List (Rat × Rt)}, RowW w g'' L' → g'' ≠ g := fun h1 => h1.ne h.blk
  have hk : ∀ {q : Rat} {x : Rt}, RatIs w w.heap.size q x → RatIs (w.setCell ⟨g, R.length, none⟩ (.slice (some ⟨g', 0, none⟩) n c')) (w.setCell ⟨g, R.length, none⟩ (.slice (some ⟨g', 0, none⟩) n c')).heap.size q x := fun h1 => h1.set_ h.blk (noU32_part n (z + 1) R) _ _
  refine ⟨?_, fun r hr2 => ?_, fun r hr2 => ?_, fun r hr2 x hx => ?_, fun i j hi hj e => ?_, fun r hr2 => ?_, fun r hr2 => ?_⟩
  · have h1 := h.blk.set_ R.length (.slice (some ⟨g', 0, none⟩) n c')
    rw [List.setIfInBounds_toArray, List.set_append_right _ _ (by rw [List.length_map]; exact Nat.le_refl _), List.length_map, Nat.sub_self, List.replicate_succ, List.set_cons_zero] at h1
    rw [List.map_append, List.append_assoc]
    exact h1
  · rw [List.mem_append, List.mem_singleton] at hr2
    rcases hr2 with hr2 | rfl
    · exact (h.row r hr2).far (hne (h.row r hr2)) _ _
    · exact hr.far (hne hr) _ _
  · rw [List.mem_append, List.mem_singleton] at hr2
    rcases hr2 with hr2 | rfl
    · exact h.len r hr2
    · exact hl
  · rw [List.mem_append, List.mem_singleton] at hr2
    rcases hr2 with hr2 | rfl
    · exact hk (h.each r hr2 x hx)
    · exact hk (he x hx)
  · rw [List.length_append, List.length_singleton] at hi hj
    by_cases h1 : i < R.length <;> by_cases h2 : j < R.length
    · rw [List.getElem_append_left h1, List.getElem_append_left h2] at e
      exact h.apart i j h1 h2 e
    · rw [List.getElem_append_left h1, List.getElem_append_right (by omega)] at e
      simp only [show j - R.length = 0 by omega, List.getElem_cons_zero] at e
      exact absurd e (hn _ (List.getElem_mem h1))
    · rw [List.getElem_append_left h2, List.getElem_append_right (by omega)] at e
      simp only [show i - R.length = 0 by omega, List.getElem_cons_zero] at e
      exact absurd e.symm (hn _ (List.getElem_mem h2))
    · omega
  · rw [List.mem_append, List.mem_singleton] at hr2
    rcases hr2 with hr2 | rfl
    · exact h.own r hr2
    · exact hb
  · rw [List.mem_append, List.mem_singleton] at hr2
    rcases hr2 with hr2 | rfl
    · exact h.cap r hr2
    · exact hcap
theorem MB.old (h : MB w g n base R z) : ∀ r ∈ R, r.g < w.heap.size := fun r hr => (h.row r hr).lt
end
theorem vals_snoc (R : List MRow) (r : MRow) : vals (R ++ [r]) = vals R ++ [r.L.map (·.1)] := by unfold vals; rw [List.map_append]; rfl
def CopySaid (M : Pl.Mat) (m n : Nat) (w : World) (e : Ending) (w' : World) : Prop :=
  ∃ (g : Nat) (R : List MRow), e = .returned (.slice (some ⟨g, 0, none⟩) m m) ∧ w.heap.size ≤ g ∧ MX w' g n R ∧ (∀ r ∈ R, w.heap.size ≤ r.g) ∧ R.length = m ∧ vals R = M ∧ Below w.heap.size w w'
set_option maxHeartbeats 3200000 in
theorem copy_any (A : Option Addr) (m n c : Nat) (S : List (Option Addr × Nat × List (Rat × Rt))) (w : World) (hm : m ≤ 1000) (hn : n ≤ 1000) (hn0 : 0 < n) (hr : MatIn w w.heap.size A m n S) :
    Calls Tryz.prog 206 #[.slice A m c] w (CopySaid (svals S) m n w) := by
  have HR := Lib.hid hr
  have HSL : Hid (S.length = m) := hr.len
  have hmk := make_mat m (by omega)
  have R0 := Lib.hid (MB.new_ w n m w.heap.size)
  have D0 := Lib.hid (below_one w (.cells (Array.replicate m (Value.slice none 0 0)) 94))
  clear hr
  go_enter Tryz.func206, Tryz.ntmps206
  go_wp2_with fail
  obtain ⟨g, hg⟩ : ∃ g : Nat, g = w.heap.size := ⟨_, rfl⟩
  have HG : w.heap.size ≤ g := by omega
  rw [← hg] at R0 ⊢
  clear hmk hg
  generalize w.alloc (.cells (Array.replicate m (Value.slice none 0 0)) 94) = w1 at *
  go_loopw [11] (fun i wr => ∃ (k : Nat) (R : List MRow), k ≤ m ∧ i = .int .i64 k ∧ R.length = k ∧ Hid (vals R = (svals S).take k) ∧ MB wr g n g R (m - k) ∧ Below w.heap.size w wr) (fun i _ => m - (intOf i).toNat)
  case atStart => exact ⟨0, [], Nat.zero_le _, rfl, rfl, by show _ = _; simp [vals], by rw [Nat.sub_zero]; exact R0.out, D0.out⟩
  case round =>
    clear R0 D0
    obtain ⟨k, R, hk, rfl, hl, HV, hmb, hb⟩ := hrel
    have HMB := Lib.hid hmb
    have D := Lib.hid hb
    clear hmb hb
    by_cases hlt : k < m
    · obtain ⟨b, o, rfl, hb1, hl1, c0, hs1⟩ := (HR.out.go D.out).at_ hlt
      have HT : Hid ((svals S).take (k + 1) = (svals S).take k ++ [S[k].2.2.map (·.1)]) := by
        show _ = _
        rw [List.take_succ_eq_append_getElem (by unfold svals; rw [List.length_map]; exact hl1)]
        unfold svals
        rw [List.getElem_map]
      generalize S[k] = s at *
      obtain ⟨As, cs, L⟩ := s
      have HS := Lib.hid hs1
      simp only at c0 HS HT
      have hll : L.length = n := hs1.len
      obtain ⟨v2, w2, hap, hrq, hbl, hsz, hkp⟩ := (RQ.none_ wr wr.heap.size).pushs (c := cs) HS.out.row (by simp; omega) (Nat.le_refl _)
      rw [List.nil_append] at hrq
      obtain ⟨g2, c2, rfl, hg2, hrw, hcap2⟩ := hrq.rowW (by omega)
      have HMB2 := Lib.hid (HMB.out.go hbl)
      have D2 := Lib.hid (D.out.trans (hbl.mono D.out.size))
      have HE : Hid (∀ x ∈ L, RatIs w2 w2.heap.size x.1 x.2) := fun x hx => hkp _ _ (HS.out.each x hx)
      have HRW := Lib.hid hrw
      have HN2 : Hid (∀ r ∈ R, r.g ≠ g2) := fun r hr e => by have := HMB.out.old r hr; omega
      have HLL := Lib.hid hll
      rw [hll] at hap
      clear hbl hrq hrw hs1 HS hkp
      have hk4 : (k : Int) < (m : Int) := by omega
      have e9 : m - k = m - (k + 1) + 1 := by omega
      rw [e9] at HMB2
      have cx := HMB2.out.cell
      have fx := HMB2.out.frozen
      have lx := HMB2.out.lt
      rw [hl] at cx
      go_wp2_with (at_builtin; go_must (refine wpList_append_run9 rfl _ _ 94 rfl _ _ _ rfl rfl hap ?_))
      go_roundw
      case rel =>
        refine ⟨k + 1, R ++ [⟨g2, c2, L⟩], by omega, by go_num, by simp [hl], ?_, ?_, D2.out.setCell (by omega) _⟩
        · show _ = _
          rw [HT.out, vals_snoc, HV.out]
        · have := HMB2.out.add (c' := c2) HRW.out HLL.out HE.out HN2.out (by have := HMB.out.lt; omega) (by omega)
          rw [hl] at this
          exact this
      case measure => simp [intOf]; omega
    · have : k = m := by omega
      subst this
      go_wp2_with fail
      go_ret
      rw [Nat.sub_self] at HMB
      exact ⟨g, R, rfl, HG, HMB.out.done, fun r hr => Nat.le_trans HG (HMB.out.own r hr), hl, by rw [HV.out, List.take_of_length_le (by unfold svals; rw [List.length_map, HSL.out]; exact Nat.le_refl _)], D.out⟩
end Go.Proofs.YtoblpcljhblnmaaGreatDoor
