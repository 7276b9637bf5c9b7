/- large.Texts: the texts of numbers in a row of their own. Condition: the words read; at most 1000 numbers. A growing row of rational numbers: append. Condition: at most a million numbers. -/
import Derived.Test.YtoblpcljhblnmaaGreatDoorRatB
import Derived.Test.YtoblpcljhblnmaaGreatDoorRatAS
import Derived.Laws.AppendOwn
namespace Go.Proofs.YtoblpcljhblnmaaGreatDoor
open Go.RowKit
set_option maxRecDepth 100000
theorem info_tx : (Tryz.prog.info? 41).map (fun i => (i.zero, i.size, i.bytes)) = some (some (.string ⟨#[]⟩), 1, 16) := by kernel_rfl
theorem make_tx (n : Nat) (hn : n ≤ 1000000) (w : World) : (Instr.makeSlice 32 (.int .i64 (n : Int)) (.int .i64 (n : Int))).run Tryz.prog w = .ok (.slice (some ⟨w.heap.size, 0, none⟩) n n) (w.alloc (.cells (Array.replicate n (Value.string ⟨#[]⟩)) 41)) := by
  obtain ⟨j0, ji0, jz0, jz1, jz2⟩ := info_parts info_tx
  have := run_make (P := Tryz.prog) w 32 41 j0 (.string ⟨#[]⟩) Tryz.underlying32 ji0 jz0 .i64 .i64 n n (by omega) (by omega) (by rw [jz2]; omega) (by omega)
  rw [jz1, show (Value.string ⟨#[]⟩).cells = #[.string ⟨#[]⟩] from rfl] at this
  rw [show (Array.replicate n (Value.string ⟨#[]⟩)) = madeCells #[.string ⟨#[]⟩] n from by
    apply Array.ext'
    rw [toList_madeCells_one]
    simp]
  simpa using this
def TextsVSaid (rs : List Rat) (n : Nat) (w : World) (e : Ending) (w' : World) : Prop :=
  ((¬ (∀ q ∈ rs, Pl.Fits q) ∧ e = .returned (.tuple #[.slice none 0 0, .bool false])) ∨
    ((∀ q ∈ rs, Pl.Fits q) ∧ ∃ g, e = .returned (.tuple #[.slice (some ⟨g, 0, none⟩) n n, .bool true]) ∧ Reads w' w'.heap.size 1 (some ⟨g, 0, none⟩) n (txs (rs.map Pl.ratTxt)))) ∧ Below w.heap.size w w'
def WX (w : World) (g : Nat) (ls : List (List UInt8)) (m : Nat) : Prop := Blk w g 41 (txs ls ++ List.replicate m (Value.string ⟨#[]⟩)).toArray
theorem WX.cell {w : World} {g m : Nat} {ls : List (List UInt8)} (h : WX w g ls (m + 1)) : w.cell? ⟨g, ls.length, none⟩ = some (.string ⟨#[]⟩) := by
  refine (Blk.cell h _).trans ?_
  rw [List.getElem?_toArray, List.getElem?_append_right (by simp [txs]), show ls.length - (txs ls).length = 0 by simp [txs]]
  rfl
theorem WX.add {w : World} {g m : Nat} {ls : List (List UInt8)} (h : WX w g ls (m + 1)) (s : List UInt8) : WX (w.setCell ⟨g, ls.length, none⟩ (tx s)) g (ls ++ [s]) m := by
  have h1 := Blk.set_ h ls.length (tx s)
  unfold WX
  have e : ((txs ls ++ List.replicate (m + 1) (Value.string ⟨#[]⟩)).toArray.setIfInBounds ls.length (tx s)) = (txs (ls ++ [s]) ++ List.replicate m (Value.string ⟨#[]⟩)).toArray := by
    rw [List.setIfInBounds_toArray, List.set_append_right _ _ (by simp [txs]), show ls.length - (txs ls).length = 0 by simp [txs], List.replicate_succ, List.set_cons_zero]
    unfold txs
    rw [List.map_append, List.append_assoc]
    rfl
  rw [e] at h1
  exact h1
set_option maxHeartbeats 3200000 in
theorem textsv_any (A : Option Addr) (n c : Nat) (L : List (Rat × Rt)) (rs : List Rat) (w : World) (hn : n ≤ 1000) (hr : RatsIs w w.heap.size A n L) (hL : L.map (·.1) = rs) (hl : LV w) :
    Calls Tryz.prog 84 #[.slice A n c] w (TextsVSaid rs n w) := by
  have HA := Lib.hid hr
  have HL := Lib.hid hL
  have HV := Lib.hid hl
  have HN : Hid (rs.length = n) := by show _ = _; rw [← hL, List.length_map]; exact hr.len
  have hmk := make_tx n (by omega)
  clear hr hL hl
  go_enter Tryz.func84, Tryz.ntmps84
  go_wp2_with fail
  have XR : Hid (WX (w.alloc (.cells (Array.replicate n (Value.string ⟨#[]⟩)) 41)) w.heap.size [] n) := by
    show Blk _ _ _ _
    have h7 := Blk.new_ w w.heap.size 41 (Array.replicate n (Value.string ⟨#[]⟩)) rfl
    rw [show (txs [] ++ List.replicate n (Value.string ⟨#[]⟩)).toArray = Array.replicate n (Value.string ⟨#[]⟩) from by simp [txs]]
    exact h7
  have D := Lib.hid (below_one w (.cells (Array.replicate n (Value.string ⟨#[]⟩)) 41))
  obtain ⟨g, hg⟩ : ∃ g : Nat, g = w.heap.size := ⟨_, rfl⟩
  have HG : w.heap.size ≤ g := by omega
  rw [← hg] at XR ⊢
  clear hg hmk
  generalize w.alloc (.cells (Array.replicate n (Value.string ⟨#[]⟩)) 41) = w1 at *
  go_loopw [14] (fun i wr => ∃ (k : Nat), k ≤ n ∧ i = .int .i64 k ∧ WX wr g ((rs.take k).map Pl.ratTxt) (n - k) ∧ Hid (∀ q ∈ rs.take k, Pl.Fits q) ∧ Below w.heap.size w wr) (fun i _ => n - (intOf i).toNat)
  case atStart => exact ⟨0, Nat.zero_le _, rfl, by simpa using XR.out, Lib.hid (fun q hq => by simp at hq), D.out⟩
  case round =>
    clear XR D
    obtain ⟨k, hk, rfl, hxr, HF, hd⟩ := hrel
    have XR := Lib.hid hxr
    have D := Lib.hid hd
    clear hxr hd
    by_cases hlt : k < n
    · have hkl : k < rs.length := by rw [HN.out]; exact hlt
      obtain ⟨b, o, rfl, hbb, hla, c0, c1, c2, c3, hX⟩ := (HA.out.go D.out).at (k := k) hlt
      have ea : L[k].1 = rs[k] := by
        have := HL.out
        subst this
        simp
      rw [ea] at hX
      have HM := Lib.hid (List.getElem_mem hkl)
      have HT : Hid (rs.take (k + 1) = rs.take k ++ [rs[k]]) := by show _ = _; rw [List.take_succ_eq_append_getElem hkl]
      generalize L[k].2 = x at *
      have HX := Lib.hid hX
      generalize rs[k] = q at *
      clear ea hla hX hkl
      have hk1 : (k : Int) < (n : Int) := by omega
      go_wp2_with fail
      have hb5 := below_one wr (.cells #[.bool x.N.b, .slice x.N.A x.N.n x.N.c, .bool x.D.b, .slice x.D.A x.D.n x.D.c] 105)
      replace XR : Hid (WX _ g _ _) := Lib.hid (Blk.go XR.out hb5)
      replace HX := Lib.hid (HX.out.go hb5)
      replace D := Lib.hid (D.out.trans (hb5.mono D.out.size))
      clear hb5
      generalize wr.alloc (.cells #[.bool x.N.b, .slice x.N.A x.N.n x.N.c, .bool x.D.b, .slice x.D.A x.D.n x.D.c] 105) = wa at *
      refine (rtext_any HX.out (HV.out.go D.out)).mono ?_
      rintro e wb ⟨s, bb, rfl, hbq, hst, hb5⟩
      have HBQ := Lib.hid hbq
      have HST := Lib.hid hst
      clear hst
      replace XR : Hid (WX _ g _ _) := Lib.hid (Blk.go XR.out hb5)
      replace D := Lib.hid (D.out.trans (hb5.mono D.out.size))
      clear hb5 hbq HX
      cases bb
      · go_wp2_with fail
        go_ret2
        refine ⟨.inl ⟨fun h => ?_, rfl⟩, D.out⟩
        have := HBQ.out.2 (h q HM.out)
        cases this
      · have hq9 := HBQ.out.1 rfl
        have hs9 := HST.out rfl
        have hkl : ((rs.take k).map Pl.ratTxt).length = k := by rw [List.length_map, List.length_take, HN.out]; omega
        rw [show n - k = n - (k + 1) + 1 by omega] at XR
        have cx := WX.cell XR.out
        rw [hkl] at cx
        have fx := Blk.frozen XR.out
        have lx := Blk.lt XR.out
        have HQ9 := Lib.hid hq9
        have HS9 := Lib.hid hs9
        clear hq9 hs9 HBQ HST
        go_wp2_with fail
        go_roundw
        case rel =>
          refine ⟨k + 1, by omega, by go_num, ?_, ?_, D.out.setCell (by simp; omega) _⟩
          · have h7 := WX.add XR.out s
            rw [hkl] at h7
            rw [HT.out, List.map_append, List.map_singleton, ← HS9.out]
            exact h7
          · show ∀ z ∈ rs.take (k + 1), _
            rw [HT.out]
            intro z hz
            rw [List.mem_append, List.mem_singleton] at hz
            rcases hz with hz | hz
            · exact HF.out z hz
            · subst hz; exact HQ9.out
        case measure => simp [intOf]; omega
    · have : k = n := by omega
      subst this
      have hT : rs.take k = rs := List.take_of_length_le (by rw [HN.out]; exact Nat.le_refl _)
      rw [hT] at HF XR
      rw [Nat.sub_self] at XR
      go_wp2_with fail
      go_ret2
      refine ⟨.inr ⟨HF.out, g, rfl, ?_⟩, D.out⟩
      refine ⟨by simp [txs, HN.out], fun _ => ⟨_, rfl, Blk.lt XR.out, fun j u hu => ?_⟩⟩
      rw [Srt.addr_add, Blk.cell XR.out j, List.getElem?_toArray, List.replicate_zero, List.append_nil]
      exact hu
end Go.Proofs.YtoblpcljhblnmaaGreatDoor
namespace Go.Proofs.YtoblpcljhblnmaaGreatDoor
open Go.RowKit
set_option maxRecDepth 100000
def RQ (w : World) (base : Nat) (v : Value) (L : List (Rat × Rt)) : Prop :=
  (v = .slice none 0 0 ∧ L = []) ∨ ∃ (g cap : Nat) (cur : Array Value), v = .slice (some ⟨g, 0, none⟩) L.length cap ∧ base ≤ g ∧ Blk w g 105 cur ∧ noU32 cur ∧ cur.size = cap * 4 ∧ L.length ≤ cap ∧ cap ≤ maxLen ∧ cur.toList.take (L.length * 4) = rts L
theorem RQ.none_ (w : World) (base : Nat) : RQ w base (.slice none 0 0) [] := .inl ⟨rfl, rfl⟩
theorem RQ.go {w w' : World} {base : Nat} {v : Value} {L : List (Rat × Rt)} (h : RQ w base v L) (hb : Below w.heap.size w w') : RQ w' base v L := by
  rcases h with h | ⟨g, cap, cur, h1, h2, h3, h4⟩
  · exact .inl h
  · exact .inr ⟨g, cap, cur, h1, h2, h3.go hb, h4⟩
theorem RQ.slice {w : World} {base : Nat} {v : Value} {L : List (Rat × Rt)} (h : RQ w base v L) : ∃ A c, v = .slice A L.length c := by
  rcases h with ⟨rfl, rfl⟩ | ⟨g, cap, cur, rfl, _⟩
  · exact ⟨_, _, rfl⟩
  · exact ⟨_, _, rfl⟩
theorem rtC_one (x : Rt) : ∀ u ∈ rtC x, u.oneCell' = true := by
  intro u hu
  simp only [rtC, List.mem_cons, List.not_mem_nil, or_false] at hu
  rcases hu with rfl | rfl | rfl | rfl <;> rfl
theorem noU32_of {cs : Array Value} (h : ∀ u ∈ cs.toList, ∀ k : Int, u ≠ .int .u32 k) : noU32 cs := fun i k e => by
  rw [← Array.getElem?_toList] at e
  exact h _ (List.mem_of_getElem? e) k rfl
theorem noU32_mem {cs : Array Value} (h : noU32 cs) : ∀ u ∈ cs.toList, ∀ k : Int, u ≠ .int .u32 k := fun u hu k e => by
  subst e
  obtain ⟨i, hi, e⟩ := List.getElem_of_mem hu
  exact h i k (by rw [← Array.getElem?_toList, List.getElem?_eq_getElem hi, e])
theorem rtC_no (x : Rt) : ∀ u ∈ rtC x, ∀ k : Int, u ≠ .int .u32 k := by
  intro u hu k e
  subst e
  simp [rtC] at hu
theorem rts_no (L : List (Rat × Rt)) : ∀ u ∈ rts L, ∀ k : Int, u ≠ .int .u32 k := by
  intro u hu
  unfold rts at hu
  rw [List.mem_flatMap] at hu
  obtain ⟨x, _, hx⟩ := hu
  exact rtC_no x.2 u hx
theorem zero_no (n : Nat) : ∀ u ∈ (Builtin.zeroCells (Value.agg #[.bool false, .slice none 0 0, .bool false, .slice none 0 0]).cells n).toList, ∀ k : Int, u ≠ .int .u32 k := by
  intro u hu k e
  subst e
  unfold Builtin.zeroCells at hu
  rw [Array.toList_map, List.mem_map] at hu
  obtain ⟨j, _, e⟩ := hu
  have h4 : j % 4 < 4 := Nat.mod_lt _ (by decide)
  change (#[Value.bool false, .slice none 0 0, .bool false, .slice none 0 0] : Array Value)[j % 4]! = _ at e
  generalize j % 4 = r at *
  match r, h4 with
  | 0, _ => cases e
  | 1, _ => cases e
  | 2, _ => cases e
  | 3, _ => cases e
theorem setRow_cell (w : World) (g : Nat) (cs : Array Value) (p : Addr) (hp : p.block ≠ g) : (w.setRow g cs).cell? p = w.cell? p := by
  unfold World.cell?
  rw [setRow_other w g p.block cs hp]
theorem RQ.push {w : World} {base : Nat} {v : Value} {L : List (Rat × Rt)} (h : RQ w base v L) (q : Rat) {x : Rt} {gx : Nat} {t : TypeId} (hg : Blk w gx t (rtC x).toArray) (hL : L.length ≤ 1000000) (hb : base ≤ w.heap.size) :
    ∃ v' w', (∀ ty, (Builtin.append_ #[94, 94] ty #[v, .slice (some ⟨gx, 0, none⟩) 1 1]).run Tryz.prog w = .ok v' w') ∧ RQ w' base v' (L ++ [(q, x)]) ∧ Below base w w' ∧ w.heap.size ≤ w'.heap.size ∧ (∀ (z : Rat) (y : Rt), RatIs w w.heap.size z y → RatIs w' w'.heap.size z y) := by
  obtain ⟨i, hi, hz, hs, hby⟩ := info_parts info_rat
  have hnews : ∀ j u, (rtC x)[j]? = some u → w.cell? ((⟨gx, 0, none⟩ : Addr).add j) = some u := by
    intro j u hj
    rw [Srt.addr_add, hg.cell, List.getElem?_toArray]
    exact hj
  have hl : (rtC x).length = 1 * i.size := by rw [hs]; rfl
  rcases h with ⟨rfl, rfl⟩ | ⟨g, cap, cur, rfl, h2, h3, h4, h5, h6, h7, h8⟩
  · have hge := grownCap_ge w 1 0 105
    refine ⟨.slice (some ⟨w.heap.size, 0, none⟩) 1 (grownCap w 1 0 105), w.drew.alloc (.cells ((rtC x).toArray ++ Builtin.zeroCells (Value.agg #[.bool false, .slice none 0 0, .bool false, .slice none 0 0]).cells (grownCap w 1 0 105 - 1)) 105), fun ty => ?_, .inr ⟨w.heap.size, _, _, rfl, hb, heap_alloc_new w.drew _, ?_, ?_, by simpa using hge, grownCap_le_maxLen w 1 0 _ (by unfold maxLen; omega), ?_⟩, ((Below.refl base w).drew.alloc hb _), by simp, fun z y hy => hy.go ((Below.refl _ w).drew.alloc (Nat.le_refl _) _)⟩
    · exact run_append_nil (P := Tryz.prog) w 94 ty 105 i _ Tryz.underlying94 hi hz ⟨gx, 0, none⟩ 1 1 (rtC x) hl hnews (by omega) (by omega) (by rw [hby]; omega)
    · refine noU32_of fun u hu => ?_
      rw [Array.toList_append, List.mem_append] at hu
      rcases hu with hu | hu
      · exact rtC_no x u (by simpa using hu)
      · exact zero_no _ u hu
    · rw [Array.size_append, size_zeroCells]
      simp [rtC, Value.cells]
      omega
    · rw [Array.toList_append, List.take_append_of_le_length (by simp [rtC])]
      simp [rtC, rts]
  · by_cases hroom : L.length + 1 ≤ cap
    · have hap := fun ty => run_append_room (P := Tryz.prog) w 94 ty 105 i Tryz.underlying94 hi g L.length cap cur h3 ⟨gx, 0, none⟩ 1 1 (rtC x) hl hnews (rtC_one x) hroom (by rw [hs, rtC_len]; omega)
      rw [hs] at hap
      obtain ⟨cur', hcur⟩ : ∃ cur', cur' = (cur.toList.take (L.length * 4) ++ rtC x ++ cur.toList.drop (L.length * 4 + (rtC x).length)).toArray := ⟨_, rfl⟩
      rw [← hcur] at hap
      have hsz : cur'.size = cap * 4 := by
        rw [hcur, ← h5]
        simp only [List.size_toArray, List.length_append, List.length_take, List.length_drop, Array.length_toList, rtC_len]
        omega
      refine ⟨_, _, hap, .inr ⟨g, cap, cur', by simp, h2, setRow_heap w g cur _ _ _ h3, ?_, hsz, by simpa using hroom, h7, ?_⟩, ?_, by simp [World.setRow], fun z y hy => ?_⟩
      · refine noU32_of fun u hu => ?_
        rw [hcur] at hu
        simp only [List.mem_append] at hu
        rcases hu with (hu | hu) | hu
        · exact noU32_mem h4 u (List.mem_of_mem_take hu)
        · exact rtC_no x u hu
        · exact noU32_mem h4 u (List.mem_of_mem_drop hu)
      · rw [hcur]
        simp only [List.length_append, List.length_cons, List.length_nil]
        rw [List.append_assoc, h8, ← rts_snoc]
        have h9 := rts_len L
        rw [List.take_append, List.take_of_length_le (by omega), show (L.length + (0 + 1)) * 4 - (rts L).length = 4 by omega]
        congr 1
      · exact ⟨rfl, rfl, rfl, by simp [World.setRow], fun k hk => setRow_other w g k _ (by omega)⟩
      · have e : (w.setRow g cur').heap.size = w.heap.size := by simp [World.setRow]
        rw [e]
        exact ⟨hy.n.off h3 h4 (setRow_cell w g cur'), hy.d.off h3 h4 (setRow_cell w g cur')⟩
    · have holds : ∀ j u, (rts L)[j]? = some u → w.cell? ((⟨g, 0, none⟩ : Addr).add j) = some u := by
        intro j u hu
        rw [Srt.addr_add, h3.cell, ← Array.getElem?_toList]
        have hj : j < L.length * 4 := by
          have := (List.getElem?_eq_some_iff.1 hu).1
          rw [rts_len] at this
          omega
        rw [← h8, List.getElem?_take_of_lt hj] at hu
        exact hu
      have hge := grownCap_ge w (L.length + 1) cap 105
      refine ⟨.slice (some ⟨w.heap.size, 0, none⟩) (L.length + 1) (grownCap w (L.length + 1) cap 105), w.drew.alloc (.cells ((rts L).toArray ++ (rtC x).toArray ++ Builtin.zeroCells (Value.agg #[.bool false, .slice none 0 0, .bool false, .slice none 0 0]).cells (grownCap w (L.length + 1) cap 105 - (L.length + 1))) 105), fun ty => ?_, .inr ⟨w.heap.size, grownCap w (L.length + 1) cap 105, _, by simp, hb, heap_alloc_new w.drew _, ?_, ?_, by simpa using hge, grownCap_le_maxLen w (L.length + 1) cap _ (by unfold maxLen; omega), ?_⟩, ((Below.refl base w).drew.alloc hb _), by simp, fun z y hy => hy.go ((Below.refl _ w).drew.alloc (Nat.le_refl _) _)⟩
      · exact run_append_grow (P := Tryz.prog) w 94 ty 105 i _ Tryz.underlying94 hi hz ⟨g, 0, none⟩ L.length cap (rts L) (by rw [hs, rts_len]; omega) holds ⟨gx, 0, none⟩ 1 1 (rtC x) hl hnews (by omega) (by omega) (by rw [hby]; exact growslice_fits (by omega) (by omega))
      · refine noU32_of fun u hu => ?_
        rw [Array.toList_append, Array.toList_append, List.mem_append, List.mem_append] at hu
        rcases hu with (hu | hu) | hu
        · exact rts_no L u (by simpa using hu)
        · exact rtC_no x u (by simpa using hu)
        · exact zero_no _ u hu
      · rw [Array.size_append, Array.size_append, size_zeroCells]
        simp [rts_len, rtC, Value.cells]
        omega
      · have h9 := rts_len L
        rw [Array.toList_append, Array.toList_append, ← rts_snoc]
        simp only [List.length_append, List.length_cons, List.length_nil]
        rw [List.take_append_of_le_length (by simp [rtC_len]; omega), List.take_of_length_le (by simp [rtC_len]; omega)]
end Go.Proofs.YtoblpcljhblnmaaGreatDoor
