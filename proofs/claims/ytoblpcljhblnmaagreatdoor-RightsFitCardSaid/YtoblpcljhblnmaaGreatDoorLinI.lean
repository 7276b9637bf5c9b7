/- lin.Inverse: the inverse of a matrix that sends no vector but zero to zero; large.Dot. Condition: the matrix reads; the numbers of all steps have at most 2^38 words. -/
import Derived.Test.YtoblpcljhblnmaaGreatDoorLinR
import Derived.Test.YtoblpcljhblnmaaGreatDoorRepR
namespace Go.Proofs.YtoblpcljhblnmaaGreatDoor
open Go.RowKit
set_option maxRecDepth 100000
section
variable {w w' : World} {g n base z : Nat} {R : List MRow}
theorem MB.outer (h : MB w g n base R z) {i : Nat} (hi : i < R.length) : w.cell? ⟨g, i, none⟩ = some (.slice (some ⟨R[i].g, 0, none⟩) n R[i].c) := by
  rw [h.blk.cell, List.getElem?_toArray, List.getElem?_append_left (by rw [List.length_map]; exact hi), List.getElem?_map, List.getElem?_eq_getElem hi]
  rfl
theorem MB.rlen (h : MB w g n base R z) {i : Nat} (hi : i < R.length) : R[i].L.length = n := h.len _ (List.getElem_mem hi)
theorem MB.rlt (h : MB w g n base R z) {i : Nat} (hi : i < R.length) : R[i].g < w.heap.size := (h.row _ (List.getElem_mem hi)).lt
theorem MB.rfrozen (h : MB w g n base R z) {i : Nat} (hi : i < R.length) (k : Nat) : w.frozen? ⟨R[i].g, k, none⟩ = false := (h.row _ (List.getElem_mem hi)).frozen k
theorem MB.inner (h : MB w g n base R z) {i j : Nat} (hi : i < R.length) (hj : j < R[i].L.length) : w.cell? ⟨R[i].g, j * 4, none⟩ = some (.bool R[i].L[j].2.N.b) ∧ w.cell? ⟨R[i].g, j * 4 + 1, none⟩ = some (.slice R[i].L[j].2.N.A R[i].L[j].2.N.n R[i].L[j].2.N.c) ∧ w.cell? ⟨R[i].g, j * 4 + 2, none⟩ = some (.bool R[i].L[j].2.D.b) ∧ w.cell? ⟨R[i].g, j * 4 + 3, none⟩ = some (.slice R[i].L[j].2.D.A R[i].L[j].2.D.n R[i].L[j].2.D.c) := (h.row _ (List.getElem_mem hi)).at_ hj
theorem MB.ne (h : MB w g n base R z) {i : Nat} (hi : i < R.length) : g ≠ R[i].g := Ne.symm ((h.row _ (List.getElem_mem hi)).ne h.blk)
theorem MB.put (h : MB w g n base R z) {i j : Nat} (hi : i < R.length) (hj : j < R[i].L.length) {q : Rat} {x : Rt} (hx : RatIs w w.heap.size q x) : MB (rput w R[i].g j x) g n base (R.set i (R[i].put j q x)) z := by
  have hB := h.row _ (List.getElem_mem hi)
  have hc := hB.chg (j := j) x
  have hmem : ∀ r ∈ R.set i (R[i].put j q x), r = R[i].put j q x ∨ r ∈ R := fun r hr => by
    rcases List.mem_or_eq_of_mem_set hr with hr | hr
    · exact .inr hr
    · exact .inl hr
  refine ⟨?_, ?_, ?_, ?_, ?_, ?_, ?_⟩
  · have e : (R.set i (R[i].put j q x)).map (MRow.v n) = R.map (MRow.v n) := by
      apply List.ext_getElem (by simp)
      intro k h2 h3
      rw [List.getElem_map, List.getElem_map, List.getElem_set]
      split
      · rename_i e; subst e; rfl
      · rfl
    rw [e]
    exact hc.blk g _ _ (fun e => h.ne hi (Option.some.inj e)) h.blk
  · intro r hr
    obtain ⟨k, hk, rfl⟩ := List.getElem_of_mem hr
    rw [List.length_set] at hk
    rw [List.getElem_set]
    split
    · exact (hB.put hj q x).1
    · rename_i e
      exact (h.row _ (List.getElem_mem hk)).keep hc (fun e9 => e (h.apart k i hk hi (Option.some.inj e9)).symm)
  · intro r hr
    rcases hmem r hr with rfl | hr
    · unfold MRow.put
      rw [List.length_set]
      exact h.rlen hi
    · exact h.len r hr
  · intro r hr y hy
    rcases hmem r hr with rfl | hr
    · rcases List.mem_or_eq_of_mem_set hy with hy | rfl
      · exact hc.num _ _ (h.each _ (List.getElem_mem hi) y hy)
      · exact hc.num _ _ hx
    · exact hc.num _ _ (h.each r hr y hy)
  · intro a b ha hb he
    rw [List.length_set] at ha hb
    have e : ∀ k (hk : k < R.length), ((R.set i (R[i].put j q x))[k]'(by rw [List.length_set]; exact hk)).g = R[k].g := fun k hk => by
      rw [List.getElem_set]
      split
      · rename_i e; subst e; rfl
      · rfl
    rw [e a ha, e b hb] at he
    exact h.apart a b ha hb he
  · intro r hr
    rcases hmem r hr with rfl | hr
    · exact h.own R[i] (List.getElem_mem hi)
    · exact h.own r hr
  · intro r hr
    rcases hmem r hr with rfl | hr
    · exact h.cap R[i] (List.getElem_mem hi)
    · exact h.cap r hr
end
structure MC (w : World) (g n wd k : Nat) (R : List MRow) : Prop where
  blk : Blk w g 94 ((R.take k).map (fun r => Value.slice (some ⟨r.g, n * 4, none⟩) n (r.c - n)) ++ (R.drop k).map (MRow.v wd)).toArray
  row : ∀ r ∈ R, RowW w r.g r.L
  len : ∀ r ∈ R, r.L.length = wd
  each : ∀ r ∈ R, ∀ x ∈ r.L, RatIs w w.heap.size x.1 x.2
  cap : ∀ r ∈ R, wd ≤ r.c
theorem MX.cut {w : World} {g n wd : Nat} {R : List MRow} (h : MX w g wd R) : MC w g n wd 0 R := ⟨by have := h.blk; simpa using this, h.row, h.len, h.each, h.cap⟩
section
variable {w w' : World} {g n wd k : Nat} {R : List MRow}
theorem noU32_cut : noU32 ((R.take k).map (fun r => Value.slice (some ⟨r.g, n * 4, none⟩) n (r.c - n)) ++ (R.drop k).map (MRow.v wd)).toArray := noU32_of fun u hu q e => by
  simp only [List.mem_append, List.mem_map] at hu
  rcases hu with ⟨r, _, rfl⟩ | ⟨r, _, rfl⟩ <;> cases e
theorem MC.cell (h : MC w g n wd k R) (hk : k < R.length) : w.cell? ⟨g, k, none⟩ = some (.slice (some ⟨R[k].g, 0, none⟩) wd R[k].c) := by
  rw [h.blk.cell, List.getElem?_toArray, List.getElem?_append_right (by rw [List.length_map, List.length_take]; omega), List.length_map, List.length_take, show k - min k R.length = 0 by omega, List.getElem?_map, List.getElem?_drop, Nat.add_zero, List.getElem?_eq_getElem hk]
  rfl
theorem MC.next (h : MC w g n wd k R) (hk : k < R.length) : MC (w.setCell ⟨g, k, none⟩ (.slice (some ⟨R[k].g, n * 4, none⟩) n (R[k].c - n))) g n wd (k + 1) R := by
  have hc := Chg.set h.blk noU32_cut k (.slice (some ⟨R[k].g, n * 4, none⟩) n (R[k].c - n))
  refine ⟨?_, fun r hr => (h.row r hr).keep hc (fun e => (h.row r hr).ne h.blk (Option.some.inj e)), h.len, fun r hr x hx => hc.num _ _ (h.each r hr x hx), h.cap⟩
  have h1 := h.blk.set_ k (.slice (some ⟨R[k].g, n * 4, none⟩) n (R[k].c - n))
  rw [List.setIfInBounds_toArray, List.set_append_right _ _ (by rw [List.length_map, List.length_take]; omega), List.length_map, List.length_take, show k - min k R.length = 0 by omega, List.drop_eq_getElem_cons hk, List.map_cons, List.set_cons_zero] at h1
  rw [List.take_succ_eq_append_getElem hk, List.map_append, List.append_assoc]
  exact h1
theorem MC.mat (h : MC w g n wd k R) (hk : k = R.length) (hw : R = [] ∨ wd = n + n) : MatIn w w.heap.size (some ⟨g, 0, none⟩) R.length n (R.map fun r => (some ⟨r.g, n * 4, none⟩, r.c - n, r.L.drop n)) := by
  subst hk
  have hB := h.blk
  rw [List.take_length, List.drop_length, List.map_nil, List.append_nil] at hB
  refine ⟨⟨by simp, fun _ => ⟨_, rfl, hB.lt, fun j u hu => ?_⟩⟩, fun s hs => ?_⟩
  · rw [Srt.addr_add, hB.cell, List.getElem?_toArray]
    rw [List.map_map] at hu
    exact hu
  · obtain ⟨r, hr, rfl⟩ := List.mem_map.1 hs
    rcases hw with rfl | rfl
    · cases hr
    · have h1 := h.row r hr
      have h2 := h.len r hr
      refine ⟨⟨by rw [rts_len, List.length_drop, h2]; omega, fun _ => ⟨_, rfl, h1.lt, fun j u hu => ?_⟩⟩, fun x hx => h.each r hr x (List.mem_of_mem_drop hx)⟩
      have e : (⟨r.g, n * 4, none⟩ : Addr).add j = ⟨r.g, n * 4 + j, none⟩ := by
        unfold Addr.add
        by_cases hj : j = 0
        · subst hj; rfl
        · simp [hj]
      rw [e]
      refine h1.cell ?_
      have e2 : rts r.L = rts (r.L.take n) ++ rts (r.L.drop n) := by unfold rts; rw [← List.flatMap_append, List.take_append_drop]
      rw [e2, List.getElem?_append_right (by rw [rts_len, List.length_take, h2]; omega), rts_len, List.length_take, h2, show n * 4 + j - 4 * min n (n + n) = j by omega]
      exact hu
end
theorem set_last {X : Pl.Mat} {row : List Rat} {j : Nat} {q : Rat} : (X ++ [row]).set X.length (((X ++ [row]).getD X.length []).set j q) = X ++ [row.set j q] := by
  have h : (X ++ [row]).getD X.length [] = row := by rw [List.getD_eq_getElem?_getD, List.getElem?_append_right (Nat.le_refl _), Nat.sub_self]; rfl
  rw [h, List.set_append_right _ _ (Nat.le_refl _), Nat.sub_self]
  rfl
def InvSaid (M : Pl.Mat) (n : Nat) (w : World) (e : Ending) (w' : World) : Prop :=
  ∃ (g : Nat) (U : List (Option Addr × Nat × List (Rat × Rt))), e = .returned (.tuple #[.slice (some ⟨g, 0, none⟩) n n, .bool true]) ∧ w.heap.size ≤ g ∧ MatIn w' w'.heap.size (some ⟨g, 0, none⟩) n n U ∧ svals U = Pl.invM M ∧ Below w.heap.size w w'
set_option maxHeartbeats 12800000 in
theorem inverse_any (A : Option Addr) (n c S : Nat) (T : List (Option Addr × Nat × List (Rat × Rt))) (w : World) (hn : n ≤ 500) (hr : MatIn w w.heap.size A n n T)
    (hS : ∀ k, k ≤ n → ∀ row ∈ (Pl.redTo (Pl.extM (svals T)) k).1, ∀ x ∈ row, Pl.rsz x ≤ S) (hS2 : 1 ≤ S ∧ S ≤ 274877906944) (hf : (Pl.redTo (Pl.extM (svals T)) n).2.length = n) :
    Calls Tryz.prog 149 #[.slice A n c] w (InvSaid (svals T) n w) := by
  obtain ⟨wd, hw0, hwn, hw1⟩ : ∃ wd, 0 < wd ∧ (0 < n → wd = n + n) ∧ wd ≤ 1000 := by
    rcases Nat.eq_zero_or_pos n with h | h
    · exact ⟨1, by omega, fun h9 => by omega, by omega⟩
    · exact ⟨n + n, by omega, fun _ => rfl, by omega⟩
  have HR := Lib.hid hr
  have HS := Lib.hid hS
  have HF := Lib.hid hf
  have HTL : Hid ((svals T).length = n) := by show _ = _; unfold svals; rw [List.length_map]; exact hr.len
  have HTW : Hid (Pl.Wide n (svals T)) := hr.wide
  have hmk := make_mat n (by omega)
  have R0 := Lib.hid (MB.new_ w wd n w.heap.size)
  have D0 := Lib.hid (below_one w (.cells (Array.replicate n (Value.slice none 0 0)) 94))
  clear hr hS hf
  go_enter Tryz.func149, Tryz.ntmps149
  go_wp2_with fail
  obtain ⟨g, hg⟩ : ∃ g : Nat, g = w.heap.size := ⟨_, rfl⟩
  have HG : w.heap.size ≤ g := by omega
  rw [← hg] at R0 ⊢
  clear hmk hg
  generalize w.alloc (.cells (Array.replicate n (Value.slice none 0 0)) 94) = w1 at *
  go_loopw [16] (fun i wr => ∃ (k : Nat) (R : List MRow), k ≤ n ∧ i = .int .i64 k ∧ R.length = k ∧ Hid (vals R = (Pl.extM (svals T)).take k) ∧ MB wr g wd g R (n - k) ∧ Below w.heap.size w wr) (fun i _ => n - (intOf i).toNat)
  case atStart => exact ⟨0, [], Nat.zero_le _, rfl, rfl, by show _ = _; simp [vals], by rw [Nat.sub_zero]; exact R0.out, D0.out⟩
  case round =>
    clear R0 D0
    obtain ⟨k, R, hk, rfl, hl, HV, hmb, hb⟩ := hrel
    have HMB := Lib.hid hmb
    have D := Lib.hid hb
    clear hmb hb
    by_cases hlt : k < n
    · obtain rfl := hwn (by omega)
      obtain ⟨b, o, rfl, hb1, hl1, c0, hs1⟩ := (HR.out.go D.out).at_ hlt
      have HT : Hid ((Pl.extM (svals T)).take (k + 1) = (Pl.extM (svals T)).take k ++ [T[k].2.2.map (·.1) ++ Pl.unitRow n k]) := by
        show _ = _
        rw [List.take_succ_eq_append_getElem (by rw [Pl.extM_len, HTL.out]; exact hlt)]
        congr 2
        rw [← Pl.getM, Pl.extM_row (by rw [HTL.out]; exact hlt), HTL.out]
        congr 1
        rw [Pl.getM (by rw [HTL.out]; exact hlt)]
        unfold svals
        rw [List.getElem_map]
      generalize T[k] = s at *
      obtain ⟨As, cs, L⟩ := s
      have HSR := Lib.hid hs1
      simp only at c0 HSR HT
      have hll : L.length = n := hs1.len
      obtain ⟨v2, w2, hap, hrq, hbl, hsz, hkp⟩ := (RQ.none_ wr wr.heap.size).pushs (c := cs) HSR.out.row (by simp; omega) (Nat.le_refl _)
      rw [List.nil_append] at hrq
      obtain ⟨A2, c2, rfl⟩ := hrq.slice
      have HRQ := Lib.hid hrq
      have HLB := Lib.hid hbl
      have HSZ := Lib.hid hsz
      have HE : Hid (∀ x ∈ L, RatIs w2 w2.heap.size x.1 x.2) := fun x hx => hkp _ _ (HSR.out.each x hx)
      clear hrq hbl hs1 HSR hkp hsz
      have hk4 : (k : Int) < (n : Int) := by omega
      go_wp2_with (at_builtin; go_must (refine wpList_append_run9 rfl _ _ 94 rfl _ _ _ rfl rfl hap ?_))
      refine (zeros_any n (by omega) w2).mono ?_
      rintro e w3 ⟨gz, xz, rfl, hgz, hrl, hb5⟩
      clear hap c0 hb1
      replace HRQ := Lib.hid (HRQ.out.go hb5)
      replace HE : Hid (∀ x ∈ L, RatIs w3 w3.heap.size x.1 x.2) := fun x hx => (HE.out x hx).go hb5
      replace HLB := Lib.hid (HLB.out.trans (hb5.mono HSZ.out))
      have hz := hrl.rats
      rw [List.length_replicate] at hz
      obtain ⟨v4, w4, hap4, hrq4, hbl4, hsz4, hkp4⟩ := HRQ.out.pushs (c := n) hz.row (by omega) (Nat.le_trans HSZ.out hb5.size)
      obtain ⟨g4, c4, rfl, hg4, hrw4, hcap4⟩ := hrq4.rowW (by rw [List.length_append]; omega)
      have HE4 : Hid (∀ x ∈ L ++ List.replicate n ((0 : Rat), xz), RatIs w4 w4.heap.size x.1 x.2) := fun x hx => by
        rw [List.mem_append] at hx
        rcases hx with hx | hx
        · exact hkp4 _ _ (HE.out x hx)
        · exact hkp4 _ _ (hz.each x hx)
      have HB4 := Lib.hid (HLB.out.trans hbl4)
      have HMB2 := Lib.hid (HMB.out.go HB4.out)
      have D2 := Lib.hid (D.out.trans (HB4.out.mono D.out.size))
      have HRW := Lib.hid hrw4
      have HN2 : Hid (∀ r ∈ R, r.g ≠ g4) := fun r hr e => by have := HMB.out.old r hr; omega
      have HGG : g ≤ g4 := by have := HMB.out.lt; omega
      have hLL : (L ++ List.replicate n ((0 : Rat), xz)).length = n + n := by rw [List.length_append, List.length_replicate, hll]
      rw [hLL] at hap4 hcap4
      have HLL := Lib.hid hLL
      clear hbl4 hrq4 hrw4 hkp4 hz hrl hb5 HRQ HE HLB HB4 hLL hgz hg4 hsz4 HSZ
      have e9 : n - k = n - (k + 1) + 1 := by omega
      rw [e9] at HMB2
      have cx := HMB2.out.cell
      have fx := HMB2.out.frozen
      have lx := HMB2.out.lt
      rw [hl] at cx
      have hap5 : ∀ ty, (Builtin.append_ #[94, 94] ty #[.slice A2 L.length c2, .slice (some ⟨gz, 0, none⟩) n n]).run Tryz.prog w3 = .ok (.slice (some ⟨g4, 0, none⟩) (n + n) c4) w4 := hap4
      clear hap4
      rw [hll] at hap5
      go_wp2_with (at_builtin; go_must (refine wpList_append_run9 rfl _ _ 94 rfl _ _ _ rfl rfl hap5 ?_))
      have hm3 := HMB2.out.add (c' := c4) HRW.out HLL.out HE4.out HN2.out HGG hcap4
      rw [hl] at hm3
      have D3 := Lib.hid (D2.out.setCell (p := ⟨g, k, none⟩) HG (.slice (some ⟨g4, 0, none⟩) (n + n) c4))
      have HIJ := Lib.hid hm3
      clear hm3 cx fx lx hap5 HMB2 D2 HRW HE4 HN2 HGG hcap4
      generalize w4.setCell ⟨g, k, none⟩ (.slice (some ⟨g4, 0, none⟩) (n + n) c4) = w5 at *
      obtain ⟨R5, hR5⟩ : ∃ R5, R5 = R ++ [(⟨g4, c4, L ++ List.replicate n ((0 : Rat), xz)⟩ : MRow)] := ⟨_, rfl⟩
      have hR5l : R5.length = k + 1 := by rw [hR5, List.length_append, hl]; rfl
      have hirj : k < R5.length := by omega
      have hR5k : R5[k] = ⟨g4, c4, L ++ List.replicate n ((0 : Rat), xz)⟩ := by
        have h9 : R5[k]? = some ⟨g4, c4, L ++ List.replicate n ((0 : Rat), xz)⟩ := by rw [hR5, ← hl, List.getElem?_append_right (Nat.le_refl _), Nat.sub_self]; rfl
        rw [List.getElem?_eq_getElem hirj] at h9
        exact Option.some.inj h9
      have EG : Hid (R5[k].g = g4) := by show _ = _; rw [hR5k]
      have EC : Hid (R5[k].c = c4) := by show _ = _; rw [hR5k]
      obtain ⟨j, hj⟩ : ∃ j, j = n + k := ⟨_, rfl⟩
      have hjl : j < R5[k].L.length := by rw [hR5k]; show j < (L ++ _).length; rw [HLL.out]; omega
      obtain ⟨xo, EJ⟩ : ∃ x, Hid (R5[k].L[j] = x) := ⟨_, Lib.hid rfl⟩
      have HV5 : Hid (vals (R5.set k (R5[k].put j 1 xo.2)) = (Pl.extM (svals T)).take (k + 1)) := by
        show _ = _
        rw [vals_put hirj, hR5, vals_snoc, HT.out, HV.out]
        have h1 : ((Pl.extM (svals T)).take k).length = k := by rw [List.length_take, Pl.extM_len, HTL.out]; omega
        generalize (Pl.extM (svals T)).take k = X at h1 ⊢
        have h2 := set_last (X := X) (row := (L ++ List.replicate n ((0 : Rat), xz)).map (·.1)) (j := j) (q := 1)
        rw [h1] at h2
        refine h2.trans ?_
        congr 2
        rw [hj, List.map_append, List.set_append_right _ _ (by rw [List.length_map, hll]; omega), List.length_map, hll, show n + k - n = k by omega]
        congr 1
        rw [List.map_replicate]
        rfl
      rw [← hR5] at HIJ
      clear hR5 hR5k HV HT HLL
      have hjs : (n : Int) + (k : Int) = (j : Int) := by omega
      have hjb : j < 1000 := by omega
      have hjw : IntKind.i64.wrap (j : Int) = (j : Int) := IntWalk.i64_in _ (by omega)
      have hjn : (j : Int) < (n : Int) + (n : Int) := by omega
      clear hj
      have hb5 := (Below.refl w5.heap.size w5).drew
      replace HIJ := Lib.hid (HIJ.out.go hb5)
      replace D3 := Lib.hid (D3.out.trans (hb5.mono D3.out.size))
      clear hb5
      have HB0 := Lib.hid (Below.refl w5.drew.heap.size w5.drew)
      have hlt_D3 := D3.out.size
      generalize hw9 : w5.drew = w7 at *
      have hSw : (fun w' : World => Below w7.heap.size w7 w') w7 := HB0.out
      refine wp_region_mid (fun w' : World => Below w7.heap.size w7 w') 9 (by kernel_rfl) ?_
      rw [hw9]
      clear hw9
      refine Tk.go [(0, [2, 3, 8, 9]), (1, [2, 3, 8, 9]), (2, [3, 8, 9]), (3, [8, 9]), (4, [6, 8, 9]), (5, [6, 8, 9]), (6, [8, 9])] ?_
      iterate 7 (refine Tk.cons rfl (by kernel_rfl) (fun _ _ _ h => h) hSw (by kernel_rfl) (fun w' hSx => by have c0 := (HIJ.out.go hSx).outer hirj; rw [EG.out, EC.out] at c0; go_simp; first | done | with_reducible rfl) ?_; simp only [Act.put, List.setIfInBounds_toArray])
      refine Tk.nil ?_
      refine wpAnyM_ready [7] (by kernel_rfl) (by simp) ?_
      refine AllReadyM.cons (by rfl) (fun K hK => ?_) AllReadyM.nil
      go_simp
      refine (whole_any 1 w7 (by omega) (by omega)).mono ?_
      rintro e wq1 ⟨z, rfl, hz9, hb5⟩
      replace HB0 := Lib.hid (Below.trans HB0.out (hb5.mono HB0.out.size))
      have HZ9 : Hid (RatIs wq1 wq1.heap.size (1 : Rat) z) := Lib.hid hz9
      clear hz9
      clear hb5
      clear hSw
      have hSw : (fun w' : World => Below w7.heap.size w7 w') wq1 := HB0.out
      refine hK.out _ _ hSw ?_
      clear hK K
      refine wpAnyM_takeB 8 [9] rfl (by kernel_rfl) (by kernel_rfl) (by kernel_rfl) (by kernel_rfl) (by kernel_rfl) (fun _ _ _ h => h) hSw (by kernel_rfl) (fun w' hSx => by have c0 := (HIJ.out.go hSx).outer hirj; rw [EG.out, EC.out] at c0; go_simp; first | done | with_reducible rfl) ?_
      simp only [Act.put]
      refine wpAnyM_ready [9] (by kernel_rfl) (by simp) ?_
      refine AllReadyM.last (by rfl) (by decide) (fun K hK => ?_)
      replace HIJ := Lib.hid (HIJ.out.go HB0.out)
      replace D3 := Lib.hid (D3.out.trans (HB0.out.mono D3.out.size))
      have hc := HIJ.out.inner hirj hjl
      rw [EG.out, EJ.out] at hc
      have c1 := hc.1
      have c2 := hc.2.1
      have c3 := hc.2.2.1
      have c4 := hc.2.2.2
      clear hc
      have cf9 := HIJ.out.rfrozen hirj
      rw [EG.out] at cf9
      have cl9 := HIJ.out.rlt hirj
      rw [EG.out] at cl9
      go_simp
      clear c1 c2 c3 c4 cf9 cl9
      have HP1 := HIJ.out.put hirj hjl HZ9.out
      rw [EG.out] at HP1
      have HD1 := below_rput (j := j) D3.out (b := g4) (by have := HIJ.out.own _ (List.getElem_mem hirj); rw [EG.out] at this; omega) z
      unfold rput at HP1 HD1
      clear HIJ HZ9 D3
      generalize ((((wq1.setCell ⟨g4, j * 4, none⟩ (.bool z.N.b)).setCell ⟨g4, j * 4 + 1, none⟩ (.slice z.N.A z.N.n z.N.c)).setCell ⟨g4, j * 4 + 2, none⟩ (.bool z.D.b)).setCell ⟨g4, j * 4 + 3, none⟩ (.slice z.D.A z.D.n z.D.c)) = wq2 at *
      have HIJ := Lib.hid HP1
      have D3 := Lib.hid HD1
      clear HP1 HD1
      replace HB0 := Lib.hid (Below.refl wq2.heap.size wq2)
      refine hK.out _ _ ?_
      clear hK K
      refine wpAnyM_done (by kernel_rfl) ?_ _
      clear HB0 hSw
      go_wp2_with fail
      go_roundw
      case rel =>
        refine ⟨k + 1, R5.set k (R5[k].put j 1 z), by omega, by go_num, by rw [List.length_set]; exact hR5l, ?_, HIJ.out, D3.out⟩
        show _ = _
        rw [← HV5.out, vals_put hirj, vals_put hirj]
      case measure => simp [intOf]; omega
    · obtain rfl : n = k := by omega
      rw [Nat.sub_self] at HMB
      have HV9 : Hid (vals R = Pl.extM (svals T)) := by show _ = _; rw [HV.out, List.take_of_length_le (by rw [Pl.extM_len, HTL.out]; exact Nat.le_refl _)]
      have hm9 := HMB.out.done.mat
      rw [hl, HV9.out] at hm9
      have HM9 := Lib.hid hm9.1
      have HE9 := Lib.hid hm9.2
      have hnwd : n ≤ wd := by
        rcases Nat.eq_zero_or_pos n with h9 | h9
        · omega
        · have := hwn h9; omega
      have HRD := Lib.hid (fun (W : World) (h : MatIn W W.heap.size (some ⟨g, 0, none⟩) n wd (R.map fun r => (some ⟨r.g, 0, none⟩, r.c, r.L))) => reduce_any (some ⟨g, 0, none⟩) n wd n n S (R.map fun r => (some ⟨r.g, 0, none⟩, r.c, r.L)) W (by omega) hw1 hw0 hnwd h (by rw [HE9.out]; exact HS.out) hS2)
      clear hm9 HMB HV hl
      go_wp2_with fail
      refine (HRD.out _ HM9.out).mono ?_
      rintro e w6 ⟨g6, R6, A6, c6, rfl, hg6, hmx, hown, hlen, hval, hb6⟩
      rw [HE9.out] at hval ⊢
      rw [HF.out]
      have HC6 := Lib.hid (hmx.cut (n := n))
      have HV6 := Lib.hid hval
      have HG6 : w.heap.size ≤ g6 := Nat.le_trans D.out.size hg6
      replace D := Lib.hid (D.out.trans (hb6.mono D.out.size))
      have HW6 : Hid (R6 = [] ∨ wd = n + n) := by
        rcases Nat.eq_zero_or_pos n with h9 | h9
        · exact Or.inl (List.eq_nil_of_length_eq_zero (by omega))
        · exact Or.inr (hwn h9)
      clear hg6 hmx hown hval hb6 HRD HM9 HE9 HV9 HF HS
      have hnn : decide ((n : Int) < (n : Int)) = false := by simp
      go_wp2_with fail
      go_loopw [52] (fun sv wx => ∃ k : Nat, k ≤ n ∧ sv = .int .i64 (k : Int) ∧ MC wx g6 n wd k R6 ∧ Below w.heap.size w wx) (fun sv _ => n - (intOf sv).toNat)
      case atStart => exact ⟨0, Nat.zero_le _, rfl, HC6.out, D.out⟩
      case round =>
        clear HC6 D
        obtain ⟨k, hk, rfl, hmc, hd⟩ := hrel
        by_cases hlt : k < n
        · obtain rfl := hwn (by omega)
          have hk6 : k < R6.length := by omega
          have c0 := hmc.cell hk6
          have f0 := hmc.blk.frozen
          have l0 := hmc.blk.lt
          have hcp := hmc.cap _ (List.getElem_mem hk6)
          have HN := Lib.hid (hmc.next hk6)
          have HD := Lib.hid hd
          clear hmc hd
          generalize R6[k].g = gk at *
          generalize R6[k].c = ck at *
          have hsl : ∀ W, (Instr.slice 94 (.slice (some ⟨gk, 0, none⟩) (n + n) ck) (some (.int .i64 (n : Int))) none none).run Tryz.prog W = .ok (.slice (some ⟨gk, n * 4, none⟩) n (ck - n)) W := fun W => by
            rw [run_slice_l W 94 (some ⟨gk, 0, none⟩) (n + n) ck elem_rats .i64 n (by omega) (by omega), size_rats]
            simp [sliced, Result.andThen, Srt.addr_add]
            omega
          have hk4 : (k : Int) < (n : Int) := by omega
          go_wp2_with fail
          go_roundw
          case rel => exact ⟨k + 1, by omega, by go_num, HN.out, HD.out.setCell HG6 _⟩
          case measure => simp [intOf]; omega
        · obtain rfl : n = k := by omega
          have HM := Lib.hid (hmc.mat hlen.symm HW6.out)
          have HD := Lib.hid hd
          have HGV : Hid (svals (R6.map fun r => ((some ⟨r.g, n * 4, none⟩ : Option Addr), r.c - n, r.L.drop n)) = Pl.invM (svals T)) := by
            show _ = _
            unfold svals Pl.invM
            rw [List.map_map]
            have h1 := HV6.out
            unfold vals at h1
            have h2 := HTL.out
            unfold svals at h1 h2
            rw [h2, ← h1, List.map_map]
            apply List.map_congr_left
            intro r _
            show (r.L.drop n).map _ = (r.L.map _).drop n
            rw [List.map_drop]
          rw [hlen] at HM
          clear hmc hd
          go_wp2_with fail
          go_ret2
          exact ⟨g6, _, rfl, HG6, HM.out, HGV.out, HD.out⟩
end Go.Proofs.YtoblpcljhblnmaaGreatDoor
