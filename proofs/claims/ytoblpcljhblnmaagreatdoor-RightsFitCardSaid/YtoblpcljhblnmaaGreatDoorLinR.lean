/- lin.Reduce: the reduced echelon form. Condition: the matrix reads; its numbers, and those of all steps, have at most 2^38 words. -/
import Derived.Test.YtoblpcljhblnmaaGreatDoorLinC
namespace Go.Proofs.YtoblpcljhblnmaaGreatDoor
open Go.RowKit
set_option maxRecDepth 100000
def RedSaid (M : Pl.Mat) (m n cols : Nat) (w : World) (e : Ending) (w' : World) : Prop :=
  ∃ (g : Nat) (R : List MRow) (A : Option Addr) (c : Nat), e = .returned (.tuple #[.slice (some ⟨g, 0, none⟩) m m, .slice A (Pl.redTo M cols).2.length c]) ∧ w.heap.size ≤ g ∧ MX w' g n R ∧ (∀ r ∈ R, w.heap.size ≤ r.g) ∧ R.length = m ∧ vals R = (Pl.redTo M cols).1 ∧ Below w.heap.size w w'
structure RedB (m n : Nat) (w wr : World) (g : Nat) (R : List MRow) (P : List Nat) (pv : Value) : Prop where
  mx : MX wr g n R
  own : ∀ r ∈ R, w.heap.size ≤ r.g
  lw : w.heap.size ≤ g
  len : R.length = m
  pin : OQ wr w.heap.size 3 1 pv P.length (ints (P.map fun x : Nat => (x : Int)))
  below : Below w.heap.size w wr
theorem RedB.go {m n g : Nat} {w wr wx : World} {R : List MRow} {P : List Nat} {pv : Value} (h : RedB m n w wr g R P pv) (hb : Below wr.heap.size wr wx) : RedB m n w wx g R P pv :=
  ⟨h.mx.go hb, h.own, h.lw, h.len, h.pin.go hb, h.below.trans (hb.mono h.below.size)⟩
theorem RowW.chg {w : World} {b j : Nat} {L : List (Rat × Rt)} (h : RowW w b L) (x : Rt) : Chg (some b) w (rput w b j x) := by
  obtain ⟨cur, h1, h2, _⟩ := h
  have b1 := h1.set_ (j * 4) (.bool x.N.b)
  have b2 := b1.set_ (j * 4 + 1) (.slice x.N.A x.N.n x.N.c)
  have b3 := b2.set_ (j * 4 + 2) (.bool x.D.b)
  have n1 := noU32_set h2 (j * 4) (u := .bool x.N.b) (fun k e => by cases e)
  have n2 := noU32_set n1 (j * 4 + 1) (u := .slice x.N.A x.N.n x.N.c) (fun k e => by cases e)
  have n3 := noU32_set n2 (j * 4 + 2) (u := .bool x.D.b) (fun k e => by cases e)
  exact (((Chg.set h1 h2 _ _).trans (Chg.set b1 n1 _ _)).trans (Chg.set b2 n2 _ _)).trans (Chg.set b3 n3 _ _)
theorem OQ.ne {w : World} {base n b : Nat} {e t : TypeId} {size : Nat} {v : Value} {xs : List Value} {cs : Array Value} (h : OQ w base e size v n xs) (hb : Blk w b t cs) (hne : e ≠ t) : ∀ b', v.ownBlock = some b' → some b' ≠ some b := fun b' hv e9 => by
  obtain ⟨_, _, cur, h1, _⟩ := h.own hv
  injection e9 with e9
  exact Blk.ne_ h1 hb hne e9
theorem MX.chgS {w : World} {g n : Nat} {R : List MRow} (h : MX w g n R) (i : Nat) (u : Value) : Chg (some g) w (w.setCell ⟨g, i, none⟩ u) := Chg.set h.blk (noU32_rows n R) i u
theorem below_rput {B b j : Nat} {w0 w : World} (h : Below B w0 w) (hB : B ≤ b) (x : Rt) : Below B w0 (rput w b j x) := (((h.setCell hB _).setCell hB _).setCell hB _).setCell hB _
structure BoxR (w : World) (b : Nat) (q : Rat) (x : Rt) : Prop where
  blk : Blk w b 105 #[.bool x.N.b, .slice x.N.A x.N.n x.N.c, .bool x.D.b, .slice x.D.A x.D.n x.D.c]
  num : RatIs w w.heap.size q x
theorem BoxR.go {w w' : World} {b : Nat} {q : Rat} {x : Rt} (h : BoxR w b q x) (hb : Below w.heap.size w w') : BoxR w' b q x := ⟨h.blk.go hb, h.num.go hb⟩
theorem BoxR.rput {w : World} {b g j : Nat} {q q2 : Rat} {x y : Rt} {L : List (Rat × Rt)} (h : BoxR w b q x) (hr : RowW w g L) (hj : j < L.length) (hne : b ≠ g) : BoxR (rput w g j y) b q x :=
  ⟨(((h.blk.far (p := ⟨g, j * 4, none⟩) hne _).far (p := ⟨g, j * 4 + 1, none⟩) hne _).far (p := ⟨g, j * 4 + 2, none⟩) hne _).far (p := ⟨g, j * 4 + 3, none⟩) hne _, (hr.put hj q2 y).2 _ _ h.num⟩
theorem RedB.put {m n g i j : Nat} {w wr : World} {R : List MRow} {P : List Nat} {pv : Value} (h : RedB m n w wr g R P pv) (hi : i < R.length) (hj : j < R[i].L.length) {q : Rat} {x : Rt} (hx : RatIs wr wr.heap.size q x) : RedB m n w (rput wr R[i].g j x) g (R.set i (R[i].put j q x)) P pv :=
  ⟨h.mx.put hi hj hx, fun r hr => by
    rcases List.mem_or_eq_of_mem_set hr with hr | rfl
    · exact h.own r hr
    · exact h.own R[i] (List.getElem_mem hi), h.lw, by rw [List.length_set]; exact h.len, h.pin.chg ((h.mx.row _ (List.getElem_mem hi)).chg x) (by obtain ⟨cur, h1, _⟩ := h.mx.row _ (List.getElem_mem hi); exact h.pin.ne h1 (by decide)), below_rput h.below (h.own _ (List.getElem_mem hi)) x⟩
theorem RedB.swap {m n g r p : Nat} {w wr : World} {R : List MRow} {P : List Nat} {pv : Value} (h : RedB m n w wr g R P pv) (hr : r < R.length) (hp : p < R.length) : RedB m n w ((wr.setCell ⟨g, r, none⟩ (R[p].v n)).setCell ⟨g, p, none⟩ (R[r].v n)) g ((R.set r R[p]).set p R[r]) P pv :=
  ⟨h.mx.swap hr hp, fun x hx => h.own x (by
    rcases List.mem_or_eq_of_mem_set hx with hx | rfl
    · rcases List.mem_or_eq_of_mem_set hx with hx | rfl
      · exact hx
      · exact List.getElem_mem hp
    · exact List.getElem_mem hr), h.lw, by rw [List.length_set, List.length_set]; exact h.len, (h.pin.chg (h.mx.chgS r (R[p].v n)) (h.pin.ne h.mx.blk (by decide))).chg (Chg.set (h.mx.blk.set_ r (R[p].v n)) (by rw [List.setIfInBounds_toArray, ← List.map_set]; exact noU32_rows n _) p (R[r].v n)) (h.pin.ne h.mx.blk (by decide)), (h.below.setCell h.lw _).setCell h.lw _⟩
theorem RowW.keep {b : Option Nat} {w w' : World} {g : Nat} {L : List (Rat × Rt)} (h : RowW w g L) (hc : Chg b w w') (hb : some g ≠ b) : RowW w' g L := by
  obtain ⟨cur, h1, h2⟩ := h
  exact ⟨cur, hc.blk g _ cur hb h1, h2⟩
theorem MX.chg {b : Option Nat} {w w' : World} {g n : Nat} {R : List MRow} (h : MX w g n R) (hc : Chg b w w') (hg : some g ≠ b) (hr : ∀ r ∈ R, some r.g ≠ b) : MX w' g n R :=
  ⟨hc.blk g _ _ hg h.blk, fun r h1 => (h.row r h1).keep hc (hr r h1), h.len, fun r h1 x hx => hc.num _ _ (h.each r h1 x hx), h.apart, h.cap⟩
theorem info_int_no : ∀ u ∈ (Value.int .i64 0).cells.toList, ∀ k : Int, u ≠ .int .u32 k := by intro u hu k e; subst e; simp [Value.cells] at hu
theorem RedB.push {m n g r c gx : Nat} {w wr : World} {R : List MRow} {P : List Nat} {A : Option Addr} (h : RedB m n w wr g R P (.slice A r c)) (k : Nat) {tx : TypeId} (hx : Blk wr gx tx #[.int .i64 (k : Int)]) (hP : P.length ≤ 1000) :
    ∃ v' w', (∀ ty, (Builtin.append_ #[57, 57] ty #[.slice A r c, .slice (some ⟨gx, 0, none⟩) 1 1]).run Tryz.prog wr = .ok v' w') ∧ RedB m n w w' g R (P ++ [k]) v' := by
  obtain ⟨i0, hi0, hz0, hz1, hz2⟩ := info_parts info_int
  obtain ⟨v', w', h1, h2, h3, h4⟩ := h.pin.push Tryz.underlying57 hi0 hz0 hz1 hz2 rfl (by decide) info_int_no [.int .i64 (k : Int)] rfl (by simp [Value.oneCell']) (by simp) hx (by omega) (by omega) h.below.size
  refine ⟨v', w', h1, h.mx.chg h3 ?_ ?_, h.own, h.lw, h.len, ?_, h3.below _ _ h.below (fun b hb => (h.pin.own hb).1) h.below.size⟩
  · intro e
    obtain ⟨_, _, cur, h5, _⟩ := h.pin.own e.symm
    exact Blk.ne_ h5 h.mx.blk (by decide) rfl
  · intro x hx e
    obtain ⟨_, _, cur, h5, _⟩ := h.pin.own e.symm
    obtain ⟨cur2, h6, _⟩ := h.mx.row x hx
    exact Blk.ne_ h5 h6 (by decide) rfl
  · rw [List.length_append, List.map_append]
    unfold ints at h2 ⊢
    rw [List.map_append]
    exact h2
theorem setM_same {M : Pl.Mat} {i : Nat} (hi : i < M.length) : M.set i (M.getD i []) = M := by rw [Pl.getM hi]; exact List.set_getElem_self hi
theorem swp_row {M : Pl.Mat} {r p : Nat} (hr : r < M.length) (hp : p < M.length) : (Pl.swp M r p).getD r [] = M.getD p [] := by
  unfold Pl.swp
  rw [List.getD_eq_getElem?_getD, List.getElem?_set]
  by_cases e : p = r
  · subst e
    rw [if_pos rfl, if_pos (by rw [List.length_set]; exact hp)]
    rfl
  · rw [if_neg e, List.getElem?_set_self hr]
    rfl
theorem getM_set {Y : Pl.Mat} {i : Nat} {row : List Rat} (hi : i < Y.length) : (Y.set i row).getD i [] = row := by rw [List.getD_eq_getElem?_getD, List.getElem?_set_self hi]; rfl
theorem getM_set_ne {Y : Pl.Mat} {i k : Nat} {row : List Rat} (h : i ≠ k) : (Y.set i row).getD k [] = Y.getD k [] := by rw [List.getD_eq_getElem?_getD, List.getElem?_set_ne h, ← List.getD_eq_getElem?_getD]
theorem map_step {R : List MRow} {Y : Pl.Mat} {i k j : Nat} {f : Nat → Rat → Rat} {row : List Rat} (hv : vals R = Y.set i (Pl.mapTo f k j row)) (hi : i < R.length) (hy : i < Y.length) (hk : k ≤ j) (hj : j < row.length) {q : Rat} (hq : q = f j row[j]) (x : Rt) :
    vals (R.set i (R[i].put j q x)) = Y.set i (Pl.mapTo f k (j + 1) row) := by
  rw [vals_put hi, hv, getM_set hy, List.set_set, Pl.mapTo_next f hk hj, hq]
theorem map_entry {R : List MRow} {Y : Pl.Mat} {i k j : Nat} {f : Nat → Rat → Rat} {row : List Rat} (hv : vals R = Y.set i (Pl.mapTo f k j row)) (hi : i < R.length) (hy : i < Y.length) (hj : j < row.length) (hjl : j < R[i].L.length) : R[i].L[j].1 = row[j] := by
  rw [← vals_en hi hjl, hv]
  unfold Pl.en
  rw [getM_set hy, List.getD_eq_getElem?_getD, List.getElem?_eq_getElem (by rw [Pl.mapTo_len]; exact hj), Option.getD_some, Pl.mapTo_old f hj (.inl (Nat.le_refl _))]
theorem map_other {R : List MRow} {Y : Pl.Mat} {i r k j j' : Nat} {f : Nat → Rat → Rat} {row : List Rat} (hv : vals R = Y.set i (Pl.mapTo f k j' row)) (hne : i ≠ r) (hr : r < R.length) (hjl : j < R[r].L.length) : R[r].L[j].1 = (Y.getD r []).getD j 0 := by
  rw [← vals_en hr hjl, hv]
  unfold Pl.en
  rw [getM_set_ne hne]
theorem map_skip {f : Nat → Rat → Rat} {k j : Nat} {row : List Rat} (hk : k ≤ j) (hj : j < row.length) (h : f j row[j] = row[j]) : Pl.mapTo f k (j + 1) row = Pl.mapTo f k j row := by
  rw [Pl.mapTo_next f hk hj, h]
  apply List.ext_getElem (by rw [List.length_set])
  intro i h1 h2
  rw [List.getElem_set]
  split
  · rename_i e; subst e; rw [Pl.mapTo_old f hj (.inl (Nat.le_refl _))]
  · rfl
theorem put_g {R : List MRow} {i j b : Nat} {q : Rat} {x : Rt} (hi : i < R.length) (h : ∀ r ∈ R, r.g ≠ b) : ∀ r ∈ R.set i (R[i].put j q x), r.g ≠ b := fun r hr => by
  rcases List.mem_or_eq_of_mem_set hr with hr | rfl
  · exact h r hr
  · exact h R[i] (List.getElem_mem hi)
theorem en_rsz {M : Pl.Mat} {S : Nat} (h1 : 1 ≤ S) (h : ∀ row ∈ M, ∀ x ∈ row, Pl.rsz x ≤ S) (i j : Nat) : Pl.rsz (Pl.en M i j) ≤ S := by
  unfold Pl.en
  rw [List.getD_eq_getElem?_getD]
  by_cases hj : j < (M.getD i []).length
  · rw [List.getElem?_eq_getElem hj]
    obtain ⟨row, h2, h3⟩ := Pl.mem_getD (List.getElem_mem hj)
    exact h row h2 _ h3
  · rw [List.getElem?_eq_none (by omega)]
    have : Pl.rsz 0 = 1 := by decide +kernel
    rw [Option.getD_none, this]
    exact h1
set_option maxHeartbeats 12800000 in
theorem reduce_any (A : Option Addr) (m n c cols S : Nat) (T : List (Option Addr × Nat × List (Rat × Rt))) (w : World) (hm : m ≤ 1000) (hn : n ≤ 1000) (hn0 : 0 < n) (hc : cols ≤ n) (hr : MatIn w w.heap.size A m n T)
    (hS : ∀ k, k ≤ cols → ∀ row ∈ (Pl.redTo (svals T) k).1, ∀ x ∈ row, Pl.rsz x ≤ S) (hS2 : 1 ≤ S ∧ S ≤ 274877906944) :
    Calls Tryz.prog 183 #[.slice A m c, .int .i64 (cols : Int)] w (RedSaid (svals T) m n cols w) := by
  have HC := Lib.hid (copy_any A m n c T w hm hn hn0 hr)
  have HS := Lib.hid hS
  have HW : Hid (Pl.Wide n (svals T)) := hr.wide
  have HTL : Hid ((svals T).length = m) := by show _ = _; unfold svals; rw [List.length_map]; exact hr.len
  clear hr hS
  obtain ⟨M, hM⟩ : ∃ M, M = svals T := ⟨_, rfl⟩
  rw [← hM] at HC HS HW HTL ⊢
  clear hM
  go_enter Tryz.func183, Tryz.ntmps183
  go_wp2_with fail
  refine HC.out.mono ?_
  rintro e w1 ⟨g, R0, rfl, hg, hmx, hown, hlen, hval, hb⟩
  have HI0 : Hid (RedB m n w w1 g R0 [] (.slice none 0 0)) := ⟨hmx, hown, hg, hlen, OQ.none_ _ _ _ _, hb⟩
  have HV0 : Hid (vals R0 = (Pl.redTo M 0).1) := hval
  clear hg hmx hown hlen hval hb HC
  go_wp2_with fail
  go_loopw [6, 7] (fun pv kv wr => ∃ (k : Nat) (R : List MRow) (P : List Nat), k ≤ cols ∧ kv = .int .i64 (k : Int) ∧ Hid (vals R = (Pl.redTo M k).1) ∧ Hid (P = (Pl.redTo M k).2) ∧ Hid (RedB m n w wr g R P pv)) (fun _ kv _ => cols - (intOf kv).toNat)
  case atStart => exact ⟨0, R0, [], Nat.zero_le _, rfl, HV0, Lib.hid rfl, HI0⟩
  case round =>
    clear HI0 HV0
    obtain ⟨k, R, P, hk, rfl, HV, HPV, HI⟩ := hrel
    obtain ⟨Ap, cp, rfl, _⟩ := HI.out.pin.slice
    obtain ⟨r, hr⟩ : ∃ r, r = P.length := ⟨_, rfl⟩
    have HP := Lib.hid hr
    rw [← hr] at HI ⊢
    have hpc := Pl.redTo_piv M k
    have hll := Pl.redTo_len M k
    rw [← HPV.out, ← hr, hll, HTL.out] at hpc
    clear hr hll
    by_cases hgo : k < cols ∧ r < m
    · obtain ⟨hk1, hr1⟩ := hgo
      have e1 : decide ((k : Int) < (cols : Int)) = true := by simp; omega
      have e2 : decide ((r : Int) < (m : Int)) = true := by simp; omega
      go_wp2_with fail
      go_loopw [9] (fun sv wx => ∃ p : Nat, r ≤ p ∧ p ≤ m ∧ sv = .int .i64 (p : Int) ∧ Hid (∀ i, r ≤ i → i < p → Pl.en (vals R) i k = 0) ∧ Hid (RedB m n w wx g R P (.slice Ap r cp))) (fun sv _ => m - (intOf sv).toNat)
      case atStart => exact ⟨r, Nat.le_refl _, by omega, rfl, Lib.hid (fun i h1 h2 => absurd h1 (by omega)), HI⟩
      case round =>
        clear HI
        obtain ⟨p, hrp, hpm, rfl, HZ, HI⟩ := hrel
        by_cases hp : p < m
        · have e3 : decide ((p : Int) < (m : Int)) = true := by simp; omega
          have hi : p < R.length := by rw [HI.out.len]; exact hp
          have hj : k < R[p].L.length := by rw [HI.out.mx.rlen hi]; omega
          have c0 := HI.out.mx.outer hi
          obtain ⟨c1, c2, c3, c4⟩ := HI.out.mx.inner hi hj
          have hnum := HI.out.mx.num hi hj
          have hen := vals_en hi hj
          rw [← hen] at hnum
          have HX := Lib.hid hnum
          generalize R[p].L[k].2 = x at *
          generalize R[p].g = gp at *
          generalize R[p].c = gc at *
          clear hnum hen
          have hk2 : k < n := by omega
          obtain ⟨q, hq⟩ : ∃ q, q = Pl.en (vals R) p k := ⟨_, rfl⟩
          rw [← hq] at HX
          have HQ := Lib.hid hq
          clear hq hj hi
          go_wp2_with fail
          refine (rsign_any HX.out).mono ?_
          rintro e wx2 ⟨rfl, hb⟩
          replace HI := Lib.hid (HI.out.go hb)
          clear hb HX c0 c1 c2 c3 c4
          by_cases hq0 : q = 0
          · have hs0 : q.num.sign = 0 := by rw [hq0]; rfl
            have HQ0 := Lib.hid hq0
            clear hq0
            rw [hs0]
            clear hs0
            go_wp2_with fail
            go_roundw
            case rel =>
              refine ⟨p + 1, by omega, by omega, by go_num, Lib.hid (fun i h1 h2 => ?_), HI⟩
              by_cases e : i = p
              · rw [e, ← HQ.out, HQ0.out]
              · exact HZ.out i h1 (by omega)
            case measure => simp [intOf]; omega
          · have hs0 : (q.num.sign == 0) = false := by
              rw [beq_eq_false_iff_ne]
              intro h
              rw [Int.sign_eq_zero_iff_zero, Rat.num_eq_zero] at h
              exact hq0 h
            have HQ0 := Lib.hid hq0
            clear hq0
            generalize q.num.sign = sg at *
            have epm : ((p : Int) == (m : Int)) = false := by simp; omega
            go_wp2_with fail
            clear epm
            have hir : r < R.length := by rw [HI.out.len]; exact hr1
            have hip : p < R.length := by rw [HI.out.len]; exact hp
            have c0 := HI.out.mx.outer hir
            have c1 := HI.out.mx.outer hip
            have f0 := HI.out.mx.frozen
            have l0 := HI.out.mx.lt
            have HI1 := HI.out.swap hir hip
            have HI2 := Lib.hid (HI1.go (Below.refl _ _).drew)
            clear HI1
            have HV2 : Hid (vals ((R.set r R[p]).set p R[r]) = Pl.swp (vals R) r p) := vals_swap hir hip
            unfold MRow.v at HI2
            obtain ⟨u2, c2⟩ : ∃ u, (wx2.setCell ⟨g, r, none⟩ (.slice (some ⟨R[p].g, 0, none⟩) n R[p].c)).cell? ⟨g, p, none⟩ = some u := by
              have h1 := (HI.out.mx.blk.set_ r (.slice (some ⟨R[p].g, 0, none⟩) n R[p].c)).cell p
              rw [Array.getElem?_eq_getElem (by simpa using hip)] at h1
              exact ⟨_, h1⟩
            generalize R[p].g = gp at *
            generalize R[p].c = cp2 at *
            generalize R[r].g = gr at *
            generalize R[r].c = cr2 at *
            go_region
            generalize ((wx2.setCell ⟨g, r, none⟩ (.slice (some ⟨gp, 0, none⟩) n cp2)).setCell ⟨g, p, none⟩ (.slice (some ⟨gr, 0, none⟩) n cr2)).drew = wy at *
            clear c0 c1 c2 f0 l0 HI
            obtain ⟨R2, hR2⟩ : ∃ R2, R2 = (R.set r R[p]).set p R[r] := ⟨_, rfl⟩
            rw [← hR2] at HI2 HV2
            clear hR2
            have hir2 : r < R2.length := by rw [HI2.out.len]; exact hr1
            have hj2 : k < R2[r].L.length := by rw [HI2.out.mx.rlen hir2]; omega
            have c0 := HI2.out.mx.outer hir2
            obtain ⟨c1, c2, c3, c4⟩ := HI2.out.mx.inner hir2 hj2
            have hnum := HI2.out.mx.num hir2 hj2
            have hen := vals_en hir2 hj2
            rw [HV2.out, Pl.en_swp (by rw [vals_len]; exact hir) (by rw [vals_len]; exact hip), if_pos rfl, show (if r = p then r else p) = p by split <;> omega, ← HQ.out] at hen
            rw [← hen] at hnum
            generalize R2[r].L[k].2 = xd at *
            generalize R2[r].g = gr2 at *
            generalize R2[r].c = gc2 at *
            clear hen
            go_wp2_with fail
            have hb5 := below_one wy (.cells #[.bool xd.N.b, .slice xd.N.A xd.N.n xd.N.c, .bool xd.D.b, .slice xd.D.A xd.D.n xd.D.c] 105)
            obtain ⟨bd, hbd⟩ : ∃ b, b = wy.heap.size := ⟨_, rfl⟩
            have BD : Hid (BoxR (wy.alloc (.cells #[.bool xd.N.b, .slice xd.N.A xd.N.n xd.N.c, .bool xd.D.b, .slice xd.D.A xd.D.n xd.D.c] 105)) bd q xd) := ⟨Blk.new_ wy bd _ _ hbd, hnum.go hb5⟩
            have HNB : Hid (∀ x ∈ R2, x.g ≠ bd) := fun x hx => by have := (HI2.out.mx.row x hx).lt; omega
            have HBW : w.heap.size ≤ bd := by have := HI2.out.below.size; omega
            replace HI2 := Lib.hid (HI2.out.go hb5)
            rw [← hbd]
            clear hb5 hnum hbd c0 c1 c2 c3 c4 hj2
            generalize wy.alloc (.cells #[.bool xd.N.b, .slice xd.N.A xd.N.n xd.N.c, .bool xd.D.b, .slice xd.D.A xd.D.n xd.D.c] 105) = wz at *
            have hlX : (vals R).length = m := by rw [vals_len]; exact HI2.out.len ▸ (by rw [← vals_len R2, HV2.out, Pl.swp_len, vals_len])
            have hpiv : Pl.pivAt (vals R) k r = p := Pl.pivAt_eq hrp (by omega) HZ.out (fun _ => by rw [← HQ.out]; exact HQ0.out)
            have hpw : ((vals R).getD p []).length = n := by
              have := HW.out.redTo k
              rw [← HV.out] at this
              exact this.get (by omega)
            have HNX : Hid (Pl.redTo M (k + 1) = (Pl.elim r k m (Pl.led (vals R) k r p), P ++ [k])) := by
              show _ = _
              rw [Pl.redTo_next]
              unfold Pl.rstep
              rw [← HPV.out, ← HV.out, ← HP.out, hpiv, hlX, if_pos ⟨by omega, by omega⟩]
            have HSX : Hid (∀ i j, Pl.rsz (Pl.en (vals R) i j) ≤ S) := fun i j => en_rsz hS2.1 (fun row hrow x hx => HS.out k (by omega) row (by rw [← HV.out]; exact hrow) x hx) i j
            have HSN : Hid (∀ j, Pl.rsz ((Pl.divRow q k n ((vals R).getD p [])).getD j 0) ≤ S) := fun j => by
              have h1 := en_rsz hS2.1 (fun row hrow x hx => HS.out (k + 1) (by omega) row hrow x hx) r j
              rw [HNX.out] at h1
              have h2 : Pl.en (Pl.elim r k m (Pl.led (vals R) k r p)) r j = (Pl.divRow q k n ((vals R).getD p [])).getD j 0 := by
                rw [Pl.en_row (by rw [Pl.elim_len, Pl.led_len]; omega), Pl.elim_at (by rw [Pl.led_len]; omega), if_neg (by omega), ← Pl.getM (by rw [Pl.led_len]; omega), Pl.led_get (by omega), hpw, ← HQ.out]
              rw [h2] at h1
              exact h1
            obtain ⟨rowp, hrowp⟩ : ∃ l, l = (vals R).getD p [] := ⟨_, rfl⟩
            have HRP := Lib.hid hrowp
            rw [← hrowp] at HSN hpw
            have HLED : Hid (Pl.led (vals R) k r p = (Pl.swp (vals R) r p).set r (Pl.mapTo (fun _ x => x / q) k n rowp)) := by
              show _ = _
              unfold Pl.led Pl.divRow
              rw [← HRP.out, hpw, ← HQ.out]
            have HQN : Hid (q ≠ 0) := HQ0.out
            clear hrowp hpiv
            have hkn : k < n := by omega
            go_loopw [11] (fun sv wx => ∃ (j : Nat) (Rj : List MRow), k ≤ j ∧ j ≤ n ∧ sv = .int .i64 (j : Int) ∧ Hid (vals Rj = (Pl.swp (vals R) r p).set r (Pl.mapTo (fun _ x => x / q) k j rowp)) ∧ Hid (RedB m n w wx g Rj P (.slice Ap r cp)) ∧ Hid (BoxR wx bd q xd) ∧ Hid (∀ x ∈ Rj, x.g ≠ bd)) (fun sv _ => n - (intOf sv).toNat)
            case atStart =>
              refine ⟨k, R2, Nat.le_refl _, by omega, rfl, ?_, HI2, BD, HNB⟩
              show _ = _
              rw [HV2.out, Pl.mapTo_start, HRP.out, ← swp_row (M := vals R) (r := r) (p := p) (by omega) (by omega), setM_same (by rw [Pl.swp_len]; omega)]
            case round =>
              clear HI2 BD HNB HV2
              obtain ⟨j, Rj, hkj, hjn, rfl, HVJ, HIJ, BD, HNB⟩ := hrel
              have hirj : r < Rj.length := by rw [HIJ.out.len]; exact hr1
              have hly : r < (Pl.swp (vals R) r p).length := by rw [Pl.swp_len]; omega
              by_cases hjlt : j < n
              · have hjl : j < Rj[r].L.length := by rw [HIJ.out.mx.rlen hirj]; exact hjlt
                have hjw : j < rowp.length := by omega
                have HEN : Hid (Rj[r].L[j].1 = rowp[j]) := map_entry HVJ.out hirj hly hjw hjl
                have HSE : Pl.rsz rowp[j] ≤ S := by
                  have := HSX.out p j
                  unfold Pl.en at this
                  rw [← HRP.out, List.getD_eq_getElem?_getD, List.getElem?_eq_getElem hjw] at this
                  exact this
                have HSQ : Pl.rsz q ≤ S := by rw [HQ.out]; exact HSX.out p k
                obtain ⟨y, hy⟩ : ∃ y, y = rowp[j] := ⟨_, rfl⟩
                obtain ⟨xj, EJ⟩ : ∃ x, Hid (Rj[r].L[j] = (y, x)) := ⟨Rj[r].L[j].2, by show _ = _; rw [hy, ← HEN.out]⟩
                obtain ⟨gj, EG⟩ : ∃ x, Hid (Rj[r].g = x) := ⟨_, Lib.hid rfl⟩
                obtain ⟨cj, EC⟩ : ∃ x, Hid (Rj[r].c = x) := ⟨_, Lib.hid rfl⟩
                rw [← hy] at HSE
                have HY := Lib.hid hy
                clear HEN hy
                have c9 := HIJ.out.mx.outer hirj
                rw [EG.out, EC.out] at c9
                have hj9 : (j : Int) < (n : Int) := by omega
                go_wp2_with fail
                clear c9
                have HYN : Hid (RatIs wr wr.heap.size y xj) := by
                  show RatIs _ _ _ _
                  have h9 := HIJ.out.mx.num hirj hjl
                  rw [EJ.out] at h9
                  exact h9
                have hb5 := (Below.refl wr.heap.size wr).drew
                replace HIJ := Lib.hid (HIJ.out.go hb5)
                replace BD := Lib.hid (BD.out.go hb5)
                replace HYN := Lib.hid (HYN.out.go hb5)
                clear hb5
                have HB0 := Lib.hid (Below.refl wr.drew.heap.size wr.drew)
                generalize hw9 : wr.drew = w16 at *
                have hSw : (fun w' : World => Below w16.heap.size w16 w') w16 := HB0.out
                refine wp_region_mid (fun w' : World => Below w16.heap.size w16 w') 15 (by kernel_rfl) ?_
                rw [hw9]
                clear hw9
                refine Tk.go [(0, [2, 3, 14, 15]), (1, [2, 3, 14, 15]), (2, [3, 14, 15]), (3, [14, 15]), (4, [14, 15]), (5, [7, 8, 10, 11, 13, 14, 15]), (6, [7, 8, 10, 11, 13, 14, 15]), (7, [8, 10, 11, 13, 14, 15]), (8, [10, 11, 13, 14, 15]), (9, [10, 11, 13, 14, 15]), (10, [11, 13, 14, 15]), (11, [13, 14, 15]), (12, [13, 14, 15])] ?_
                iterate 13 (refine Tk.cons rfl (by kernel_rfl) (fun _ _ _ h => h) hSw (by kernel_rfl) (fun w' hSx => by have c0 := (HIJ.out.mx.go hSx).outer hirj; rw [EG.out, EC.out] at c0; have hc := (HIJ.out.mx.go hSx).inner hirj hjl; rw [EG.out, EJ.out] at hc; have c1 := hc.1; have c2 := hc.2.1; have c3 := hc.2.2.1; have c4 := hc.2.2.2; clear hc; have c5 := ((BD.out.go hSx).blk).cell; go_simp; first | done | with_reducible rfl) ?_; simp only [Act.put, List.setIfInBounds_toArray])
                refine Tk.nil ?_
                refine wpAnyM_ready [13] (by kernel_rfl) (by simp) ?_
                refine AllReadyM.cons (by rfl) (fun K hK => ?_) AllReadyM.nil
                go_simp
                refine (rdiv_any (HYN.out.go HB0.out) (BD.out.go HB0.out).num HQN.out (by omega) (by omega)).mono ?_
                rintro e wq1 ⟨z, rfl, hz9, hb5⟩
                clear HYN
                replace HB0 := Lib.hid (Below.trans HB0.out (hb5.mono HB0.out.size))
                have HZ9 := Lib.hid hz9
                clear hz9
                clear hb5
                clear hSw
                have hSw : (fun w' : World => Below w16.heap.size w16 w') wq1 := HB0.out
                refine hK.out _ _ hSw ?_
                clear hK K
                refine wpAnyM_takeB 14 [15] rfl (by kernel_rfl) (by kernel_rfl) (by kernel_rfl) (by kernel_rfl) (by kernel_rfl) (fun _ _ _ h => h) hSw (by kernel_rfl) (fun w' hSx => by have c0 := (HIJ.out.mx.go hSx).outer hirj; rw [EG.out, EC.out] at c0; have hc := (HIJ.out.mx.go hSx).inner hirj hjl; rw [EG.out, EJ.out] at hc; have c1 := hc.1; have c2 := hc.2.1; have c3 := hc.2.2.1; have c4 := hc.2.2.2; clear hc; have c5 := ((BD.out.go hSx).blk).cell; go_simp; first | done | with_reducible rfl) ?_
                simp only [Act.put]
                refine wpAnyM_ready [15] (by kernel_rfl) (by simp) ?_
                refine AllReadyM.last (by rfl) (by decide) (fun K hK => ?_)
                replace HIJ := Lib.hid (HIJ.out.go HB0.out)
                replace BD := Lib.hid (BD.out.go HB0.out)
                have hc := HIJ.out.mx.inner hirj hjl
                rw [EG.out, EJ.out] at hc
                have c1 := hc.1
                have c2 := hc.2.1
                have c3 := hc.2.2.1
                have c4 := hc.2.2.2
                clear hc
                have cf9 := HIJ.out.mx.rfrozen hirj
                rw [EG.out] at cf9
                have cl9 := HIJ.out.mx.rlt hirj
                rw [EG.out] at cl9
                go_simp
                clear c1 c2 c3 c4 cf9 cl9
                have HP1 := HIJ.out.put hirj hjl HZ9.out
                rw [EG.out] at HP1
                have HBD1 := BD.out.rput (q2 := y) (y := z) (HIJ.out.mx.row _ (List.getElem_mem hirj)) hjl (fun e => HNB.out _ (List.getElem_mem hirj) e.symm)
                rw [EG.out] at HBD1
                unfold rput at HP1 HBD1
                clear HIJ HZ9 BD
                generalize ((((wq1.setCell ⟨gj, j * 4, none⟩ (.bool z.N.b)).setCell ⟨gj, j * 4 + 1, none⟩ (.slice z.N.A z.N.n z.N.c)).setCell ⟨gj, j * 4 + 2, none⟩ (.bool z.D.b)).setCell ⟨gj, j * 4 + 3, none⟩ (.slice z.D.A z.D.n z.D.c)) = wq2 at *
                have HIJ := Lib.hid HP1
                have BD := Lib.hid HBD1
                clear HP1 HBD1
                replace HB0 := Lib.hid (Below.refl wq2.heap.size wq2)
                refine hK.out _ _ ?_
                clear hK K
                refine wpAnyM_done (by kernel_rfl) ?_ _
                clear HB0 hSw
                go_wp2_with fail
                go_roundw
                case rel =>
                  exact ⟨j + 1, Rj.set r (Rj[r].put j (y / q) z), by omega, by omega, by go_num, map_step HVJ.out hirj hly hkj hjw (by rw [HY.out]) z, HIJ, BD, put_g hirj HNB.out⟩
                case measure => simp [intOf]; omega
              · obtain rfl : n = j := by omega
                have c9 := HIJ.out.mx.outer hirj
                generalize Rj[r].g = gj at *
                generalize Rj[r].c = cj at *
                clear hirj
                go_wp2_with fail
                have HVL : Hid (vals Rj = Pl.led (vals R) k r p) := by show _ = _; rw [HLED.out, HVJ.out]
                have HSY0 : Hid (∀ i j, Pl.rsz (Pl.en (Pl.led (vals R) k r p) i j) ≤ S) := fun i j => by
                  have h1 : Pl.en (Pl.led (vals R) k r p) i j = if i = r then (Pl.divRow q k n rowp).getD j 0 else Pl.en (Pl.swp (vals R) r p) i j := by
                    rw [HLED.out, Pl.en_set (by rw [Pl.swp_len]; omega)]
                    rfl
                  rw [h1]
                  split
                  · exact HSN.out j
                  · rw [Pl.en_swp (by omega) (by omega)]
                    exact HSX.out _ j
                have hYL0 : (Pl.led (vals R) k r p).length = m := by rw [Pl.led_len]; exact hlX
                have HYW0 : Hid (Pl.Wide n (Pl.led (vals R) k r p)) := by
                  show Pl.Wide _ _
                  rw [← HVL.out]
                  exact HIJ.out.mx.wide
                generalize Pl.led (vals R) k r p = Y at *
                have HYL : Hid (Y.length = m) := hYL0
                clear hYL0 HVJ BD HNB HLED HSN HQN HSX HQ HQ0 HRP hly c9
                go_loopw [101] (fun sv wx => ∃ (i : Nat) (Ri : List MRow), i ≤ m ∧ sv = .int .i64 (i : Int) ∧ Hid (vals Ri = Pl.elim r k i Y) ∧ Hid (RedB m n w wx g Ri P (.slice Ap r cp))) (fun sv _ => m - (intOf sv).toNat)
                case atStart => exact ⟨0, Rj, Nat.zero_le _, rfl, by show _ = _; rw [HVL.out, Pl.elim_start], HIJ⟩
                case round =>
                  clear HIJ HVL
                  obtain ⟨i, Ri, him, rfl, HVI, HII⟩ := hrel
                  by_cases hilt : i < m
                  · have hi9 : (i : Int) < (m : Int) := by omega
                    have hiY : i < Y.length := by rw [HYL.out]; exact hilt
                    by_cases hir9 : i = r
                    · have e5 : ((i : Int) == (r : Int)) = true := by simp; omega
                      go_wp2_with fail
                      go_roundw
                      case rel => exact ⟨i + 1, Ri, by omega, by go_num, by show _ = _; rw [HVI.out, ← hir9, Pl.elim_self], HII⟩
                      case measure => simp [intOf]; omega
                    · have e5 : ((i : Int) == (r : Int)) = false := by simp; omega
                      have hii : i < Ri.length := by rw [HII.out.len]; exact hilt
                      have hik : k < Ri[i].L.length := by rw [HII.out.mx.rlen hii]; exact hkn
                      have HRI : Hid ((Pl.elim r k i Y).getD i [] = Y.getD i []) := by
                        show _ = _
                        rw [Pl.getM (by rw [Pl.elim_len]; exact hiY), Pl.elim_at hiY, if_neg (by omega), Pl.getM hiY]
                      have hen := vals_en hii hik
                      rw [HVI.out] at hen
                      unfold Pl.en at hen
                      rw [HRI.out] at hen
                      obtain ⟨f, hf⟩ : ∃ f, f = (Y.getD i []).getD k 0 := ⟨_, rfl⟩
                      rw [← hf] at hen
                      have HFE := Lib.hid hf
                      obtain ⟨xf, EF⟩ : ∃ x, Hid (Ri[i].L[k] = (f, x)) := ⟨Ri[i].L[k].2, by show _ = _; rw [hen]⟩
                      obtain ⟨gi, EG⟩ : ∃ x, Hid (Ri[i].g = x) := ⟨_, Lib.hid rfl⟩
                      obtain ⟨ci, EC⟩ : ∃ x, Hid (Ri[i].c = x) := ⟨_, Lib.hid rfl⟩
                      have hnf := HII.out.mx.num hii hik
                      rw [EF.out] at hnf
                      have HXF := Lib.hid hnf
                      have c0 := HII.out.mx.outer hii
                      rw [EG.out, EC.out] at c0
                      have hc := HII.out.mx.inner hii hik
                      rw [EG.out, EF.out] at hc
                      have c1 := hc.1
                      have c2 := hc.2.1
                      have c3 := hc.2.2.1
                      have c4 := hc.2.2.2
                      clear hc hnf hen hf
                      go_wp2_with fail
                      refine (rsign_any HXF.out).mono ?_
                      rintro e wx3 ⟨rfl, hb⟩
                      replace HII := Lib.hid (HII.out.go hb)
                      replace HXF := Lib.hid (HXF.out.go hb)
                      clear hb c0 c1 c2 c3 c4
                      by_cases hf0 : f = 0
                      · have hs0 : f.num.sign = 0 := by rw [hf0]; rfl
                        have HF0 := Lib.hid hf0
                        clear hf0
                        rw [hs0]
                        clear hs0
                        go_wp2_with fail
                        go_roundw
                        case rel => exact ⟨i + 1, Ri, by omega, by go_num, by show _ = _; rw [HVI.out, Pl.elim_skip hiY hir9 (by rw [← Pl.getM hiY, ← HFE.out]; exact HF0.out)], HII⟩
                        case measure => simp [intOf]; omega
                      · have hs0 : (f.num.sign == 0) = false := by
                          rw [beq_eq_false_iff_ne]
                          intro h
                          rw [Int.sign_eq_zero_iff_zero, Rat.num_eq_zero] at h
                          exact hf0 h
                        clear hf0
                        generalize f.num.sign = sf at *
                        have c0 := HII.out.mx.outer hii
                        rw [EG.out, EC.out] at c0
                        have hc := HII.out.mx.inner hii hik
                        rw [EG.out, EF.out] at hc
                        have c1 := hc.1
                        have c2 := hc.2.1
                        have c3 := hc.2.2.1
                        have c4 := hc.2.2.2
                        clear hc
                        go_wp2_with fail
                        have hb5 := below_one wx3 (.cells #[.bool xf.N.b, .slice xf.N.A xf.N.n xf.N.c, .bool xf.D.b, .slice xf.D.A xf.D.n xf.D.c] 105)
                        obtain ⟨bf, hbf⟩ : ∃ b, b = wx3.heap.size := ⟨_, rfl⟩
                        have BF : Hid (BoxR (wx3.alloc (.cells #[.bool xf.N.b, .slice xf.N.A xf.N.n xf.N.c, .bool xf.D.b, .slice xf.D.A xf.D.n xf.D.c] 105)) bf f xf) := ⟨Blk.new_ wx3 bf _ _ hbf, HXF.out.go hb5⟩
                        have HNF : Hid (∀ x ∈ Ri, x.g ≠ bf) := fun x hx => by have := (HII.out.mx.row x hx).lt; omega
                        replace HII := Lib.hid (HII.out.go hb5)
                        rw [← hbf]
                        clear hb5 hbf c0 c1 c2 c3 c4 HXF EF EG EC hik
                        generalize wx3.alloc (.cells #[.bool xf.N.b, .slice xf.N.A xf.N.n xf.N.c, .bool xf.D.b, .slice xf.D.A xf.D.n xf.D.c] 105) = wf at *
                        obtain ⟨rowi, hrowi⟩ : ∃ l, l = Y.getD i [] := ⟨_, rfl⟩
                        obtain ⟨yr, hyr⟩ : ∃ l, l = Y.getD r [] := ⟨_, rfl⟩
                        have HRW := Lib.hid hrowi
                        have HYR := Lib.hid hyr
                        have hiw : rowi.length = n := by rw [hrowi]; exact HYW0.out.get hiY
                        have hyw : yr.length = n := by rw [hyr]; exact HYW0.out.get (by rw [HYL.out]; exact hr1)
                        have HSF : Hid (Pl.rsz f ≤ S) := by rw [HFE.out]; exact HSY0.out i k
                        clear hrowi hyr
                        go_loopw [14] (fun sv wx => ∃ (j : Nat) (Rk : List MRow), k ≤ j ∧ j ≤ n ∧ sv = .int .i64 (j : Int) ∧ Hid (vals Rk = (Pl.elim r k i Y).set i (Pl.mapTo (fun t x => x - f * yr.getD t 0) k j rowi)) ∧ Hid (RedB m n w wx g Rk P (.slice Ap r cp)) ∧ Hid (BoxR wx bf f xf) ∧ Hid (∀ x ∈ Rk, x.g ≠ bf)) (fun sv _ => n - (intOf sv).toNat)
                        case atStart =>
                          refine ⟨k, Ri, Nat.le_refl _, by omega, rfl, ?_, HII, BF, HNF⟩
                          show _ = _
                          rw [HVI.out, Pl.mapTo_start, HRW.out, ← HRI.out, setM_same (by rw [Pl.elim_len]; exact hiY)]
                        case round =>
                          clear HII BF HNF HVI
                          obtain ⟨j, Rk, hkj, hjn, rfl, HVJ, HIJ, BF, HNF⟩ := hrel
                          have hik : i < Rk.length := by rw [HIJ.out.len]; exact hilt
                          have hrk : r < Rk.length := by rw [HIJ.out.len]; exact hr1
                          have hly : i < (Pl.elim r k i Y).length := by rw [Pl.elim_len]; exact hiY
                          have c9 := HIJ.out.mx.outer hik
                          obtain ⟨gi, EG⟩ : ∃ x, Hid (Rk[i].g = x) := ⟨_, Lib.hid rfl⟩
                          obtain ⟨ci, EC⟩ : ∃ x, Hid (Rk[i].c = x) := ⟨_, Lib.hid rfl⟩
                          rw [EG.out, EC.out] at c9
                          by_cases hjlt : j < n
                          · have hjl : j < Rk[i].L.length := by rw [HIJ.out.mx.rlen hik]; exact hjlt
                            have hjr : j < Rk[r].L.length := by rw [HIJ.out.mx.rlen hrk]; exact hjlt
                            have hjw : j < rowi.length := by omega
                            have HEN : Hid (Rk[i].L[j].1 = rowi[j]) := map_entry HVJ.out hik hly hjw hjl
                            have HER : Hid (Rk[r].L[j].1 = yr.getD j 0) := by
                              show _ = _
                              rw [map_other HVJ.out hir9 hrk hjr, Pl.getM (by rw [Pl.elim_len, HYL.out]; exact hr1), Pl.elim_at (by rw [HYL.out]; exact hr1), if_neg (by omega), HYR.out, Pl.getM]
                            have HSE : Pl.rsz rowi[j] ≤ S := by
                              have := HSY0.out i j
                              unfold Pl.en at this
                              rw [← HRW.out, List.getD_eq_getElem?_getD, List.getElem?_eq_getElem hjw] at this
                              exact this
                            have HSR : Pl.rsz (yr.getD j 0) ≤ S := by
                              have := HSY0.out r j
                              unfold Pl.en at this
                              rw [← HYR.out] at this
                              exact this
                            obtain ⟨y, hy⟩ : ∃ y, y = rowi[j] := ⟨_, rfl⟩
                            obtain ⟨u, hu⟩ : ∃ u, u = yr.getD j 0 := ⟨_, rfl⟩
                            obtain ⟨xj, EJ⟩ : ∃ x, Hid (Rk[i].L[j] = (y, x)) := ⟨Rk[i].L[j].2, by show _ = _; rw [hy, ← HEN.out]⟩
                            obtain ⟨xr, ER⟩ : ∃ x, Hid (Rk[r].L[j] = (u, x)) := ⟨Rk[r].L[j].2, by show _ = _; rw [hu, ← HER.out]⟩
                            obtain ⟨gr3, EGR⟩ : ∃ x, Hid (Rk[r].g = x) := ⟨_, Lib.hid rfl⟩
                            obtain ⟨cr3, ECR⟩ : ∃ x, Hid (Rk[r].c = x) := ⟨_, Lib.hid rfl⟩
                            rw [← hy] at HSE
                            rw [← hu] at HSR
                            have HY := Lib.hid hy
                            have HU := Lib.hid hu
                            have hnr := HIJ.out.mx.num hrk hjr
                            rw [ER.out] at hnr
                            have HXR := Lib.hid hnr
                            have c8 := HIJ.out.mx.outer hrk
                            rw [EGR.out, ECR.out] at c8
                            have hc := HIJ.out.mx.inner hrk hjr
                            rw [EGR.out, ER.out] at hc
                            have c1 := hc.1
                            have c2 := hc.2.1
                            have c3 := hc.2.2.1
                            have c4 := hc.2.2.2
                            clear HEN HER hy hu hnr hc
                            have hj9 : (j : Int) < (n : Int) := by omega
                            go_wp2_with fail
                            refine (rsign_any HXR.out).mono ?_
                            rintro e wx4 ⟨rfl, hb⟩
                            replace HIJ := Lib.hid (HIJ.out.go hb)
                            replace BF := Lib.hid (BF.out.go hb)
                            replace HXR := Lib.hid (HXR.out.go hb)
                            clear hb c1 c2 c3 c4 c8 c9
                            by_cases hu0 : u = 0
                            · have hs1 : u.num.sign = 0 := by rw [hu0]; rfl
                              have HU0 := Lib.hid hu0
                              clear hu0
                              rw [hs1]
                              clear hs1
                              go_wp2_with fail
                              go_roundw
                              case rel => exact ⟨j + 1, Rk, by omega, by omega, by go_num, by show _ = _; rw [HVJ.out, map_skip hkj hjw (by rw [← HU.out, HU0.out, Rat.mul_zero, Rat.sub_eq_add_neg, Rat.neg_zero, Rat.add_zero])], HIJ, BF, HNF⟩
                              case measure => simp [intOf]; omega
                            · have hs1 : (u.num.sign != 0) = true := by
                                rw [bne_iff_ne]
                                intro h
                                rw [Int.sign_eq_zero_iff_zero, Rat.num_eq_zero] at h
                                exact hu0 h
                              clear hu0
                              generalize u.num.sign = su at *
                              have HYN : Hid (RatIs wx4 wx4.heap.size y xj) := by
                                show RatIs _ _ _ _
                                have h9 := HIJ.out.mx.num hik hjl
                                rw [EJ.out] at h9
                                exact h9
                              have HSM : Hid (Pl.rsz (f * u) ≤ 549755813888) := Nat.le_trans (Pl.rsz_mul f u) (by have := HSF.out; omega)
                              have HSF1 := HSF.out
                              go_wp2_with fail
                              go_upto_region 26 with fail
                              have hb5 := (Below.refl wx4.heap.size wx4).drew
                              replace HIJ := Lib.hid (HIJ.out.go hb5)
                              replace BF := Lib.hid (BF.out.go hb5)
                              replace HYN := Lib.hid (HYN.out.go hb5)
                              replace HXR := Lib.hid (HXR.out.go hb5)
                              clear hb5
                              have HB0 := Lib.hid (Below.refl wx4.drew.heap.size wx4.drew)
                              generalize hw9 : wx4.drew = w26 at *
                              have hSw : (fun w' : World => Below w26.heap.size w26 w') w26 := HB0.out
                              refine wp_region_mid (fun w' : World => Below w26.heap.size w26 w') 23 (by kernel_rfl) ?_
                              rw [hw9]
                              clear hw9
                              refine Tk.go [(0, [2, 3, 22, 23]), (1, [2, 3, 22, 23]), (2, [3, 22, 23]), (3, [22, 23]), (4, [22, 23]), (5, [7, 8, 10, 11, 21, 22, 23]), (6, [7, 8, 10, 11, 21, 22, 23]), (7, [8, 10, 11, 21, 22, 23]), (8, [10, 11, 21, 22, 23]), (9, [10, 11, 21, 22, 23]), (10, [11, 21, 22, 23]), (11, [21, 22, 23]), (12, [20, 21, 22, 23]), (13, [15, 16, 18, 19, 20, 21, 22, 23]), (14, [15, 16, 18, 19, 20, 21, 22, 23]), (15, [16, 18, 19, 20, 21, 22, 23]), (16, [18, 19, 20, 21, 22, 23]), (17, [18, 19, 20, 21, 22, 23]), (18, [19, 20, 21, 22, 23]), (19, [20, 21, 22, 23])] ?_
                              iterate 20 (refine Tk.cons rfl (by kernel_rfl) (fun _ _ _ h => h) hSw (by kernel_rfl) (fun w' hSx => by have c0 := (HIJ.out.mx.go hSx).outer hik; rw [EG.out, EC.out] at c0; have c1 := (HIJ.out.mx.go hSx).outer hrk; rw [EGR.out, ECR.out] at c1; have hc := (HIJ.out.mx.go hSx).inner hik hjl; rw [EG.out, EJ.out] at hc; have c2 := hc.1; have c3 := hc.2.1; have c4 := hc.2.2.1; have c5 := hc.2.2.2; clear hc; have hc := (HIJ.out.mx.go hSx).inner hrk hjr; rw [EGR.out, ER.out] at hc; have c6 := hc.1; have c7 := hc.2.1; have c8 := hc.2.2.1; have c9 := hc.2.2.2; clear hc; have c10 := ((BF.out.go hSx).blk).cell; go_simp; first | done | with_reducible rfl) ?_; simp only [Act.put, List.setIfInBounds_toArray])
                              refine Tk.nil ?_
                              refine wpAnyM_ready [20] (by kernel_rfl) (by simp) ?_
                              refine AllReadyM.cons (by rfl) (fun K hK => ?_) AllReadyM.nil
                              go_simp
                              refine (rmul_any (BF.out.go HB0.out).num (HXR.out.go HB0.out) (by omega) (by omega)).mono ?_
                              rintro e wq1 ⟨v, rfl, hv9, hb5⟩
                              clear HXR
                              replace HB0 := Lib.hid (Below.trans HB0.out (hb5.mono HB0.out.size))
                              have HV9 := Lib.hid hv9
                              clear hv9
                              clear hb5
                              clear hSw
                              have hSw : (fun w' : World => Below w26.heap.size w26 w') wq1 := HB0.out
                              refine hK.out _ _ hSw ?_
                              clear hK K
                              refine wpAnyM_ready [21] (by kernel_rfl) (by simp) ?_
                              refine AllReadyM.cons (by rfl) (fun K hK => ?_) AllReadyM.nil
                              go_simp
                              refine (rsub_any (HYN.out.go HB0.out) HV9.out (by omega) (Nat.le_trans HSM.out (by omega))).mono ?_
                              rintro e wq2 ⟨z, rfl, hz9, hb5⟩
                              clear HYN HV9
                              replace HB0 := Lib.hid (Below.trans HB0.out (hb5.mono HB0.out.size))
                              have HZ9 := Lib.hid hz9
                              clear hz9
                              clear hb5
                              clear hSw
                              have hSw : (fun w' : World => Below w26.heap.size w26 w') wq2 := HB0.out
                              refine hK.out _ _ hSw ?_
                              clear hK K
                              refine wpAnyM_takeB 22 [23] rfl (by kernel_rfl) (by kernel_rfl) (by kernel_rfl) (by kernel_rfl) (by kernel_rfl) (fun _ _ _ h => h) hSw (by kernel_rfl) (fun w' hSx => by have c0 := (HIJ.out.mx.go hSx).outer hik; rw [EG.out, EC.out] at c0; have c1 := (HIJ.out.mx.go hSx).outer hrk; rw [EGR.out, ECR.out] at c1; have hc := (HIJ.out.mx.go hSx).inner hik hjl; rw [EG.out, EJ.out] at hc; have c2 := hc.1; have c3 := hc.2.1; have c4 := hc.2.2.1; have c5 := hc.2.2.2; clear hc; have hc := (HIJ.out.mx.go hSx).inner hrk hjr; rw [EGR.out, ER.out] at hc; have c6 := hc.1; have c7 := hc.2.1; have c8 := hc.2.2.1; have c9 := hc.2.2.2; clear hc; have c10 := ((BF.out.go hSx).blk).cell; go_simp; first | done | with_reducible rfl) ?_
                              simp only [Act.put]
                              refine wpAnyM_ready [23] (by kernel_rfl) (by simp) ?_
                              refine AllReadyM.last (by rfl) (by decide) (fun K hK => ?_)
                              replace HIJ := Lib.hid (HIJ.out.go HB0.out)
                              replace BF := Lib.hid (BF.out.go HB0.out)
                              have hc := HIJ.out.mx.inner hik hjl
                              rw [EG.out, EJ.out] at hc
                              have c1 := hc.1
                              have c2 := hc.2.1
                              have c3 := hc.2.2.1
                              have c4 := hc.2.2.2
                              clear hc
                              have cf9 := HIJ.out.mx.rfrozen hik
                              rw [EG.out] at cf9
                              have cl9 := HIJ.out.mx.rlt hik
                              rw [EG.out] at cl9
                              go_simp
                              clear c1 c2 c3 c4 cf9 cl9
                              have HP1 := HIJ.out.put hik hjl HZ9.out
                              rw [EG.out] at HP1
                              have HBF1 := BF.out.rput (q2 := y) (y := z) (HIJ.out.mx.row _ (List.getElem_mem hik)) hjl (fun e => HNF.out _ (List.getElem_mem hik) e.symm)
                              rw [EG.out] at HBF1
                              unfold rput at HP1 HBF1
                              clear HIJ HZ9 BF
                              generalize ((((wq2.setCell ⟨gi, j * 4, none⟩ (.bool z.N.b)).setCell ⟨gi, j * 4 + 1, none⟩ (.slice z.N.A z.N.n z.N.c)).setCell ⟨gi, j * 4 + 2, none⟩ (.bool z.D.b)).setCell ⟨gi, j * 4 + 3, none⟩ (.slice z.D.A z.D.n z.D.c)) = wq3 at *
                              have HIJ := Lib.hid HP1
                              have BF := Lib.hid HBF1
                              clear HP1 HBF1
                              replace HB0 := Lib.hid (Below.refl wq3.heap.size wq3)
                              refine hK.out _ _ ?_
                              clear hK K
                              refine wpAnyM_done (by kernel_rfl) ?_ _
                              clear HB0 hSw
                              go_wp2_with fail
                              go_roundw
                              case rel =>
                                exact ⟨j + 1, Rk.set i (Rk[i].put j (y - f * u) z), by omega, by omega, by go_num, map_step HVJ.out hik hly hkj hjw (by rw [HY.out, HU.out]) z, HIJ, BF, put_g hik HNF.out⟩
                              case measure => simp [intOf]; omega
                          · obtain rfl : n = j := by omega
                            go_wp2_with fail
                            go_roundw
                            case rel =>
                              refine ⟨i + 1, Rk, by omega, by go_num, ?_, HIJ⟩
                              show _ = _
                              rw [HVJ.out, Pl.elim_next hiY hir9]
                              unfold Pl.subRow
                              rw [← Pl.getM hiY, ← HRW.out, ← HYR.out, hiw]
                              rw [HRW.out, ← HFE.out]
                            case measure => simp [intOf]; omega
                  · obtain rfl : m = i := by omega
                    have hP9 : P.length ≤ 1000 := by rw [← HP.out]; omega
                    have hb5 := below_one wr (.cells #[.int .i64 (k : Int)] 3)
                    obtain ⟨v3, w3, hap, hI3⟩ := (HII.out.go hb5).push k (Blk.new_ wr wr.heap.size 3 #[.int .i64 (k : Int)] rfl) hP9
                    have HI3 := Lib.hid hI3
                    clear hI3 hb5
                    go_wp2_with (at_builtin; go_must (refine wpList_append_run9 rfl _ _ 57 rfl _ _ _ rfl rfl hap ?_))
                    go_roundw
                    case rel => exact ⟨k + 1, Ri, P ++ [k], by omega, by go_num, by show _ = _; rw [HVI.out, HNX.out], by show _ = _; rw [HNX.out], HI3⟩
                    case measure => simp [intOf]; omega
        · have e3 : decide ((p : Int) < (m : Int)) = false := by simp; omega
          obtain rfl : m = p := by omega
          have HNX : Hid (Pl.redTo M (k + 1) = Pl.redTo M k) := by
            show _ = _
            rw [Pl.redTo_next]
            unfold Pl.rstep
            have hl2 : (Pl.redTo M k).1.length = m := by rw [Pl.redTo_len, HTL.out]
            have hpv : Pl.pivAt (Pl.redTo M k).1 k r = m := Pl.pivAt_eq hrp (by omega) (by rw [← HV.out]; exact HZ.out) (fun h => absurd h (by omega))
            rw [← HPV.out, ← HP.out, hl2, hpv, if_neg (by omega)]
          go_wp2_with fail
          exact ⟨⟨k + 1, R, P, by omega, by go_num, by show _ = _; rw [HNX.out]; exact HV.out, by show _ = _; rw [HNX.out]; exact HPV.out, HI⟩, by simp [intOf]; omega⟩
    · have HF : Hid (Pl.redTo M cols = Pl.redTo M k) := by
        show _ = _
        by_cases h1 : k < cols
        · have h2 : cols = k + (cols - k) := by omega
          rw [h2, Pl.redTo_full (by rw [← HPV.out, ← HP.out, Pl.redTo_len, HTL.out]; omega)]
        · rw [show k = cols by omega]
      have HRS : Hid (RedSaid M m n cols w (.returned (.tuple #[.slice (some ⟨g, 0, none⟩) m m, .slice Ap r cp])) wr) := by
        refine ⟨g, R, Ap, cp, ?_, HI.out.lw, HI.out.mx, HI.out.own, HI.out.len, by rw [HF.out]; exact HV.out, HI.out.below⟩
        rw [HF.out, ← HPV.out, ← HP.out]
      by_cases h1 : k < cols
      · have e1 : decide ((k : Int) < (cols : Int)) = true := by simp; omega
        have e2 : decide (r < m) = false := by simp; omega
        clear h1 hgo
        go_wp2_with fail
        all_goals (go_ret2; exact HRS.out)
      · have e1 : decide (k < cols) = false := by simp; omega
        clear h1 hgo
        go_wp2_with fail
        all_goals (go_ret2; exact HRS.out)
end Go.Proofs.YtoblpcljhblnmaaGreatDoor
