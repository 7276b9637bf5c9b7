/- The matrix of a network and its inverse (flow.Model.place, invert). Condition: the record reads; the matrix sends no vector but zero to zero; its numbers are small. -/
import Derived.Test.YtoblpcljhblnmaaGreatDoorFlwA
import Derived.Test.YtoblpcljhblnmaaGreatDoorDot
namespace Go.Proofs.YtoblpcljhblnmaaGreatDoor
open Go.RowKit
set_option maxRecDepth 100000
theorem wpAnyM_weak {P : Program} {ops : Array Oper} {Q : Exit → Act → World → Prop} {md : Region.Mode} {S : World → Prop} {m m' : Nat} : ∀ (fuel : Nat) (listed : Array Bool) (a : Act) (w : World), wpAnyM P md ops Q S m fuel listed a w → wpAnyM P md ops Q (fun _ => True) m' fuel listed a w
  | 0, _, _, _, h => h
  | fuel + 1, _, _, _, h => ⟨h.1, fun i hi => wpOp_mono (fun a' w' h' => ⟨fun _ => trivial, wpAnyM_weak fuel _ a' w' h'.2⟩) (h.2 i hi)⟩
theorem index_int (A : Option Addr) (n c : Nat) (zs : List Int) (v : Int) (w : World) (B : Nat) (hn : n ≤ 1000000) (h : Reads w B 1 A n (ints zs)) :
    Calls Tryz.prog 182 #[.slice A n c, .int .i64 v] w fun e w' => e = .returned (.int .i64 (Pl.place zs v)) ∧ w' = w := by
  have HL := Lib.hid h.int_len
  have HR := Lib.hid h
  clear h
  go_enter Tryz.func182, Tryz.ntmps182
  go_wp2_with fail
  go_loop [8] (fun i => ∃ k : Nat, k ≤ n ∧ i = .int .i64 k ∧ Hid (∀ j (hj : j < zs.length), j < k → decide (zs[j] = v) = false)) (fun i => n - (intOf i).toNat)
  case atStart => exact ⟨0, Nat.zero_le _, rfl, Lib.hid (fun j _ h => absurd h (by omega))⟩
  case round =>
    obtain ⟨k, hk, rfl, HNO⟩ := hrel
    by_cases hlt : k < n
    · obtain ⟨b, o, rfl, hl, hc⟩ := HR.out.int_at hlt
      have HT : Hid (zs[k] = v → Pl.place zs v = k) := fun h => Pl.idxOf_hit _ zs k hl (by simpa using h) HNO.out
      have HN : Hid (zs[k] ≠ v → ∀ j (hj : j < zs.length), j < k + 1 → decide (zs[j] = v) = false) := fun h j hj hjk => by
        by_cases e : j = k
        · subst e; simpa using h
        · exact HNO.out j hj (by omega)
      generalize zs[k] = z at *
      have hk1 : (k : Int) < (n : Int) := by omega
      by_cases hz : v = z
      · have e1 : (v == z) = true := by simpa using hz
        have HP := Lib.hid (HT.out hz.symm)
        clear HNO HT HN hz
        go_wp2_with fail
        go_ret
        exact ⟨ret_int HP.out.symm, rfl⟩
      · have e1 : (v == z) = false := by simpa using hz
        have HN2 := Lib.hid (HN.out (fun e => hz e.symm))
        clear HNO HT HN hz
        go_wp2_with fail
        go_round
        case rel => exact ⟨k + 1, by omega, by go_num, HN2⟩
        case measure => simp [intOf]; omega
    · have HP : Hid (Pl.place zs v = -1) := Pl.idxOf_miss _ zs fun j hj => HNO.out j hj (by have := HL.out; omega)
      clear HNO
      go_wp2_with fail
      go_ret
      exact ⟨ret_int HP.out.symm, rfl⟩
theorem place_any (p : Nat) (X : MdA) (vI : Value) (v : Int) (w : World) (hn : X.nf ≤ 1000) (h : ModAt w p X vI) : Calls Tryz.prog 148 #[.pointer (some ⟨p, 0, none⟩), .int .i64 v] w fun e w' => e = .returned (.int .i64 (Pl.place X.R v)) ∧ w' = w := by
  have HC := Lib.hid (index_int X.Ar X.nf X.cr X.R v w w.heap.size (by omega) h.r)
  have cp := h.blk.cell
  have lp := h.blk.lt
  unfold MdA.cells at cp
  clear h
  go_enter Tryz.func148, Tryz.ntmps148
  go_wp2_with fail
  refine HC.out.mono ?_
  rintro e w2 ⟨rfl, rfl⟩
  go_wp2_with fail
  go_ret
  exact ⟨rfl, rfl⟩
def esTo (X : MdA) (k : Nat) : List (Int × Int × Rat) := (List.range k).map fun i => (X.F.getD i 0, X.T.getD i 0, (X.LB.map (·.1)).getD i 0)
theorem esTo_next (X : MdA) (k : Nat) : esTo X (k + 1) = esTo X k ++ [(X.F.getD k 0, X.T.getD k 0, (X.LB.map (·.1)).getD k 0)] := by unfold esTo; rw [List.range_succ, List.map_append]; rfl
theorem esTo_len (X : MdA) (k : Nat) : (esTo X k).length = k := by unfold esTo; rw [List.length_map, List.length_range]
theorem ints_getD {w : World} {B n : Nat} {A : Option Addr} {zs : List Int} (h : Reads w B 1 A n (ints zs)) {k : Nat} (hk : k < n) : ∃ b o, A = some ⟨b, o, none⟩ ∧ b < B ∧ w.cell? ⟨b, o + k, none⟩ = some (.int .i64 (zs.getD k 0)) := by
  obtain ⟨b, o, rfl, hb, hc⟩ := h.where_ (by omega) (by decide)
  have hl : k < zs.length := by rw [h.int_len]; exact hk
  refine ⟨b, o, rfl, hb, ?_⟩
  refine hc k _ ?_
  unfold ints
  rw [List.getElem?_map, List.getElem?_eq_getElem hl, List.getD_eq_getElem?_getD, List.getElem?_eq_getElem hl]
  rfl
theorem place_b (p : Nat) (X : MdA) (vI : Value) (v : Int) (w : World) (hn : X.nf ≤ 1000) (h : ModAt w p X vI) : Calls Tryz.prog 148 #[.pointer (some ⟨p, 0, none⟩), .int .i64 v] w fun e w' => e = .returned (.int .i64 (Pl.place X.R v)) ∧ Below w.heap.size w w' := by
  refine (place_any p X vI v w hn h).mono ?_
  rintro e w' ⟨h1, h2⟩
  subst h2
  exact ⟨h1, Below.refl _ _⟩
theorem place_inj {R : List Int} {a b : Int} (h0 : 0 ≤ Pl.place R a) (h : Pl.place R a = Pl.place R b) : a = b := by
  have ha : a ∈ R := by
    by_cases h9 : a ∈ R
    · exact h9
    · have := Pl.place_no h9; omega
  have hb : b ∈ R := by
    by_cases h9 : b ∈ R
    · exact h9
    · have := Pl.place_no h9; omega
  obtain ⟨_, _, h1, e1⟩ := Pl.place_in ha
  obtain ⟨_, _, h2, e2⟩ := Pl.place_in hb
  rw [← e1, ← e2]
  simp only [h]
theorem vals_addAt {R : List MRow} {A : Pl.Mat} {i j : Nat} {q y : Rat} (hv : vals R = A) (hi : i < R.length) (hy : y = Pl.en A i j + q) (x : Rt) : vals (R.set i (R[i].put j y x)) = Pl.addAt A i j q := by
  rw [vals_put hi, hv, hy]
  rfl
theorem okM_rsz {D K b S : Nat} {A : Pl.Mat} (hD : D ≠ 0) (hd : D ≤ 2 ^ b) (hk : K ≤ 2 ^ b) (hs : b / 32 + 1 ≤ S) (h : Pl.OkM D K A) (i j : Nat) : Pl.rsz (Pl.en A i j) ≤ S := Nat.le_trans (((h.en i j).ov hk).size hD hd) hs
theorem ints_cell {w : World} {B n b o : Nat} {zs : List Int} (h : Reads w B 1 (some ⟨b, o, none⟩) n (ints zs)) {k : Nat} (hk : k < n) : w.cell? ⟨b, o + k, none⟩ = some (.int .i64 (zs.getD k 0)) := by
  obtain ⟨b', o', e, _, hc⟩ := ints_getD h hk
  injection e with e
  injection e with e1 e2
  subst e1 e2
  exact hc
theorem lapStep_same {free : List Int} {A : Pl.Mat} {f t : Int} {q : Rat} (h : f = t) : Pl.lapStep free A (f, t, q) = A := by unfold Pl.lapStep; rw [if_pos h]
section
variable {free : List Int} {A : Pl.Mat} {f t : Int} {q : Rat} {ia ja : Nat}
theorem lapStep_ij (h : f ≠ t) (hi : Pl.place free f = (ia : Int)) (hj : Pl.place free t = (ja : Int)) : Pl.lapStep free A (f, t, q) = Pl.addAt (Pl.addAt (Pl.addAt (Pl.addAt A ia ia q) ja ja q) ia ja (-q)) ja ia (-q) := by
  unfold Pl.lapStep
  rw [if_neg h]
  simp only [hi, hj]
  rw [if_pos (by omega), if_pos (by omega), if_pos (by omega)]
  simp only [Int.toNat_natCast]
theorem lapStep_i (h : f ≠ t) (hi : Pl.place free f = (ia : Int)) (hj : ¬ 0 ≤ Pl.place free t) : Pl.lapStep free A (f, t, q) = Pl.addAt A ia ia q := by
  unfold Pl.lapStep
  rw [if_neg h]
  simp only [hi]
  rw [if_neg (show ¬ (0 ≤ (ia : Int) ∧ 0 ≤ Pl.place free t) from fun h9 => hj h9.2), if_neg hj, if_pos (show (0 : Int) ≤ (ia : Int) by omega)]
  simp only [Int.toNat_natCast]
theorem lapStep_j (h : f ≠ t) (hi : ¬ 0 ≤ Pl.place free f) (hj : Pl.place free t = (ja : Int)) : Pl.lapStep free A (f, t, q) = Pl.addAt A ja ja q := by
  unfold Pl.lapStep
  rw [if_neg h]
  simp only [hj]
  rw [if_neg (show ¬ (0 ≤ Pl.place free f ∧ 0 ≤ (ja : Int)) from fun h9 => hi h9.1), if_pos (show (0 : Int) ≤ (ja : Int) by omega), if_neg hi]
  simp only [Int.toNat_natCast]
theorem lapStep_no (h : f ≠ t) (hi : ¬ 0 ≤ Pl.place free f) (hj : ¬ 0 ≤ Pl.place free t) : Pl.lapStep free A (f, t, q) = A := by
  unfold Pl.lapStep
  rw [if_neg h]
  simp only [if_neg hi, if_neg hj, if_neg (show ¬ (0 ≤ Pl.place free f ∧ 0 ≤ Pl.place free t) from fun h9 => hi h9.1)]
end
theorem addAt_off {n : Nat} {M : Pl.Mat} (h : Pl.Wide n M) {i j i' j' : Nat} {q : Rat} (hi : i < M.length) (hj : j < n) (hne : ¬ (i' = i ∧ j' = j)) : Pl.en (Pl.addAt M i j q) i' j' = Pl.en M i' j' := by
  rw [Pl.addAt_en h hi hj, if_neg hne, Rat.add_zero]
theorem Reads.offV {w w' : World} {B size n r : Nat} {A : Option Addr} {xs : List Value} {t : TypeId} {cs : Array Value} (h : Reads w B size A n xs) (hs : 0 < size) (hb : Blk w r t cs) (hx : ∀ u, xs[0]? = some u → ∀ i : Nat, cs[i]? ≠ some u) (hw : ∀ a : Addr, a.block < B → a.block ≠ r → w'.cell? a = w.cell? a) : Reads w' B size A n xs := by
  refine ⟨h.1, fun hn => ?_⟩
  obtain ⟨b, o, rfl, hbB, hcl⟩ := h.where_ hn hs
  obtain ⟨ad, e, _, hc2⟩ := h.2 hn
  injection e with e
  subst e
  refine ⟨⟨b, o, none⟩, rfl, hbB, fun j v hv => ?_⟩
  have hl : 0 < xs.length := by rw [h.1]; exact Nat.mul_pos hn hs
  have h0 := hcl 0 _ (List.getElem?_eq_getElem hl)
  have hne : b ≠ r := by
    rintro rfl
    have := hb.cell o
    rw [Nat.add_zero] at h0
    rw [h0] at this
    exact hx _ (List.getElem?_eq_getElem hl) _ this.symm
  have h9 := hc2 j v hv
  have eb : ((⟨b, o, none⟩ : Addr).add j).block = b := block_of_add _ _
  rw [hw _ (by rw [eb]; exact hbB) (by rw [eb]; exact hne)]
  exact h9
theorem MdA.slices (X : MdA) {vI : Value} (hI : ∃ A n c, vI = .slice A n c) {i : Nat} {u : Value} (h : (X.cells vI)[i]? = some u) : ∃ A n c, u = .slice A n c := by
  obtain ⟨A, n, c, rfl⟩ := hI
  have hm := Array.mem_of_getElem? h
  unfold MdA.cells at hm
  simp at hm
  rcases hm with rfl | rfl | rfl | rfl | rfl | rfl | rfl | rfl <;> exact ⟨_, _, _, rfl⟩
theorem MdA.no32 (X : MdA) {vI : Value} (hI : ∃ A n c, vI = .slice A n c) : noU32 (X.cells vI) := fun i k h => by
  obtain ⟨A, n, c, e⟩ := X.slices hI h
  cases e
section
variable {w : World} {p : Nat} {X : MdA} {vI u : Value}
theorem cell_off9 (w : World) (p i : Nat) (u : Value) : ∀ a : Addr, a.block < w.heap.size → a.block ≠ p → (w.setCell ⟨p, i, none⟩ u).cell? a = w.cell? a := fun a _ h => off_set w p i u a h
theorem ints_off9 {n : Nat} {A : Option Addr} {l : List Int} (h : Reads w w.heap.size 1 A n (ints l)) (hb : Blk w p 177 (X.cells vI)) (hI : ∃ A n c, vI = .slice A n c) (i : Nat) : Reads (w.setCell ⟨p, i, none⟩ u) (w.setCell ⟨p, i, none⟩ u).heap.size 1 A n (ints l) := by
  have e : (w.setCell ⟨p, i, none⟩ u).heap.size = w.heap.size := by simp
  rw [e]
  refine h.offV (by decide) hb (fun v hv j hj => ?_) (cell_off9 w p i u)
  obtain ⟨z, _, rfl⟩ := ints_at hv
  obtain ⟨_, _, _, e⟩ := X.slices hI hj
  cases e
theorem rats_off9 {n : Nat} {A : Option Addr} {L : List (Rat × Rt)} (h : RatsIs w w.heap.size A n L) (hb : Blk w p 177 (X.cells vI)) (hI : ∃ A n c, vI = .slice A n c) (i : Nat) : RatsIs (w.setCell ⟨p, i, none⟩ u) (w.setCell ⟨p, i, none⟩ u).heap.size A n L := by
  refine ⟨?_, fun x hx => (h.each x hx).set_ hb (X.no32 hI) i u⟩
  have e : (w.setCell ⟨p, i, none⟩ u).heap.size = w.heap.size := by simp
  rw [e]
  refine h.row.offV (by decide) hb (fun v hv j hj => ?_) (cell_off9 w p i u)
  rcases L with _ | ⟨x, L⟩
  · cases hv
  · have e2 : v = .bool x.2.N.b := by
      have : (rts (x :: L))[0]? = some (.bool x.2.N.b) := rfl
      rw [this] at hv
      exact (Option.some.inj hv).symm
    subst e2
    obtain ⟨_, _, _, e⟩ := X.slices hI hj
    cases e
theorem ModAt.put7 (h : ModAt w p X vI) (hI : ∃ A n c, vI = .slice A n c) (u : Value) : ModAt (w.setCell ⟨p, 7, none⟩ u) p X u :=
  ⟨h.blk.set_ 7 u, ints_off9 h.bus h.blk hI 7, ints_off9 h.isl h.blk hI 7, ints_off9 h.f h.blk hI 7, ints_off9 h.t h.blk hI 7, rats_off9 h.b h.blk hI 7, rats_off9 h.c h.blk hI 7, ints_off9 h.r h.blk hI 7⟩
theorem MatIn.off9 {gv m n : Nat} {U : List (Option Addr × Nat × List (Rat × Rt))} (h : MatIn w w.heap.size (some ⟨gv, 0, none⟩) m n U) (hb : Blk w p 177 (X.cells vI)) (hI : ∃ A n c, vI = .slice A n c) (hne : gv ≠ p) (i : Nat) : MatIn (w.setCell ⟨p, i, none⟩ u) (w.setCell ⟨p, i, none⟩ u).heap.size (some ⟨gv, 0, none⟩) m n U := by
  refine ⟨⟨h.row.1, fun hm => ?_⟩, fun s hs => rats_off9 (h.each s hs) hb hI i⟩
  obtain ⟨ad, e, hlt, hc⟩ := h.row.2 hm
  refine ⟨ad, e, by simpa using hlt, fun j v hv => ?_⟩
  have h1 := hc j v hv
  injection e with e
  subst e
  have eb : ((⟨gv, 0, none⟩ : Addr).add j).block = gv := block_of_add _ _
  rw [off_set w p i u _ (by rw [eb]; exact hne)]
  exact h1
end
theorem okGet {D K : Nat} {l : List Rat} (h : ∀ q ∈ l, Pl.Ok D K q) (k : Nat) : Pl.Ok D K (l.getD k 0) := by
  rw [List.getD_eq_getElem?_getD]
  by_cases hk : k < l.length
  · rw [List.getElem?_eq_getElem hk]; exact h _ (List.getElem_mem hk)
  · rw [List.getElem?_eq_none (by omega)]; exact Pl.Ok.zero _ _
def InvtSaid (p : Nat) (X : MdA) (w : World) (w' : World) : Prop :=
  ∃ (g : Nat) (U : List (Option Addr × Nat × List (Rat × Rt))), ModAt w' p X (.slice (some ⟨g, 0, none⟩) X.nf X.nf) ∧ MatIn w' w'.heap.size (some ⟨g, 0, none⟩) X.nf X.nf U ∧ svals U = Pl.invM (Pl.lapM X.R (esTo X X.nb)) ∧ w.grownBy w' (some p)
set_option maxHeartbeats 12800000 in
theorem invert_any (p : Nat) (X : MdA) (w : World) (D K b S : Nat) (hX : ModAt w p X (.slice none 0 0)) (hn : X.nf ≤ 24) (hb : X.nb ≤ 24)
    (hD : D ≠ 0) (hDb : D ≤ 2 ^ b) (hq : ∀ q ∈ X.LB.map (·.1), Pl.Ok D K q) (hK : (X.nb + 1) * (4 * K) ≤ 2 ^ b) (hbS : b / 32 + 1 ≤ S) (hS : (2 ^ X.nf * (b + 1) - 1) / 32 + 1 ≤ S) (hS2 : S ≤ 274877906944)
    (hfr : Pl.Free X.nf (Pl.lapM X.R (esTo X X.nb))) :
    Calls Tryz.prog 104 #[.pointer (some ⟨p, 0, none⟩)] w fun e w' => e = .returned (.tuple #[]) ∧ InvtSaid p X w w' := by
  have HX := Lib.hid hX
  have HRL : Hid (X.R.length = X.nf) := hX.r.int_len
  have HOQ := Lib.hid hq
  have HFR := Lib.hid hfr
  have hK9 : 4 * K ≤ 2 ^ b := by
    have : 1 * (4 * K) ≤ (X.nb + 1) * (4 * K) := Nat.mul_le_mul_right _ (by omega)
    omega
  have HSZ : Hid (∀ k, k ≤ X.nb → Pl.OkM D (k * (4 * K)) (Pl.lapM X.R (esTo X k)) ∧ k * (4 * K) + 4 * K ≤ 2 ^ b) := fun k hk => by
    refine ⟨?_, ?_⟩
    · have h1 := Pl.OkM.lap (D := D) (K := K) X.R (esTo X k) (fun e he => by
        unfold esTo at he
        obtain ⟨i, _, rfl⟩ := List.mem_map.1 he
        exact okGet hq i)
      rwa [esTo_len] at h1
    · have h1 : (k + 1) * (4 * K) ≤ (X.nb + 1) * (4 * K) := Nat.mul_le_mul_right _ (by omega)
      rw [Nat.add_mul, Nat.one_mul] at h1
      omega
  clear hq hfr
  have cp := hX.blk.cell
  have lp := hX.blk.lt
  unfold MdA.cells at cp
  have hmk := make_mat X.nf (by omega)
  have R0 := Lib.hid (MB.new_ w X.nf X.nf w.heap.size)
  have D0 := Lib.hid (below_oneS w (.cells (Array.replicate X.nf (Value.slice none 0 0)) 94))
  go_enter Tryz.func104, Tryz.ntmps104
  go_wp2_with fail
  obtain ⟨g, hg⟩ : ∃ g : Nat, g = w.heap.size := ⟨_, rfl⟩
  have HG : w.heap.size ≤ g := by omega
  rw [← hg] at R0 ⊢
  clear hmk hg cp lp
  generalize w.alloc (.cells (Array.replicate X.nf (Value.slice none 0 0)) 94) = w1 at *
  go_loopw [18] (fun i wr => ∃ (k : Nat) (R : List MRow), k ≤ X.nf ∧ i = .int .i64 k ∧ R.length = k ∧ Hid (vals R = (Pl.zeroM X.nf).take k) ∧ Hid (MB wr g X.nf g R (X.nf - k)) ∧ Hid (Below w.heap.size w wr)) (fun i _ => X.nf - (intOf i).toNat)
  case atStart => exact ⟨0, [], Nat.zero_le _, rfl, rfl, by show _ = _; simp [vals], by rw [Nat.sub_zero]; exact R0, D0⟩
  case round =>
    clear R0 D0
    obtain ⟨k, R, hk, rfl, hl, HV, HMB, D1⟩ := hrel
    by_cases hlt : k < X.nf
    · have HT : Hid ((Pl.zeroM X.nf).take (k + 1) = (Pl.zeroM X.nf).take k ++ [List.replicate X.nf 0]) := by
        show _ = _
        rw [List.take_succ_eq_append_getElem (by unfold Pl.zeroM; rw [List.length_replicate]; exact hlt)]
        unfold Pl.zeroM
        rw [List.getElem_replicate]
      have hk4 : (k : Int) < (X.nf : Int) := by omega
      go_wp2_with fail
      refine (zeros_any X.nf (by omega) wr).mono ?_
      rintro e w3 ⟨gz, xz, rfl, hgz, hrl, hb5⟩
      have HMB2 := Lib.hid (HMB.out.go hb5)
      have D2 := Lib.hid (D1.out.trans (hb5.mono D1.out.size))
      have HRW := Lib.hid hrl.rowW
      have HE : Hid (∀ x ∈ List.replicate X.nf ((0 : Rat), xz), RatIs w3 w3.heap.size x.1 x.2) := hrl.each
      have HN2 : Hid (∀ r ∈ R, r.g ≠ gz) := fun r hr e => by have := HMB.out.old r hr; omega
      have HGG : g ≤ gz := by have := HMB.out.lt; omega
      have HLL : Hid ((List.replicate X.nf ((0 : Rat), xz)).length = X.nf) := by show _ = _; rw [List.length_replicate]
      clear hb5 hrl hgz
      rw [show X.nf - k = X.nf - (k + 1) + 1 by omega] at HMB2
      have cx := HMB2.out.cell
      have fx := HMB2.out.frozen
      have lx := HMB2.out.lt
      rw [hl] at cx
      go_wp2_with fail
      go_roundw
      case rel =>
        refine ⟨k + 1, R ++ [⟨gz, X.nf, List.replicate X.nf ((0 : Rat), xz)⟩], by omega, by go_num, by simp [hl], ?_, ?_, Lib.hid (D2.out.setCell (by omega) _)⟩
        · show _ = _
          rw [HT.out, vals_snoc, HV.out, List.map_replicate]
        · show MB _ _ _ _ _ _
          have := HMB2.out.add (c' := X.nf) HRW.out HLL.out HE.out HN2.out HGG (Nat.le_refl _)
          rw [hl] at this
          exact this
      case measure => simp [intOf]; omega
    · obtain rfl : X.nf = k := by omega
      have HV9 : Hid (vals R = Pl.lapM X.R (esTo X 0)) := by
        show _ = _
        rw [HV.out, List.take_of_length_le (by unfold Pl.zeroM; rw [List.length_replicate]; exact Nat.le_refl _), ← HRL.out]
        rfl
      rw [Nat.sub_self] at HMB
      have HI0 : Hid (RedB X.nf X.nf w wr g R [] (.slice none 0 0)) := ⟨HMB.out.done, fun r hr => Nat.le_trans HG (HMB.out.own r hr), HG, hl, OQ.none_ _ _ _ _, D1.out⟩
      have cp := (HX.out.go D1.out).blk.cell
      have lp := (HX.out.go D1.out).blk.lt
      unfold MdA.cells at cp
      clear HV HMB hl
      go_wp2_with fail
      clear cp lp
      go_loopw [32] (fun i wr => ∃ (k : Nat) (R : List MRow), k ≤ X.nb ∧ i = .int .i64 k ∧ Hid (vals R = Pl.lapM X.R (esTo X k)) ∧ Hid (RedB X.nf X.nf w wr g R [] (.slice none 0 0))) (fun i _ => X.nb - (intOf i).toNat)
      case atStart => exact ⟨0, R, Nat.zero_le _, rfl, HV9, HI0⟩
      case round =>
        clear HV9 HI0 D1
        obtain ⟨k, R, hk, rfl, HV, HIJ⟩ := hrel
        have HXw := Lib.hid (HX.out.go HIJ.out.below)
        by_cases hlt : k < X.nb
        · obtain ⟨bq0, oq0, xq, eAb, hlq, hnq, hcq⟩ := rats_cells HXw.out.b hlt
          obtain ⟨q, hq9⟩ : ∃ q, q = (X.LB.map (·.1)).getD k 0 := ⟨_, rfl⟩
          rw [← hq9] at hnq
          have HSQ : Pl.rsz q ≤ S := by
            rw [hq9]
            exact Nat.le_trans (((okGet HOQ.out k).mono (by omega)).ov hK9 |>.size hD hDb) hbS
          have HQK : Hid (Pl.Ok D K q) := by show Pl.Ok _ _ _; rw [hq9]; exact okGet HOQ.out k
          have HEN : Hid (esTo X (k + 1) = esTo X k ++ [(X.F.getD k 0, X.T.getD k 0, q)]) := by show _ = _; rw [esTo_next, hq9]
          clear hq9
          obtain ⟨c0, c1, c2, c3⟩ := hcq wr (Below.refl _ _)
          have HXQ := Lib.hid hnq
          have hk9 : (k : Int) < (X.nb : Int) := by omega
          rw [eAb]
          go_wp2_with fail
          have hb5 := below_oneS wr (.cells #[.bool xq.N.b, .slice xq.N.A xq.N.n xq.N.c, .bool xq.D.b, .slice xq.D.A xq.D.n xq.D.c] 105)
          obtain ⟨bq, hbq⟩ : ∃ b, b = wr.heap.size := ⟨_, rfl⟩
          have BQ : Hid (BoxR (wr.alloc (.cells #[.bool xq.N.b, .slice xq.N.A xq.N.n xq.N.c, .bool xq.D.b, .slice xq.D.A xq.D.n xq.D.c] 105)) bq q xq) := ⟨Blk.new_ wr bq _ _ hbq, HXQ.out.go hb5⟩
          have HNQ : Hid (∀ x ∈ R, x.g ≠ bq) := fun x hx => by have := (HIJ.out.mx.row x hx).lt; omega
          rw [← hbq]
          replace HIJ := Lib.hid (HIJ.out.go hb5)
          replace HXw := Lib.hid (HXw.out.go hb5)
          obtain ⟨bf, o7, eAf, _, _⟩ := ints_getD HXw.out.f hlt
          obtain ⟨bt, ot, eAt, _, _⟩ := ints_getD HXw.out.t hlt
          have EAf := Lib.hid eAf
          have EAt := Lib.hid eAt
          obtain ⟨fr, EFR⟩ : ∃ x, Hid (X.F.getD k 0 = x) := ⟨_, Lib.hid rfl⟩
          obtain ⟨tu, ETO⟩ : ∃ x, Hid (X.T.getD k 0 = x) := ⟨_, Lib.hid rfl⟩
          obtain ⟨pi, HPI⟩ : ∃ x, Hid (Pl.place X.R fr = x) := ⟨_, Lib.hid rfl⟩
          obtain ⟨pj, HPJ⟩ : ∃ x, Hid (Pl.place X.R tu = x) := ⟨_, Lib.hid rfl⟩
          rw [EFR.out, ETO.out] at HEN
          have HIL : Hid (0 ≤ pi → pi.toNat < X.nf) := fun h9 => by rw [← HPI.out, ← HRL.out]; exact Pl.place_lt _ _ (by rw [HPI.out]; exact h9)
          have HJL : Hid (0 ≤ pj → pj.toNat < X.nf) := fun h9 => by rw [← HPJ.out, ← HRL.out]; exact Pl.place_lt _ _ (by rw [HPJ.out]; exact h9)
          have HNE : Hid (fr ≠ tu → 0 ≤ pi → pi ≠ pj) := fun h8 h9 e => h8 (place_inj (R := X.R) (by rw [HPI.out]; exact h9) (by rw [HPI.out, HPJ.out]; exact e))
          obtain ⟨hoA, hoK⟩ := HSZ.out k hk
          have HOA := Lib.hid hoA
          obtain ⟨A, hA⟩ : ∃ A, A = Pl.lapM X.R (esTo X k) := ⟨_, rfl⟩
          rw [← hA] at HV HOA
          have HLS : Hid (Pl.lapM X.R (esTo X (k + 1)) = Pl.lapStep X.R A (fr, tu, q)) := by show _ = _; rw [HEN.out, Pl.lapM_snoc, hA]
          have HQO : Hid (Pl.Ok D K q) := HQK.out
          clear hb5 hbq HXQ hnq hcq c0 c1 c2 c3 eAf eAt HEN hA hoA HQK eAb
          generalize wr.alloc (.cells #[.bool xq.N.b, .slice xq.N.A xq.N.n xq.N.c, .bool xq.D.b, .slice xq.D.A xq.D.n xq.D.c] 105) = wa at *
          have hb5 := (Below.refl wa.heap.size wa).drew
          replace HIJ := Lib.hid (HIJ.out.go hb5)
          replace BQ := Lib.hid (BQ.out.go hb5)
          replace HXw := Lib.hid (HXw.out.go hb5)
          clear hb5
          have HB0 := Lib.hid (Below.refl wa.drew.heap.size wa.drew)
          generalize hw9 : wa.drew = w10 at *
          have hSw : (fun w' : World => Below w10.heap.size w10 w') w10 := HB0.out
          refine wp_region_mid (fun w' : World => Below w10.heap.size w10 w') 20 (by kernel_rfl) ?_
          rw [hw9]
          clear hw9
          refine Tk.go [(0, [8, 17, 18, 19]), (1, [2, 3, 4, 6, 7, 8, 17, 18, 19]), (2, [3, 4, 6, 7, 8, 17, 18, 19]), (3, [4, 6, 7, 8, 17, 18, 19]), (4, [6, 7, 8, 17, 18, 19]), (5, [6, 7, 8, 17, 18, 19]), (6, [7, 8, 17, 18, 19]), (7, [8, 17, 18, 19]), (9, [17, 18, 19]), (10, [11, 12, 13, 15, 16, 17, 18, 19]), (11, [12, 13, 15, 16, 17, 18, 19]), (12, [13, 15, 16, 17, 18, 19]), (13, [15, 16, 17, 18, 19]), (14, [15, 16, 17, 18, 19]), (15, [16, 17, 18, 19]), (16, [17, 18, 19])] ?_
          iterate 16 (refine Tk.cons rfl (by kernel_rfl) (fun _ _ _ h => h) hSw (by kernel_rfl) (fun w' hSx => by have cp := ((HXw.out.go hSx).blk).cell; unfold MdA.cells at cp; rw [EAf.out, EAt.out] at cp; have hf := (HXw.out.go hSx).f; rw [EAf.out] at hf; have cf := ints_cell hf hlt; rw [EFR.out] at cf; clear hf; have ht := (HXw.out.go hSx).t; rw [EAt.out] at ht; have ct := ints_cell ht hlt; rw [ETO.out] at ct; clear ht; go_simp; first | done | with_reducible rfl) ?_; simp only [Act.put, List.setIfInBounds_toArray])
          refine Tk.nil ?_
          refine wpAnyM_ready [8] (by kernel_rfl) (by simp) ?_
          refine AllReadyM.cons (by rfl) (fun K hK => ?_) AllReadyM.nil
          go_simp
          refine (place_b p X (.slice none 0 0) fr w10 (by omega) (HXw.out.go HB0.out)).mono ?_
          rintro e wq1 ⟨rfl, hb5⟩
          replace HB0 := Lib.hid (Below.trans HB0.out (hb5.mono HB0.out.size))
          rw [HPI.out]
          clear hb5
          clear hSw
          have hSw : (fun w' : World => Below w10.heap.size w10 w') wq1 := HB0.out
          refine hK.out _ _ hSw ?_
          clear hK K
          refine wpAnyM_ready [17] (by kernel_rfl) (by simp) ?_
          refine AllReadyM.cons (by rfl) (fun K hK => ?_) AllReadyM.nil
          go_simp
          refine (place_b p X (.slice none 0 0) tu wq1 (by omega) (HXw.out.go HB0.out)).mono ?_
          rintro e wq2 ⟨rfl, hb5⟩
          replace HB0 := Lib.hid (Below.trans HB0.out (hb5.mono HB0.out.size))
          rw [HPJ.out]
          clear hb5
          clear hSw
          have hSw : (fun w' : World => Below w10.heap.size w10 w') wq2 := HB0.out
          refine hK.out _ _ hSw ?_
          clear hK K
          refine Tk.go [(18, [19]), (19, [])] ?_
          iterate 2 (refine Tk.cons rfl (by kernel_rfl) (fun _ _ _ h => h) hSw (by kernel_rfl) (fun w' hSx => by have cp := ((HXw.out.go hSx).blk).cell; unfold MdA.cells at cp; rw [EAf.out, EAt.out] at cp; have hf := (HXw.out.go hSx).f; rw [EAf.out] at hf; have cf := ints_cell hf hlt; rw [EFR.out] at cf; clear hf; have ht := (HXw.out.go hSx).t; rw [EAt.out] at ht; have ct := ints_cell ht hlt; rw [ETO.out] at ct; clear ht; go_simp; first | done | with_reducible rfl) ?_; simp only [Act.put])
          refine Tk.nil ?_
          refine wpAnyM_done (by kernel_rfl) ?_ _
          simp only [List.getElem_toArray, List.getElem_cons_succ, List.getElem_cons_zero, List.setIfInBounds_toArray, List.set_cons_zero, List.set_cons_succ]
          replace HIJ := Lib.hid (HIJ.out.go HB0.out)
          replace BQ := Lib.hid (BQ.out.go HB0.out)
          replace HXw := Lib.hid (HXw.out.go HB0.out)
          clear HB0 hSw
          go_upto_region 11 with fail
          have hb5 := (Below.refl wq2.heap.size wq2).drew
          replace HIJ := Lib.hid (HIJ.out.go hb5)
          replace BQ := Lib.hid (BQ.out.go hb5)
          replace HXw := Lib.hid (HXw.out.go hb5)
          clear hb5
          have HB0 := Lib.hid (Below.refl wq2.drew.heap.size wq2.drew)
          generalize hw9 : wq2.drew = w11 at *
          have hSw : (fun w' : World => Below w11.heap.size w11 w') w11 := HB0.out
          refine wp_region_mid (fun w' : World => Below w11.heap.size w11 w') 15 (by kernel_rfl) ?_
          rw [hw9]
          clear hw9
          refine Tk.go [(0, [1, 2, 3, 5, 6, 14]), (1, [2, 3, 5, 6, 14]), (2, [3, 5, 6, 14]), (3, [5, 6, 14]), (4, [5, 6, 14]), (5, [6, 14]), (6, [14]), (7, [8, 9, 10, 12, 13, 14]), (8, [9, 10, 12, 13, 14]), (9, [10, 12, 13, 14]), (10, [12, 13, 14]), (11, [12, 13, 14]), (12, [13, 14]), (13, [14]), (14, [])] ?_
          iterate 15 (refine Tk.cons rfl (by kernel_rfl) (fun _ _ _ h => h) hSw (by kernel_rfl) (fun w' hSx => by have cp := ((HXw.out.go hSx).blk).cell; unfold MdA.cells at cp; rw [EAf.out, EAt.out] at cp; have hf := (HXw.out.go hSx).f; rw [EAf.out] at hf; have cf := ints_cell hf hlt; rw [EFR.out] at cf; clear hf; have ht := (HXw.out.go hSx).t; rw [EAt.out] at ht; have ct := ints_cell ht hlt; rw [ETO.out] at ct; clear ht; go_simp; first | done | with_reducible rfl) ?_; simp only [Act.put, List.setIfInBounds_toArray])
          refine Tk.nil ?_
          refine wpAnyM_done (by kernel_rfl) ?_ _
          simp only [List.getElem_toArray, List.getElem_cons_succ, List.getElem_cons_zero, List.setIfInBounds_toArray, List.set_cons_zero, List.set_cons_succ]
          replace HIJ := Lib.hid (HIJ.out.go HB0.out)
          replace BQ := Lib.hid (BQ.out.go HB0.out)
          replace HXw := Lib.hid (HXw.out.go HB0.out)
          clear HB0 hSw
          generalize w11 = wA at *
          by_cases hft : fr = tu
          · have e1 : (fr == tu) = true := by simpa using hft
            have HFT := Lib.hid hft
            clear hft
            go_wp2_with fail
            go_roundw
            case rel => exact ⟨k + 1, R, hlt, by go_num, by show _ = _; rw [HLS.out, lapStep_same HFT.out]; exact HV.out, HIJ⟩
            case measure => simp [intOf]; omega
          · have e1 : (fr == tu) = false := by simpa using hft
            have HFT : Hid (fr ≠ tu) := Lib.hid hft
            clear hft
            have HV0 := HV
            have HOA0 := HOA
            obtain ⟨R0, hR0⟩ : ∃ R', R' = R := ⟨_, rfl⟩
            obtain ⟨A0, hA0⟩ : ∃ A', A' = A := ⟨_, rfl⟩
            rw [← hR0] at HV0 HIJ HNQ
            rw [← hA0] at HV0 HOA0 HLS
            clear HV HOA hR0 hA0 R A HXw
            by_cases hpi : 0 ≤ pi
            · obtain ⟨ia, rfl⟩ : ∃ n : Nat, pi = (n : Int) := ⟨pi.toNat, by omega⟩
              have hia : ia < X.nf := by have := HIL.out hpi; omega
              go_wp2_with fail
              have hie : ia < R0.length := by rw [HIJ.out.len]; exact hia
              have hje : ia < R0[ia].L.length := by rw [HIJ.out.mx.rlen hie]; exact hia
              obtain ⟨ye, hye⟩ : ∃ y, y = Pl.en A0 ia ia := ⟨_, rfl⟩
              have hene := vals_en hie hje
              rw [HV0.out, ← hye] at hene
              obtain ⟨xe, EJe⟩ : ∃ x, Hid (R0[ia].L[ia] = (ye, x)) := ⟨R0[ia].L[ia].2, by show _ = _; rw [hene]⟩
              obtain ⟨ge, EGe⟩ : ∃ x, Hid (R0[ia].g = x) := ⟨_, Lib.hid rfl⟩
              obtain ⟨ce, ECe⟩ : ∃ x, Hid (R0[ia].c = x) := ⟨_, Lib.hid rfl⟩
              have HSEe : Pl.rsz ye ≤ S := by rw [hye]; exact okM_rsz hD hDb (by omega) hbS HOA0.out ia ia
              have HYEe := Lib.hid hye
              have HYe : Hid (RatIs wA wA.heap.size ye xe) := by
                show RatIs _ _ _ _
                have h9 := HIJ.out.mx.num hie hje
                rw [EJe.out] at h9
                exact h9
              clear hye hene
              go_upto_region 13 with fail
              have hb5 := (Below.refl wA.heap.size wA).drew
              replace HIJ := Lib.hid (HIJ.out.go hb5)
              replace BQ := Lib.hid (BQ.out.go hb5)
              replace HYe := Lib.hid (HYe.out.go hb5)
              clear hb5
              have HB0 := Lib.hid (Below.refl wA.drew.heap.size wA.drew)
              generalize hw9 : wA.drew = wr13ia0 at *
              have hSw : (fun w' : World => Below wr13ia0.heap.size wr13ia0 w') wr13ia0 := HB0.out
              refine wp_region_mid (fun w' : World => Below wr13ia0.heap.size wr13ia0 w') 15 (by kernel_rfl) ?_
              rw [hw9]
              clear hw9
              refine Tk.go [(0, [2, 3, 14, 15]), (1, [2, 3, 14, 15]), (2, [3, 14, 15]), (3, [14, 15]), (4, [14, 15]), (5, [7, 8, 10, 11, 13, 14, 15]), (6, [7, 8, 10, 11, 13, 14, 15]), (7, [8, 10, 11, 13, 14, 15]), (8, [10, 11, 13, 14, 15]), (9, [10, 11, 13, 14, 15]), (10, [11, 13, 14, 15]), (11, [13, 14, 15]), (12, [13, 14, 15])] ?_
              iterate 13 (refine Tk.cons rfl (by kernel_rfl) (fun _ _ _ h => h) hSw (by kernel_rfl) (fun w' hSx => by have c0 := (HIJ.out.mx.go hSx).outer hie; rw [EGe.out, ECe.out] at c0; have hc := (HIJ.out.mx.go hSx).inner hie hje; rw [EGe.out, EJe.out] at hc; have c1 := hc.1; have c2 := hc.2.1; have c3 := hc.2.2.1; have c4 := hc.2.2.2; clear hc; have c9 := ((BQ.out.go hSx).blk).cell; go_simp; first | done | with_reducible rfl) ?_; simp only [Act.put, List.setIfInBounds_toArray])
              refine Tk.nil ?_
              refine wpAnyM_ready [13] (by kernel_rfl) (by simp) ?_
              refine AllReadyM.cons (by rfl) (fun K hK => ?_) AllReadyM.nil
              go_simp
              refine (radd_any (HYe.out.go HB0.out) (BQ.out.go HB0.out).num (by omega) (by omega)).mono ?_
              rintro e wq1 ⟨ze, rfl, hz9, hb5⟩
              clear HYe
              replace HB0 := Lib.hid (Below.trans HB0.out (hb5.mono HB0.out.size))
              have HZe := Lib.hid hz9
              clear hz9
              clear hb5
              clear hSw
              have hSw : (fun w' : World => Below wr13ia0.heap.size wr13ia0 w') wq1 := HB0.out
              refine hK.out _ _ hSw ?_
              clear hK K
              refine wpAnyM_takeB 14 [15] rfl (by kernel_rfl) (by kernel_rfl) (by kernel_rfl) (by kernel_rfl) (by kernel_rfl) (fun _ _ _ h => h) hSw (by kernel_rfl) (fun w' hSx => by have c0 := (HIJ.out.mx.go hSx).outer hie; rw [EGe.out, ECe.out] at c0; have hc := (HIJ.out.mx.go hSx).inner hie hje; rw [EGe.out, EJe.out] at hc; have c1 := hc.1; have c2 := hc.2.1; have c3 := hc.2.2.1; have c4 := hc.2.2.2; clear hc; have c9 := ((BQ.out.go hSx).blk).cell; go_simp; first | done | with_reducible rfl) ?_
              simp only [Act.put]
              refine wpAnyM_ready [15] (by kernel_rfl) (by simp) ?_
              refine AllReadyM.last (by rfl) (by decide) (fun K hK => ?_)
              replace HIJ := Lib.hid (HIJ.out.go HB0.out)
              replace BQ := Lib.hid (BQ.out.go HB0.out)
              have hc := HIJ.out.mx.inner hie hje
              rw [EGe.out, EJe.out] at hc
              have c1 := hc.1
              have c2 := hc.2.1
              have c3 := hc.2.2.1
              have c4 := hc.2.2.2
              clear hc
              have cf9 := HIJ.out.mx.rfrozen hie
              rw [EGe.out] at cf9
              have cl9 := HIJ.out.mx.rlt hie
              rw [EGe.out] at cl9
              go_simp
              clear c1 c2 c3 c4 cf9 cl9
              have HP1 := HIJ.out.put hie hje HZe.out
              rw [EGe.out] at HP1
              have hc9 := (HIJ.out.mx.row _ (List.getElem_mem hie)).chg (j := ia) ze
              rw [EGe.out] at hc9
              have HB1 := BQ.out.rput (q2 := ye) (y := ze) (HIJ.out.mx.row _ (List.getElem_mem hie)) hje (fun e => HNQ.out _ (List.getElem_mem hie) e.symm)
              rw [EGe.out] at HB1
              clear hc9
              unfold rput at HP1 HB1 
              clear HIJ BQ HZe 
              generalize ((((wq1.setCell ⟨ge, ia * 4, none⟩ (.bool ze.N.b)).setCell ⟨ge, ia * 4 + 1, none⟩ (.slice ze.N.A ze.N.n ze.N.c)).setCell ⟨ge, ia * 4 + 2, none⟩ (.bool ze.D.b)).setCell ⟨ge, ia * 4 + 3, none⟩ (.slice ze.D.A ze.D.n ze.D.c)) = wq2 at *
              have HIJ := Lib.hid HP1
              have BQ := Lib.hid HB1
              clear HP1 HB1 
              replace HB0 := Lib.hid (Below.refl wq2.heap.size wq2)
              refine hK.out _ _ ?_
              clear hK K
              refine wpAnyM_done (by kernel_rfl) ?_ _
              clear HB0 hSw
              obtain ⟨R1, hR1⟩ : ∃ R', R' = R0.set ia (R0[ia].put ia (ye + q) ze) := ⟨_, rfl⟩
              have HV1 : Hid (vals R1 = Pl.addAt A0 ia ia q) := by show _ = _; rw [hR1]; exact vals_addAt HV0.out hie (by rw [HYEe.out]) ze
              have HNQ1 : Hid (∀ x ∈ R1, x.g ≠ bq) := by show ∀ x ∈ R1, x.g ≠ bq; rw [hR1]; exact put_g hie HNQ.out
              rw [← hR1] at HIJ
              have HOA1 := Lib.hid (HOA0.out.addAt HQO.out ia ia)
              obtain ⟨A1, hA1⟩ : ∃ A', A' = Pl.addAt A0 ia ia q := ⟨_, rfl⟩
              rw [← hA1] at HV1 HOA1
              have HAE1 := Lib.hid hA1
              clear HNQ hie hje EJe EGe ECe HYEe HSEe HV0 HOA0 hR1 hA1
              have HNQ := HNQ1
              clear HNQ1
              by_cases hpj : 0 ≤ pj
              · obtain ⟨ja, rfl⟩ : ∃ n : Nat, pj = (n : Int) := ⟨pj.toNat, by omega⟩
                have hja : ja < X.nf := by have := HJL.out hpj; omega
                go_wp2_with fail
                have hie : ja < R1.length := by rw [HIJ.out.len]; exact hja
                have hje : ja < R1[ja].L.length := by rw [HIJ.out.mx.rlen hie]; exact hja
                obtain ⟨ye, hye⟩ : ∃ y, y = Pl.en A1 ja ja := ⟨_, rfl⟩
                have hene := vals_en hie hje
                rw [HV1.out, ← hye] at hene
                obtain ⟨xe, EJe⟩ : ∃ x, Hid (R1[ja].L[ja] = (ye, x)) := ⟨R1[ja].L[ja].2, by show _ = _; rw [hene]⟩
                obtain ⟨ge, EGe⟩ : ∃ x, Hid (R1[ja].g = x) := ⟨_, Lib.hid rfl⟩
                obtain ⟨ce, ECe⟩ : ∃ x, Hid (R1[ja].c = x) := ⟨_, Lib.hid rfl⟩
                have HSEe : Pl.rsz ye ≤ S := by rw [hye]; exact okM_rsz hD hDb (by omega) hbS HOA1.out ja ja
                have HYEe := Lib.hid hye
                have HYe : Hid (RatIs wq2 wq2.heap.size ye xe) := by
                  show RatIs _ _ _ _
                  have h9 := HIJ.out.mx.num hie hje
                  rw [EJe.out] at h9
                  exact h9
                clear hye hene
                go_upto_region 15 with fail
                have hb5 := (Below.refl wq2.heap.size wq2).drew
                replace HIJ := Lib.hid (HIJ.out.go hb5)
                replace BQ := Lib.hid (BQ.out.go hb5)
                replace HYe := Lib.hid (HYe.out.go hb5)
                clear hb5
                have HB0 := Lib.hid (Below.refl wq2.drew.heap.size wq2.drew)
                generalize hw9 : wq2.drew = wr15ja1 at *
                have hSw : (fun w' : World => Below wr15ja1.heap.size wr15ja1 w') wr15ja1 := HB0.out
                refine wp_region_mid (fun w' : World => Below wr15ja1.heap.size wr15ja1 w') 15 (by kernel_rfl) ?_
                rw [hw9]
                clear hw9
                refine Tk.go [(0, [2, 3, 14, 15]), (1, [2, 3, 14, 15]), (2, [3, 14, 15]), (3, [14, 15]), (4, [14, 15]), (5, [7, 8, 10, 11, 13, 14, 15]), (6, [7, 8, 10, 11, 13, 14, 15]), (7, [8, 10, 11, 13, 14, 15]), (8, [10, 11, 13, 14, 15]), (9, [10, 11, 13, 14, 15]), (10, [11, 13, 14, 15]), (11, [13, 14, 15]), (12, [13, 14, 15])] ?_
                iterate 13 (refine Tk.cons rfl (by kernel_rfl) (fun _ _ _ h => h) hSw (by kernel_rfl) (fun w' hSx => by have c0 := (HIJ.out.mx.go hSx).outer hie; rw [EGe.out, ECe.out] at c0; have hc := (HIJ.out.mx.go hSx).inner hie hje; rw [EGe.out, EJe.out] at hc; have c1 := hc.1; have c2 := hc.2.1; have c3 := hc.2.2.1; have c4 := hc.2.2.2; clear hc; have c9 := ((BQ.out.go hSx).blk).cell; go_simp; first | done | with_reducible rfl) ?_; simp only [Act.put, List.setIfInBounds_toArray])
                refine Tk.nil ?_
                refine wpAnyM_ready [13] (by kernel_rfl) (by simp) ?_
                refine AllReadyM.cons (by rfl) (fun K hK => ?_) AllReadyM.nil
                go_simp
                refine (radd_any (HYe.out.go HB0.out) (BQ.out.go HB0.out).num (by omega) (by omega)).mono ?_
                rintro e wq1 ⟨ze, rfl, hz9, hb5⟩
                clear HYe
                replace HB0 := Lib.hid (Below.trans HB0.out (hb5.mono HB0.out.size))
                have HZe := Lib.hid hz9
                clear hz9
                clear hb5
                clear hSw
                have hSw : (fun w' : World => Below wr15ja1.heap.size wr15ja1 w') wq1 := HB0.out
                refine hK.out _ _ hSw ?_
                clear hK K
                refine wpAnyM_takeB 14 [15] rfl (by kernel_rfl) (by kernel_rfl) (by kernel_rfl) (by kernel_rfl) (by kernel_rfl) (fun _ _ _ h => h) hSw (by kernel_rfl) (fun w' hSx => by have c0 := (HIJ.out.mx.go hSx).outer hie; rw [EGe.out, ECe.out] at c0; have hc := (HIJ.out.mx.go hSx).inner hie hje; rw [EGe.out, EJe.out] at hc; have c1 := hc.1; have c2 := hc.2.1; have c3 := hc.2.2.1; have c4 := hc.2.2.2; clear hc; have c9 := ((BQ.out.go hSx).blk).cell; go_simp; first | done | with_reducible rfl) ?_
                simp only [Act.put]
                refine wpAnyM_ready [15] (by kernel_rfl) (by simp) ?_
                refine AllReadyM.last (by rfl) (by decide) (fun K hK => ?_)
                replace HIJ := Lib.hid (HIJ.out.go HB0.out)
                replace BQ := Lib.hid (BQ.out.go HB0.out)
                have hc := HIJ.out.mx.inner hie hje
                rw [EGe.out, EJe.out] at hc
                have c1 := hc.1
                have c2 := hc.2.1
                have c3 := hc.2.2.1
                have c4 := hc.2.2.2
                clear hc
                have cf9 := HIJ.out.mx.rfrozen hie
                rw [EGe.out] at cf9
                have cl9 := HIJ.out.mx.rlt hie
                rw [EGe.out] at cl9
                go_simp
                clear c1 c2 c3 c4 cf9 cl9
                have HP1 := HIJ.out.put hie hje HZe.out
                rw [EGe.out] at HP1
                have hc9 := (HIJ.out.mx.row _ (List.getElem_mem hie)).chg (j := ja) ze
                rw [EGe.out] at hc9
                have HB1 := BQ.out.rput (q2 := ye) (y := ze) (HIJ.out.mx.row _ (List.getElem_mem hie)) hje (fun e => HNQ.out _ (List.getElem_mem hie) e.symm)
                rw [EGe.out] at HB1
                clear hc9
                unfold rput at HP1 HB1 
                clear HIJ BQ HZe 
                generalize ((((wq1.setCell ⟨ge, ja * 4, none⟩ (.bool ze.N.b)).setCell ⟨ge, ja * 4 + 1, none⟩ (.slice ze.N.A ze.N.n ze.N.c)).setCell ⟨ge, ja * 4 + 2, none⟩ (.bool ze.D.b)).setCell ⟨ge, ja * 4 + 3, none⟩ (.slice ze.D.A ze.D.n ze.D.c)) = wq2 at *
                have HIJ := Lib.hid HP1
                have BQ := Lib.hid HB1
                clear HP1 HB1 
                replace HB0 := Lib.hid (Below.refl wq2.heap.size wq2)
                refine hK.out _ _ ?_
                clear hK K
                refine wpAnyM_done (by kernel_rfl) ?_ _
                clear HB0 hSw
                obtain ⟨R2, hR2⟩ : ∃ R', R' = R1.set ja (R1[ja].put ja (ye + q) ze) := ⟨_, rfl⟩
                have HV2 : Hid (vals R2 = Pl.addAt A1 ja ja q) := by show _ = _; rw [hR2]; exact vals_addAt HV1.out hie (by rw [HYEe.out]) ze
                have HNQ1 : Hid (∀ x ∈ R2, x.g ≠ bq) := by show ∀ x ∈ R2, x.g ≠ bq; rw [hR2]; exact put_g hie HNQ.out
                rw [← hR2] at HIJ
                have HOA2 := Lib.hid (HOA1.out.addAt HQO.out ja ja)
                obtain ⟨A2, hA2⟩ : ∃ A', A' = Pl.addAt A1 ja ja q := ⟨_, rfl⟩
                rw [← hA2] at HV2 HOA2
                have HAE2 := Lib.hid hA2
                clear HNQ hie hje EJe EGe ECe HYEe HSEe HV1 HOA1 hR2 hA2
                have HNQ := HNQ1
                clear HNQ1
                go_wp2_with fail
                have hij : ia ≠ ja := fun e => HNE.out HFT.out hpi (by rw [e])
                have hia9 : ia < R2.length := by rw [HIJ.out.len]; exact hia
                have hja9 : ja < R2[ia].L.length := by rw [HIJ.out.mx.rlen hia9]; exact hja
                obtain ⟨ya, hya⟩ : ∃ y, y = Pl.en A2 ia ja := ⟨_, rfl⟩
                have hena := vals_en hia9 hja9
                rw [HV2.out, ← hya] at hena
                obtain ⟨xa, EJa⟩ : ∃ x, Hid (R2[ia].L[ja] = (ya, x)) := ⟨R2[ia].L[ja].2, by show _ = _; rw [hena]⟩
                obtain ⟨ga, EGa⟩ : ∃ x, Hid (R2[ia].g = x) := ⟨_, Lib.hid rfl⟩
                obtain ⟨ca, ECa⟩ : ∃ x, Hid (R2[ia].c = x) := ⟨_, Lib.hid rfl⟩
                have HSEa : Pl.rsz ya ≤ S := by rw [hya]; exact okM_rsz hD hDb (by omega) hbS HOA2.out ia ja
                have HYEa := Lib.hid hya
                have HYa : Hid (RatIs wq2 wq2.heap.size ya xa) := by
                  show RatIs _ _ _ _
                  have h9 := HIJ.out.mx.num hia9 hja9
                  rw [EJa.out] at h9
                  exact h9
                clear hya hena
                have hib : ja < R2.length := by rw [HIJ.out.len]; exact hja
                have hjb : ia < R2[ja].L.length := by rw [HIJ.out.mx.rlen hib]; exact hia
                obtain ⟨yb, hyb⟩ : ∃ y, y = Pl.en A2 ja ia := ⟨_, rfl⟩
                have henb := vals_en hib hjb
                rw [HV2.out, ← hyb] at henb
                obtain ⟨xb, EJb⟩ : ∃ x, Hid (R2[ja].L[ia] = (yb, x)) := ⟨R2[ja].L[ia].2, by show _ = _; rw [henb]⟩
                obtain ⟨gb, EGb⟩ : ∃ x, Hid (R2[ja].g = x) := ⟨_, Lib.hid rfl⟩
                obtain ⟨cb, ECb⟩ : ∃ x, Hid (R2[ja].c = x) := ⟨_, Lib.hid rfl⟩
                have HSEb : Pl.rsz yb ≤ S := by rw [hyb]; exact okM_rsz hD hDb (by omega) hbS HOA2.out ja ia
                have HYEb := Lib.hid hyb
                have HYb : Hid (RatIs wq2 wq2.heap.size yb xb) := by
                  show RatIs _ _ _ _
                  have h9 := HIJ.out.mx.num hib hjb
                  rw [EJb.out] at h9
                  exact h9
                clear hyb henb
                have HWA : Hid (Pl.Wide X.nf A2) := by show Pl.Wide _ _; rw [← HV2.out]; exact HIJ.out.mx.wide
                have HLA : Hid (A2.length = X.nf) := by show _ = _; rw [← HV2.out, vals_len]; exact HIJ.out.len
                go_upto_region 17 with fail
                have hb5 := (Below.refl wq2.heap.size wq2).drew
                replace HIJ := Lib.hid (HIJ.out.go hb5)
                replace BQ := Lib.hid (BQ.out.go hb5)
                replace HYa := Lib.hid (HYa.out.go hb5)
                replace HYb := Lib.hid (HYb.out.go hb5)
                clear hb5
                have HB0 := Lib.hid (Below.refl wq2.drew.heap.size wq2.drew)
                generalize hw9 : wq2.drew = w17 at *
                have hSw : (fun w' : World => Below w17.heap.size w17 w') w17 := HB0.out
                refine wp_region_mid (fun _ => True) 1000 (by kernel_rfl) ?_
                rw [hw9]
                clear hw9
                refine wpAnyM_takeB 9 [] rfl (by kernel_rfl) (by kernel_rfl) (by kernel_rfl) (by kernel_rfl) (by kernel_rfl) (fun _ _ _ h => h) trivial (by kernel_rfl) (fun w' _ => by go_simp; first | done | with_reducible rfl) ?_
                simp only [Act.put, List.setIfInBounds_toArray]
                refine wpAnyM_weak (S := (fun w' : World => Below w17.heap.size w17 w')) (m := 29) _ _ _ _ ?_
                refine Tk.go [(0, [2, 3, 28, 29, 30, 31]), (1, [2, 3, 28, 29, 30, 31]), (2, [3, 28, 29, 30, 31]), (3, [28, 29, 30, 31]), (4, [28, 29, 30, 31]), (5, [7, 8, 28, 29, 30, 31]), (6, [7, 8, 28, 29, 30, 31]), (7, [8, 28, 29, 30, 31]), (8, [28, 29, 30, 31]), (10, [12, 13, 15, 16, 18, 27, 28, 29, 30, 31]), (11, [12, 13, 15, 16, 18, 27, 28, 29, 30, 31]), (12, [13, 15, 16, 18, 27, 28, 29, 30, 31]), (13, [15, 16, 18, 27, 28, 29, 30, 31]), (14, [15, 16, 18, 27, 28, 29, 30, 31]), (15, [16, 18, 27, 28, 29, 30, 31]), (16, [18, 27, 28, 29, 30, 31]), (17, [18, 27, 28, 29, 30, 31]), (19, [21, 22, 24, 25, 27, 28, 29, 30, 31]), (20, [21, 22, 24, 25, 27, 28, 29, 30, 31]), (21, [22, 24, 25, 27, 28, 29, 30, 31]), (22, [24, 25, 27, 28, 29, 30, 31]), (23, [24, 25, 27, 28, 29, 30, 31]), (24, [25, 27, 28, 29, 30, 31]), (25, [27, 28, 29, 30, 31]), (26, [27, 28, 29, 30, 31])] ?_
                iterate 25 (refine Tk.cons rfl (by kernel_rfl) (fun _ _ _ h => h) hSw (by kernel_rfl) (fun w' hSx => by have c0 := (HIJ.out.mx.go hSx).outer hia9; rw [EGa.out, ECa.out] at c0; have c1 := (HIJ.out.mx.go hSx).outer hib; rw [EGb.out, ECb.out] at c1; have hc := (HIJ.out.mx.go hSx).inner hia9 hja9; rw [EGa.out, EJa.out] at hc; have c2 := hc.1; have c3 := hc.2.1; have c4 := hc.2.2.1; have c5 := hc.2.2.2; clear hc; have hc := (HIJ.out.mx.go hSx).inner hib hjb; rw [EGb.out, EJb.out] at hc; have c6 := hc.1; have c7 := hc.2.1; have c8 := hc.2.2.1; have c9 := hc.2.2.2; clear hc; have c10 := ((BQ.out.go hSx).blk).cell; go_simp; first | done | with_reducible rfl) ?_; simp only [Act.put])
                refine Tk.nil ?_
                refine wpAnyM_ready [18] (by kernel_rfl) (by simp) ?_
                refine AllReadyM.cons (by rfl) (fun K hK => ?_) AllReadyM.nil
                go_simp
                refine (rsub_any (HYa.out.go HB0.out) (BQ.out.go HB0.out).num (by omega) (by omega)).mono ?_
                rintro e wq1 ⟨za, rfl, hz9, hb5⟩
                clear HYa
                replace HB0 := Lib.hid (Below.trans HB0.out (hb5.mono HB0.out.size))
                have HZa := Lib.hid hz9
                clear hz9
                clear hb5
                clear hSw
                have hSw : (fun w' : World => Below w17.heap.size w17 w') wq1 := HB0.out
                refine hK.out _ _ hSw ?_
                clear hK K
                refine wpAnyM_ready [27] (by kernel_rfl) (by simp) ?_
                refine AllReadyM.cons (by rfl) (fun K hK => ?_) AllReadyM.nil
                go_simp
                refine (rsub_any (HYb.out.go HB0.out) (BQ.out.go HB0.out).num (by omega) (by omega)).mono ?_
                rintro e wq2 ⟨zb, rfl, hz9, hb5⟩
                clear HYb
                replace HZa := Lib.hid (HZa.out.go hb5)
                replace HB0 := Lib.hid (Below.trans HB0.out (hb5.mono HB0.out.size))
                have HZb := Lib.hid hz9
                clear hz9
                clear hb5
                clear hSw
                have hSw : (fun w' : World => Below w17.heap.size w17 w') wq2 := HB0.out
                refine hK.out _ _ hSw ?_
                clear hK K
                refine wpAnyM_takeB 28 [29, 30, 31] rfl (by kernel_rfl) (by kernel_rfl) (by kernel_rfl) (by kernel_rfl) (by kernel_rfl) (fun _ _ _ h => h) hSw (by kernel_rfl) (fun w' hSx => by have c0 := (HIJ.out.mx.go hSx).outer hia9; rw [EGa.out, ECa.out] at c0; have c1 := (HIJ.out.mx.go hSx).outer hib; rw [EGb.out, ECb.out] at c1; have hc := (HIJ.out.mx.go hSx).inner hia9 hja9; rw [EGa.out, EJa.out] at hc; have c2 := hc.1; have c3 := hc.2.1; have c4 := hc.2.2.1; have c5 := hc.2.2.2; clear hc; have hc := (HIJ.out.mx.go hSx).inner hib hjb; rw [EGb.out, EJb.out] at hc; have c6 := hc.1; have c7 := hc.2.1; have c8 := hc.2.2.1; have c9 := hc.2.2.2; clear hc; have c10 := ((BQ.out.go hSx).blk).cell; go_simp; first | done | with_reducible rfl) ?_
                simp only [Act.put]
                refine wpAnyM_ready [29] (by kernel_rfl) (by simp) ?_
                refine AllReadyM.last (by rfl) (by decide) (fun K hK => ?_)
                replace HIJ := Lib.hid (HIJ.out.go HB0.out)
                replace BQ := Lib.hid (BQ.out.go HB0.out)
                have hc := HIJ.out.mx.inner hia9 hja9
                rw [EGa.out, EJa.out] at hc
                have c1 := hc.1
                have c2 := hc.2.1
                have c3 := hc.2.2.1
                have c4 := hc.2.2.2
                clear hc
                have cf9 := HIJ.out.mx.rfrozen hia9
                rw [EGa.out] at cf9
                have cl9 := HIJ.out.mx.rlt hia9
                rw [EGa.out] at cl9
                go_simp
                clear c1 c2 c3 c4 cf9 cl9
                have HP1 := HIJ.out.put hia9 hja9 HZa.out
                rw [EGa.out] at HP1
                have hc9 := (HIJ.out.mx.row _ (List.getElem_mem hia9)).chg (j := ja) za
                rw [EGa.out] at hc9
                have HB1 := BQ.out.rput (q2 := ya) (y := za) (HIJ.out.mx.row _ (List.getElem_mem hia9)) hja9 (fun e => HNQ.out _ (List.getElem_mem hia9) e.symm)
                rw [EGa.out] at HB1
                have kHZb := hc9.num _ _ HZb.out
                clear hc9
                unfold rput at HP1 HB1 kHZb
                clear HIJ BQ HZa HZb
                generalize ((((wq2.setCell ⟨ga, ja * 4, none⟩ (.bool za.N.b)).setCell ⟨ga, ja * 4 + 1, none⟩ (.slice za.N.A za.N.n za.N.c)).setCell ⟨ga, ja * 4 + 2, none⟩ (.bool za.D.b)).setCell ⟨ga, ja * 4 + 3, none⟩ (.slice za.D.A za.D.n za.D.c)) = wq3 at *
                have HIJ := Lib.hid HP1
                have BQ := Lib.hid HB1
                have HZb := Lib.hid kHZb
                clear HP1 HB1 kHZb
                replace HB0 := Lib.hid (Below.refl wq3.heap.size wq3)
                refine hK.out _ _ ?_
                clear hK K
                refine wpAnyM_ready [30] (by kernel_rfl) (by simp) ?_
                refine AllReadyM.last (by rfl) (by decide) (fun K hK => ?_)
                go_simp
                refine hK.out _ _ ?_
                clear hK K
                refine wpAnyM_ready [31] (by kernel_rfl) (by simp) ?_
                refine AllReadyM.last (by rfl) (by decide) (fun K hK => ?_)
                obtain ⟨RZ, hRZ⟩ : ∃ R', R' = R2.set ia (R2[ia].put ja (ya - q) za) := ⟨_, rfl⟩
                have hiz : ja < RZ.length := by rw [hRZ, List.length_set]; exact hib
                have ez9 : RZ[ja] = R2[ja] := by simp only [hRZ]; exact List.getElem_set_ne hij _
                have hjz : ia < RZ[ja].L.length := by rw [ez9]; exact hjb
                have EGz : Hid (RZ[ja].g = gb) := by show _ = _; rw [ez9]; exact EGb.out
                have EJz : Hid (RZ[ja].L[ia] = (yb, xb)) := by show _ = _; simp only [ez9]; exact EJb.out
                have HVZ : Hid (vals RZ = Pl.addAt A2 ia ja (-q)) := by show _ = _; rw [hRZ]; exact vals_addAt HV2.out hia9 (by rw [← HYEa.out, Rat.sub_eq_add_neg]) za
                have HNZ : Hid (∀ x ∈ RZ, x.g ≠ bq) := by show ∀ x ∈ RZ, x.g ≠ bq; rw [hRZ]; exact put_g hia9 HNQ.out
                rw [← hRZ] at HIJ
                clear HNQ ez9 hRZ
                have HNQ := HNZ
                clear HNZ
                have hc := HIJ.out.mx.inner hiz hjz
                rw [EGz.out, EJz.out] at hc
                have c1 := hc.1
                have c2 := hc.2.1
                have c3 := hc.2.2.1
                have c4 := hc.2.2.2
                clear hc
                have cf9 := HIJ.out.mx.rfrozen hiz
                rw [EGz.out] at cf9
                have cl9 := HIJ.out.mx.rlt hiz
                rw [EGz.out] at cl9
                go_simp
                clear c1 c2 c3 c4 cf9 cl9
                have HP1 := HIJ.out.put hiz hjz HZb.out
                rw [EGz.out] at HP1
                have hc9 := (HIJ.out.mx.row _ (List.getElem_mem hiz)).chg (j := ia) zb
                rw [EGz.out] at hc9
                have HB1 := BQ.out.rput (q2 := yb) (y := zb) (HIJ.out.mx.row _ (List.getElem_mem hiz)) hjz (fun e => HNQ.out _ (List.getElem_mem hiz) e.symm)
                rw [EGz.out] at HB1
                clear hc9
                unfold rput at HP1 HB1 
                clear HIJ BQ HZb 
                generalize ((((wq3.setCell ⟨gb, ia * 4, none⟩ (.bool zb.N.b)).setCell ⟨gb, ia * 4 + 1, none⟩ (.slice zb.N.A zb.N.n zb.N.c)).setCell ⟨gb, ia * 4 + 2, none⟩ (.bool zb.D.b)).setCell ⟨gb, ia * 4 + 3, none⟩ (.slice zb.D.A zb.D.n zb.D.c)) = wq5 at *
                have HIJ := Lib.hid HP1
                have BQ := Lib.hid HB1
                clear HP1 HB1 
                replace HB0 := Lib.hid (Below.refl wq5.heap.size wq5)
                refine hK.out _ _ ?_
                clear hK K
                refine wpAnyM_done (by kernel_rfl) ?_ _
                clear HB0 hSw
                obtain ⟨R3, hR3⟩ : ∃ R', R' = RZ.set ja (RZ[ja].put ia (yb - q) zb) := ⟨_, rfl⟩
                rw [← hR3] at HIJ
                have HV3 : Hid (vals R3 = Pl.addAt (Pl.addAt A2 ia ja (-q)) ja ia (-q)) := by
                  show _ = _
                  rw [hR3]
                  refine vals_addAt HVZ.out hiz ?_ zb
                  rw [addAt_off HWA.out (by rw [HLA.out]; exact hia) hja (fun e => hij e.1.symm), ← HYEb.out, Rat.sub_eq_add_neg]
                go_wp2_with fail
                go_roundw
                case rel => exact ⟨k + 1, R3, hlt, by go_num, by show _ = _; rw [HV3.out, HLS.out]; exact (by rw [HAE2.out, HAE1.out]; exact (lapStep_ij HFT.out HPI.out HPJ.out).symm), HIJ⟩
                case measure => simp [intOf]; omega
              · go_wp2_with fail
                go_roundw
                case rel => exact ⟨k + 1, R1, hlt, by go_num, by show _ = _; rw [HV1.out, HLS.out]; exact (by rw [HAE1.out]; exact (lapStep_i HFT.out HPI.out (by rw [HPJ.out]; omega)).symm), HIJ⟩
                case measure => simp [intOf]; omega
            · by_cases hpj : 0 ≤ pj
              · obtain ⟨ja, rfl⟩ : ∃ n : Nat, pj = (n : Int) := ⟨pj.toNat, by omega⟩
                have hja : ja < X.nf := by have := HJL.out hpj; omega
                go_wp2_with fail
                have hie : ja < R0.length := by rw [HIJ.out.len]; exact hja
                have hje : ja < R0[ja].L.length := by rw [HIJ.out.mx.rlen hie]; exact hja
                obtain ⟨ye, hye⟩ : ∃ y, y = Pl.en A0 ja ja := ⟨_, rfl⟩
                have hene := vals_en hie hje
                rw [HV0.out, ← hye] at hene
                obtain ⟨xe, EJe⟩ : ∃ x, Hid (R0[ja].L[ja] = (ye, x)) := ⟨R0[ja].L[ja].2, by show _ = _; rw [hene]⟩
                obtain ⟨ge, EGe⟩ : ∃ x, Hid (R0[ja].g = x) := ⟨_, Lib.hid rfl⟩
                obtain ⟨ce, ECe⟩ : ∃ x, Hid (R0[ja].c = x) := ⟨_, Lib.hid rfl⟩
                have HSEe : Pl.rsz ye ≤ S := by rw [hye]; exact okM_rsz hD hDb (by omega) hbS HOA0.out ja ja
                have HYEe := Lib.hid hye
                have HYe : Hid (RatIs wA wA.heap.size ye xe) := by
                  show RatIs _ _ _ _
                  have h9 := HIJ.out.mx.num hie hje
                  rw [EJe.out] at h9
                  exact h9
                clear hye hene
                go_upto_region 15 with fail
                have hb5 := (Below.refl wA.heap.size wA).drew
                replace HIJ := Lib.hid (HIJ.out.go hb5)
                replace BQ := Lib.hid (BQ.out.go hb5)
                replace HYe := Lib.hid (HYe.out.go hb5)
                clear hb5
                have HB0 := Lib.hid (Below.refl wA.drew.heap.size wA.drew)
                generalize hw9 : wA.drew = wr15ja0 at *
                have hSw : (fun w' : World => Below wr15ja0.heap.size wr15ja0 w') wr15ja0 := HB0.out
                refine wp_region_mid (fun w' : World => Below wr15ja0.heap.size wr15ja0 w') 15 (by kernel_rfl) ?_
                rw [hw9]
                clear hw9
                refine Tk.go [(0, [2, 3, 14, 15]), (1, [2, 3, 14, 15]), (2, [3, 14, 15]), (3, [14, 15]), (4, [14, 15]), (5, [7, 8, 10, 11, 13, 14, 15]), (6, [7, 8, 10, 11, 13, 14, 15]), (7, [8, 10, 11, 13, 14, 15]), (8, [10, 11, 13, 14, 15]), (9, [10, 11, 13, 14, 15]), (10, [11, 13, 14, 15]), (11, [13, 14, 15]), (12, [13, 14, 15])] ?_
                iterate 13 (refine Tk.cons rfl (by kernel_rfl) (fun _ _ _ h => h) hSw (by kernel_rfl) (fun w' hSx => by have c0 := (HIJ.out.mx.go hSx).outer hie; rw [EGe.out, ECe.out] at c0; have hc := (HIJ.out.mx.go hSx).inner hie hje; rw [EGe.out, EJe.out] at hc; have c1 := hc.1; have c2 := hc.2.1; have c3 := hc.2.2.1; have c4 := hc.2.2.2; clear hc; have c9 := ((BQ.out.go hSx).blk).cell; go_simp; first | done | with_reducible rfl) ?_; simp only [Act.put, List.setIfInBounds_toArray])
                refine Tk.nil ?_
                refine wpAnyM_ready [13] (by kernel_rfl) (by simp) ?_
                refine AllReadyM.cons (by rfl) (fun K hK => ?_) AllReadyM.nil
                go_simp
                refine (radd_any (HYe.out.go HB0.out) (BQ.out.go HB0.out).num (by omega) (by omega)).mono ?_
                rintro e wq1 ⟨ze, rfl, hz9, hb5⟩
                clear HYe
                replace HB0 := Lib.hid (Below.trans HB0.out (hb5.mono HB0.out.size))
                have HZe := Lib.hid hz9
                clear hz9
                clear hb5
                clear hSw
                have hSw : (fun w' : World => Below wr15ja0.heap.size wr15ja0 w') wq1 := HB0.out
                refine hK.out _ _ hSw ?_
                clear hK K
                refine wpAnyM_takeB 14 [15] rfl (by kernel_rfl) (by kernel_rfl) (by kernel_rfl) (by kernel_rfl) (by kernel_rfl) (fun _ _ _ h => h) hSw (by kernel_rfl) (fun w' hSx => by have c0 := (HIJ.out.mx.go hSx).outer hie; rw [EGe.out, ECe.out] at c0; have hc := (HIJ.out.mx.go hSx).inner hie hje; rw [EGe.out, EJe.out] at hc; have c1 := hc.1; have c2 := hc.2.1; have c3 := hc.2.2.1; have c4 := hc.2.2.2; clear hc; have c9 := ((BQ.out.go hSx).blk).cell; go_simp; first | done | with_reducible rfl) ?_
                simp only [Act.put]
                refine wpAnyM_ready [15] (by kernel_rfl) (by simp) ?_
                refine AllReadyM.last (by rfl) (by decide) (fun K hK => ?_)
                replace HIJ := Lib.hid (HIJ.out.go HB0.out)
                replace BQ := Lib.hid (BQ.out.go HB0.out)
                have hc := HIJ.out.mx.inner hie hje
                rw [EGe.out, EJe.out] at hc
                have c1 := hc.1
                have c2 := hc.2.1
                have c3 := hc.2.2.1
                have c4 := hc.2.2.2
                clear hc
                have cf9 := HIJ.out.mx.rfrozen hie
                rw [EGe.out] at cf9
                have cl9 := HIJ.out.mx.rlt hie
                rw [EGe.out] at cl9
                go_simp
                clear c1 c2 c3 c4 cf9 cl9
                have HP1 := HIJ.out.put hie hje HZe.out
                rw [EGe.out] at HP1
                have hc9 := (HIJ.out.mx.row _ (List.getElem_mem hie)).chg (j := ja) ze
                rw [EGe.out] at hc9
                have HB1 := BQ.out.rput (q2 := ye) (y := ze) (HIJ.out.mx.row _ (List.getElem_mem hie)) hje (fun e => HNQ.out _ (List.getElem_mem hie) e.symm)
                rw [EGe.out] at HB1
                clear hc9
                unfold rput at HP1 HB1 
                clear HIJ BQ HZe 
                generalize ((((wq1.setCell ⟨ge, ja * 4, none⟩ (.bool ze.N.b)).setCell ⟨ge, ja * 4 + 1, none⟩ (.slice ze.N.A ze.N.n ze.N.c)).setCell ⟨ge, ja * 4 + 2, none⟩ (.bool ze.D.b)).setCell ⟨ge, ja * 4 + 3, none⟩ (.slice ze.D.A ze.D.n ze.D.c)) = wq2 at *
                have HIJ := Lib.hid HP1
                have BQ := Lib.hid HB1
                clear HP1 HB1 
                replace HB0 := Lib.hid (Below.refl wq2.heap.size wq2)
                refine hK.out _ _ ?_
                clear hK K
                refine wpAnyM_done (by kernel_rfl) ?_ _
                clear HB0 hSw
                obtain ⟨R1, hR1⟩ : ∃ R', R' = R0.set ja (R0[ja].put ja (ye + q) ze) := ⟨_, rfl⟩
                have HV1 : Hid (vals R1 = Pl.addAt A0 ja ja q) := by show _ = _; rw [hR1]; exact vals_addAt HV0.out hie (by rw [HYEe.out]) ze
                have HNQ1 : Hid (∀ x ∈ R1, x.g ≠ bq) := by show ∀ x ∈ R1, x.g ≠ bq; rw [hR1]; exact put_g hie HNQ.out
                rw [← hR1] at HIJ
                have HOA1 := Lib.hid (HOA0.out.addAt HQO.out ja ja)
                obtain ⟨A1, hA1⟩ : ∃ A', A' = Pl.addAt A0 ja ja q := ⟨_, rfl⟩
                rw [← hA1] at HV1 HOA1
                have HAE1 := Lib.hid hA1
                clear HNQ hie hje EJe EGe ECe HYEe HSEe HV0 HOA0 hR1 hA1
                have HNQ := HNQ1
                clear HNQ1
                go_wp2_with fail
                go_roundw
                case rel => exact ⟨k + 1, R1, hlt, by go_num, by show _ = _; rw [HV1.out, HLS.out]; exact (by rw [HAE1.out]; exact (lapStep_j HFT.out (by rw [HPI.out]; omega) HPJ.out).symm), HIJ⟩
                case measure => simp [intOf]; omega
              · go_wp2_with fail
                go_roundw
                case rel => exact ⟨k + 1, R0, hlt, by go_num, by show _ = _; rw [HV0.out, HLS.out]; exact (lapStep_no HFT.out (by rw [HPI.out]; omega) (by rw [HPJ.out]; omega)).symm, HIJ⟩
                case measure => simp [intOf]; omega
        · obtain rfl : X.nb = k := by omega
          have hmt := HIJ.out.mx.mat
          rw [HIJ.out.len, HV.out] at hmt
          have HM9 := Lib.hid hmt.1
          have HE9 := Lib.hid hmt.2
          have HWD : Hid (Pl.Wide X.nf (Pl.lapM X.R (esTo X X.nb))) := by show Pl.Wide _ _; rw [← HV.out]; exact HIJ.out.mx.wide
          have HLN : Hid ((Pl.lapM X.R (esTo X X.nb)).length = X.nf) := by show _ = _; rw [← HV.out, vals_len]; exact HIJ.out.len
          have hkk := HSZ.out X.nb (Nat.le_refl _)
          have HDE := Lib.hid (Pl.Den.sizes (n := X.nf) (Pl.den_ext hD hkk.1 (b := b) (by omega) hDb))
          have HIV := Lib.hid (fun (W : World) (h : MatIn W W.heap.size (some ⟨g, 0, none⟩) X.nf X.nf (R.map fun r => (some ⟨r.g, 0, none⟩, r.c, r.L))) => inverse_any (some ⟨g, 0, none⟩) X.nf X.nf S (R.map fun r => (some ⟨r.g, 0, none⟩, r.c, r.L)) W (by omega) h
            (fun c hc row hrow x hx => Nat.le_trans (HDE.out c hc row (by rw [← HE9.out]; exact hrow) x hx) hS) ⟨by omega, hS2⟩ (by rw [HE9.out]; exact Pl.invM_piv HWD.out HLN.out HFR.out))
          have HXe : Hid (ModAt wr p X (.slice none 0 0)) := HXw
          have HDw := Lib.hid HIJ.out.below
          clear hmt hkk HXw HIJ HV HSZ
          go_wp2_with fail
          refine (HIV.out wr HM9.out).mono ?_
          rintro e w6 ⟨gv, U, rfl, hgv, hmat, hval, hb6⟩
          rw [HE9.out] at hval
          have HX6 := Lib.hid (HXe.out.go hb6)
          have HD6 := Lib.hid (HDw.out.trans (hb6.mono HDw.out.size))
          have HMT := Lib.hid hmat
          have HVL := Lib.hid hval
          have hgp : gv ≠ p := by have := HXe.out.blk.lt; omega
          have cp := HX6.out.blk.cell
          unfold MdA.cells at cp
          have lp := HX6.out.blk.lt
          have fp := HX6.out.blk.frozen
          clear hmat hval hb6 HIV HM9 HE9 HXe HDw HDE hgv
          go_wp2_with fail
          go_end0
          have hI : ∃ A n c, (Value.slice none 0 0) = .slice A n c := ⟨_, _, _, rfl⟩
          have hg6 : w.grownBy w6 (some p) := ⟨HD6.out.os, HD6.out.tape, HD6.out.output, HD6.out.size, fun i hi _ => HD6.out.block i hi⟩
          exact ⟨rfl, gv, U, HX6.out.put7 hI _, HMT.out.off9 HX6.out.blk hI hgp 7, HVL.out, grown_more hg6 (Chg.set HX6.out.blk (X.no32 hI) 7 _).grown (fun b hb => .inr (Option.some.inj hb).symm)⟩
end Go.Proofs.YtoblpcljhblnmaaGreatDoor
