/- flow.Of: the linear model of a network. Condition: the network reads and passes netmodel.Check. -/
import Derived.Test.YtoblpcljhblnmaaGreatDoorFlwI
namespace Go.Proofs.YtoblpcljhblnmaaGreatDoor
open Go.RowKit
set_option maxRecDepth 100000
def Pl.prd : List Pl.Bra → Nat
  | [] => 1
  | b :: l => (b.x * b.tap).toNat * Pl.prd l
theorem prd_pos : ∀ l : List Pl.Bra, (∀ b ∈ l, Pl.braOut b = false) → Pl.prd l ≠ 0
  | [], _ => by unfold Pl.prd; omega
  | b :: l, h => by
    obtain ⟨h1, h2, h3, h4, _⟩ := braOut_no (h b (by simp))
    have h5 : 1 * 500 ≤ b.x * b.tap := Int.mul_le_mul h1 h3 (by omega) (by omega)
    exact Nat.mul_ne_zero (by omega) (prd_pos l fun x hx => h x (by simp [hx]))
theorem prd_le : ∀ l : List Pl.Bra, (∀ b ∈ l, Pl.braOut b = false) → Pl.prd l ≤ 2 ^ (24 * l.length)
  | [], _ => by unfold Pl.prd; simp
  | b :: l, h => by
    obtain ⟨h1, h2, h3, h4, _⟩ := braOut_no (h b (by simp))
    have h6 : b.x * b.tap ≤ 10000 * 1500 := Int.mul_le_mul h2 h4 (by omega) (by omega)
    have ih := prd_le l fun x hx => h x (by simp [hx])
    have h7 : (b.x * b.tap).toNat ≤ 2 ^ 24 := by
      have : (2 : Nat) ^ 24 = 16777216 := by decide
      omega
    rw [List.length_cons, Nat.mul_add, Nat.add_comm, Nat.pow_add]
    exact Nat.mul_le_mul h7 ih
theorem sus_ok : ∀ l : List Pl.Bra, (∀ b ∈ l, Pl.braOut b = false) → ∀ b ∈ l, Pl.Ok (Pl.prd l) (1000000 * Pl.prd l) (Pl.sus b)
  | [], _ => fun b hb => by cases hb
  | c :: l, h => fun b hb => by
    obtain ⟨h1, h2, h3, h4, _⟩ := braOut_no (h c (by simp))
    have h5 : 1 * 500 ≤ c.x * c.tap := Int.mul_le_mul h1 h3 (by omega) (by omega)
    rcases List.mem_cons.1 hb with rfl | hb
    · refine ⟨1000000 * (Pl.prd l : Int), ?_, ?_⟩
      · have e : ((((b.x * b.tap).toNat * Pl.prd l : Nat) : Int) : Rat) = ((b.x * b.tap : Int) : Rat) * ((Pl.prd l : Int) : Rat) := by
          rw [← Rat.intCast_mul]
          congr 1
          rw [Int.natCast_mul]
          congr 1
          omega
        show Pl.sus b * ((((b.x * b.tap).toNat * Pl.prd l : Nat) : Int) : Rat) = _
        rw [e]
        unfold Pl.sus
        have hne : ((b.x * b.tap : Int) : Rat) ≠ 0 := fun e9 => by
          have := Rat.intCast_eq_zero_iff.1 e9
          omega
        rw [Rat.divInt_eq_div]
        generalize ((b.x * b.tap : Int) : Rat) = m at *
        rw [Rat.intCast_mul]
        generalize ((Pl.prd l : Int) : Rat) = r at *
        generalize ((1000000 : Int) : Rat) = t at *
        clear h hb h1 h2 h3 h4 h5 e
        rw [Rat.div_def, show t * m⁻¹ * (m * r) = t * (m⁻¹ * m) * r by grind, Rat.inv_mul_cancel _ hne, Rat.mul_one]
      · show (1000000 * (Pl.prd l : Int)).natAbs ≤ 1000000 * ((b.x * b.tap).toNat * Pl.prd l)
        have : 1 * Pl.prd l ≤ (b.x * b.tap).toNat * Pl.prd l := Nat.mul_le_mul_right _ (by omega)
        omega
    · obtain ⟨z, hz, hk⟩ := sus_ok l (fun x hx => h x (by simp [hx])) b hb
      refine ⟨z * ((c.x * c.tap).toNat : Int), ?_, ?_⟩
      · have e : ((((c.x * c.tap).toNat * Pl.prd l : Nat) : Int) : Rat) = (((c.x * c.tap).toNat : Int) : Rat) * ((Pl.prd l : Int) : Rat) := by
          rw [← Rat.intCast_mul]
          rfl
        show Pl.sus b * ((((c.x * c.tap).toNat * Pl.prd l : Nat) : Int) : Rat) = _
        rw [e, Rat.intCast_mul, ← hz]
        grind
      · rw [Int.natAbs_mul, Int.natAbs_natCast]
        have := Nat.mul_le_mul_right (c.x * c.tap).toNat hk
        show z.natAbs * (c.x * c.tap).toNat ≤ 1000000 * ((c.x * c.tap).toNat * Pl.prd l)
        rw [Nat.mul_comm (c.x * c.tap).toNat (Pl.prd l), ← Nat.mul_assoc]
        exact this
theorem sus_pos {b : Pl.Bra} (h : Pl.braOut b = false) : 0 < Pl.sus b := by
  obtain ⟨h1, h2, h3, h4, _⟩ := braOut_no h
  have h5 : 1 * 500 ≤ b.x * b.tap := Int.mul_le_mul h1 h3 (by omega) (by omega)
  unfold Pl.sus
  rw [Rat.divInt_eq_div]
  have h6 : (0 : Rat) < ((b.x * b.tap : Int) : Rat) := by
    have := Rat.intCast_lt_intCast.2 (show (0 : Int) < b.x * b.tap by omega)
    simpa using this
  have h7 : (0 : Rat) < ((1000000 : Int) : Rat) := by decide +kernel
  rw [Rat.div_def]
  exact Rat.mul_pos h7 (Rat.inv_pos.2 h6)
theorem blk_ints9 {w : World} {g : Nat} {t : TypeId} {l : List Int} (h : Blk w g t (ints l).toArray) : Reads w w.heap.size 1 (some ⟨g, 0, none⟩) l.length (ints l) := by
  refine ⟨by unfold ints; simp, fun _ => ⟨_, rfl, h.lt, fun j u hu => ?_⟩⟩
  rw [Srt.addr_add, h.cell, List.getElem?_toArray]
  exact hu
def OfSaid (N : Pl.Net) (w : World) (e : Ending) (w' : World) : Prop :=
  ∃ (p g : Nat) (X : MdA) (U : List (Option Addr × Nat × List (Rat × Rt))) (mi : Nat), e = .returned (.pointer (some ⟨p, 0, none⟩)) ∧ Pl.TopOk N X.bus X.isl X.mb mi ∧ ModAt w' p X (.slice (some ⟨g, 0, none⟩) X.nf X.nf) ∧ MatIn w' w'.heap.size (some ⟨g, 0, none⟩) X.nf X.nf U ∧
    svals U = Pl.invM (Pl.lapM X.R (esTo X X.nb)) ∧ X.nb = N.branches.length ∧ X.F = Pl.frs N X.bus N.branches ∧ X.T = Pl.tos N X.bus N.branches ∧ X.LB.map (·.1) = N.branches.map Pl.sus ∧ X.LC.map (·.1) = N.branches.map Pl.con ∧ X.R = Pl.freeL X.isl ∧ X.nf = X.R.length ∧ w.heap.size ≤ p ∧ Below w.heap.size w w'
theorem esTo_lap {N : Pl.Net} {X : MdA} {mi : Nat} (ht : Pl.TopOk N X.bus X.isl X.mb mi) (hb : X.nb = N.branches.length) (hF : X.F = Pl.frs N X.bus N.branches) (hT : X.T = Pl.tos N X.bus N.branches) (hB : X.LB.map (·.1) = N.branches.map Pl.sus) (hR : X.R = Pl.freeL X.isl) (hn : X.nf = X.R.length) (hok : Pl.NetOk N) :
    Pl.Free X.nf (Pl.lapM X.R (esTo X X.nb)) := by
  have h1 := Pl.lap_free ht.isles (qs := N.branches.map Pl.sus) (fun q hq => by
    obtain ⟨b, hb9, rfl⟩ := List.mem_map.1 hq
    exact sus_pos (hok.bra b hb9).2.2.2) (by unfold Pl.brE; rw [List.length_map, List.length_map])
  have e : esTo X X.nb = ((Pl.brE N X.bus).zip (N.branches.map Pl.sus)).map fun x => (x.1.1, x.1.2, x.2) := by
    unfold esTo
    rw [hF, hT, hB, hb]
    apply List.ext_getElem
    · rw [List.length_map, List.length_range, List.length_map, List.length_zip, List.length_map]
      unfold Pl.brE
      rw [List.length_map, Nat.min_self]
    · intro i h2 h3
      rw [List.length_map, List.length_range] at h2
      rw [List.getElem_map, List.getElem_map, List.getElem_zip, List.getElem_range]
      unfold Pl.frs Pl.tos Pl.brE
      rw [List.getElem_map, List.getElem_map]
      simp only [List.getD_eq_getElem?_getD, List.getElem?_map, List.getElem?_eq_getElem h2, Option.map_some, Option.getD_some]
  rw [e, hn, hR]
  exact h1
set_option maxHeartbeats 12800000 in
theorem flowof_any (M : MNet) (w : World) (hM : NetIn w w.heap.size M) (hok : Pl.NetOk M.N) :
    Calls Tryz.prog 59 #[vNet M] w (OfSaid M.N w) := by
  have HTG := Lib.hid (fun (W : World) (h : NetIn W W.heap.size M) => topget_any M W h hok)
  have HOK := Lib.hid hok
  have HL0 := Lib.hid (txts_len hM.r0)
  have HL2 : Hid (M.N.branches.length = M.n2) := hM.r2.2
  have hb24 : M.n2 ≤ 24 := by have := hM.r2.2; have := hok.nb; omega
  have hn24 : M.n0 ≤ 24 := by have := txts_len hM.r0; have := hok.nn; omega
  obtain ⟨N, A0, n0, c0, A1, n1, c1, A2, n2, c2, A3, n3, c3, A4, n4, c4, A5, n5, c5⟩ := M
  unfold vNet netC at *
  simp only at *
  have z0 : n0 ≤ 9223372036854775807 := hM.z0
  have hA := Blk.new_ w w.heap.size 29 #[.slice A0 n0 c0, .slice A1 n1 c1, .slice A2 n2 c2, .slice A3 n3 c3, .slice A4 n4 c4, .slice A5 n5 c5] rfl
  have hD := (Below.refl w.heap.size w).alloc (Nat.le_refl _) (.cells #[.slice A0 n0 c0, .slice A1 n1 c1, .slice A2 n2 c2, .slice A3 n3 c3, .slice A4 n4 c4, .slice A5 n5 c5] 29)
  have HM0 := Lib.hid hM
  have BN := Lib.hid hA
  have HM := Lib.hid (hM.go hD)
  have D := Lib.hid hD
  have ca := hA.cell
  have la := hA.lt
  clear hM hA hD
  go_enter Tryz.func59, Tryz.ntmps59
  go_wp2_with fail
  obtain ⟨bn, hbn⟩ : ∃ bn : Nat, bn = w.heap.size := ⟨_, rfl⟩
  have HBN9 : w.heap.size ≤ bn := by omega
  rw [← hbn] at BN ⊢
  clear ca la hbn
  generalize w.alloc (.cells #[.slice A0 n0 c0, .slice A1 n1 c1, .slice A2 n2 c2, .slice A3 n3 c3, .slice A4 n4 c4, .slice A5 n5 c5] 29) = w1 at *
  refine (HTG.out w1 HM.out).mono ?_
  rintro e w2 ⟨gb, gi, bus, isl, mb, mi, rfl, hib, hii, htop, hb5⟩
  have HTOP := Lib.hid htop
  have IB : Hid (Blk w2 gb 3 (ints bus).toArray) := hib
  have II : Hid (Blk w2 gi 3 (ints isl).toArray) := hii
  replace BN := Lib.hid (BN.out.go hb5)
  replace HM := Lib.hid (HM.out.go hb5)
  replace D := Lib.hid (D.out.trans (hb5.mono D.out.size))
  clear hb5 hib hii htop HTG hok
  have cbn := BN.out.cell
  have lbn := BN.out.lt
  go_wp2_with fail
  clear cbn lbn
  have hb5 := below_oneS w2 (.cells #[.slice (some ⟨gb, 0, none⟩) n0 n0, .slice (some ⟨gi, 0, none⟩) mb mb, .slice none 0 0, .slice none 0 0, .slice none 0 0, .slice none 0 0, .slice none 0 0, .slice none 0 0] 177)
  have BP := Lib.hid (Blk.new_ w2 w2.heap.size 177 #[.slice (some ⟨gb, 0, none⟩) n0 n0, .slice (some ⟨gi, 0, none⟩) mb mb, .slice none 0 0, .slice none 0 0, .slice none 0 0, .slice none 0 0, .slice none 0 0, .slice none 0 0] rfl)
  have hnp1 : bn < w2.heap.size := BN.out.lt
  have hnp2 : gb < w2.heap.size := IB.out.lt
  have hnp3 : gi < w2.heap.size := II.out.lt
  have hwp : w.heap.size ≤ w2.heap.size := D.out.size
  replace BN := Lib.hid (BN.out.go hb5)
  replace IB := Lib.hid (IB.out.go hb5)
  replace II := Lib.hid (II.out.go hb5)
  replace HM := Lib.hid (HM.out.go hb5)
  replace D := Lib.hid (D.out.trans (hb5.mono D.out.size))
  have hpw : w2.heap.size < (w2.alloc (.cells #[.slice (some ⟨gb, 0, none⟩) n0 n0, .slice (some ⟨gi, 0, none⟩) mb mb, .slice none 0 0, .slice none 0 0, .slice none 0 0, .slice none 0 0, .slice none 0 0, .slice none 0 0] 177)).heap.size := by simp
  obtain ⟨p, hp⟩ : ∃ p : Nat, p = w2.heap.size := ⟨_, rfl⟩
  rw [← hp] at BP hnp1 hnp2 hnp3 hwp hpw ⊢
  clear hb5 hp
  generalize w2.alloc (.cells #[.slice (some ⟨gb, 0, none⟩) n0 n0, .slice (some ⟨gi, 0, none⟩) mb mb, .slice none 0 0, .slice none 0 0, .slice none 0 0, .slice none 0 0, .slice none 0 0, .slice none 0 0] 177) = wB at *
  have HO0 : Hid (OfI wB wB p #[.slice (some ⟨gb, 0, none⟩) n0 n0, .slice (some ⟨gi, 0, none⟩) mb mb, .slice none 0 0, .slice none 0 0, .slice none 0 0, .slice none 0 0, .slice none 0 0, .slice none 0 0] [] [] [] [] (.slice none 0 0) (.slice none 0 0) (.slice none 0 0) (.slice none 0 0)) :=
    ⟨BP.out, nou_all (l := [_, _, _, _, _, _, _, _]) (by simp), hpw, OQ.none_ _ _ _ _, OQ.none_ _ _ _ _, OQ.none_ _ _ _ _, OQ.none_ _ _ _ _, (fun x hx => by cases hx), (fun x hx => by cases hx), (fun x hx => by cases hx), (fun x hx => by cases hx), World.grownBy.refl _ _⟩
  have BN4 := BN
  have IB4 := IB
  have II4 := II
  have HM4 := HM
  clear BN IB II HM BP
  go_loopw [17] (fun sv wx => ∃ (k : Nat) (LB LC : List (Rat × Rt)) (vF vT vB vC : Value), k ≤ n2 ∧ sv = .int .i64 (k : Int) ∧ Hid (LB.map (·.1) = (N.branches.take k).map Pl.sus) ∧ Hid (LC.map (·.1) = (N.branches.take k).map Pl.con) ∧
    Hid (OfI wB wx p #[.slice (some ⟨gb, 0, none⟩) n0 n0, .slice (some ⟨gi, 0, none⟩) mb mb, vF, vT, vB, vC, .slice none 0 0, .slice none 0 0] (Pl.frs N bus (N.branches.take k)) (Pl.tos N bus (N.branches.take k)) LB LC vF vT vB vC)) (fun sv _ => n2 - (intOf sv).toNat)
  case atStart => exact ⟨0, [], [], _, _, _, _, Nat.zero_le _, rfl, Lib.hid (by simp), Lib.hid (by simp), by simpa [Pl.frs, Pl.tos] using HO0⟩
  case round =>
    clear HO0
    obtain ⟨k, LB, LC, vF, vT, vB, vC, hk, rfl, HVB, HVC, HO⟩ := hrel
    have BN := Lib.hid (BN4.out.grown HO.out.grown (by simp; omega))
    have IB := Lib.hid (IB4.out.grown HO.out.grown (by simp; omega))
    have D9 := Lib.hid (D.out.grown HO.out.grown D.out.size (fun g hg => by injection hg with hg; omega))
    by_cases hlt : k < n2
    · have HM := Lib.hid (HM0.out.go D9.out)
      obtain ⟨b9, o9, rfl, hll, q0, q1, q2, q3, q4, q5, q6, q7, q8⟩ := bra_at HM.out.r2 hlt
      have hll9 : k < N.branches.length := hll
      have HT : Hid (N.branches.take (k + 1) = N.branches.take k ++ [N.branches[k]]) := by show _ = _; rw [List.take_succ_eq_append_getElem hll]
      have hlk : (N.branches.take k).length = k := by rw [List.length_take]; omega
      obtain ⟨hfa, hfb, _, hbo⟩ := HOK.out.bra _ (List.getElem_mem hll)
      generalize N.branches[k] = z at *
      have HLF9 : Hid ((Pl.frs N bus (N.branches.take k)).length = k) := by show _ = _; unfold Pl.frs; rw [List.length_map, hlk]
      have HLT9 : Hid ((Pl.tos N bus (N.branches.take k)).length = k) := by show _ = _; unfold Pl.tos; rw [List.length_map, hlk]
      have HLB9 : Hid (LB.length = k) := by show _ = _; have := congrArg List.length HVB.out; rwa [List.length_map, List.length_map, hlk] at this
      have HLC9 : Hid (LC.length = k) := by show _ = _; have := congrArg List.length HVC.out; rwa [List.length_map, List.length_map, hlk] at this
      have hlF : (Pl.frs N bus (N.branches.take k)).length ≤ 1000 := by rw [HLF9.out]; omega
      have hlT : (Pl.tos N bus (N.branches.take k)).length ≤ 1000 := by rw [HLT9.out]; omega
      have hlB : LB.length ≤ 1000 := by rw [HLB9.out]; omega
      have hlC : LC.length ≤ 1000 := by rw [HLC9.out]; omega
      clear hlk
      have HTF : Hid (Pl.frs N bus (N.branches.take (k + 1)) = Pl.frs N bus (N.branches.take k) ++ [Pl.lab bus (Pl.nodeAt N.nodes z.from_)]) := by show _ = _; rw [HT.out]; unfold Pl.frs; rw [List.map_append]; rfl
      have HTT : Hid (Pl.tos N bus (N.branches.take (k + 1)) = Pl.tos N bus (N.branches.take k) ++ [Pl.lab bus (Pl.nodeAt N.nodes z.to_)]) := by show _ = _; rw [HT.out]; unfold Pl.tos; rw [List.map_append]; rfl
      generalize Pl.frs N bus (N.branches.take k) = FF at *
      generalize Pl.tos N bus (N.branches.take k) = TT at *
      obtain ⟨k1, HK1⟩ : ∃ k1, Hid (k1 = k + 1) := ⟨_, Lib.hid rfl⟩
      have HLvF : Hid (∀ x : Int, (FF ++ [x]).length = k1) := fun x => by rw [List.length_append, HLF9.out, HK1.out]; rfl
      have HLvT : Hid (∀ x : Int, (TT ++ [x]).length = k1) := fun x => by rw [List.length_append, HLT9.out, HK1.out]; rfl
      have HLvB : Hid (∀ x : Rat × Rt, (LB ++ [x]).length = k1) := fun x => by rw [List.length_append, HLB9.out, HK1.out]; rfl
      have HLvC : Hid (∀ x : Rat × Rt, (LC ++ [x]).length = k1) := fun x => by rw [List.length_append, HLC9.out, HK1.out]; rfl
      have hna := Pl.nodeAt_in hfa
      have hnb := Pl.nodeAt_in hfb
      have hbl9 : bus.length = n0 := by rw [HTOP.out.buses.len, HL0.out]
      have hla := HTOP.out.buses.at_ hna.1 hna.2
      have hlb := HTOP.out.buses.at_ hnb.1 hnb.2
      rw [HL0.out] at hna hnb
      obtain ⟨ia, hia⟩ : ∃ x, x = Pl.nodeAt N.nodes z.from_ := ⟨_, rfl⟩
      obtain ⟨ib, hib⟩ : ∃ x, x = Pl.nodeAt N.nodes z.to_ := ⟨_, rfl⟩
      have HIA := Lib.hid (fun (W : World) (B : Nat) (h : Reads W B 1 A0 n0 (txts N.nodes)) => indexb_any A0 n0 c0 N.nodes z.from_ W B z0 h)
      have HIB := Lib.hid (fun (W : World) (B : Nat) (h : Reads W B 1 A0 n0 (txts N.nodes)) => indexb_any A0 n0 c0 N.nodes z.to_ W B z0 h)
      rw [← hia] at HIA hna hla HTF
      rw [← hib] at HIB hnb hlb HTT
      obtain ⟨hia0, hia1⟩ := hna
      obtain ⟨hib0, hib1⟩ := hnb
      have hia2 : ia.toNat < bus.length := by rw [hbl9]; omega
      have hib2 : ib.toNat < bus.length := by rw [hbl9]; omega
      obtain ⟨xa, hxa⟩ : ∃ x, x = Pl.lab bus ia := ⟨_, rfl⟩
      obtain ⟨xb, hxb⟩ : ∃ x, x = Pl.lab bus ib := ⟨_, rfl⟩
      have HXA : Hid (bus.getD ia.toNat 0 = xa) := by
        show _ = _
        rw [hxa]
        unfold Pl.lab
        rw [List.getD_eq_getElem?_getD, List.getD_eq_getElem?_getD, List.getElem?_eq_getElem hia2]
        rfl
      have HXB : Hid (bus.getD ib.toNat 0 = xb) := by
        show _ = _
        rw [hxb]
        unfold Pl.lab
        rw [List.getD_eq_getElem?_getD, List.getD_eq_getElem?_getD, List.getElem?_eq_getElem hib2]
        rfl
      rw [← hxa] at HTF
      rw [← hxb] at HTT
      clear hia hib hxa hxb hla hlb hfa hfb
      have hk9 : (k : Int) < (n2 : Int) := by omega
      go_wp2_with fail
      have hb5 := below_oneS wr (.cells #[.string z.name, .string z.from_, .string z.to_, .int .i64 z.x, .int .i64 z.tap, .int .i64 z.shift, .int .i64 z.limit, .int .i64 z.short, .int .i64 z.hold] 53)
      obtain ⟨bb, hbb⟩ : ∃ b : Nat, b = wr.heap.size := ⟨_, rfl⟩
      have BB := Lib.hid (Blk.new_ wr bb 53 #[.string z.name, .string z.from_, .string z.to_, .int .i64 z.x, .int .i64 z.tap, .int .i64 z.shift, .int .i64 z.limit, .int .i64 z.short, .int .i64 z.hold] hbb)
      have hbbp : bb ≠ p := by have := HO.out.grown.size; omega
      rw [← hbb]
      replace BN := Lib.hid (BN.out.go hb5)
      replace IB := Lib.hid (IB.out.go hb5)
      replace HM := Lib.hid (HM.out.go hb5)
      replace HO := Lib.hid (HO.out.go hb5)
      clear hb5 hbb q0 q1 q2 q3 q4 q5 q6 q7 q8 D9
      generalize wr.alloc (.cells #[.string z.name, .string z.from_, .string z.to_, .int .i64 z.x, .int .i64 z.tap, .int .i64 z.shift, .int .i64 z.limit, .int .i64 z.short, .int .i64 z.hold] 53) = wa at *
      have BP := Lib.hid HO.out.blk
      go_upto_region 5 with fail
      have hb5 := (Below.refl wa.heap.size wa).drew
      replace BP := Lib.hid (BP.out.go hb5)
      replace BN := Lib.hid (BN.out.go hb5)
      replace BB := Lib.hid (BB.out.go hb5)
      replace IB := Lib.hid (IB.out.go hb5)
      replace HM := Lib.hid (HM.out.go hb5)
      replace HO := Lib.hid (HO.out.go hb5)
      clear hb5
      have HB0 := Lib.hid (Below.refl wa.drew.heap.size wa.drew)
      have hlt_BP := BP.out.lt
      have hlt_BN := BN.out.lt
      have hlt_BB := BB.out.lt
      have hlt_IB := IB.out.lt
      generalize hw9 : wa.drew = w5 at *
      have hSw : (fun w' : World => Blk w' (p) 177 #[.slice (some ⟨gb, 0, none⟩) n0 n0, .slice (some ⟨gi, 0, none⟩) mb mb, vF, vT, vB, vC, .slice none 0 0, .slice none 0 0] ∧ Blk w' (bn) 29 #[.slice A0 n0 c0, .slice A1 n1 c1, .slice (some ⟨b9, o9, none⟩) n2 c2, .slice A3 n3 c3, .slice A4 n4 c4, .slice A5 n5 c5] ∧ Blk w' (bb) 53 #[.string z.name, .string z.from_, .string z.to_, .int .i64 z.x, .int .i64 z.tap, .int .i64 z.shift, .int .i64 z.limit, .int .i64 z.short, .int .i64 z.hold] ∧ Blk w' (gb) 3 (ints bus).toArray ∧ True) w5 := ⟨BP.out.go HB0.out, BN.out.go HB0.out, BB.out.go HB0.out, IB.out.go HB0.out, trivial⟩
      refine wp_region_mid (fun w' : World => Blk w' (p) 177 #[.slice (some ⟨gb, 0, none⟩) n0 n0, .slice (some ⟨gi, 0, none⟩) mb mb, vF, vT, vB, vC, .slice none 0 0, .slice none 0 0] ∧ Blk w' (bn) 29 #[.slice A0 n0 c0, .slice A1 n1 c1, .slice (some ⟨b9, o9, none⟩) n2 c2, .slice A3 n3 c3, .slice A4 n4 c4, .slice A5 n5 c5] ∧ Blk w' (bb) 53 #[.string z.name, .string z.from_, .string z.to_, .int .i64 z.x, .int .i64 z.tap, .int .i64 z.shift, .int .i64 z.limit, .int .i64 z.short, .int .i64 z.hold] ∧ Blk w' (gb) 3 (ints bus).toArray ∧ True) 21 (by kernel_rfl) ?_
      rw [hw9]
      clear hw9
      refine Tk.go [(0, [19, 20, 21]), (1, [2, 3, 4, 18, 19, 20, 21]), (2, [3, 4, 18, 19, 20, 21]), (3, [4, 18, 19, 20, 21]), (4, [18, 19, 20, 21]), (5, [6, 7, 8, 9, 15, 16, 17, 18, 19, 20, 21]), (6, [7, 8, 9, 15, 16, 17, 18, 19, 20, 21]), (7, [8, 9, 15, 16, 17, 18, 19, 20, 21]), (8, [9, 15, 16, 17, 18, 19, 20, 21]), (9, [15, 16, 17, 18, 19, 20, 21]), (10, [11, 14, 15, 16, 17, 18, 19, 20, 21]), (11, [14, 15, 16, 17, 18, 19, 20, 21]), (12, [13, 14, 15, 16, 17, 18, 19, 20, 21]), (13, [14, 15, 16, 17, 18, 19, 20, 21])] ?_
      iterate 14 (refine Tk.cons rfl (by kernel_rfl) (fun _ _ _ h => h) hSw (by kernel_rfl) (fun w' hSx => by have c0 := hSx.1.cell; have l0 := hSx.1.lt; have c1 := hSx.2.1.cell; have l1 := hSx.2.1.lt; have c2 := hSx.2.2.1.cell; have l2 := hSx.2.2.1.lt; have c3 := hSx.2.2.2.1.cell; have l3 := hSx.2.2.2.1.lt; have ci := IBlk.cell (g := gb) (t := 3) (os := bus) hSx.2.2.2.1 ia.toNat hia2; rw [HXA.out] at ci; clear c3; go_simp; first | done | with_reducible rfl) ?_; simp only [Act.put, List.setIfInBounds_toArray])
      refine Tk.nil ?_
      refine wpAnyM_ready [14] (by kernel_rfl) (by simp) ?_
      refine AllReadyM.cons (by rfl) (fun K hK => ?_) AllReadyM.nil
      go_simp
      refine (HIA.out w5 _ (HM.out.go HB0.out).r0).mono ?_
      rintro e wq1 ⟨rfl, hb5⟩
      replace HB0 := Lib.hid (Below.trans HB0.out (hb5.mono HB0.out.size))
      clear hb5
      clear hSw
      have hSw : (fun w' : World => Blk w' (p) 177 #[.slice (some ⟨gb, 0, none⟩) n0 n0, .slice (some ⟨gi, 0, none⟩) mb mb, vF, vT, vB, vC, .slice none 0 0, .slice none 0 0] ∧ Blk w' (bn) 29 #[.slice A0 n0 c0, .slice A1 n1 c1, .slice (some ⟨b9, o9, none⟩) n2 c2, .slice A3 n3 c3, .slice A4 n4 c4, .slice A5 n5 c5] ∧ Blk w' (bb) 53 #[.string z.name, .string z.from_, .string z.to_, .int .i64 z.x, .int .i64 z.tap, .int .i64 z.shift, .int .i64 z.limit, .int .i64 z.short, .int .i64 z.hold] ∧ Blk w' (gb) 3 (ints bus).toArray ∧ True) wq1 := ⟨BP.out.go HB0.out, BN.out.go HB0.out, BB.out.go HB0.out, IB.out.go HB0.out, trivial⟩
      refine hK.out _ _ hSw ?_
      clear hK K
      refine Tk.go [(15, [16, 17, 18, 19, 20, 21]), (16, [17, 18, 19, 20, 21])] ?_
      iterate 2 (refine Tk.cons rfl (by kernel_rfl) (fun _ _ _ h => h) hSw (by kernel_rfl) (fun w' hSx => by have c0 := hSx.1.cell; have l0 := hSx.1.lt; have c1 := hSx.2.1.cell; have l1 := hSx.2.1.lt; have c2 := hSx.2.2.1.cell; have l2 := hSx.2.2.1.lt; have c3 := hSx.2.2.2.1.cell; have l3 := hSx.2.2.2.1.lt; have ci := IBlk.cell (g := gb) (t := 3) (os := bus) hSx.2.2.2.1 ia.toNat hia2; rw [HXA.out] at ci; clear c3; go_simp; first | done | with_reducible rfl) ?_; simp only [Act.put])
      refine Tk.nil ?_
      refine wpAnyM_ready [17] (by kernel_rfl) (by simp) ?_
      refine AllReadyM.cons (by rfl) (fun K hK => ?_) AllReadyM.nil
      go_simp
      have hb5 := below_one wq1 (.cells #[.int .i64 xa] 3)
      obtain ⟨gx, hg2⟩ : ∃ g : Nat, g = wq1.heap.size := ⟨_, rfl⟩
      have BX := Lib.hid (Blk.new_ wq1 gx 3 #[.int .i64 xa] hg2)
      have hS_BX : w5.heap.size ≤ gx := by have := HB0.out.size; omega
      rw [← hg2]
      replace HB0 := Lib.hid (Below.trans HB0.out (hb5.mono HB0.out.size))
      clear hb5 hg2
      generalize wq1.alloc (.cells #[.int .i64 xa] 3) = wq2 at *
      clear hSw
      have hSw : (fun w' : World => Blk w' (p) 177 #[.slice (some ⟨gb, 0, none⟩) n0 n0, .slice (some ⟨gi, 0, none⟩) mb mb, vF, vT, vB, vC, .slice none 0 0, .slice none 0 0] ∧ Blk w' (bn) 29 #[.slice A0 n0 c0, .slice A1 n1 c1, .slice (some ⟨b9, o9, none⟩) n2 c2, .slice A3 n3 c3, .slice A4 n4 c4, .slice A5 n5 c5] ∧ Blk w' (bb) 53 #[.string z.name, .string z.from_, .string z.to_, .int .i64 z.x, .int .i64 z.tap, .int .i64 z.shift, .int .i64 z.limit, .int .i64 z.short, .int .i64 z.hold] ∧ Blk w' (gb) 3 (ints bus).toArray ∧ True) wq2 := ⟨BP.out.go HB0.out, BN.out.go HB0.out, BB.out.go HB0.out, IB.out.go HB0.out, trivial⟩
      refine hK.out _ _ hSw ?_
      clear hK K
      refine wpAnyM_ready [18] (by kernel_rfl) (by simp) ?_
      refine AllReadyM.cons (by rfl) (fun K hK => ?_) AllReadyM.nil
      replace BP := Lib.hid (BP.out.go HB0.out)
      replace BN := Lib.hid (BN.out.go HB0.out)
      replace BB := Lib.hid (BB.out.go HB0.out)
      replace IB := Lib.hid (IB.out.go HB0.out)
      replace HM := Lib.hid (HM.out.go HB0.out)
      replace HO := Lib.hid (HO.out.go HB0.out)
      obtain ⟨vF9, wq3, hap, hof, hch⟩ := HO.out.pushF xa BX.out hlF
      obtain ⟨AvF, cvF, rfl, _⟩ := hof.f.slice
      rw [HLvF.out] at hap hof
      refine step_append_runF (by rfl) _ _ _ (by rfl) _ _ _ (by rfl) (by rfl) hap ?_
      simp only [Act.put]
      have kBP := hch.blk _ _ _ (HO.out.f.off BP.out (by decide)) BP.out
      have kBN := hch.blk _ _ _ (HO.out.f.off BN.out (by decide)) BN.out
      have kBB := hch.blk _ _ _ (HO.out.f.off BB.out (by decide)) BB.out
      have kIB := hch.blk _ _ _ (fun e => by have := (HO.out.f.own e.symm).1; omega) IB.out
      clear hap hch BP BN BB IB HM HO BX
      have HO := Lib.hid hof
      have BP := Lib.hid kBP
      have BN := Lib.hid kBN
      have BB := Lib.hid kBB
      have IB := Lib.hid kIB
      clear hof kBP kBN kBB kIB
      replace HB0 := Lib.hid (Below.refl wq3.heap.size wq3)
      clear hSw
      have hSw : (fun w' : World => Blk w' (p) 177 #[.slice (some ⟨gb, 0, none⟩) n0 n0, .slice (some ⟨gi, 0, none⟩) mb mb, vF, vT, vB, vC, .slice none 0 0, .slice none 0 0] ∧ Blk w' (bn) 29 #[.slice A0 n0 c0, .slice A1 n1 c1, .slice (some ⟨b9, o9, none⟩) n2 c2, .slice A3 n3 c3, .slice A4 n4 c4, .slice A5 n5 c5] ∧ Blk w' (bb) 53 #[.string z.name, .string z.from_, .string z.to_, .int .i64 z.x, .int .i64 z.tap, .int .i64 z.shift, .int .i64 z.limit, .int .i64 z.short, .int .i64 z.hold] ∧ Blk w' (gb) 3 (ints bus).toArray ∧ True) wq3 := ⟨BP.out, BN.out, BB.out, IB.out, trivial⟩
      refine hK.out _ _ hSw ?_
      clear hK K
      refine Tk.go [(19, [20, 21]), (20, [21])] ?_
      iterate 2 (refine Tk.cons rfl (by kernel_rfl) (fun _ _ _ h => h) hSw (by kernel_rfl) (fun w' hSx => by have c0 := hSx.1.cell; have l0 := hSx.1.lt; have c1 := hSx.2.1.cell; have l1 := hSx.2.1.lt; have c2 := hSx.2.2.1.cell; have l2 := hSx.2.2.1.lt; have c3 := hSx.2.2.2.1.cell; have l3 := hSx.2.2.2.1.lt; have ci := IBlk.cell (g := gb) (t := 3) (os := bus) hSx.2.2.2.1 ia.toNat hia2; rw [HXA.out] at ci; clear c3; go_simp; first | done | with_reducible rfl) ?_; simp only [Act.put])
      refine Tk.nil ?_
      refine wpAnyM_ready [21] (by kernel_rfl) (by simp) ?_
      refine AllReadyM.last (by rfl) (by decide) (fun K hK => ?_)
      have cp := HO.out.blk.cell
      have lp := HO.out.blk.lt
      have fp := HO.out.blk.frozen
      go_simp
      clear cp lp fp
      have hpc := Chg.set HO.out.blk HO.out.nou 2 (.slice AvF k1 cvF)
      have ho3 : OfI wB (wq3.setCell ⟨p, 2, none⟩ (.slice AvF k1 cvF)) p #[.slice (some ⟨gb, 0, none⟩) n0 n0, .slice (some ⟨gi, 0, none⟩) mb mb, .slice AvF k1 cvF, vT, vB, vC, .slice none 0 0, .slice none 0 0] (FF ++ [xa]) TT LB LC (.slice AvF k1 cvF) vT vB vC := HO.out.put 2 (.slice AvF k1 cvF) (fun q e => by cases e)
      have kBB := hpc.blk _ _ _ (fun e => hbbp (Option.some.inj e)) BB.out
      clear hpc HO BP BN BB IB
      generalize wq3.setCell ⟨p, 2, none⟩ (.slice AvF k1 cvF) = wq4 at *
      have HO := Lib.hid ho3
      have BB := Lib.hid kBB
      clear ho3 kBB
      replace HB0 := Lib.hid (Below.refl wq4.heap.size wq4)
      refine hK.out _ _ ?_
      clear hK K
      refine wpAnyM_done (by kernel_rfl) ?_ _
      clear HB0 hSw
      have BP := Lib.hid HO.out.blk
      have BN := Lib.hid (BN4.out.grown HO.out.grown (by simp; omega))
      have IB := Lib.hid (IB4.out.grown HO.out.grown (by simp; omega))
      have HM := Lib.hid (HM0.out.go (D.out.grown HO.out.grown D.out.size (fun g hg => by injection hg with hg; omega)))
      go_upto_region 6 with fail
      have hb5 := (Below.refl wq4.heap.size wq4).drew
      replace BP := Lib.hid (BP.out.go hb5)
      replace BN := Lib.hid (BN.out.go hb5)
      replace BB := Lib.hid (BB.out.go hb5)
      replace IB := Lib.hid (IB.out.go hb5)
      replace HM := Lib.hid (HM.out.go hb5)
      replace HO := Lib.hid (HO.out.go hb5)
      clear hb5
      have HB0 := Lib.hid (Below.refl wq4.drew.heap.size wq4.drew)
      have hlt_BP := BP.out.lt
      have hlt_BN := BN.out.lt
      have hlt_BB := BB.out.lt
      have hlt_IB := IB.out.lt
      generalize hw9 : wq4.drew = w6 at *
      have hSw : (fun w' : World => Blk w' (p) 177 #[.slice (some ⟨gb, 0, none⟩) n0 n0, .slice (some ⟨gi, 0, none⟩) mb mb, .slice AvF k1 cvF, vT, vB, vC, .slice none 0 0, .slice none 0 0] ∧ Blk w' (bn) 29 #[.slice A0 n0 c0, .slice A1 n1 c1, .slice (some ⟨b9, o9, none⟩) n2 c2, .slice A3 n3 c3, .slice A4 n4 c4, .slice A5 n5 c5] ∧ Blk w' (bb) 53 #[.string z.name, .string z.from_, .string z.to_, .int .i64 z.x, .int .i64 z.tap, .int .i64 z.shift, .int .i64 z.limit, .int .i64 z.short, .int .i64 z.hold] ∧ Blk w' (gb) 3 (ints bus).toArray ∧ True) w6 := ⟨BP.out.go HB0.out, BN.out.go HB0.out, BB.out.go HB0.out, IB.out.go HB0.out, trivial⟩
      refine wp_region_mid (fun w' : World => Blk w' (p) 177 #[.slice (some ⟨gb, 0, none⟩) n0 n0, .slice (some ⟨gi, 0, none⟩) mb mb, .slice AvF k1 cvF, vT, vB, vC, .slice none 0 0, .slice none 0 0] ∧ Blk w' (bn) 29 #[.slice A0 n0 c0, .slice A1 n1 c1, .slice (some ⟨b9, o9, none⟩) n2 c2, .slice A3 n3 c3, .slice A4 n4 c4, .slice A5 n5 c5] ∧ Blk w' (bb) 53 #[.string z.name, .string z.from_, .string z.to_, .int .i64 z.x, .int .i64 z.tap, .int .i64 z.shift, .int .i64 z.limit, .int .i64 z.short, .int .i64 z.hold] ∧ Blk w' (gb) 3 (ints bus).toArray ∧ True) 21 (by kernel_rfl) ?_
      rw [hw9]
      clear hw9
      refine Tk.go [(0, [19, 20, 21]), (1, [2, 3, 4, 18, 19, 20, 21]), (2, [3, 4, 18, 19, 20, 21]), (3, [4, 18, 19, 20, 21]), (4, [18, 19, 20, 21]), (5, [6, 7, 8, 9, 15, 16, 17, 18, 19, 20, 21]), (6, [7, 8, 9, 15, 16, 17, 18, 19, 20, 21]), (7, [8, 9, 15, 16, 17, 18, 19, 20, 21]), (8, [9, 15, 16, 17, 18, 19, 20, 21]), (9, [15, 16, 17, 18, 19, 20, 21]), (10, [11, 14, 15, 16, 17, 18, 19, 20, 21]), (11, [14, 15, 16, 17, 18, 19, 20, 21]), (12, [13, 14, 15, 16, 17, 18, 19, 20, 21]), (13, [14, 15, 16, 17, 18, 19, 20, 21])] ?_
      iterate 14 (refine Tk.cons rfl (by kernel_rfl) (fun _ _ _ h => h) hSw (by kernel_rfl) (fun w' hSx => by have c0 := hSx.1.cell; have l0 := hSx.1.lt; have c1 := hSx.2.1.cell; have l1 := hSx.2.1.lt; have c2 := hSx.2.2.1.cell; have l2 := hSx.2.2.1.lt; have c3 := hSx.2.2.2.1.cell; have l3 := hSx.2.2.2.1.lt; have ci := IBlk.cell (g := gb) (t := 3) (os := bus) hSx.2.2.2.1 ib.toNat hib2; rw [HXB.out] at ci; clear c3; go_simp; first | done | with_reducible rfl) ?_; simp only [Act.put, List.setIfInBounds_toArray])
      refine Tk.nil ?_
      refine wpAnyM_ready [14] (by kernel_rfl) (by simp) ?_
      refine AllReadyM.cons (by rfl) (fun K hK => ?_) AllReadyM.nil
      go_simp
      refine (HIB.out w6 _ (HM.out.go HB0.out).r0).mono ?_
      rintro e wq1 ⟨rfl, hb5⟩
      replace HB0 := Lib.hid (Below.trans HB0.out (hb5.mono HB0.out.size))
      clear hb5
      clear hSw
      have hSw : (fun w' : World => Blk w' (p) 177 #[.slice (some ⟨gb, 0, none⟩) n0 n0, .slice (some ⟨gi, 0, none⟩) mb mb, .slice AvF k1 cvF, vT, vB, vC, .slice none 0 0, .slice none 0 0] ∧ Blk w' (bn) 29 #[.slice A0 n0 c0, .slice A1 n1 c1, .slice (some ⟨b9, o9, none⟩) n2 c2, .slice A3 n3 c3, .slice A4 n4 c4, .slice A5 n5 c5] ∧ Blk w' (bb) 53 #[.string z.name, .string z.from_, .string z.to_, .int .i64 z.x, .int .i64 z.tap, .int .i64 z.shift, .int .i64 z.limit, .int .i64 z.short, .int .i64 z.hold] ∧ Blk w' (gb) 3 (ints bus).toArray ∧ True) wq1 := ⟨BP.out.go HB0.out, BN.out.go HB0.out, BB.out.go HB0.out, IB.out.go HB0.out, trivial⟩
      refine hK.out _ _ hSw ?_
      clear hK K
      refine Tk.go [(15, [16, 17, 18, 19, 20, 21]), (16, [17, 18, 19, 20, 21])] ?_
      iterate 2 (refine Tk.cons rfl (by kernel_rfl) (fun _ _ _ h => h) hSw (by kernel_rfl) (fun w' hSx => by have c0 := hSx.1.cell; have l0 := hSx.1.lt; have c1 := hSx.2.1.cell; have l1 := hSx.2.1.lt; have c2 := hSx.2.2.1.cell; have l2 := hSx.2.2.1.lt; have c3 := hSx.2.2.2.1.cell; have l3 := hSx.2.2.2.1.lt; have ci := IBlk.cell (g := gb) (t := 3) (os := bus) hSx.2.2.2.1 ib.toNat hib2; rw [HXB.out] at ci; clear c3; go_simp; first | done | with_reducible rfl) ?_; simp only [Act.put])
      refine Tk.nil ?_
      refine wpAnyM_ready [17] (by kernel_rfl) (by simp) ?_
      refine AllReadyM.cons (by rfl) (fun K hK => ?_) AllReadyM.nil
      go_simp
      have hb5 := below_one wq1 (.cells #[.int .i64 xb] 3)
      obtain ⟨gx, hg2⟩ : ∃ g : Nat, g = wq1.heap.size := ⟨_, rfl⟩
      have BX := Lib.hid (Blk.new_ wq1 gx 3 #[.int .i64 xb] hg2)
      have hS_BX : w6.heap.size ≤ gx := by have := HB0.out.size; omega
      rw [← hg2]
      replace HB0 := Lib.hid (Below.trans HB0.out (hb5.mono HB0.out.size))
      clear hb5 hg2
      generalize wq1.alloc (.cells #[.int .i64 xb] 3) = wq2 at *
      clear hSw
      have hSw : (fun w' : World => Blk w' (p) 177 #[.slice (some ⟨gb, 0, none⟩) n0 n0, .slice (some ⟨gi, 0, none⟩) mb mb, .slice AvF k1 cvF, vT, vB, vC, .slice none 0 0, .slice none 0 0] ∧ Blk w' (bn) 29 #[.slice A0 n0 c0, .slice A1 n1 c1, .slice (some ⟨b9, o9, none⟩) n2 c2, .slice A3 n3 c3, .slice A4 n4 c4, .slice A5 n5 c5] ∧ Blk w' (bb) 53 #[.string z.name, .string z.from_, .string z.to_, .int .i64 z.x, .int .i64 z.tap, .int .i64 z.shift, .int .i64 z.limit, .int .i64 z.short, .int .i64 z.hold] ∧ Blk w' (gb) 3 (ints bus).toArray ∧ True) wq2 := ⟨BP.out.go HB0.out, BN.out.go HB0.out, BB.out.go HB0.out, IB.out.go HB0.out, trivial⟩
      refine hK.out _ _ hSw ?_
      clear hK K
      refine wpAnyM_ready [18] (by kernel_rfl) (by simp) ?_
      refine AllReadyM.cons (by rfl) (fun K hK => ?_) AllReadyM.nil
      replace BP := Lib.hid (BP.out.go HB0.out)
      replace BN := Lib.hid (BN.out.go HB0.out)
      replace BB := Lib.hid (BB.out.go HB0.out)
      replace IB := Lib.hid (IB.out.go HB0.out)
      replace HM := Lib.hid (HM.out.go HB0.out)
      replace HO := Lib.hid (HO.out.go HB0.out)
      obtain ⟨vT9, wq3, hap, hof, hch⟩ := HO.out.pushT xb BX.out hlT
      obtain ⟨AvT, cvT, rfl, _⟩ := hof.t.slice
      rw [HLvT.out] at hap hof
      refine step_append_runF (by rfl) _ _ _ (by rfl) _ _ _ (by rfl) (by rfl) hap ?_
      simp only [Act.put]
      have kBP := hch.blk _ _ _ (HO.out.t.off BP.out (by decide)) BP.out
      have kBN := hch.blk _ _ _ (HO.out.t.off BN.out (by decide)) BN.out
      have kBB := hch.blk _ _ _ (HO.out.t.off BB.out (by decide)) BB.out
      have kIB := hch.blk _ _ _ (fun e => by have := (HO.out.t.own e.symm).1; omega) IB.out
      clear hap hch BP BN BB IB HM HO BX
      have HO := Lib.hid hof
      have BP := Lib.hid kBP
      have BN := Lib.hid kBN
      have BB := Lib.hid kBB
      have IB := Lib.hid kIB
      clear hof kBP kBN kBB kIB
      replace HB0 := Lib.hid (Below.refl wq3.heap.size wq3)
      clear hSw
      have hSw : (fun w' : World => Blk w' (p) 177 #[.slice (some ⟨gb, 0, none⟩) n0 n0, .slice (some ⟨gi, 0, none⟩) mb mb, .slice AvF k1 cvF, vT, vB, vC, .slice none 0 0, .slice none 0 0] ∧ Blk w' (bn) 29 #[.slice A0 n0 c0, .slice A1 n1 c1, .slice (some ⟨b9, o9, none⟩) n2 c2, .slice A3 n3 c3, .slice A4 n4 c4, .slice A5 n5 c5] ∧ Blk w' (bb) 53 #[.string z.name, .string z.from_, .string z.to_, .int .i64 z.x, .int .i64 z.tap, .int .i64 z.shift, .int .i64 z.limit, .int .i64 z.short, .int .i64 z.hold] ∧ Blk w' (gb) 3 (ints bus).toArray ∧ True) wq3 := ⟨BP.out, BN.out, BB.out, IB.out, trivial⟩
      refine hK.out _ _ hSw ?_
      clear hK K
      refine Tk.go [(19, [20, 21]), (20, [21])] ?_
      iterate 2 (refine Tk.cons rfl (by kernel_rfl) (fun _ _ _ h => h) hSw (by kernel_rfl) (fun w' hSx => by have c0 := hSx.1.cell; have l0 := hSx.1.lt; have c1 := hSx.2.1.cell; have l1 := hSx.2.1.lt; have c2 := hSx.2.2.1.cell; have l2 := hSx.2.2.1.lt; have c3 := hSx.2.2.2.1.cell; have l3 := hSx.2.2.2.1.lt; have ci := IBlk.cell (g := gb) (t := 3) (os := bus) hSx.2.2.2.1 ib.toNat hib2; rw [HXB.out] at ci; clear c3; go_simp; first | done | with_reducible rfl) ?_; simp only [Act.put])
      refine Tk.nil ?_
      refine wpAnyM_ready [21] (by kernel_rfl) (by simp) ?_
      refine AllReadyM.last (by rfl) (by decide) (fun K hK => ?_)
      have cp := HO.out.blk.cell
      have lp := HO.out.blk.lt
      have fp := HO.out.blk.frozen
      go_simp
      clear cp lp fp
      have hpc := Chg.set HO.out.blk HO.out.nou 3 (.slice AvT k1 cvT)
      have ho3 : OfI wB (wq3.setCell ⟨p, 3, none⟩ (.slice AvT k1 cvT)) p #[.slice (some ⟨gb, 0, none⟩) n0 n0, .slice (some ⟨gi, 0, none⟩) mb mb, .slice AvF k1 cvF, .slice AvT k1 cvT, vB, vC, .slice none 0 0, .slice none 0 0] (FF ++ [xa]) (TT ++ [xb]) LB LC (.slice AvF k1 cvF) (.slice AvT k1 cvT) vB vC := HO.out.put 3 (.slice AvT k1 cvT) (fun q e => by cases e)
      have kBB := hpc.blk _ _ _ (fun e => hbbp (Option.some.inj e)) BB.out
      clear hpc HO BP BN BB IB
      generalize wq3.setCell ⟨p, 3, none⟩ (.slice AvT k1 cvT) = wq4 at *
      have HO := Lib.hid ho3
      have BB := Lib.hid kBB
      clear ho3 kBB
      replace HB0 := Lib.hid (Below.refl wq4.heap.size wq4)
      refine hK.out _ _ ?_
      clear hK K
      refine wpAnyM_done (by kernel_rfl) ?_ _
      clear HB0 hSw
      have hbo9 := braOut_no hbo
      obtain ⟨mm, hmm⟩ : ∃ m, m = z.x * z.tap := ⟨_, rfl⟩
      have hm0 : 500 ≤ mm := by
        rw [hmm]
        have : 1 * 500 ≤ z.x * z.tap := Int.mul_le_mul hbo9.1 hbo9.2.2.1 (by omega) (by omega)
        omega
      have hm1 : mm ≤ 15000000 := by
        rw [hmm]
        have : z.x * z.tap ≤ 10000 * 1500 := Int.mul_le_mul hbo9.2.1 hbo9.2.2.2.1 (by omega) (by omega)
        omega
      have HSU : Hid (Rat.divInt 1000000 mm = Pl.sus z) := by show _ = _; rw [hmm]; rfl
      have hmz : z.x * z.tap = mm := hmm.symm
      clear hmm
      have HSS : Pl.rsz (Pl.sus z) ≤ 2 := sus_rsz hbo
      obtain ⟨sh, hsh⟩ : ∃ s, s = -z.shift := ⟨_, rfl⟩
      have hs0 : -1000 ≤ sh := by omega
      have hs1 : sh ≤ 1000 := by omega
      have HCO : Hid (Pl.sus z * Rat.divInt sh 1000 = Pl.con z) := by show _ = _; rw [hsh]; rfl
      have HSD : Pl.rsz (Rat.divInt sh 1000) ≤ 2 := rsz_quot (by omega) (by decide) (by omega)
      have hsz : -z.shift = sh := hsh.symm
      have hsw : IntKind.i64.wrap sh = sh := IntWalk.i64_in _ (by omega)
      clear hsh hbo9
      have cb := BB.out.cell
      have lb := BB.out.lt
      go_wp2_with fail
      refine (frac_any 1000000 mm wq4 (by omega) (by omega) (by omega) (by omega) (by omega)).mono ?_
      rintro e ws ⟨x, rfl, hx, hb5⟩
      rw [HSU.out] at hx
      have HQ := Lib.hid hx
      replace BB := Lib.hid (BB.out.go hb5)
      replace HO := Lib.hid (HO.out.go hb5)
      clear hx hb5 cb lb
      go_wp2_with fail
      have hb5 := below_oneS ws (.cells #[.bool x.N.b, .slice x.N.A x.N.n x.N.c, .bool x.D.b, .slice x.D.A x.D.n x.D.c] 105)
      obtain ⟨bs, hbs⟩ : ∃ b : Nat, b = ws.heap.size := ⟨_, rfl⟩
      have BS := Lib.hid (Blk.new_ ws bs 105 #[.bool x.N.b, .slice x.N.A x.N.n x.N.c, .bool x.D.b, .slice x.D.A x.D.n x.D.c] hbs)
      have HLB : Hid (∀ b, vB.ownBlock = some b → b < bs) := fun b hb => by have := (HO.out.b.own hb).2.1; omega
      have HLC : Hid (∀ b, vC.ownBlock = some b → b < bs) := fun b hb => by have := (HO.out.c.own hb).2.1; omega
      have hbsp : bs ≠ p := by have := HO.out.grown.size; have := HO.out.lp; omega
      rw [← hbs]
      replace BB := Lib.hid (BB.out.go hb5)
      replace HQ := Lib.hid (HQ.out.go hb5)
      replace HO := Lib.hid (HO.out.go hb5)
      clear hb5 hbs
      generalize ws.alloc (.cells #[.bool x.N.b, .slice x.N.A x.N.n x.N.c, .bool x.D.b, .slice x.D.A x.D.n x.D.c] 105) = wt at *
      have BP := Lib.hid HO.out.blk
      go_upto_region 8 with fail
      have hb5 := (Below.refl wt.heap.size wt).drew
      replace BP := Lib.hid (BP.out.go hb5)
      replace BB := Lib.hid (BB.out.go hb5)
      replace BS := Lib.hid (BS.out.go hb5)
      replace HQ := Lib.hid (HQ.out.go hb5)
      replace HO := Lib.hid (HO.out.go hb5)
      clear hb5
      have HB0 := Lib.hid (Below.refl wt.drew.heap.size wt.drew)
      have hlt_BP := BP.out.lt
      have hlt_BB := BB.out.lt
      have hlt_BS := BS.out.lt
      generalize hw9 : wt.drew = w8 at *
      have hSw : (fun w' : World => Blk w' (p) 177 #[.slice (some ⟨gb, 0, none⟩) n0 n0, .slice (some ⟨gi, 0, none⟩) mb mb, .slice AvF k1 cvF, .slice AvT k1 cvT, vB, vC, .slice none 0 0, .slice none 0 0] ∧ Blk w' (bb) 53 #[.string z.name, .string z.from_, .string z.to_, .int .i64 z.x, .int .i64 z.tap, .int .i64 z.shift, .int .i64 z.limit, .int .i64 z.short, .int .i64 z.hold] ∧ Blk w' (bs) 105 #[.bool x.N.b, .slice x.N.A x.N.n x.N.c, .bool x.D.b, .slice x.D.A x.D.n x.D.c] ∧ True) w8 := ⟨BP.out.go HB0.out, BB.out.go HB0.out, BS.out.go HB0.out, trivial⟩
      refine wp_region_mid (fun w' : World => Blk w' (p) 177 #[.slice (some ⟨gb, 0, none⟩) n0 n0, .slice (some ⟨gi, 0, none⟩) mb mb, .slice AvF k1 cvF, .slice AvT k1 cvT, vB, vC, .slice none 0 0, .slice none 0 0] ∧ Blk w' (bb) 53 #[.string z.name, .string z.from_, .string z.to_, .int .i64 z.x, .int .i64 z.tap, .int .i64 z.shift, .int .i64 z.limit, .int .i64 z.short, .int .i64 z.hold] ∧ Blk w' (bs) 105 #[.bool x.N.b, .slice x.N.A x.N.n x.N.c, .bool x.D.b, .slice x.D.A x.D.n x.D.c] ∧ True) 10 (by kernel_rfl) ?_
      rw [hw9]
      clear hw9
      refine Tk.go [(0, [8, 9, 10]), (1, [2, 3, 4, 7, 8, 9, 10]), (2, [3, 4, 7, 8, 9, 10]), (3, [4, 7, 8, 9, 10]), (4, [7, 8, 9, 10]), (5, [6, 7, 8, 9, 10])] ?_
      iterate 6 (refine Tk.cons rfl (by kernel_rfl) (fun _ _ _ h => h) hSw (by kernel_rfl) (fun w' hSx => by have c0 := hSx.1.cell; have l0 := hSx.1.lt; have c1 := hSx.2.1.cell; have l1 := hSx.2.1.lt; have c2 := hSx.2.2.1.cell; have l2 := hSx.2.2.1.lt; go_simp; first | done | with_reducible rfl) ?_; simp only [Act.put, List.setIfInBounds_toArray])
      refine Tk.nil ?_
      refine wpAnyM_ready [6] (by kernel_rfl) (by simp) ?_
      refine AllReadyM.cons (by rfl) (fun K hK => ?_) AllReadyM.nil
      go_simp
      have hb5 := below_one w8 (.cells #[.bool x.N.b, .slice x.N.A x.N.n x.N.c, .bool x.D.b, .slice x.D.A x.D.n x.D.c] 105)
      obtain ⟨gx, hg2⟩ : ∃ g : Nat, g = w8.heap.size := ⟨_, rfl⟩
      have BX := Lib.hid (Blk.new_ w8 gx 105 #[.bool x.N.b, .slice x.N.A x.N.n x.N.c, .bool x.D.b, .slice x.D.A x.D.n x.D.c] hg2)
      have hS_BX : w8.heap.size ≤ gx := by have := HB0.out.size; omega
      rw [← hg2]
      replace HB0 := Lib.hid (Below.trans HB0.out (hb5.mono HB0.out.size))
      clear hb5 hg2
      generalize w8.alloc (.cells #[.bool x.N.b, .slice x.N.A x.N.n x.N.c, .bool x.D.b, .slice x.D.A x.D.n x.D.c] 105) = wq1 at *
      clear hSw
      have hSw : (fun w' : World => Blk w' (p) 177 #[.slice (some ⟨gb, 0, none⟩) n0 n0, .slice (some ⟨gi, 0, none⟩) mb mb, .slice AvF k1 cvF, .slice AvT k1 cvT, vB, vC, .slice none 0 0, .slice none 0 0] ∧ Blk w' (bb) 53 #[.string z.name, .string z.from_, .string z.to_, .int .i64 z.x, .int .i64 z.tap, .int .i64 z.shift, .int .i64 z.limit, .int .i64 z.short, .int .i64 z.hold] ∧ Blk w' (bs) 105 #[.bool x.N.b, .slice x.N.A x.N.n x.N.c, .bool x.D.b, .slice x.D.A x.D.n x.D.c] ∧ True) wq1 := ⟨BP.out.go HB0.out, BB.out.go HB0.out, BS.out.go HB0.out, trivial⟩
      refine hK.out _ _ hSw ?_
      clear hK K
      refine wpAnyM_ready [7] (by kernel_rfl) (by simp) ?_
      refine AllReadyM.cons (by rfl) (fun K hK => ?_) AllReadyM.nil
      replace BP := Lib.hid (BP.out.go HB0.out)
      replace BB := Lib.hid (BB.out.go HB0.out)
      replace BS := Lib.hid (BS.out.go HB0.out)
      replace HQ := Lib.hid (HQ.out.go HB0.out)
      replace HO := Lib.hid (HO.out.go HB0.out)
      obtain ⟨vB9, wq2, hap, hof, hch⟩ := HO.out.pushB (Pl.sus z) (x := x) BX.out HQ.out hlB
      obtain ⟨AvB, cvB, rfl, _⟩ := hof.b.slice
      rw [HLvB.out] at hap hof
      refine step_append_runF (by rfl) _ _ _ (by rfl) _ _ _ (by rfl) (by rfl) hap ?_
      simp only [Act.put]
      have kBP := hch.blk _ _ _ (HO.out.b.off BP.out (by decide)) BP.out
      have kBB := hch.blk _ _ _ (HO.out.b.off BB.out (by decide)) BB.out
      have kBS := hch.blk _ _ _ (fun e => by have := HLB.out _ e.symm; omega) BS.out
      have kHQ := hch.num _ _ HQ.out
      clear hap hch BP BB BS HQ HO BX
      have HO := Lib.hid hof
      have BP := Lib.hid kBP
      have BB := Lib.hid kBB
      have BS := Lib.hid kBS
      have HQ := Lib.hid kHQ
      clear hof kBP kBB kBS kHQ
      replace HB0 := Lib.hid (Below.refl wq2.heap.size wq2)
      clear hSw
      have hSw : (fun w' : World => Blk w' (p) 177 #[.slice (some ⟨gb, 0, none⟩) n0 n0, .slice (some ⟨gi, 0, none⟩) mb mb, .slice AvF k1 cvF, .slice AvT k1 cvT, vB, vC, .slice none 0 0, .slice none 0 0] ∧ Blk w' (bb) 53 #[.string z.name, .string z.from_, .string z.to_, .int .i64 z.x, .int .i64 z.tap, .int .i64 z.shift, .int .i64 z.limit, .int .i64 z.short, .int .i64 z.hold] ∧ Blk w' (bs) 105 #[.bool x.N.b, .slice x.N.A x.N.n x.N.c, .bool x.D.b, .slice x.D.A x.D.n x.D.c] ∧ True) wq2 := ⟨BP.out, BB.out, BS.out, trivial⟩
      refine hK.out _ _ hSw ?_
      clear hK K
      refine Tk.go [(8, [9, 10]), (9, [10])] ?_
      iterate 2 (refine Tk.cons rfl (by kernel_rfl) (fun _ _ _ h => h) hSw (by kernel_rfl) (fun w' hSx => by have c0 := hSx.1.cell; have l0 := hSx.1.lt; have c1 := hSx.2.1.cell; have l1 := hSx.2.1.lt; have c2 := hSx.2.2.1.cell; have l2 := hSx.2.2.1.lt; go_simp; first | done | with_reducible rfl) ?_; simp only [Act.put])
      refine Tk.nil ?_
      refine wpAnyM_ready [10] (by kernel_rfl) (by simp) ?_
      refine AllReadyM.last (by rfl) (by decide) (fun K hK => ?_)
      have cp := HO.out.blk.cell
      have lp := HO.out.blk.lt
      have fp := HO.out.blk.frozen
      go_simp
      clear cp lp fp
      have hpc := Chg.set HO.out.blk HO.out.nou 4 (.slice AvB k1 cvB)
      have ho3 : OfI wB (wq2.setCell ⟨p, 4, none⟩ (.slice AvB k1 cvB)) p #[.slice (some ⟨gb, 0, none⟩) n0 n0, .slice (some ⟨gi, 0, none⟩) mb mb, .slice AvF k1 cvF, .slice AvT k1 cvT, .slice AvB k1 cvB, vC, .slice none 0 0, .slice none 0 0] (FF ++ [xa]) (TT ++ [xb]) (LB ++ [(Pl.sus z, x)]) LC (.slice AvF k1 cvF) (.slice AvT k1 cvT) (.slice AvB k1 cvB) vC := HO.out.put 4 (.slice AvB k1 cvB) (fun q e => by cases e)
      have kBB := hpc.blk _ _ _ (fun e => hbbp (Option.some.inj e)) BB.out
      have kBS := hpc.blk _ _ _ (fun e => hbsp (Option.some.inj e)) BS.out
      have kHQ := hpc.num _ _ HQ.out
      clear hpc HO BP BB BS HQ
      generalize wq2.setCell ⟨p, 4, none⟩ (.slice AvB k1 cvB) = wq3 at *
      have HO := Lib.hid ho3
      have BB := Lib.hid kBB
      have BS := Lib.hid kBS
      have HQ := Lib.hid kHQ
      clear ho3 kBB kBS kHQ
      replace HB0 := Lib.hid (Below.refl wq3.heap.size wq3)
      refine hK.out _ _ ?_
      clear hK K
      refine wpAnyM_done (by kernel_rfl) ?_ _
      clear HB0 hSw
      have BP := Lib.hid HO.out.blk
      go_upto_region 9 with fail
      have hb5 := (Below.refl wq3.heap.size wq3).drew
      replace BP := Lib.hid (BP.out.go hb5)
      replace BB := Lib.hid (BB.out.go hb5)
      replace BS := Lib.hid (BS.out.go hb5)
      replace HQ := Lib.hid (HQ.out.go hb5)
      replace HO := Lib.hid (HO.out.go hb5)
      clear hb5
      have HB0 := Lib.hid (Below.refl wq3.drew.heap.size wq3.drew)
      have hlt_BP := BP.out.lt
      have hlt_BB := BB.out.lt
      have hlt_BS := BS.out.lt
      generalize hw9 : wq3.drew = w9 at *
      have hSw : (fun w' : World => Blk w' (p) 177 #[.slice (some ⟨gb, 0, none⟩) n0 n0, .slice (some ⟨gi, 0, none⟩) mb mb, .slice AvF k1 cvF, .slice AvT k1 cvT, .slice AvB k1 cvB, vC, .slice none 0 0, .slice none 0 0] ∧ Blk w' (bb) 53 #[.string z.name, .string z.from_, .string z.to_, .int .i64 z.x, .int .i64 z.tap, .int .i64 z.shift, .int .i64 z.limit, .int .i64 z.short, .int .i64 z.hold] ∧ Blk w' (bs) 105 #[.bool x.N.b, .slice x.N.A x.N.n x.N.c, .bool x.D.b, .slice x.D.A x.D.n x.D.c] ∧ True) w9 := ⟨BP.out.go HB0.out, BB.out.go HB0.out, BS.out.go HB0.out, trivial⟩
      refine wp_region_mid (fun w' : World => Blk w' (p) 177 #[.slice (some ⟨gb, 0, none⟩) n0 n0, .slice (some ⟨gi, 0, none⟩) mb mb, .slice AvF k1 cvF, .slice AvT k1 cvT, .slice AvB k1 cvB, vC, .slice none 0 0, .slice none 0 0] ∧ Blk w' (bb) 53 #[.string z.name, .string z.from_, .string z.to_, .int .i64 z.x, .int .i64 z.tap, .int .i64 z.shift, .int .i64 z.limit, .int .i64 z.short, .int .i64 z.hold] ∧ Blk w' (bs) 105 #[.bool x.N.b, .slice x.N.A x.N.n x.N.c, .bool x.D.b, .slice x.D.A x.D.n x.D.c] ∧ True) 15 (by kernel_rfl) ?_
      rw [hw9]
      clear hw9
      refine Tk.go [(0, [13, 14, 15]), (1, [2, 3, 4, 12, 13, 14, 15]), (2, [3, 4, 12, 13, 14, 15]), (3, [4, 12, 13, 14, 15]), (4, [12, 13, 14, 15]), (5, [10, 11, 12, 13, 14, 15]), (6, [7, 8, 9, 10, 11, 12, 13, 14, 15]), (7, [8, 9, 10, 11, 12, 13, 14, 15]), (8, [9, 10, 11, 12, 13, 14, 15])] ?_
      iterate 9 (refine Tk.cons rfl (by kernel_rfl) (fun _ _ _ h => h) hSw (by kernel_rfl) (fun w' hSx => by have c0 := hSx.1.cell; have l0 := hSx.1.lt; have c1 := hSx.2.1.cell; have l1 := hSx.2.1.lt; have c2 := hSx.2.2.1.cell; have l2 := hSx.2.2.1.lt; go_simp; first | done | with_reducible rfl) ?_; simp only [Act.put, List.setIfInBounds_toArray])
      refine Tk.nil ?_
      refine wpAnyM_ready [9] (by kernel_rfl) (by simp) ?_
      refine AllReadyM.cons (by rfl) (fun K hK => ?_) AllReadyM.nil
      go_simp
      refine (frac_any sh 1000 w9 (by omega) (by omega) (by omega) (by omega) (by omega)).mono ?_
      rintro e wq1 ⟨d, rfl, hd9, hb5⟩
      replace HB0 := Lib.hid (Below.trans HB0.out (hb5.mono HB0.out.size))
      have HD9 := Lib.hid hd9
      clear hd9
      clear hb5
      clear hSw
      have hSw : (fun w' : World => Blk w' (p) 177 #[.slice (some ⟨gb, 0, none⟩) n0 n0, .slice (some ⟨gi, 0, none⟩) mb mb, .slice AvF k1 cvF, .slice AvT k1 cvT, .slice AvB k1 cvB, vC, .slice none 0 0, .slice none 0 0] ∧ Blk w' (bb) 53 #[.string z.name, .string z.from_, .string z.to_, .int .i64 z.x, .int .i64 z.tap, .int .i64 z.shift, .int .i64 z.limit, .int .i64 z.short, .int .i64 z.hold] ∧ Blk w' (bs) 105 #[.bool x.N.b, .slice x.N.A x.N.n x.N.c, .bool x.D.b, .slice x.D.A x.D.n x.D.c] ∧ True) wq1 := ⟨BP.out.go HB0.out, BB.out.go HB0.out, BS.out.go HB0.out, trivial⟩
      refine hK.out _ _ hSw ?_
      clear hK K
      refine wpAnyM_ready [10] (by kernel_rfl) (by simp) ?_
      refine AllReadyM.cons (by rfl) (fun K hK => ?_) AllReadyM.nil
      go_simp
      refine (rmul_any (HQ.out.go HB0.out) HD9.out (by omega) (by omega)).mono ?_
      rintro e wq2 ⟨y, rfl, hy9, hb5⟩
      clear HD9
      replace HB0 := Lib.hid (Below.trans HB0.out (hb5.mono HB0.out.size))
      rw [HCO.out] at hy9
      have HY := Lib.hid hy9
      clear hy9
      clear hb5
      clear hSw
      have hSw : (fun w' : World => Blk w' (p) 177 #[.slice (some ⟨gb, 0, none⟩) n0 n0, .slice (some ⟨gi, 0, none⟩) mb mb, .slice AvF k1 cvF, .slice AvT k1 cvT, .slice AvB k1 cvB, vC, .slice none 0 0, .slice none 0 0] ∧ Blk w' (bb) 53 #[.string z.name, .string z.from_, .string z.to_, .int .i64 z.x, .int .i64 z.tap, .int .i64 z.shift, .int .i64 z.limit, .int .i64 z.short, .int .i64 z.hold] ∧ Blk w' (bs) 105 #[.bool x.N.b, .slice x.N.A x.N.n x.N.c, .bool x.D.b, .slice x.D.A x.D.n x.D.c] ∧ True) wq2 := ⟨BP.out.go HB0.out, BB.out.go HB0.out, BS.out.go HB0.out, trivial⟩
      refine hK.out _ _ hSw ?_
      clear hK K
      refine wpAnyM_ready [11] (by kernel_rfl) (by simp) ?_
      refine AllReadyM.cons (by rfl) (fun K hK => ?_) AllReadyM.nil
      go_simp
      have hb5 := below_one wq2 (.cells #[.bool y.N.b, .slice y.N.A y.N.n y.N.c, .bool y.D.b, .slice y.D.A y.D.n y.D.c] 105)
      obtain ⟨gx, hg2⟩ : ∃ g : Nat, g = wq2.heap.size := ⟨_, rfl⟩
      have BX := Lib.hid (Blk.new_ wq2 gx 105 #[.bool y.N.b, .slice y.N.A y.N.n y.N.c, .bool y.D.b, .slice y.D.A y.D.n y.D.c] hg2)
      have hS_BX : w9.heap.size ≤ gx := by have := HB0.out.size; omega
      rw [← hg2]
      replace HY := Lib.hid (HY.out.go hb5)
      replace HB0 := Lib.hid (Below.trans HB0.out (hb5.mono HB0.out.size))
      clear hb5 hg2
      generalize wq2.alloc (.cells #[.bool y.N.b, .slice y.N.A y.N.n y.N.c, .bool y.D.b, .slice y.D.A y.D.n y.D.c] 105) = wq3 at *
      clear hSw
      have hSw : (fun w' : World => Blk w' (p) 177 #[.slice (some ⟨gb, 0, none⟩) n0 n0, .slice (some ⟨gi, 0, none⟩) mb mb, .slice AvF k1 cvF, .slice AvT k1 cvT, .slice AvB k1 cvB, vC, .slice none 0 0, .slice none 0 0] ∧ Blk w' (bb) 53 #[.string z.name, .string z.from_, .string z.to_, .int .i64 z.x, .int .i64 z.tap, .int .i64 z.shift, .int .i64 z.limit, .int .i64 z.short, .int .i64 z.hold] ∧ Blk w' (bs) 105 #[.bool x.N.b, .slice x.N.A x.N.n x.N.c, .bool x.D.b, .slice x.D.A x.D.n x.D.c] ∧ True) wq3 := ⟨BP.out.go HB0.out, BB.out.go HB0.out, BS.out.go HB0.out, trivial⟩
      refine hK.out _ _ hSw ?_
      clear hK K
      refine wpAnyM_ready [12] (by kernel_rfl) (by simp) ?_
      refine AllReadyM.cons (by rfl) (fun K hK => ?_) AllReadyM.nil
      replace BP := Lib.hid (BP.out.go HB0.out)
      replace BB := Lib.hid (BB.out.go HB0.out)
      replace BS := Lib.hid (BS.out.go HB0.out)
      replace HQ := Lib.hid (HQ.out.go HB0.out)
      replace HO := Lib.hid (HO.out.go HB0.out)
      obtain ⟨vC9, wq4, hap, hof, hch⟩ := HO.out.pushC (Pl.con z) (x := y) BX.out HY.out hlC
      obtain ⟨AvC, cvC, rfl, _⟩ := hof.c.slice
      rw [HLvC.out] at hap hof
      refine step_append_runF (by rfl) _ _ _ (by rfl) _ _ _ (by rfl) (by rfl) hap ?_
      simp only [Act.put]
      have kBP := hch.blk _ _ _ (HO.out.c.off BP.out (by decide)) BP.out
      have kBB := hch.blk _ _ _ (HO.out.c.off BB.out (by decide)) BB.out
      have kBS := hch.blk _ _ _ (fun e => by have := HLC.out _ e.symm; omega) BS.out
      clear hap hch BP BB BS HQ HO HY BX
      have HO := Lib.hid hof
      have BP := Lib.hid kBP
      have BB := Lib.hid kBB
      have BS := Lib.hid kBS
      clear hof kBP kBB kBS
      replace HB0 := Lib.hid (Below.refl wq4.heap.size wq4)
      clear hSw
      have hSw : (fun w' : World => Blk w' (p) 177 #[.slice (some ⟨gb, 0, none⟩) n0 n0, .slice (some ⟨gi, 0, none⟩) mb mb, .slice AvF k1 cvF, .slice AvT k1 cvT, .slice AvB k1 cvB, vC, .slice none 0 0, .slice none 0 0] ∧ Blk w' (bb) 53 #[.string z.name, .string z.from_, .string z.to_, .int .i64 z.x, .int .i64 z.tap, .int .i64 z.shift, .int .i64 z.limit, .int .i64 z.short, .int .i64 z.hold] ∧ Blk w' (bs) 105 #[.bool x.N.b, .slice x.N.A x.N.n x.N.c, .bool x.D.b, .slice x.D.A x.D.n x.D.c] ∧ True) wq4 := ⟨BP.out, BB.out, BS.out, trivial⟩
      refine hK.out _ _ hSw ?_
      clear hK K
      refine Tk.go [(13, [14, 15]), (14, [15])] ?_
      iterate 2 (refine Tk.cons rfl (by kernel_rfl) (fun _ _ _ h => h) hSw (by kernel_rfl) (fun w' hSx => by have c0 := hSx.1.cell; have l0 := hSx.1.lt; have c1 := hSx.2.1.cell; have l1 := hSx.2.1.lt; have c2 := hSx.2.2.1.cell; have l2 := hSx.2.2.1.lt; go_simp; first | done | with_reducible rfl) ?_; simp only [Act.put])
      refine Tk.nil ?_
      refine wpAnyM_ready [15] (by kernel_rfl) (by simp) ?_
      refine AllReadyM.last (by rfl) (by decide) (fun K hK => ?_)
      have cp := HO.out.blk.cell
      have lp := HO.out.blk.lt
      have fp := HO.out.blk.frozen
      go_simp
      clear cp lp fp
      have hpc := Chg.set HO.out.blk HO.out.nou 5 (.slice AvC k1 cvC)
      have ho3 : OfI wB (wq4.setCell ⟨p, 5, none⟩ (.slice AvC k1 cvC)) p #[.slice (some ⟨gb, 0, none⟩) n0 n0, .slice (some ⟨gi, 0, none⟩) mb mb, .slice AvF k1 cvF, .slice AvT k1 cvT, .slice AvB k1 cvB, .slice AvC k1 cvC, .slice none 0 0, .slice none 0 0] (FF ++ [xa]) (TT ++ [xb]) (LB ++ [(Pl.sus z, x)]) (LC ++ [(Pl.con z, y)]) (.slice AvF k1 cvF) (.slice AvT k1 cvT) (.slice AvB k1 cvB) (.slice AvC k1 cvC) := HO.out.put 5 (.slice AvC k1 cvC) (fun q e => by cases e)
      have kBB := hpc.blk _ _ _ (fun e => hbbp (Option.some.inj e)) BB.out
      have kBS := hpc.blk _ _ _ (fun e => hbsp (Option.some.inj e)) BS.out
      clear hpc HO BP BB BS
      generalize wq4.setCell ⟨p, 5, none⟩ (.slice AvC k1 cvC) = wq5 at *
      have HO := Lib.hid ho3
      have BB := Lib.hid kBB
      have BS := Lib.hid kBS
      clear ho3 kBB kBS
      replace HB0 := Lib.hid (Below.refl wq5.heap.size wq5)
      refine hK.out _ _ ?_
      clear hK K
      refine wpAnyM_done (by kernel_rfl) ?_ _
      clear HB0 hSw
      go_wp2_with fail
      go_roundw
      case rel =>
        refine ⟨k + 1, LB ++ [(Pl.sus z, x)], LC ++ [(Pl.con z, y)], _, _, _, _, by omega, by go_num, ?_, ?_, by rw [HTF.out, HTT.out]; exact HO⟩
        · show _ = _
          rw [HT.out, List.map_append, List.map_append, HVB.out]
          rfl
        · show _ = _
          rw [HT.out, List.map_append, List.map_append, HVC.out]
          rfl
      case measure => simp [intOf]; omega
    · obtain rfl : n2 = k := by omega
      have hT9 : N.branches.take n2 = N.branches := List.take_of_length_le (by rw [HL2.out]; exact Nat.le_refl _)
      rw [hT9] at HVB HVC HO
      have HLF : Hid ((Pl.frs N bus N.branches).length = n2) := by show _ = _; unfold Pl.frs; rw [List.length_map, HL2.out]
      have HLT : Hid ((Pl.tos N bus N.branches).length = n2) := by show _ = _; unfold Pl.tos; rw [List.length_map, HL2.out]
      have HLB : Hid (LB.length = n2) := by show _ = _; have := congrArg List.length HVB.out; rwa [List.length_map, List.length_map, HL2.out] at this
      have HLC : Hid (LC.length = n2) := by show _ = _; have := congrArg List.length HVC.out; rwa [List.length_map, List.length_map, HL2.out] at this
      obtain ⟨AF, cF, rfl, _⟩ := HO.out.f.slice
      obtain ⟨AT, cT, rfl, _⟩ := HO.out.t.slice
      obtain ⟨AB, cB, rfl, _⟩ := HO.out.b.slice
      obtain ⟨AC, cC, rfl, _⟩ := HO.out.c.slice
      rw [HLF.out, HLT.out, HLB.out, HLC.out] at HO
      have HII := Lib.hid (II4.out.grown HO.out.grown (by simp; omega))
      have cp := HO.out.blk.cell
      have lp := HO.out.blk.lt
      obtain ⟨wC, rfl⟩ : ∃ x, x = wr := ⟨_, rfl⟩
      have HJ0 : Hid (OfJ wC (wC.alloc (.map #[] 0)) p wC.heap.size 0 (wC.heap.size + 1) #[.slice (some ⟨gb, 0, none⟩) n0 n0, .slice (some ⟨gi, 0, none⟩) mb mb, .slice AF n2 cF, .slice AT n2 cT, .slice AB n2 cB, .slice AC n2 cC, .slice none 0 0, .slice none 0 0] (Pl.freeTo isl 0) [] (.slice none 0 0)) :=
        ⟨HO.out.blk.alloc _, HO.out.nou, OQ.none_ _ _ _ _, ISeen.made wC, World.grownBy_alloc wC _ _, Nat.le_refl _, by omega, by simp⟩
      have hmm : ∀ w : World, (Instr.makeMap 195 none).run Tryz.prog w = .ok (.map (some w.heap.size)) (w.alloc (.map #[] 0)) := fun w => run_makeMap _ w
      go_wp2_with fail
      obtain ⟨bm, hbm⟩ : ∃ b : Nat, b = wC.heap.size := ⟨_, rfl⟩
      rw [← hbm] at HJ0 ⊢
      have hpm : p < wC.heap.size := lp
      have HBM := Lib.hid hbm
      clear hbm cp lp BN IB D9 hmm
      generalize wC.alloc (.map #[] 0) = wM at *
      go_loopw [102] (fun sv wx => ∃ (i nn : Nat) (seen : List Int) (vR : Value), i ≤ mb ∧ nn ≤ i ∧ sv = .int .i64 (i : Int) ∧ Hid (∀ z, z ∈ seen ↔ z ∈ isl.take i) ∧
        Hid (OfJ wC wx p bm nn (bm + 1) #[.slice (some ⟨gb, 0, none⟩) n0 n0, .slice (some ⟨gi, 0, none⟩) mb mb, .slice AF n2 cF, .slice AT n2 cT, .slice AB n2 cB, .slice AC n2 cC, vR, .slice none 0 0] (Pl.freeTo isl i) seen vR)) (fun sv _ => mb - (intOf sv).toNat)
      case atStart => exact ⟨0, 0, [], _, Nat.zero_le _, Nat.le_refl _, rfl, Lib.hid (fun z => by simp), HJ0⟩
      case round =>
        clear HJ0
        obtain ⟨i, nn, seen, vR, hi, hnn, rfl, HSN, HJ⟩ := hrel
        have hmb24 : mb ≤ 24 := by have h1 := HTOP.out.buses.few; have h2 := HL0.out; omega
        have hisl : isl.length = mb := HTOP.out.isles.len
        by_cases hlt : i < mb
        · have hi9 : i < isl.length := by omega
          have hne : some gi ≠ some p := by simp; omega
          have hcI := IBlk.cell (g := gi) (t := 3) (os := isl) (HII.out.grown HJ.out.grown hne) i hi9
          have hli := (HII.out.grown HJ.out.grown hne).lt
          have hrng := HTOP.out.isles.at_ (v := (i : Int)) (by omega) (by omega)
          have hmi : mi ≤ 24 := by have := HTOP.out.isles.few; omega
          obtain ⟨c, hc⟩ : ∃ c, c = isl.getD i 0 := ⟨_, rfl⟩
          have hc2 : c = isl[i] := by rw [hc, List.getD_eq_getElem?_getD, List.getElem?_eq_getElem hi9]; rfl
          rw [Pl.lab_at hi9, ← hc2] at hrng
          rw [← hc] at hcI
          have HFN := Lib.hid (Pl.freeTo_next isl i)
          have HMC : Hid ((∃ j, j < i ∧ isl.getD j (-1) = isl.getD i (-1)) ↔ c ∈ seen) := by
            show _ ↔ _
            rw [mem_take_getD hi9, ← hc2, HSN.out]
          have HSN2 : Hid (∀ z, z ∈ c :: seen ↔ z ∈ isl.take (i + 1)) := fun z => by
            rw [List.take_succ_eq_append_getElem hi9, List.mem_append, List.mem_singleton, List.mem_cons, HSN.out, ← hc2]
            exact ⟨fun h => h.symm, fun h => h.symm⟩
          have hlk := HJ.out.map.look c (by omega) (by omega)
          have hlF : (Pl.freeTo isl i).length ≤ 1000 := by have := Pl.freeTo_len isl i; omega
          have hk9 : (i : Int) < (mb : Int) := by omega
          clear hc hc2
          by_cases hin : c ∈ seen
          · rw [decide_eq_true hin] at hlk
            have HFN2 : Hid (Pl.freeTo isl (i + 1) = Pl.freeTo isl i ++ [(i : Int)]) := by show _ = _; rw [HFN.out, if_pos (HMC.out.2 hin)]
            clear hin
            generalize Pl.freeTo isl i = FR at *
            have hb5 := below_oneS wr (.cells #[.int .i64 (i : Int)] 3)
            obtain ⟨AR, cR, w3, hap, hbw, hJ3⟩ := (HJ.out.go hb5).push hpm (i : Int) (Blk.new_ wr wr.heap.size 3 #[.int .i64 (i : Int)] rfl) hlF
            obtain ⟨L1, HL1⟩ : ∃ l, Hid ((FR ++ [(i : Int)]).length = l) := ⟨_, Lib.hid rfl⟩
            rw [HL1.out] at hap hJ3
            obtain ⟨w4, hup, hJ4⟩ := hJ3.mark hpm (by omega) c (by omega) (by omega)
            have HJ5 : Hid (OfJ wC w4 p bm (nn + 1) (bm + 1) #[.slice (some ⟨gb, 0, none⟩) n0 n0, .slice (some ⟨gi, 0, none⟩) mb mb, .slice AF n2 cF, .slice AT n2 cT, .slice AB n2 cB, .slice AC n2 cC, .slice AR L1 cR, .slice none 0 0] (FR ++ [(i : Int)]) (c :: seen) (.slice AR L1 cR)) := hJ4
            have cp := HJ.out.blk.cell
            have lp := HJ.out.blk.lt
            have cq := hbw.cell
            have lq := hbw.lt
            have fq := hbw.frozen
            clear hJ3 hJ4 hb5 hbw HJ
            go_wp2_with (at_builtin; go_must (refine wpList_append_run9 rfl _ _ 57 rfl _ _ _ rfl rfl hap ?_))
            go_roundw
            case rel => exact ⟨i + 1, nn + 1, c :: seen, .slice AR L1 cR, by omega, by omega, by go_num, HSN2, by rw [HFN2.out]; exact HJ5⟩
            case measure => simp [intOf]; omega
          · rw [decide_eq_false hin] at hlk
            have HFN2 : Hid (Pl.freeTo isl (i + 1) = Pl.freeTo isl i) := by show _ = _; rw [HFN.out, if_neg (fun h => hin (HMC.out.1 h)), List.append_nil]
            clear hin
            obtain ⟨w4, hup, hJ4⟩ := HJ.out.mark hpm (by omega) c (by omega) (by omega)
            have HJ5 := Lib.hid hJ4
            have cp := HJ.out.blk.cell
            have lp := HJ.out.blk.lt
            clear hJ4 HJ
            go_wp2_with fail
            go_roundw
            case rel => exact ⟨i + 1, nn + 1, c :: seen, vR, by omega, by omega, by go_num, HSN2, by rw [HFN2.out]; exact HJ5⟩
            case measure => simp [intOf]; omega
        · obtain rfl : mb = i := by omega
          have hR : Pl.freeTo isl mb = Pl.freeL isl := by unfold Pl.freeL; rw [hisl]
          rw [hR] at HJ
          have h24 := Pl.freeTo_len isl mb
          rw [hR] at h24
          obtain ⟨AR, cR, rfl, hrd⟩ := HJ.out.r.slice
          obtain ⟨nf, hnf⟩ : ∃ l, (Pl.freeL isl).length = l := ⟨_, rfl⟩
          rw [hnf] at HJ hrd h24
          have hneg : ∀ {v : Value} {n size : Nat} {e : TypeId} {xs : List Value}, OQ wC wB.heap.size e size v n xs → v.ownBlock ≠ some p → ∀ b, v.ownBlock = some b → some b ≠ some p := fun _ h b hb e => h (hb.trans e)
          have hgj := HJ.out.grown
          have hbl9 : bus.length = n0 := by rw [HTOP.out.buses.len, HL0.out]
          have rf := ((HO.out.f.grown hgj (fun b hb e => by have := (HO.out.f.own hb).1; have := HO.out.lp; have := Option.some.inj e; omega)).slice)
          have rt := ((HO.out.t.grown hgj (fun b hb e => by have := (HO.out.t.own hb).1; have := HO.out.lp; have := Option.some.inj e; omega)).slice)
          have rb := ((HO.out.b.grown hgj (fun b hb e => by have := (HO.out.b.own hb).1; have := HO.out.lp; have := Option.some.inj e; omega)).slice)
          have rc := ((HO.out.c.grown hgj (fun b hb e => by have := (HO.out.c.own hb).1; have := HO.out.lp; have := Option.some.inj e; omega)).slice)
          have rbus := blk_ints9 (IB4.out.grown (grown_more HO.out.grown hgj (fun b hb => .inr (Option.some.inj hb).symm)) (by simp; omega))
          have risl := blk_ints9 (II4.out.grown (grown_more HO.out.grown hgj (fun b hb => .inr (Option.some.inj hb).symm)) (by simp; omega))
          rw [hbl9] at rbus
          rw [HLF.out] at rf
          rw [HLT.out] at rt
          rw [HLB.out] at rb
          rw [HLC.out] at rc
          rw [hisl] at risl
          have HX : Hid (ModAt wr p ⟨gb, gi, n0, mb, bus, isl, n2, AF, cF, AT, cT, AB, cB, AC, cC, Pl.frs N bus N.branches, Pl.tos N bus N.branches, LB, LC, AR, cR, nf, Pl.freeL isl⟩ (.slice none 0 0)) := by
            refine ⟨HJ.out.blk, rbus, risl, ?_, ?_, ⟨?_, ?_⟩, ⟨?_, ?_⟩, hrd⟩
            · obtain ⟨_, _, e, h⟩ := rf
              injection e with e1 e2 e3
              subst e1
              exact h
            · obtain ⟨_, _, e, h⟩ := rt
              injection e with e1 e2 e3
              subst e1
              exact h
            · obtain ⟨_, _, e, h⟩ := rb
              injection e with e1 e2 e3
              subst e1
              exact h
            · exact fun x hx => (HO.out.eb x hx).grown HO.out.blk HO.out.nou hgj
            · obtain ⟨_, _, e, h⟩ := rc
              injection e with e1 e2 e3
              subst e1
              exact h
            · exact fun x hx => (HO.out.ec x hx).grown HO.out.blk HO.out.nou hgj
          have hnb : n2 ≤ 24 := hb24
          have hnf24 : nf ≤ 24 := by omega
          have hpr : ∀ E, 576 ≤ E → Pl.prd N.branches ≤ 2 ^ E := by
            have h1 := prd_le N.branches fun b hb => (HOK.out.bra b hb).2.2.2
            have h2 : 24 * N.branches.length ≤ 576 := by rw [HL2.out]; omega
            exact fun E h => Nat.le_trans h1 (Nat.pow_le_pow_right Nat.two_pos (Nat.le_trans h2 h))
          have HFRE : Hid (Pl.Free nf (Pl.lapM (Pl.freeL isl) (esTo ⟨gb, gi, n0, mb, bus, isl, n2, AF, cF, AT, cT, AB, cB, AC, cC, Pl.frs N bus N.branches, Pl.tos N bus N.branches, LB, LC, AR, cR, nf, Pl.freeL isl⟩ n2))) :=
            esTo_lap (X := ⟨gb, gi, n0, mb, bus, isl, n2, AF, cF, AT, cT, AB, cB, AC, cC, Pl.frs N bus N.branches, Pl.tos N bus N.branches, LB, LC, AR, cR, nf, Pl.freeL isl⟩) HTOP.out HL2.out.symm rfl rfl HVB.out rfl hnf.symm HOK.out
          have HIV := Lib.hid (invert_any p ⟨gb, gi, n0, mb, bus, isl, n2, AF, cF, AT, cT, AB, cB, AC, cC, Pl.frs N bus N.branches, Pl.tos N bus N.branches, LB, LC, AR, cR, nf, Pl.freeL isl⟩ wr (Pl.prd N.branches) (1000000 * Pl.prd N.branches) 603 316669953 HX.out hnf24 hnb
            (prd_pos N.branches fun b hb => (HOK.out.bra b hb).2.2.2) (hpr 603 (by decide))
            (fun q hq => by
              have hq2 : q ∈ LB.map (·.1) := hq
              rw [HVB.out] at hq2
              obtain ⟨b, hb, rfl⟩ := List.mem_map.1 hq2
              exact sus_ok N.branches (fun b hb => (HOK.out.bra b hb).2.2.2) b hb)
            (by
              show (n2 + 1) * (4 * (1000000 * Pl.prd N.branches)) ≤ 2 ^ 603
              refine Nat.le_trans (Nat.mul_le_mul (show n2 + 1 ≤ 25 by omega) (Nat.mul_le_mul_left 4 (Nat.mul_le_mul_left 1000000 (hpr 576 (by decide))))) ?_
              decide +kernel)
            (by decide) (by
              show (2 ^ nf * (603 + 1) - 1) / 32 + 1 ≤ 316669953
              have h1 : 2 ^ nf ≤ 2 ^ 24 := Nat.pow_le_pow_right (by omega) hnf24
              have h2 : (2 : Nat) ^ 24 = 16777216 := by decide
              omega) (by decide) HFRE.out)
          have HNF := Lib.hid hnf
          clear HX HFRE hpr rf rt rb rc rbus risl hrd hneg hgj hnf hR hbl9
          have hk9 : ¬ ((mb : Int) < (mb : Int)) := by omega
          have cp := HJ.out.blk.cell
          have lp := HJ.out.blk.lt
          go_wp2_with fail
          refine HIV.out.mono ?_
          rintro e w9 ⟨rfl, g, U, hm, hmat, hsv, hgr⟩
          go_wp2_with fail
          go_ret
          refine ⟨p, g, _, U, mi, rfl, HTOP.out, hm, hmat, hsv, HL2.out.symm, rfl, rfl, HVB.out, HVC.out, rfl, HNF.out.symm, Nat.le_trans (Nat.le_of_eq rfl) hwp, ?_⟩
          exact D.out.grown (grown_more (grown_more HO.out.grown HJ.out.grown (fun b hb => .inr (Option.some.inj hb).symm)) hgr (fun b hb => .inr (Option.some.inj hb).symm)) D.out.size (fun g hg => by injection hg with hg; omega)
end Go.Proofs.YtoblpcljhblnmaaGreatDoor
