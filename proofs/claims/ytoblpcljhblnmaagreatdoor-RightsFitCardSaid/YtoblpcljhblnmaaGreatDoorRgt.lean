/- (large.Rat).Abs, netdispatch.Connected. What rights.flows computes. rights.flows. Condition: the network and the rights read. rights.Flows, rights.Feasible. Condition: the network and the rights read. RightsFit: the plain law. -/
import Derived.Test.YtoblpcljhblnmaaGreatDoorFlwO
import Derived.Test.YtoblpcljhblnmaaGreatDoorConI
import Derived.Test.YtoblpcljhblnmaaGreatDoorFlwG
import Derived.Test.YtoblpcljhblnmaaGreatDoorPay
import Derived.Test.YtoblpcljhblnmaaGreatDoorRing
namespace Go.Proofs.YtoblpcljhblnmaaGreatDoor
open Go.RowKit
set_option maxRecDepth 100000
def Pl.absR (q : Rat) : Rat := if q < 0 then -q else q
theorem num_sign_neg (a : Rat) : (a.num.sign < 0) ↔ a < 0 := by
  rw [Int.sign_neg_iff]
  have h := @Rat.num_nonneg a
  constructor
  · intro h1
    refine Rat.not_le.1 fun h2 => ?_
    have := h.2 h2
    omega
  · intro h1
    refine Int.not_le.1 fun h2 => ?_
    exact Rat.not_le.2 h1 (h.1 h2)
theorem rabs_any {a : Rat} {x : Rt} {w : World} (hx : RatIs w w.heap.size a x) (sx : Pl.rsz a ≤ 1099511627776) : Calls Tryz.prog 45 #[x.v] w (RtSaid (Pl.absR a) w) := by
  obtain ⟨hA, hR, hD, hsz⟩ := boxes2t w #[.bool x.N.b, .slice x.N.A x.N.n x.N.c, .bool x.D.b, .slice x.D.A x.D.n x.D.c] #[.bool false, .slice none 0 0, .bool false, .slice none 0 0] 105 105
  have X2 := Lib.hid hA
  have X4 := Lib.hid hR
  have HA := Lib.hid (hx.go hD)
  have D := Lib.hid hD
  clear hx hA hR hD hsz
  go_enter Tryz.func45, Tryz.ntmps45
  go_wp2_with fail
  obtain ⟨rb, hrb⟩ : ∃ rb, rb = w.heap.size + 1 := ⟨_, rfl⟩
  have hrb9 : w.heap.size ≤ rb := by omega
  have hne : w.heap.size ≠ rb := by omega
  rw [← hrb] at X4 ⊢
  generalize (w.alloc (.cells #[.bool x.N.b, .slice x.N.A x.N.n x.N.c, .bool x.D.b, .slice x.D.A x.D.n x.D.c] 105)).alloc (.cells #[.bool false, .slice none 0 0, .bool false, .slice none 0 0] 105) = w1 at *
  refine (rsign_any HA.out).mono ?_
  rintro e w2 ⟨rfl, hb5⟩
  replace HA := Lib.hid (HA.out.go hb5)
  replace X2 := Lib.hid (X2.out.go hb5)
  replace X4 := Lib.hid (X4.out.go hb5)
  replace D := Lib.hid (D.out.trans (hb5.mono D.out.size))
  clear hb5 hrb
  have cx2 := X2.out.cell
  have lx2 := X2.out.lt
  by_cases hs : a.num.sign < 0
  · have HS : Hid (Pl.absR a = -a) := by show _ = _; unfold Pl.absR; rw [if_pos ((num_sign_neg a).1 hs)]
    go_wp2_with fail
    refine (rneg_any HA.out sx).mono ?_
    rintro e w3 ⟨s, rfl, hs9, hb5⟩
    have HZ := Lib.hid hs9
    replace X4 := Lib.hid (X4.out.go hb5)
    replace D := Lib.hid (D.out.trans (hb5.mono D.out.size))
    clear hb5 hs9 cx2 lx2
    have cx4 := X4.out.cell
    have fx4 := X4.out.frozen
    have lx4 := X4.out.lt
    go_wp2_with fail
    have k4 := (X4.out.put4 (u0 := .bool s.N.b) (u1 := .slice s.N.A s.N.n s.N.c) (u2 := .bool s.D.b) (u3 := .slice s.D.A s.D.n s.D.c)).cell
    refine bodyPost_ret (v := s.v) (by simp [results, Tryz.results45, go_sem, k4]) rfl ⟨s, rfl, ?_, below_put4 D.out (r := rb) hrb9⟩
    rw [HS.out]
    exact HZ.out.put4 X4.out noU32_new2
  · have HS : Hid (Pl.absR a = a) := by show _ = _; unfold Pl.absR; rw [if_neg (fun h => hs ((num_sign_neg a).2 h))]
    have hs9 : ¬ a.num < 0 := fun h => hs (Int.sign_neg_iff.2 h)
    have cx4 := X4.out.cell
    have fx4 := X4.out.frozen
    have lx4 := X4.out.lt
    go_wp2_with fail
    have k4 := (X4.out.put4 (u0 := .bool x.N.b) (u1 := .slice x.N.A x.N.n x.N.c) (u2 := .bool x.D.b) (u3 := .slice x.D.A x.D.n x.D.c)).cell
    refine bodyPost_ret (v := x.v) (by simp [results, Tryz.results45, go_sem, k4]) rfl ⟨x, rfl, ?_, below_put4 D.out (r := rb) hrb9⟩
    rw [HS.out]
    exact HA.out.put4 X4.out noU32_new2
theorem conn1_any (z : Int) (w : World) : Calls Tryz.prog 101 (#[.int .i64 z] ++ #[]) w fun e w' => e = .returned (.bool (decide (0 < z))) ∧ w' = w := by
  go_enter Tryz.func101, Tryz.ntmps101
  go_wp2_with fail
  go_ret
  exact ⟨rfl, rfl⟩
theorem enters_conn1 : ∀ args w, Sem.run Tryz.prog (callFunc 101 args) w = .ok (.enter 101 args) w := by intro args w; go_simp
theorem field_isl (A B : Option Addr) (n c m d : Nat) (W : World) : (Instr.field 170 (.agg #[.slice A n c, .slice B m d]) 1).run Tryz.prog W = .ok (.slice B m d) W := by kernel_rfl
def ConnSaid (N : Pl.Net) (w : World) (e : Ending) (w' : World) : Prop := ∃ (bus isl : List Int) (mb mi : Nat), Pl.TopOk N bus isl mb mi ∧ e = .returned (.bool (!(isl.any fun i => decide (0 < i)))) ∧ Below w.heap.size w w'
theorem connected_any (M : MNet) (w : World) (hM : NetIn w w.heap.size M) (hok : Pl.NetOk M.N) : Calls Tryz.prog 53 #[vNet M] w (ConnSaid M.N w) := by
  have HTG := Lib.hid (fun (W : World) (h : NetIn W W.heap.size M) => topget_any M W h hok)
  obtain ⟨N, A0, n0, c0, A1, n1, c1, A2, n2, c2, A3, n3, c3, A4, n4, c4, A5, n5, c5⟩ := M
  unfold vNet netC at *
  simp only at *
  have hA := Blk.new_ w w.heap.size 29 #[.slice A0 n0 c0, .slice A1 n1 c1, .slice A2 n2 c2, .slice A3 n3 c3, .slice A4 n4 c4, .slice A5 n5 c5] rfl
  have hD := (Below.refl w.heap.size w).alloc (Nat.le_refl _) (.cells #[.slice A0 n0 c0, .slice A1 n1 c1, .slice A2 n2 c2, .slice A3 n3 c3, .slice A4 n4 c4, .slice A5 n5 c5] 29)
  have HM := Lib.hid (hM.go hD)
  have D := Lib.hid hD
  have ca := hA.cell
  have la := hA.lt
  have HOK := Lib.hid hok
  clear hM hA hD hok
  go_enter Tryz.func53, Tryz.ntmps53
  go_wp2_with fail
  clear ca la
  generalize w.alloc (.cells #[.slice A0 n0 c0, .slice A1 n1 c1, .slice A2 n2 c2, .slice A3 n3 c3, .slice A4 n4 c4, .slice A5 n5 c5] 29) = w1 at *
  refine (HTG.out w1 HM.out).mono ?_
  rintro e w2 ⟨gb, gi, bus, isl, mb, mi, rfl, hib, hii, htop, hb5⟩
  have HTOP := Lib.hid htop
  have hrd := blk_ints9 hii
  have hl9 : isl.length = mb := htop.isles.len
  have hmb : mb ≤ 24 := by have := htop.buses.few; have := HOK.out.nn; omega
  rw [hl9] at hrd
  have HC := Lib.hid (conf_intb 101 #[] (fun z => decide (0 < z)) enters_conn1 (some ⟨gi, 0, none⟩) mb mb isl _ w2 (by omega) (Lib.hid fun z => conn1_any z w2) hrd)
  replace D := Lib.hid (D.out.trans (hb5.mono D.out.size))
  clear hb5 hib hii htop HTG hrd
  have hfl : ∀ W, (Instr.field 170 (.agg #[.slice (some ⟨gb, 0, none⟩) n0 n0, .slice (some ⟨gi, 0, none⟩) mb mb]) 1).run Tryz.prog W = .ok (.slice (some ⟨gi, 0, none⟩) mb mb) W := fun W => field_isl _ _ _ _ _ _ W
  go_wp2_with fail
  refine HC.out.mono ?_
  rintro e w3 ⟨rfl, rfl⟩
  go_wp2_with fail
  go_ret
  exact ⟨bus, isl, mb, mi, HTOP.out, rfl, D.out⟩
end Go.Proofs.YtoblpcljhblnmaaGreatDoor
namespace Go.Proofs.YtoblpcljhblnmaaGreatDoor
open Go.RowKit
set_option maxRecDepth 100000
def Pl.netEs (N : Pl.Net) (bus : List Int) : List (Int × Int × Rat) := ((Pl.brE N bus).zip (N.branches.map Pl.sus)).map fun x => (x.1.1, x.1.2, x.2)
theorem esTo_net {N : Pl.Net} {X : MdA} (hb : X.nb = N.branches.length) (hF : X.F = Pl.frs N X.bus N.branches) (hT : X.T = Pl.tos N X.bus N.branches) (hB : X.LB.map (·.1) = N.branches.map Pl.sus) : esTo X X.nb = Pl.netEs N X.bus := by
  unfold esTo Pl.netEs
  rw [hF, hT, hB, hb]
  apply List.ext_getElem
  · rw [List.length_map, List.length_range, List.length_map, List.length_zip, List.length_map]
    unfold Pl.brE
    rw [List.length_map, Nat.min_self]
  · intro i h2 h3
    rw [List.length_map, List.length_range] at h2
    rw [List.getElem_map, List.getElem_map, List.getElem_zip, List.getElem_range]
    unfold Pl.frs Pl.tos Pl.brE
    rw [List.getElem_map, List.getElem_map]
    simp only [List.getD_eq_getElem?_getD, List.getElem?_map, List.getElem?_eq_getElem h2, Option.map_some, Option.getD_some]
theorem inv_rsz {N : Pl.Net} {X : MdA} (hb : X.nb = N.branches.length) (hB : X.LB.map (·.1) = N.branches.map Pl.sus) (hn : X.nf = X.R.length) (hf : X.nf ≤ 24) (hok : Pl.NetOk N) :
    ∀ row ∈ Pl.invM (Pl.lapM X.R (esTo X X.nb)), ∀ q ∈ row, Pl.rsz q ≤ 316669953 := by
  have h0 : ∀ b ∈ N.branches, Pl.braOut b = false := fun b hb => (hok.bra b hb).2.2.2
  have hn24 := hok.nb
  have h1 := prd_le N.branches h0
  have h2 : 24 * N.branches.length ≤ 576 := by omega
  have hpr : ∀ E, 576 ≤ E → Pl.prd N.branches ≤ 2 ^ E := fun E h => Nat.le_trans h1 (Nat.pow_le_pow_right Nat.two_pos (Nat.le_trans h2 h))
  have hK := Pl.OkM.lap (D := Pl.prd N.branches) (K := 1000000 * Pl.prd N.branches) X.R (esTo X X.nb) (fun e he => by
    unfold esTo at he
    obtain ⟨i, _, rfl⟩ := List.mem_map.1 he
    refine okGet (fun q hq => ?_) i
    rw [hB] at hq
    obtain ⟨b, hb9, rfl⟩ := List.mem_map.1 hq
    exact sus_ok N.branches h0 b hb9)
  rw [esTo_len] at hK
  have hb9 : X.nb * (4 * (1000000 * Pl.prd N.branches)) ≤ 2 ^ 603 := by
    refine Nat.le_trans (Nat.mul_le_mul (show X.nb ≤ 25 by omega) (Nat.mul_le_mul_left 4 (Nat.mul_le_mul_left 1000000 (hpr 576 (Nat.le_refl _))))) ?_
    decide +kernel
  have hden := Pl.Den.sizes (n := X.nf) (Pl.den_ext (prd_pos N.branches h0) hK hb9 (hpr 603 (by decide)))
  have hl : (Pl.lapM X.R (esTo X X.nb)).length = X.nf := by rw [(Pl.lapM_ok _ _).2, hn]
  intro row hrow q hq
  unfold Pl.invM at hrow
  rw [hl] at hrow
  obtain ⟨r, hr, rfl⟩ := List.mem_map.1 hrow
  refine Nat.le_trans (hden X.nf (Nat.le_refl _) r hr q (List.mem_of_mem_drop hq)) ?_
  have h3 : 2 ^ X.nf ≤ 2 ^ 24 := Nat.pow_le_pow_right Nat.two_pos hf
  have h4 : (2 : Nat) ^ 24 = 16777216 := by decide
  omega
theorem rsz_dotN {a b : List Rat} {S : Nat} (ha : ∀ q ∈ a, Pl.rsz q ≤ S) (hb : ∀ q ∈ b, Pl.rsz q ≤ S) (hS : 1 ≤ S) (hl : a.length ≤ 24) : Pl.rsz (Pl.dotN a b) ≤ 1 + 24 * (2 * S + 1) := by
  unfold Pl.dotN
  refine Nat.le_trans (Pl.rsz_sumN (K := 2 * S) _ fun j hj => ?_) (by have := Nat.mul_le_mul_right (2 * S + 1) hl; omega)
  have h1 := Pl.rsz_mul (a.getD j 0) (b.getD j 0)
  have h2 := getD_rsz ha hS j
  have h3 := getD_rsz hb hS j
  omega
theorem angN_rsz {U : Pl.Mat} {R : List Int} {mb S : Nat} {p : List Rat} (hU : ∀ row ∈ U, ∀ q ∈ row, Pl.rsz q ≤ S) (hw : ∀ row ∈ U, row.length ≤ 24) (hp : ∀ q ∈ p, Pl.rsz q ≤ S) (hS : 1 ≤ S) : ∀ q ∈ Pl.angN U R mb p, Pl.rsz q ≤ 1 + 24 * (2 * S + 1) := by
  have hr : ∀ q ∈ Pl.rightN R p, Pl.rsz q ≤ S := fun q hq => by
    unfold Pl.rightN at hq
    obtain ⟨b, _, rfl⟩ := List.mem_map.1 hq
    exact getD_rsz hp hS _
  have : ∀ k, ∀ q ∈ Pl.angTo U R (Pl.rightN R p) mb k, Pl.rsz q ≤ 1 + 24 * (2 * S + 1) := fun k => by
    induction k with
    | zero =>
      intro q hq
      unfold Pl.angTo at hq
      simp at hq
      rw [hq.2, rsz_zero]
      omega
    | succ k ih =>
      rw [Pl.angTo_next]
      refine set_rsz ih (Nat.le_refl _) ?_ _
      by_cases hk : k < U.length
      · have e : U.getD k [] = U[k] := by rw [List.getD_eq_getElem?_getD, List.getElem?_eq_getElem hk]; rfl
        rw [e]
        exact rsz_dotN (hU _ (List.getElem_mem hk)) hr hS (hw _ (List.getElem_mem hk))
      · have e : U.getD k [] = [] := by rw [List.getD_eq_getElem?_getD, List.getElem?_eq_none (by omega)]; rfl
        rw [e]
        unfold Pl.dotN
        rw [List.length_nil, Pl.sumN, rsz_zero]
        omega
  exact this R.length
def Pl.injStep (N : Pl.Net) (bus : List Int) (p : List Rat) (r : Pl.RI) : List Rat :=
  (p.set (Pl.lab bus (Pl.nodeAt N.nodes r.from_)).toNat (p.getD (Pl.lab bus (Pl.nodeAt N.nodes r.from_)).toNat 0 + (r.power : Rat))).set (Pl.lab bus (Pl.nodeAt N.nodes r.to_)).toNat (p.getD (Pl.lab bus (Pl.nodeAt N.nodes r.to_)).toNat 0 - (r.power : Rat))
def Pl.injN (N : Pl.Net) (bus : List Int) (mb : Nat) (l : List Pl.RI) : List Rat := l.foldl (Pl.injStep N bus) (List.replicate mb 0)
theorem Pl.injN_snoc (N : Pl.Net) (bus : List Int) (mb : Nat) (l : List Pl.RI) (r : Pl.RI) : Pl.injN N bus mb (l ++ [r]) = Pl.injStep N bus (Pl.injN N bus mb l) r := by unfold Pl.injN; rw [List.foldl_append]; rfl
theorem Pl.injStep_len (N : Pl.Net) (bus : List Int) (p : List Rat) (r : Pl.RI) : (Pl.injStep N bus p r).length = p.length := by unfold Pl.injStep; rw [List.length_set, List.length_set]
theorem Pl.injN_len (N : Pl.Net) (bus : List Int) (mb : Nat) : ∀ l : List Pl.RI, (Pl.injN N bus mb l).length = mb := Pl.snoc_ind (by unfold Pl.injN; simp) fun l r h => by rw [Pl.injN_snoc, Pl.injStep_len, h]
theorem rsz_pow {z : Int} (h0 : 1 ≤ z) (h1 : z ≤ 100000) : Pl.rsz (z : Rat) ≤ 2 := by
  rw [Pl.rsz_int]
  have := small_nw (n := z) (by omega)
  omega
theorem Pl.injN_rsz {N : Pl.Net} {bus : List Int} {mb : Nat} : ∀ l : List Pl.RI, (∀ r ∈ l, 1 ≤ r.power ∧ r.power ≤ 100000) → ∀ q ∈ Pl.injN N bus mb l, Pl.rsz q ≤ 1 + 3 * l.length := Pl.snoc_ind (fun _ q hq => by
    unfold Pl.injN at hq
    simp at hq
    rw [hq.2, rsz_zero]
    simp) fun l r ih hp => by
  have h1 := ih fun x hx => hp x (by simp [hx])
  obtain ⟨hp0, hp1⟩ := hp r (by simp)
  have h2 := rsz_pow hp0 hp1
  rw [Pl.injN_snoc, List.length_append, List.length_singleton]
  unfold Pl.injStep
  have h3 := getD_rsz h1 (by omega) (Pl.lab bus (Pl.nodeAt N.nodes r.from_)).toNat
  have h4 := getD_rsz h1 (by omega) (Pl.lab bus (Pl.nodeAt N.nodes r.to_)).toNat
  have h5 := Pl.rsz_add ((Pl.injN N bus mb l).getD (Pl.lab bus (Pl.nodeAt N.nodes r.from_)).toNat 0) (r.power : Rat)
  have h6 := Pl.rsz_sub ((Pl.injN N bus mb l).getD (Pl.lab bus (Pl.nodeAt N.nodes r.to_)).toNat 0) (r.power : Rat)
  refine set_rsz (S := 1 + 3 * l.length + 3) ?_ (by omega) (by omega) _
  exact set_rsz h1 (by omega) (by omega) _
def Pl.netFlows (N : Pl.Net) (bus isl : List Int) (mb : Nat) (p : List Rat) : List Rat :=
  Pl.flowN (Pl.frs N bus N.branches) (Pl.tos N bus N.branches) (N.branches.map Pl.sus) (N.branches.map Pl.con) (Pl.angN (Pl.invM (Pl.lapM (Pl.freeL isl) (Pl.netEs N bus))) (Pl.freeL isl) mb (Pl.leftTo (Pl.frs N bus N.branches) (Pl.tos N bus N.branches) (N.branches.map Pl.con) p N.branches.length)) N.branches.length
end Go.Proofs.YtoblpcljhblnmaaGreatDoor
namespace Go.Proofs.YtoblpcljhblnmaaGreatDoor
open Go.RowKit
set_option maxRecDepth 100000
def RflSaidE (RE : Int) (N : Pl.Net) (l : List Pl.RI) (w : World) (e : Ending) (w' : World) : Prop :=
  ((RE ≠ 0 ∧ e = .returned (.tuple #[.slice none 0 0, .int .i64 RE])) ∨
    (RE = 0 ∧ ((10 < N.branches.length ∧ e = .returned (.tuple #[.slice none 0 0, .int .i64 2])) ∨
      (N.branches.length ≤ 10 ∧ ∃ bus isl mb mi, Pl.TopOk N bus isl mb mi ∧ (((isl.any fun i => decide (0 < i)) = true ∧ e = .returned (.tuple #[.slice none 0 0, .int .i64 15])) ∨
        ((isl.any fun i => decide (0 < i)) = false ∧ ∃ (A : Option Addr) (c : Nat) (L : List (Rat × Rt)), e = .returned (.tuple #[.slice A N.branches.length c, .int .i64 0]) ∧ RatsIs w' w'.heap.size A N.branches.length L ∧ L.map (·.1) = Pl.netFlows N bus isl mb (Pl.injN N bus mb l))))))) ∧ Below w.heap.size w w'
def RflSaid (N : Pl.Net) (l : List Pl.RI) (w : World) (e : Ending) (w' : World) : Prop := RflSaidE (Pl.rightsE N l) N l w e w'
theorem free_in {N : Pl.Net} {bus isl : List Int} {mb mi : Nat} (h : Pl.TopOk N bus isl mb mi) : ∀ v ∈ Pl.freeL isl, 0 ≤ v ∧ v < mb := fun v hv => by
  unfold Pl.freeL at hv
  obtain ⟨h1, h2, _⟩ := Pl.mem_freeTo.1 hv
  rw [h.isles.len] at h2
  exact ⟨h1, h2⟩
theorem frs_in {N : Pl.Net} {bus isl : List Int} {mb mi : Nat} (h : Pl.TopOk N bus isl mb mi) (hok : Pl.NetOk N) : (∀ v ∈ Pl.frs N bus N.branches, 0 ≤ v ∧ v < mb) ∧ ∀ v ∈ Pl.tos N bus N.branches, 0 ≤ v ∧ v < mb := by
  constructor
  · intro v hv
    obtain ⟨b, hb, rfl⟩ := List.mem_map.1 hv
    have hn := Pl.nodeAt_in (hok.bra b hb).1
    exact h.buses.at_ hn.1 hn.2
  · intro v hv
    obtain ⟨b, hb, rfl⟩ := List.mem_map.1 hv
    have hn := Pl.nodeAt_in (hok.bra b hb).2.1
    exact h.buses.at_ hn.1 hn.2
theorem map_rsz {α : Type} {l : List α} {f : α → Rat} {S : Nat} (h : ∀ x ∈ l, Pl.rsz (f x) ≤ S) : ∀ q ∈ l.map f, Pl.rsz q ≤ S := fun q hq => by
  obtain ⟨x, hx, rfl⟩ := List.mem_map.1 hq
  exact h x hx
set_option maxHeartbeats 12800000 in
theorem rflows_any (M : MNet) (A : Option Addr) (n c : Nat) (l : List Pl.RI) (w : World) (hM : NetIn w w.heap.size M) (hl : Elems riC 3 w w.heap.size A n l) (hn : n ≤ 9223372036854775807) :
    Calls Tryz.prog 44 #[vNet M, .slice A n c] w (RflSaid M.N l w) := by
  have HCK := Lib.hid (fun (W : World) (h : NetIn W W.heap.size M) (h2 : Elems riC 3 W W.heap.size A n l) => rightschk_any M A n c l W h h2 hn)
  have HCN := Lib.hid (fun (W : World) (h : NetIn W W.heap.size M) (hok : Pl.NetOk M.N) => connected_any M W h hok)
  have HOF := Lib.hid (fun (W : World) (h : NetIn W W.heap.size M) (hok : Pl.NetOk M.N) => flowof_any M W h hok)
  have HL := Lib.hid hl
  have HLN := Lib.hid hl.2
  have HL0 := Lib.hid (txts_len hM.r0)
  have HL2 : Hid (M.N.branches.length = M.n2) := hM.r2.2
  obtain ⟨N, A0, n0, c0, A1, n1, c1, A2, n2, c2, A3, n3, c3, A4, n4, c4, A5, n5, c5⟩ := M
  unfold vNet netC at *
  simp only at *
  have z0 : n0 ≤ 9223372036854775807 := hM.z0
  have hA := Blk.new_ w w.heap.size 29 #[.slice A0 n0 c0, .slice A1 n1 c1, .slice A2 n2 c2, .slice A3 n3 c3, .slice A4 n4 c4, .slice A5 n5 c5] rfl
  have hD := (Below.refl w.heap.size w).alloc (Nat.le_refl _) (.cells #[.slice A0 n0 c0, .slice A1 n1 c1, .slice A2 n2 c2, .slice A3 n3 c3, .slice A4 n4 c4, .slice A5 n5 c5] 29)
  have BN := Lib.hid hA
  have HM := Lib.hid (hM.go hD)
  have D := Lib.hid hD
  have ca := hA.cell
  have la := hA.lt
  unfold RflSaid
  obtain ⟨RE, hRE⟩ : ∃ E, E = Pl.rightsE N l := ⟨_, rfl⟩
  rw [← hRE] at HCK ⊢
  have HRE := Lib.hid hRE
  clear hM hA hD hl hRE
  go_enter Tryz.func44, Tryz.ntmps44
  go_wp2_with fail
  obtain ⟨bn, hbn⟩ : ∃ bn : Nat, bn = w.heap.size := ⟨_, rfl⟩
  rw [← hbn] at BN ⊢
  clear ca la hbn
  generalize w.alloc (.cells #[.slice A0 n0 c0, .slice A1 n1 c1, .slice A2 n2 c2, .slice A3 n3 c3, .slice A4 n4 c4, .slice A5 n5 c5] 29) = w1 at *
  refine (HCK.out w1 HM.out ⟨HL.out.1.go D.out, HL.out.2⟩).mono ?_
  rintro e w2 ⟨rfl, hb5⟩
  replace BN := Lib.hid (BN.out.go hb5)
  replace HM := Lib.hid (HM.out.go hb5)
  replace D := Lib.hid (D.out.trans (hb5.mono D.out.size))
  clear hb5 HCK
  by_cases h0 : RE ≠ 0
  · have e1 : (RE != 0) = true := by simpa using h0
    have H0 := Lib.hid h0
    clear h0
    go_wp2_with fail
    go_ret2
    exact ⟨.inl ⟨H0.out, rfl⟩, D.out⟩
  have h0' : RE = 0 := by simpa using h0
  subst h0'
  obtain ⟨hn0, hl12, hri⟩ := rightsE_ok HRE.out.symm
  have hok := Pl.netE_ok hn0
  have HOK := Lib.hid hok
  have HRI : Hid (∀ r ∈ l, Pl.riE N r = 0) := Pl.risE_all hri
  have hn12 : n ≤ 12 := by have := HLN.out; omega
  have cbn := BN.out.cell
  have lbn := BN.out.lt
  clear h0 hn0 hl12 hri HRE
  by_cases h10 : 10 < n2
  · have h10' : (10 : Int) < (n2 : Int) := by omega
    have H10 : Hid (10 < N.branches.length) := by show _ < _; rw [HL2.out]; exact h10
    go_wp2_with fail
    go_ret2
    exact ⟨.inr ⟨rfl, .inl ⟨H10.out, rfl⟩⟩, D.out⟩
  have h10' : ¬ (10 : Int) < (n2 : Int) := by omega
  have H10 : Hid (N.branches.length ≤ 10) := by show _ ≤ _; rw [HL2.out]; omega
  go_wp2_with fail
  clear cbn lbn
  refine (HCN.out w2 HM.out hok).mono ?_
  rintro e w3 ⟨busC, islC, mbC, miC, htc, rfl, hb5⟩
  have HTC := Lib.hid htc
  replace BN := Lib.hid (BN.out.go hb5)
  replace HM := Lib.hid (HM.out.go hb5)
  replace D := Lib.hid (D.out.trans (hb5.mono D.out.size))
  clear hb5 htc HCN
  obtain ⟨cc, hcc⟩ : ∃ b, b = islC.any fun i => decide (0 < i) := ⟨_, rfl⟩
  rw [← hcc]
  have HCC := Lib.hid hcc
  clear hcc
  cases cc with
  | true =>
    go_wp2_with fail
    go_ret2
    exact ⟨.inr ⟨rfl, .inr ⟨H10.out, busC, islC, mbC, miC, HTC.out, .inl ⟨HCC.out.symm, rfl⟩⟩⟩, D.out⟩
  | false =>
  have cbn := BN.out.cell
  have lbn := BN.out.lt
  go_wp2_with fail
  clear cbn lbn
  refine (HOF.out w3 HM.out hok).mono ?_
  rintro e w4 ⟨p, gI, X, U, mi, rfl, htop, hX, hU, hUV, hXnb, hXF, hXT, hXB, hXC, hXR, hXnf, _, hb5⟩
  have HTOP := Lib.hid htop
  have HX := Lib.hid hX
  have HU := Lib.hid hU
  have HUV := Lib.hid hUV
  have HEQ := Lib.hid (And.intro hXnb (And.intro hXF (And.intro hXT (And.intro hXB (And.intro hXC (And.intro hXR hXnf))))))
  replace BN := Lib.hid (BN.out.go hb5)
  replace HM := Lib.hid (HM.out.go hb5)
  replace D := Lib.hid (D.out.trans (hb5.mono D.out.size))
  clear hb5 htop hX hU hUV hXnb hXF hXT hXB hXC hXR hXnf HOF hok
  have hmb24 : X.mb ≤ 24 := by have h1 := HTOP.out.buses.few; have h2 := HOK.out.nn; omega
  go_wp2_with fail
  refine (mbuses_any p X _ w4 HX.out).mono ?_
  rintro e w5 ⟨rfl, rfl⟩
  go_wp2_with fail
  refine (zeros_any X.mb (by omega) w5).mono ?_
  rintro e w6 ⟨gz, x0, rfl, hgz, hrz, hb5⟩
  have HLF0 : Hid (LF w5 w6 gz (List.replicate X.mb ((0 : Rat), x0))) := ⟨hrz.rowW, hrz.each, hgz, hb5⟩
  clear hgz hrz hb5
  go_wp2_with fail
  go_loopw [35] (fun i wr => ∃ (k : Nat) (L : List (Rat × Rt)), k ≤ n ∧ i = .int .i64 k ∧ Hid (L.map (·.1) = Pl.injN N X.bus X.mb (l.take k)) ∧ Hid (LF w5 wr gz L)) (fun i _ => n - (intOf i).toNat)
  case atStart => exact ⟨0, _, Nat.zero_le _, rfl, by show _ = _; unfold Pl.injN; rw [List.map_replicate]; rfl, HLF0⟩
  case round =>
    clear HLF0
    obtain ⟨k, L, hk, rfl, HV, HLR⟩ := hrel
    have HLL : Hid (L.length = X.mb) := by show _ = _; have := congrArg List.length HV.out; rwa [List.length_map, Pl.injN_len] at this
    by_cases hlt : k < n
    · obtain ⟨b, o, rfl, hll, q0, q1, q2⟩ := ri_at (⟨HL.out.1.go (D.out.trans (HLR.out.below.mono D.out.size)), HL.out.2⟩ : Elems riC 3 wr _ A n l) (k := k) hlt
      have HT : Hid (l.take (k + 1) = l.take k ++ [l[k]]) := by show _ = _; rw [List.take_succ_eq_append_getElem hll]
      obtain ⟨hfa, hfb, hp0, hp1⟩ := riE_ok (HRI.out _ (List.getElem_mem hll))
      have HSZ : Hid (∀ q ∈ L.map (·.1), Pl.rsz q ≤ 100) := by
        show ∀ q ∈ L.map (·.1), Pl.rsz q ≤ 100
        intro q hq
        rw [HV.out] at hq
        have h9 := Pl.injN_rsz (l.take k) (fun r hr => by have := riE_ok (HRI.out _ (List.mem_of_mem_take hr)); exact ⟨this.2.2.1, this.2.2.2⟩) q hq
        rw [List.length_take] at h9
        omega
      generalize l[k] = z at *
      have HNX := Lib.hid (Pl.injN_snoc N X.bus X.mb (l.take k) z)
      rw [← HT.out, ← HV.out] at HNX
      unfold Pl.injStep at HNX
      have hna := Pl.nodeAt_in hfa
      have hnb := Pl.nodeAt_in hfb
      have hbl9 : X.bus.length = X.n0 := HX.out.bus.int_len
      have hbl8 : X.bus.length = n0 := by rw [HTOP.out.buses.len, HL0.out]
      have hla := HTOP.out.buses.at_ hna.1 hna.2
      have hlb := HTOP.out.buses.at_ hnb.1 hnb.2
      rw [HL0.out] at hna hnb
      obtain ⟨ia, hia⟩ : ∃ x, x = Pl.nodeAt N.nodes z.from_ := ⟨_, rfl⟩
      obtain ⟨ib, hib⟩ : ∃ x, x = Pl.nodeAt N.nodes z.to_ := ⟨_, rfl⟩
      have HIA := Lib.hid (fun (W : World) (B : Nat) (h : Reads W B 1 A0 n0 (txts N.nodes)) => indexb_any A0 n0 c0 N.nodes z.from_ W B z0 h)
      have HIB := Lib.hid (fun (W : World) (B : Nat) (h : Reads W B 1 A0 n0 (txts N.nodes)) => indexb_any A0 n0 c0 N.nodes z.to_ W B z0 h)
      rw [← hia] at HIA hna hla HNX
      rw [← hib] at HIB hnb hlb HNX
      obtain ⟨hia0, hia1⟩ := hna
      obtain ⟨hib0, hib1⟩ := hnb
      have hia2 : ia.toNat < X.n0 := by omega
      have hib2 : ib.toNat < X.n0 := by omega
      have hia3 : ia < (X.n0 : Int) := by omega
      have hib3 : ib < (X.n0 : Int) := by omega
      obtain ⟨xa, hxa⟩ : ∃ x, x = Pl.lab X.bus ia := ⟨_, rfl⟩
      obtain ⟨xb, hxb⟩ : ∃ x, x = Pl.lab X.bus ib := ⟨_, rfl⟩
      have HXA : Hid (X.bus.getD ia.toNat 0 = xa) := by
        show _ = _
        rw [hxa]
        unfold Pl.lab
        rw [List.getD_eq_getElem?_getD, List.getD_eq_getElem?_getD, List.getElem?_eq_getElem (by omega)]
        rfl
      have HXB : Hid (X.bus.getD ib.toNat 0 = xb) := by
        show _ = _
        rw [hxb]
        unfold Pl.lab
        rw [List.getD_eq_getElem?_getD, List.getD_eq_getElem?_getD, List.getElem?_eq_getElem (by omega)]
        rfl
      rw [← hxa] at hla HNX
      rw [← hxb] at hlb HNX
      obtain ⟨hxa0, hxa1⟩ := hla
      obtain ⟨hxb0, hxb1⟩ := hlb
      have hxa2 : xa.toNat < L.length := by rw [HLL.out]; omega
      have hxb2 : xb.toNat < L.length := by rw [HLL.out]; omega
      have hkn : (k : Int) < (n : Int) := by omega
      clear hxa hxb hia hib hfa hfb hll
      go_wp2_with fail
      have hb5 := below_oneS wr (.cells #[.string z.from_, .string z.to_, .int .i64 z.power] 31)
      obtain ⟨bb, hbb⟩ : ∃ b, b = wr.heap.size := ⟨_, rfl⟩
      have BB := Lib.hid (Blk.new_ wr bb 31 #[.string z.from_, .string z.to_, .int .i64 z.power] hbb)
      rw [← hbb]
      replace HLR := Lib.hid (HLR.out.go hb5)
      clear hb5 hbb q0 q1 q2
      generalize wr.alloc (.cells #[.string z.from_, .string z.to_, .int .i64 z.power] 31) = wa at *
      go_upto_region 13 with fail
      have hb5 := (Below.refl wa.heap.size wa).drew
      replace HLR := Lib.hid (HLR.out.go hb5)
      replace BB := Lib.hid (BB.out.go hb5)
      clear hb5
      have HB0 := Lib.hid (Below.refl wa.drew.heap.size wa.drew)
      have hlt_BB := BB.out.lt
      generalize hw9 : wa.drew = w13 at *
      have hSw : (fun w' : World => Below w13.heap.size w13 w') w13 := HB0.out
      refine wp_region_mid (fun w' : World => Below w13.heap.size w13 w') 26 (by kernel_rfl) ?_
      rw [hw9]
      clear hw9
      refine Tk.go [(0, [1, 2, 3, 4, 10, 11, 24, 25]), (1, [2, 3, 4, 10, 11, 24, 25]), (2, [3, 4, 10, 11, 24, 25]), (3, [4, 10, 11, 24, 25]), (4, [10, 11, 24, 25]), (5, [6, 9, 10, 11, 21, 22, 23, 24, 25]), (6, [9, 10, 11, 21, 22, 23, 24, 25]), (7, [8, 9, 10, 11, 21, 22, 23, 24, 25]), (8, [9, 10, 11, 21, 22, 23, 24, 25]), (12, [13, 14, 15, 16, 22, 23, 25]), (13, [14, 15, 16, 22, 23, 25]), (14, [15, 16, 22, 23, 25]), (15, [16, 22, 23, 25]), (16, [22, 23, 25]), (17, [18, 21, 22, 23, 24, 25]), (18, [21, 22, 23, 24, 25]), (19, [20, 21, 22, 23, 24, 25]), (20, [21, 22, 23, 24, 25])] ?_
      iterate 18 (refine Tk.cons rfl (by kernel_rfl) (fun _ _ _ h => h) hSw (by kernel_rfl) (fun w' hSx => by have cp := (HX.out.go (HLR.out.go hSx).below).blk.cell; unfold MdA.cells at cp; have cn := (BN.out.go (HLR.out.go hSx).below).cell; have cb := (BB.out.go hSx).cell; have ha := ints_cell (HX.out.go (HLR.out.go hSx).below).bus hia2; rw [HXA.out, Nat.zero_add] at ha; have hb := ints_cell (HX.out.go (HLR.out.go hSx).below).bus hib2; rw [HXB.out, Nat.zero_add] at hb; go_simp; first | done | with_reducible rfl) ?_; simp only [Act.put, List.setIfInBounds_toArray])
      refine Tk.nil ?_
      refine wpAnyM_ready [9] (by kernel_rfl) (by simp) ?_
      refine AllReadyM.cons (by rfl) (fun K hK => ?_) AllReadyM.nil
      go_simp
      refine (HIA.out w13 _ (HM.out.go (HLR.out.go HB0.out).below).r0).mono ?_
      rintro e wq1 ⟨rfl, hb5⟩
      replace HB0 := Lib.hid (Below.trans HB0.out (hb5.mono HB0.out.size))
      clear hb5
      clear hSw
      have hSw : (fun w' : World => Below w13.heap.size w13 w') wq1 := HB0.out
      refine hK.out _ _ hSw ?_
      clear hK K
      refine Tk.go [(10, [11, 24, 25]), (11, [24, 25])] ?_
      iterate 2 (refine Tk.cons rfl (by kernel_rfl) (fun _ _ _ h => h) hSw (by kernel_rfl) (fun w' hSx => by have cp := (HX.out.go (HLR.out.go hSx).below).blk.cell; unfold MdA.cells at cp; have cn := (BN.out.go (HLR.out.go hSx).below).cell; have cb := (BB.out.go hSx).cell; have ha := ints_cell (HX.out.go (HLR.out.go hSx).below).bus hia2; rw [HXA.out, Nat.zero_add] at ha; have hb := ints_cell (HX.out.go (HLR.out.go hSx).below).bus hib2; rw [HXB.out, Nat.zero_add] at hb; go_simp; first | done | with_reducible rfl) ?_; simp only [Act.put])
      refine Tk.nil ?_
      refine wpAnyM_ready [21] (by kernel_rfl) (by simp) ?_
      refine AllReadyM.cons (by rfl) (fun K hK => ?_) AllReadyM.nil
      go_simp
      refine (HIB.out wq1 _ (HM.out.go (HLR.out.go HB0.out).below).r0).mono ?_
      rintro e wq2 ⟨rfl, hb5⟩
      replace HB0 := Lib.hid (Below.trans HB0.out (hb5.mono HB0.out.size))
      clear hb5
      clear hSw
      have hSw : (fun w' : World => Below w13.heap.size w13 w') wq2 := HB0.out
      refine hK.out _ _ hSw ?_
      clear hK K
      refine Tk.go [(22, [23, 25]), (23, [25]), (24, [25]), (25, [])] ?_
      iterate 4 (refine Tk.cons rfl (by kernel_rfl) (fun _ _ _ h => h) hSw (by kernel_rfl) (fun w' hSx => by have cp := (HX.out.go (HLR.out.go hSx).below).blk.cell; unfold MdA.cells at cp; have cn := (BN.out.go (HLR.out.go hSx).below).cell; have cb := (BB.out.go hSx).cell; have ha := ints_cell (HX.out.go (HLR.out.go hSx).below).bus hia2; rw [HXA.out, Nat.zero_add] at ha; have hb := ints_cell (HX.out.go (HLR.out.go hSx).below).bus hib2; rw [HXB.out, Nat.zero_add] at hb; go_simp; first | done | with_reducible rfl) ?_; simp only [Act.put])
      refine Tk.nil ?_
      refine wpAnyM_done (by kernel_rfl) ?_ _
      simp only [List.getElem_toArray, List.getElem_cons_succ, List.getElem_cons_zero, List.setIfInBounds_toArray, List.set_cons_zero, List.set_cons_succ]
      replace HLR := Lib.hid (HLR.out.go HB0.out)
      replace BB := Lib.hid (BB.out.go HB0.out)
      clear HB0 hSw
      obtain ⟨y1, hy1⟩ : ∃ y, y = (L.map (·.1)).getD xa.toNat 0 := ⟨_, rfl⟩
      have hen1 : L[xa.toNat].1 = y1 := by rw [hy1, List.getD_eq_getElem?_getD, List.getElem?_map, List.getElem?_eq_getElem hxa2]; rfl
      obtain ⟨x1, EJ1⟩ : ∃ x, Hid (L[xa.toNat] = (y1, x)) := ⟨L[xa.toNat].2, by show _ = _; rw [← hen1]⟩
      have HY1 : Hid (RatIs wq2 wq2.heap.size y1 x1) := by
        show RatIs _ _ _ _
        have h9 := HLR.out.each _ (List.getElem_mem hxa2)
        rw [EJ1.out] at h9
        exact h9
      have HSY1 : Pl.rsz y1 ≤ 100 := by rw [hy1]; exact getD_rsz HSZ.out (by omega) _
      rw [← hy1] at HNX
      clear hy1 hen1
      obtain ⟨y2, hy2⟩ : ∃ y, y = (L.map (·.1)).getD xb.toNat 0 := ⟨_, rfl⟩
      have hen2 : L[xb.toNat].1 = y2 := by rw [hy2, List.getD_eq_getElem?_getD, List.getElem?_map, List.getElem?_eq_getElem hxb2]; rfl
      obtain ⟨x2, EJ2⟩ : ∃ x, Hid (L[xb.toNat] = (y2, x)) := ⟨L[xb.toNat].2, by show _ = _; rw [← hen2]⟩
      have HY2 : Hid (RatIs wq2 wq2.heap.size y2 x2) := by
        show RatIs _ _ _ _
        have h9 := HLR.out.each _ (List.getElem_mem hxb2)
        rw [EJ2.out] at h9
        exact h9
      have HSY2 : Pl.rsz y2 ≤ 100 := by rw [hy2]; exact getD_rsz HSZ.out (by omega) _
      rw [← hy2] at HNX
      clear hy2 hen2
      have HSP := rsz_pow hp0 hp1
      go_upto_region 14 with fail
      have hb5 := (Below.refl wq2.heap.size wq2).drew
      replace HLR := Lib.hid (HLR.out.go hb5)
      replace BB := Lib.hid (BB.out.go hb5)
      replace HY1 := Lib.hid (HY1.out.go hb5)
      replace HY2 := Lib.hid (HY2.out.go hb5)
      clear hb5
      have HB0 := Lib.hid (Below.refl wq2.drew.heap.size wq2.drew)
      have hlt_BB := BB.out.lt
      generalize hw9 : wq2.drew = w14 at *
      have hSw : (fun w' : World => Below w14.heap.size w14 w') w14 := HB0.out
      refine wp_region_mid (fun _ => True) 1000 (by kernel_rfl) ?_
      rw [hw9]
      clear hw9
      refine Tk.go [(2, []), (3, [])] ?_
      iterate 2 (refine Tk.cons rfl (by kernel_rfl) (fun _ _ _ h => h) trivial (by kernel_rfl) (fun w' _ => by go_simp; first | done | with_reducible rfl) ?_; simp only [Act.put, List.setIfInBounds_toArray])
      refine Tk.nil ?_
      refine wpAnyM_weak (S := (fun w' : World => Below w14.heap.size w14 w')) (m := 21) _ _ _ _ ?_
      refine Tk.go [(0, [20, 21, 22, 23]), (1, [20, 21, 22, 23]), (4, [6, 7, 11, 18, 19, 20, 21, 22, 23]), (5, [6, 7, 11, 18, 19, 20, 21, 22, 23]), (6, [7, 11, 18, 19, 20, 21, 22, 23]), (7, [11, 18, 19, 20, 21, 22, 23]), (8, [9, 10, 11, 18, 19, 20, 21, 22, 23]), (9, [10, 11, 18, 19, 20, 21, 22, 23]), (12, [14, 15, 19, 20, 21, 22, 23]), (13, [14, 15, 19, 20, 21, 22, 23]), (14, [15, 19, 20, 21, 22, 23]), (15, [19, 20, 21, 22, 23]), (16, [17, 18, 19, 20, 21, 22, 23]), (17, [18, 19, 20, 21, 22, 23])] ?_
      iterate 14 (refine Tk.cons rfl (by kernel_rfl) (fun _ _ _ h => h) hSw (by kernel_rfl) (fun w' hSx => by have cb := (BB.out.go hSx).cell; have hc := (HLR.out.go hSx).row.at_ hxa2; rw [EJ1.out] at hc; have c1 := hc.1; have c2 := hc.2.1; have c3 := hc.2.2.1; have c4 := hc.2.2.2; clear hc; have hc := (HLR.out.go hSx).row.at_ hxb2; rw [EJ2.out] at hc; have c5 := hc.1; have c6 := hc.2.1; have c7 := hc.2.2.1; have c8 := hc.2.2.2; clear hc; go_simp; first | done | with_reducible rfl) ?_; simp only [Act.put])
      refine Tk.nil ?_
      refine wpAnyM_ready [10] (by kernel_rfl) (by simp) ?_
      refine AllReadyM.cons (by rfl) (fun K hK => ?_) AllReadyM.nil
      go_simp
      refine (whole_any z.power w14 (by omega) (by omega)).mono ?_
      rintro e wq1 ⟨u1, rfl, hu9, hb5⟩
      replace HB0 := Lib.hid (Below.trans HB0.out (hb5.mono HB0.out.size))
      have HU1 := Lib.hid hu9
      clear hu9
      clear hb5
      clear hSw
      have hSw : (fun w' : World => Below w14.heap.size w14 w') wq1 := HB0.out
      refine hK.out _ _ hSw ?_
      clear hK K
      refine wpAnyM_ready [11] (by kernel_rfl) (by simp) ?_
      refine AllReadyM.cons (by rfl) (fun K hK => ?_) AllReadyM.nil
      go_simp
      refine (radd_any (HY1.out.go HB0.out) HU1.out (by omega) (by omega)).mono ?_
      rintro e wq2 ⟨s1, rfl, hs9, hb5⟩
      clear HY1 HU1
      replace HB0 := Lib.hid (Below.trans HB0.out (hb5.mono HB0.out.size))
      have HS1 := Lib.hid hs9
      clear hs9
      clear hb5
      clear hSw
      have hSw : (fun w' : World => Below w14.heap.size w14 w') wq2 := HB0.out
      refine hK.out _ _ hSw ?_
      clear hK K
      refine wpAnyM_ready [18] (by kernel_rfl) (by simp) ?_
      refine AllReadyM.cons (by rfl) (fun K hK => ?_) AllReadyM.nil
      go_simp
      refine (whole_any z.power wq2 (by omega) (by omega)).mono ?_
      rintro e wq3 ⟨u2, rfl, hu9, hb5⟩
      replace HS1 := Lib.hid (HS1.out.go hb5)
      replace HB0 := Lib.hid (Below.trans HB0.out (hb5.mono HB0.out.size))
      have HU2 := Lib.hid hu9
      clear hu9
      clear hb5
      clear hSw
      have hSw : (fun w' : World => Below w14.heap.size w14 w') wq3 := HB0.out
      refine hK.out _ _ hSw ?_
      clear hK K
      refine wpAnyM_ready [19] (by kernel_rfl) (by simp) ?_
      refine AllReadyM.cons (by rfl) (fun K hK => ?_) AllReadyM.nil
      go_simp
      refine (rsub_any (HY2.out.go HB0.out) HU2.out (by omega) (by omega)).mono ?_
      rintro e wq4 ⟨s2, rfl, hs9, hb5⟩
      clear HY2 HU2
      replace HS1 := Lib.hid (HS1.out.go hb5)
      replace HB0 := Lib.hid (Below.trans HB0.out (hb5.mono HB0.out.size))
      have HS2 := Lib.hid hs9
      clear hs9
      clear hb5
      clear hSw
      have hSw : (fun w' : World => Below w14.heap.size w14 w') wq4 := HB0.out
      refine hK.out _ _ hSw ?_
      clear hK K
      refine wpAnyM_takeB 20 [21, 22, 23] rfl (by kernel_rfl) (by kernel_rfl) (by kernel_rfl) (by kernel_rfl) (by kernel_rfl) (fun _ _ _ h => h) hSw (by kernel_rfl) (fun w' hSx => by have cb := (BB.out.go hSx).cell; have hc := (HLR.out.go hSx).row.at_ hxa2; rw [EJ1.out] at hc; have c1 := hc.1; have c2 := hc.2.1; have c3 := hc.2.2.1; have c4 := hc.2.2.2; clear hc; have hc := (HLR.out.go hSx).row.at_ hxb2; rw [EJ2.out] at hc; have c5 := hc.1; have c6 := hc.2.1; have c7 := hc.2.2.1; have c8 := hc.2.2.2; clear hc; go_simp; first | done | with_reducible rfl) ?_
      simp only [Act.put]
      refine wpAnyM_ready [21] (by kernel_rfl) (by simp) ?_
      refine AllReadyM.last (by rfl) (by decide) (fun K hK => ?_)
      replace HLR := Lib.hid (HLR.out.go HB0.out)
      replace BB := Lib.hid (BB.out.go HB0.out)
      have hc := HLR.out.row.at_ hxa2
      obtain ⟨z9, hz9⟩ : ∃ z, L[xa.toNat] = z := ⟨_, rfl⟩
      rw [hz9] at hc
      have c1 := hc.1
      have c2 := hc.2.1
      have c3 := hc.2.2.1
      have c4 := hc.2.2.2
      clear hc
      have cf9 := HLR.out.row.frozen
      have cl9 := HLR.out.row.lt
      go_simp
      clear c1 c2 c3 c4 cf9 cl9 hz9
      have HP1 := HLR.out.put hxa2 HS1.out
      have kHS2 := (HLR.out.row.put hxa2 (y1 + (z.power : Rat)) s1).2 _ _ HS2.out
      unfold rput at HP1 kHS2
      clear HLR HS1 HS2
      generalize ((((wq4.setCell ⟨gz, xa.toNat * 4, none⟩ (.bool s1.N.b)).setCell ⟨gz, xa.toNat * 4 + 1, none⟩ (.slice s1.N.A s1.N.n s1.N.c)).setCell ⟨gz, xa.toNat * 4 + 2, none⟩ (.bool s1.D.b)).setCell ⟨gz, xa.toNat * 4 + 3, none⟩ (.slice s1.D.A s1.D.n s1.D.c)) = wq5 at *
      have HLR := Lib.hid HP1
      have HS2 := Lib.hid kHS2
      clear HP1 kHS2
      clear BB
      obtain ⟨L1, hL1⟩ : ∃ l, l = L.set xa.toNat (y1 + (z.power : Rat), s1) := ⟨_, rfl⟩
      have hxb3 : xb.toNat < L1.length := by rw [hL1, List.length_set]; exact hxb2
      have HE1 : Hid (L1.map (·.1) = (L.map (·.1)).set xa.toNat (y1 + (z.power : Rat))) := by show _ = _; rw [hL1, List.map_set]
      rw [← hL1] at HLR
      clear hL1 EJ1 EJ2
      replace HB0 := Lib.hid (Below.refl wq5.heap.size wq5)
      refine hK.out _ _ ?_
      clear hK K
      refine wpAnyM_ready [22] (by kernel_rfl) (by simp) ?_
      refine AllReadyM.last (by rfl) (by decide) (fun K hK => ?_)
      go_simp
      refine hK.out _ _ ?_
      clear hK K
      refine wpAnyM_ready [23] (by kernel_rfl) (by simp) ?_
      refine AllReadyM.last (by rfl) (by decide) (fun K hK => ?_)
      have hc := HLR.out.row.at_ hxb3
      obtain ⟨z9, hz9⟩ : ∃ z, L1[xb.toNat] = z := ⟨_, rfl⟩
      rw [hz9] at hc
      have c1 := hc.1
      have c2 := hc.2.1
      have c3 := hc.2.2.1
      have c4 := hc.2.2.2
      clear hc
      have cf9 := HLR.out.row.frozen
      have cl9 := HLR.out.row.lt
      go_simp
      clear c1 c2 c3 c4 cf9 cl9 hz9
      have HP1 := HLR.out.put hxb3 HS2.out
      unfold rput at HP1 
      clear HLR HS2 
      generalize ((((wq5.setCell ⟨gz, xb.toNat * 4, none⟩ (.bool s2.N.b)).setCell ⟨gz, xb.toNat * 4 + 1, none⟩ (.slice s2.N.A s2.N.n s2.N.c)).setCell ⟨gz, xb.toNat * 4 + 2, none⟩ (.bool s2.D.b)).setCell ⟨gz, xb.toNat * 4 + 3, none⟩ (.slice s2.D.A s2.D.n s2.D.c)) = wq7 at *
      have HLR := Lib.hid HP1
      clear HP1 
      obtain ⟨L2, hL2⟩ : ∃ l, l = L1.set xb.toNat (y2 - (z.power : Rat), s2) := ⟨_, rfl⟩
      have HE2 : Hid (L2.map (·.1) = ((L.map (·.1)).set xa.toNat (y1 + (z.power : Rat))).set xb.toNat (y2 - (z.power : Rat))) := by show _ = _; rw [hL2, List.map_set, HE1.out]
      rw [← hL2] at HLR
      clear hL2
      replace HB0 := Lib.hid (Below.refl wq7.heap.size wq7)
      refine hK.out _ _ ?_
      clear hK K
      refine wpAnyM_done (by kernel_rfl) ?_ _
      clear HB0 hSw
      go_wp2_with fail
      go_roundw
      case rel => exact ⟨k + 1, L2, hlt, by go_num, by show _ = _; rw [HNX.out, HE2.out], HLR⟩
      case measure => simp [intOf]; omega
    · obtain rfl : n = k := by omega
      have hkn : ¬ ((n : Int) < (n : Int)) := by omega
      rw [List.take_of_length_le (by have := HLN.out; omega)] at HV
      obtain ⟨hXnb, hXF, hXT, hXB, hXC, hXR, hXnf⟩ := HEQ.out
      have hnb24 : X.nb ≤ 24 := by have := HOK.out.nb; omega
      have hnf24 : X.nf ≤ 24 := by
        have h1 := Pl.freeTo_len X.isl X.isl.length
        have h2 := HTOP.out.isles.len
        rw [hXnf, hXR]
        unfold Pl.freeL
        omega
      have hXw := HX.out.go HLR.out.below
      have hUw := HU.out.go HLR.out.below
      have hSU : ∀ row ∈ svals U, ∀ q ∈ row, Pl.rsz q ≤ 316669953 := by rw [HUV.out]; exact inv_rsz hXnb hXB hXnf hnf24 HOK.out
      have hwide : ∀ row ∈ svals U, row.length ≤ 24 := fun row h => by rw [HU.out.wide row h]; exact hnf24
      have hRin : ∀ v ∈ X.R, 0 ≤ v ∧ v < X.mb := by rw [hXR]; exact free_in HTOP.out
      have hFin : ∀ v ∈ X.F, 0 ≤ v ∧ v < X.mb := by rw [hXF]; exact (frs_in HTOP.out HOK.out).1
      have hTin : ∀ v ∈ X.T, 0 ≤ v ∧ v < X.mb := by rw [hXT]; exact (frs_in HTOP.out HOK.out).2
      have hBr : ∀ q ∈ X.LB.map (·.1), Pl.rsz q ≤ 2 := by rw [hXB]; exact map_rsz fun b hb => sus_rsz (HOK.out.bra b hb).2.2.2
      have hCr : ∀ q ∈ X.LC.map (·.1), Pl.rsz q ≤ 4 := by rw [hXC]; exact map_rsz fun b hb => con_rsz (HOK.out.bra b hb).2.2.2
      have hin : ∀ q ∈ L.map (·.1), Pl.rsz q ≤ 100 := fun q hq => by
        rw [HV.out] at hq
        have h9 := Pl.injN_rsz l (fun r hr => by have := riE_ok (HRI.out _ hr); exact ⟨this.2.2.1, this.2.2.2⟩) q hq
        have := HLN.out
        omega
      have hLp : RatsIs wr wr.heap.size (some ⟨gz, 0, none⟩) X.mb L := LW.rats (base := 0) (.inr ⟨gz, rfl, Nat.zero_le _, HLR.out.row⟩) HLL.out HLR.out.each
      have HANG := Lib.hid (Angles_b p gI X.mb X U (some ⟨gz, 0, none⟩) L 316669953 wr hXw hUw hLp hmb24 hnf24 hnb24 hRin hFin hTin hCr hSU (fun q hq => by have := hin q hq; omega) ⟨by decide, by decide⟩)
      have hleft := fun q hq => Nat.le_trans ((Pl.leftTo_rsz (F := X.F) (T := X.T) hin (by decide) hCr X.nb).1 q hq) (show 100 + X.nb * 10 ≤ 316669953 by omega)
      have HSZ := Lib.hid (angN_rsz (R := X.R) (mb := X.mb) hSU hwide hleft (by decide))
      have HFLW := Lib.hid (fun (W : World) (hb : Below wr.heap.size wr W) (P : Option Addr) (L9 : List (Rat × Rt)) (hr : RatsIs W W.heap.size P X.mb L9) (hsz : ∀ q ∈ L9.map (·.1), Pl.rsz q ≤ 1 + 24 * (2 * 316669953 + 1)) => Flows_b p X.mb X _ P L9 (1 + 24 * (2 * 316669953 + 1)) W (hXw.go hb) hr hnb24 hFin hTin hBr hCr hsz ⟨by decide, by decide⟩)
      clear hXw hUw hSU hwide hRin hFin hTin hBr hCr hin hLp hleft
      go_wp2_with fail
      refine HANG.out.mono ?_
      rintro e w9 ⟨g9, L9, rfl, hg9, hr9, hv9, hb9⟩
      have hl9 : L9.length = X.mb := by have := congrArg List.length hv9; unfold Pl.angN at this; rwa [List.length_map, Pl.angTo_len] at this
      have hr8 := hr9.rats
      rw [hl9] at hr8
      have HF9 := Lib.hid (HFLW.out w9 hb9 (some ⟨g9, 0, none⟩) L9 hr8 (by rw [hv9]; exact HSZ.out))
      have HV9 := Lib.hid hv9
      have HB9 := Lib.hid hb9
      clear hg9 hr9 hv9 hb9 hl9 hr8 HANG HFLW HSZ
      go_wp2_with fail
      refine HF9.out.mono ?_
      rintro e w10 ⟨A9, c9, L10, rfl, hv10, hl10, hrq, hall, hb10⟩
      have HV10 := Lib.hid hv10
      have HR10 := Lib.hid (LW.rats hrq.lw.1 hl10 hall)
      have HB10 := Lib.hid hb10
      clear hv10 hl10 hrq hall hb10 HF9
      go_wp2_with fail
      go_ret2
      refine ⟨.inr ⟨rfl, .inr ⟨H10.out, X.bus, X.isl, X.mb, mi, HTOP.out, .inr ⟨?_, A9, c9, L10, ?_, ?_, ?_⟩⟩⟩, D.out.trans ((HLR.out.below.trans (HB9.out.mono HLR.out.below.size)).trans (HB10.out.mono (Nat.le_trans HLR.out.below.size HB9.out.size)) |>.mono D.out.size)⟩
      · obtain ⟨_, rfl, _, _⟩ := HTOP.out.uniq HTC.out
        exact HCC.out.symm
      · rfl
      · rw [← hXnb]
        exact HR10.out
      · have he := esTo_net hXnb hXF hXT hXB
        unfold Pl.netFlows
        rw [HV10.out, HV9.out, HUV.out, HV.out, he, hXF, hXT, hXB, hXC, hXR, hXnb]
end Go.Proofs.YtoblpcljhblnmaaGreatDoor
namespace Go.Proofs.YtoblpcljhblnmaaGreatDoor
open Go.RowKit
set_option maxRecDepth 100000
def Pl.Torn (isl : List Int) : Bool := isl.any fun i => decide (0 < i)
def Pl.RfErr (N : Pl.Net) (l : List Pl.RI) (E : Int) : Prop :=
  (Pl.rightsE N l ≠ 0 ∧ E = Pl.rightsE N l) ∨ (Pl.rightsE N l = 0 ∧ ((10 < N.branches.length ∧ E = 2) ∨ (N.branches.length ≤ 10 ∧ ∃ bus isl mb mi, Pl.TopOk N bus isl mb mi ∧ ((Pl.Torn isl = true ∧ E = 15) ∨ (Pl.Torn isl = false ∧ ¬ (∀ q ∈ Pl.netFlows N bus isl mb (Pl.injN N bus mb l), Pl.Fits q) ∧ E = 2)))))
def Pl.RfGood (N : Pl.Net) (l : List Pl.RI) (fs : List Rat) : Prop :=
  Pl.rightsE N l = 0 ∧ N.branches.length ≤ 10 ∧ ∃ bus isl mb mi, Pl.TopOk N bus isl mb mi ∧ Pl.Torn isl = false ∧ fs = Pl.netFlows N bus isl mb (Pl.injN N bus mb l) ∧ ∀ q ∈ fs, Pl.Fits q
theorem RfErr.ne {N : Pl.Net} {l : List Pl.RI} {E : Int} (h : Pl.RfErr N l E) : E ≠ 0 := by
  rcases h with ⟨h1, rfl⟩ | ⟨_, ⟨_, rfl⟩ | ⟨_, _, _, _, _, _, ⟨_, rfl⟩ | ⟨_, _, rfl⟩⟩⟩
  · exact h1
  · decide
  · decide
  · decide
def RFSaid (N : Pl.Net) (l : List Pl.RI) (w : World) (e : Ending) (w' : World) : Prop :=
  ((∃ E, Pl.RfErr N l E ∧ e = .returned (.tuple #[.slice none 0 0, .int .i64 E])) ∨
    (∃ fs g, Pl.RfGood N l fs ∧ e = .returned (.tuple #[.slice (some ⟨g, 0, none⟩) N.branches.length N.branches.length, .int .i64 0]) ∧ Reads w' w'.heap.size 1 (some ⟨g, 0, none⟩) N.branches.length (txs (fs.map Pl.ratTxt)))) ∧ Below w.heap.size w w'
theorem rFlows_any (M : MNet) (A : Option Addr) (n c : Nat) (l : List Pl.RI) (w : World) (hM : NetIn w w.heap.size M) (hl : Elems riC 3 w w.heap.size A n l) (hn : n ≤ 9223372036854775807) (hv : LV w) :
    Calls Tryz.prog 17 #[vNet M, .slice A n c] w (RFSaid M.N l w) := by
  have HV := Lib.hid hv
  have HPY := Lib.hid (fun (W : World) (hb : Below w.heap.size w W) => rflows_any M A n c l W (hM.go hb) ⟨hl.1.go hb, hl.2⟩ hn)
  clear hM hl hv
  obtain ⟨N, A0, n0, c0, A1, n1, c1, A2, n2, c2, A3, n3, c3, A4, n4, c4, A5, n5, c5⟩ := M
  unfold vNet netC at *
  simp only at *
  have hA := Blk.new_ w w.heap.size 29 #[.slice A0 n0 c0, .slice A1 n1 c1, .slice A2 n2 c2, .slice A3 n3 c3, .slice A4 n4 c4, .slice A5 n5 c5] rfl
  have hD := (Below.refl w.heap.size w).alloc (Nat.le_refl _) (.cells #[.slice A0 n0 c0, .slice A1 n1 c1, .slice A2 n2 c2, .slice A3 n3 c3, .slice A4 n4 c4, .slice A5 n5 c5] 29)
  have D := Lib.hid hD
  have ca := hA.cell
  have la := hA.lt
  clear hA hD
  go_enter Tryz.func17, Tryz.ntmps17
  go_wp2_with fail
  clear ca la
  generalize w.alloc (.cells #[.slice A0 n0 c0, .slice A1 n1 c1, .slice A2 n2 c2, .slice A3 n3 c3, .slice A4 n4 c4, .slice A5 n5 c5] 29) = w1 at *
  refine (HPY.out w1 D.out).mono ?_
  unfold RflSaid
  obtain ⟨RE, hRE⟩ : ∃ E, E = Pl.rightsE N l := ⟨_, rfl⟩
  rw [← hRE]
  have HRE := Lib.hid hRE
  clear hRE
  rintro e w2 ⟨hc, hb⟩
  replace D := Lib.hid (D.out.trans (hb.mono D.out.size))
  clear hb HPY
  rcases hc with ⟨h0, rfl⟩ | ⟨h0, ⟨h1, rfl⟩ | ⟨h1, bus, isl, mb, mi, ht, ⟨h2, rfl⟩ | ⟨h2, A9, c9, L, rfl, h4, h5⟩⟩⟩
  · have e1 : (RE != 0) = true := by simpa using h0
    have H0 := Lib.hid h0
    clear h0
    go_wp2_with fail
    go_ret2
    exact ⟨.inl ⟨RE, .inl ⟨by rw [← HRE.out]; exact H0.out, HRE.out⟩, rfl⟩, D.out⟩
  · have H0 : Hid (Pl.rightsE N l = 0) := Lib.hid (HRE.out.symm.trans h0)
    have H1 := Lib.hid h1
    clear h0 h1
    go_wp2_with fail
    go_ret2
    exact ⟨.inl ⟨2, .inr ⟨H0.out, .inl ⟨H1.out, rfl⟩⟩, rfl⟩, D.out⟩
  · have H0 : Hid (Pl.rightsE N l = 0) := Lib.hid (HRE.out.symm.trans h0)
    have H1 := Lib.hid h1
    have H2 := Lib.hid h2
    have HT := Lib.hid ht
    clear h0 h1 h2 ht
    go_wp2_with fail
    go_ret2
    exact ⟨.inl ⟨15, .inr ⟨H0.out, .inr ⟨H1.out, bus, isl, mb, mi, HT.out, .inl ⟨H2.out, rfl⟩⟩⟩, rfl⟩, D.out⟩
  · have H0 : Hid (Pl.rightsE N l = 0) := Lib.hid (HRE.out.symm.trans h0)
    have H1 := Lib.hid h1
    have H2 := Lib.hid h2
    have HT := Lib.hid ht
    have HTV := Lib.hid (textvec_any A9 N.branches.length c9 L _ w2 (by omega) h4 h5 (HV.out.go D.out))
    clear h0 h1 h2 ht h4 h5
    go_wp2_with fail
    refine HTV.out.mono ?_
    rintro e w3 ⟨hc, hb⟩
    replace D := Lib.hid (D.out.trans (hb.mono D.out.size))
    clear hb HTV
    rcases hc with ⟨h6, rfl⟩ | ⟨h6, g, rfl, h7⟩
    · have H6 := Lib.hid h6
      clear h6
      go_wp2_with fail
      go_ret2
      exact ⟨.inl ⟨2, .inr ⟨H0.out, .inr ⟨H1.out, bus, isl, mb, mi, HT.out, .inr ⟨H2.out, H6.out, rfl⟩⟩⟩, rfl⟩, D.out⟩
    · have H6 := Lib.hid h6
      have H7 := Lib.hid h7
      clear h6 h7
      go_wp2_with fail
      go_ret2
      exact ⟨.inr ⟨_, g, ⟨H0.out, H1.out, bus, isl, mb, mi, HT.out, H2.out, rfl, H6.out⟩, rfl, H7.out⟩, D.out⟩
theorem allTo_succ {P : Nat → Prop} {k : Nat} (h : ∀ j, j < k → P j) (hk : P k) : ∀ j, j < k + 1 → P j := fun j hj => by
  rcases Nat.lt_succ_iff_lt_or_eq.1 hj with h9 | rfl
  · exact h j h9
  · exact hk
def Pl.limAt (N : Pl.Net) (fs : List Rat) (k : Nat) : Bool := decide (Pl.cmpR (Pl.absR (fs.getD k 0)) (((N.branches.map (·.limit)).getD k 0 : Int) : Rat) ≤ 0)
def Pl.inLim (N : Pl.Net) (fs : List Rat) : Bool := (List.range N.branches.length).all (Pl.limAt N fs)
def FeasSaid (N : Pl.Net) (l : List Pl.RI) (w : World) (e : Ending) (w' : World) : Prop :=
  ((∃ E, Pl.RfErr N l E ∧ e = .returned (.tuple #[.bool false, .int .i64 E])) ∨ (∃ fs, Pl.RfGood N l fs ∧ e = .returned (.tuple #[.bool (Pl.inLim N fs), .int .i64 0]))) ∧ Below w.heap.size w w'
theorem lim_at {w : World} {A : Option Addr} {n : Nat} {l : List Pl.Bra} (h : Elems braC 9 w w.heap.size A n l) {k : Nat} (hk : k < n) :
    ∃ b o, A = some ⟨b, o, none⟩ ∧ ∀ w', Below w.heap.size w w' → w'.cell? ⟨b, o + k * 9 + 6, none⟩ = some (.int .i64 ((l.map (·.limit)).getD k 0)) := by
  obtain ⟨b, o, rfl, hb, hl, hc⟩ := Elems.at_ (dec := braC) (size := 9) (fun _ => rfl) (by decide) h hk
  refine ⟨b, o, rfl, fun w' hw => ?_⟩
  rw [hw.cell (p := ⟨b, _, none⟩) hb, hc 6 (by omega), List.getD_eq_getElem?_getD, List.getElem?_map, List.getElem?_eq_getElem hl]
  rfl
theorem rsz_abs (q : Rat) : Pl.rsz (Pl.absR q) = Pl.rsz q := by
  unfold Pl.absR
  split
  · exact Pl.rsz_neg q
  · rfl
theorem inLim_of {N : Pl.Net} {fs : List Rat} (h : ∀ j, j < N.branches.length → Pl.limAt N fs j = true) : Pl.inLim N fs = true := List.all_eq_true.2 fun j hj => h j (List.mem_range.1 hj)
theorem inLim_no {N : Pl.Net} {fs : List Rat} {k : Nat} (hk : k < N.branches.length) (h : Pl.limAt N fs k = false) : Pl.inLim N fs = false := by
  rw [Bool.eq_false_iff]
  intro h9
  have := List.all_eq_true.1 h9 k (List.mem_range.2 hk)
  rw [h] at this
  cases this
set_option maxHeartbeats 3200000 in
theorem feasible_any (M : MNet) (A : Option Addr) (n c : Nat) (l : List Pl.RI) (w : World) (hM : NetIn w w.heap.size M) (hl : Elems riC 3 w w.heap.size A n l) (hn : n ≤ 9223372036854775807) (hv : LV w) :
    Calls Tryz.prog 18 #[vNet M, .slice A n c] w (FeasSaid M.N l w) := by
  have HRF := Lib.hid (fun (W : World) (hb : Below w.heap.size w W) => rFlows_any M A n c l W (hM.go hb) ⟨hl.1.go hb, hl.2⟩ hn (hv.go hb))
  have HPY := Lib.hid (fun (W : World) (hb : Below w.heap.size w W) => rflows_any M A n c l W (hM.go hb) ⟨hl.1.go hb, hl.2⟩ hn)
  have HM := Lib.hid hM
  have HL2 : Hid (M.N.branches.length = M.n2) := hM.r2.2
  clear hM hl hv
  obtain ⟨N, A0, n0, c0, A1, n1, c1, A2, n2, c2, A3, n3, c3, A4, n4, c4, A5, n5, c5⟩ := M
  unfold vNet netC at *
  simp only at *
  have hA := Blk.new_ w w.heap.size 29 #[.slice A0 n0 c0, .slice A1 n1 c1, .slice A2 n2 c2, .slice A3 n3 c3, .slice A4 n4 c4, .slice A5 n5 c5] rfl
  have hD := (Below.refl w.heap.size w).alloc (Nat.le_refl _) (.cells #[.slice A0 n0 c0, .slice A1 n1 c1, .slice A2 n2 c2, .slice A3 n3 c3, .slice A4 n4 c4, .slice A5 n5 c5] 29)
  have D := Lib.hid hD
  have BN := Lib.hid hA
  have ca := hA.cell
  have la := hA.lt
  clear hA hD
  go_enter Tryz.func18, Tryz.ntmps18
  go_wp2_with fail
  clear ca la
  obtain ⟨bn, hbn⟩ : ∃ bn : Nat, bn = w.heap.size := ⟨_, rfl⟩
  rw [← hbn] at BN ⊢
  clear hbn
  generalize w.alloc (.cells #[.slice A0 n0 c0, .slice A1 n1 c1, .slice A2 n2 c2, .slice A3 n3 c3, .slice A4 n4 c4, .slice A5 n5 c5] 29) = w1 at *
  refine (HRF.out w1 D.out).mono ?_
  rintro e w2 ⟨hc, hb⟩
  replace D := Lib.hid (D.out.trans (hb.mono D.out.size))
  replace BN := Lib.hid (BN.out.go hb)
  clear hb HRF
  rcases hc with ⟨E, h1, rfl⟩ | ⟨fs, g, h1, rfl, _⟩
  · have e1 : (E != 0) = true := by simpa using RfErr.ne h1
    have H1 := Lib.hid h1
    clear h1
    go_wp2_with fail
    go_ret2
    exact ⟨.inl ⟨E, H1.out, rfl⟩, D.out⟩
  have HG := Lib.hid h1
  clear h1
  have cbn := BN.out.cell
  have lbn := BN.out.lt
  go_wp2_with fail
  clear cbn lbn
  refine (HPY.out w2 D.out).mono ?_
  obtain ⟨hg0, hg1, bus, isl, mb, mi, hgt, hgc, hgf, hfit⟩ := HG.out
  unfold RflSaid
  rw [hg0]
  rintro e w3 ⟨hc, hb⟩
  replace D := Lib.hid (D.out.trans (hb.mono D.out.size))
  replace BN := Lib.hid (BN.out.go hb)
  clear hb HPY
  rcases hc with ⟨h0, _⟩ | ⟨_, ⟨h1, _⟩ | ⟨_, bus', isl', mb', mi', ht, hc⟩⟩
  · exact absurd rfl h0
  · omega
  obtain ⟨rfl, rfl, rfl, rfl⟩ := hgt.uniq ht
  rcases hc with ⟨h2, _⟩ | ⟨_, A9, c9, L, rfl, h4, h5⟩
  · unfold Pl.Torn at hgc
    rw [hgc] at h2
    cases h2
  rw [← hgf] at h5
  have HR := Lib.hid h4
  have HLF := Lib.hid h5
  have HFIT := Lib.hid hfit
  rw [HL2.out] at HR ⊢
  have hn10 : n2 ≤ 10 := by have := HL2.out; omega
  clear h4 h5 hfit hgf hgc ht hgt hg1 hg0
  go_wp2_with fail
  go_loopw [29] (fun i wr => ∃ (k : Nat), k ≤ n2 ∧ i = .int .i64 k ∧ Hid (∀ j, j < k → Pl.limAt N fs j = true) ∧ Hid (Below w3.heap.size w3 wr)) (fun i _ => n2 - (intOf i).toNat)
  case atStart => exact ⟨0, Nat.zero_le _, rfl, Lib.hid (fun j hj => absurd hj (by omega)), Lib.hid (Below.refl _ _)⟩
  case round =>
    obtain ⟨k, hk, rfl, HOKS, D3⟩ := hrel
    by_cases hlt : k < n2
    · have hk9 : (k : Int) < (n2 : Int) := by omega
      obtain ⟨bq0, oq0, xq, eA9, _, hnq, hcq⟩ := rats_cells (HR.out.go D3.out) hlt
      obtain ⟨b9, o9, eA2, hlim⟩ := lim_at (HM.out.go (D.out.trans (D3.out.mono D.out.size))).r2 hlt
      obtain ⟨q, hq9⟩ : ∃ q, q = (L.map (·.1)).getD k 0 := ⟨_, rfl⟩
      obtain ⟨lm, hlm⟩ : ∃ z, z = (N.branches.map (·.limit)).getD k 0 := ⟨_, rfl⟩
      rw [← hq9] at hnq
      rw [← hlm] at hlim
      have HLIM9 : Hid (Pl.limAt N fs k = decide (Pl.cmpR (Pl.absR q) (lm : Rat) ≤ 0)) := by show _ = _; unfold Pl.limAt; rw [← hlm, hq9, HLF.out]
      have hkl : k < (L.map (·.1)).length := by rw [List.length_map, HR.out.len]; exact hlt
      have HSQ : Pl.rsz q ≤ 1099511627776 := by
        have h9 := Pl.rsz_fits (HFIT.out q (by rw [hq9, List.getD_eq_getElem?_getD, List.getElem?_eq_getElem hkl, ← HLF.out]; exact List.getElem_mem hkl))
        omega
      have HSA : Pl.rsz (Pl.absR q) ≤ 1099511627776 := by rw [rsz_abs]; exact HSQ
      obtain ⟨hlm0, hlm1⟩ : 0 ≤ lm ∧ lm ≤ 100000 := by
        have hkb : k < (N.branches.map (·.limit)).length := by rw [List.length_map, HL2.out]; exact hlt
        rw [List.getD_eq_getElem?_getD, List.getElem?_eq_getElem hkb] at hlm
        have hm := List.getElem_mem hkb
        obtain ⟨b, hb, e9⟩ := List.mem_map.1 hm
        have h9 := braOut_no ((Pl.netE_ok (rightsE_ok HG.out.1).1).bra b hb).2.2.2
        rw [hlm]
        simp only [Option.getD_some]
        rw [← e9]
        exact ⟨h9.2.2.2.2.2.2.1, h9.2.2.2.2.2.2.2⟩
      have HSL : Pl.rsz (lm : Rat) ≤ 1099511627776 := by rw [Pl.rsz_int]; have := small_nw (n := lm) (by omega); omega
      obtain ⟨c0, c1, c2, c3⟩ := hcq wr (Below.refl _ _)
      have HXQ := Lib.hid hnq
      have HLIM := Lib.hid hlim
      have EA2 := Lib.hid eA2
      clear hnq hcq hq9 hlm hlim hkl eA2
      rw [eA9]
      go_wp2_with fail
      have hb5 := below_oneS wr (.cells #[.bool xq.N.b, .slice xq.N.A xq.N.n xq.N.c, .bool xq.D.b, .slice xq.D.A xq.D.n xq.D.c] 105)
      obtain ⟨bq, hbq⟩ : ∃ b, b = wr.heap.size := ⟨_, rfl⟩
      have BQ : Hid (BoxR (wr.alloc (.cells #[.bool xq.N.b, .slice xq.N.A xq.N.n xq.N.c, .bool xq.D.b, .slice xq.D.A xq.D.n xq.D.c] 105)) bq q xq) := ⟨Blk.new_ wr bq _ _ hbq, HXQ.out.go hb5⟩
      rw [← hbq]
      have HLIM8 : Hid (∀ w', Below (wr.alloc (.cells #[.bool xq.N.b, .slice xq.N.A xq.N.n xq.N.c, .bool xq.D.b, .slice xq.D.A xq.D.n xq.D.c] 105)).heap.size (wr.alloc (.cells #[.bool xq.N.b, .slice xq.N.A xq.N.n xq.N.c, .bool xq.D.b, .slice xq.D.A xq.D.n xq.D.c] 105)) w' → w'.cell? ⟨b9, o9 + k * 9 + 6, none⟩ = some (.int .i64 lm)) := fun w' hw => HLIM.out w' (hb5.trans (hw.mono hb5.size))
      replace D3 := Lib.hid (D3.out.trans (hb5.mono D3.out.size))
      clear hb5 hbq HXQ HLIM c0 c1 c2 c3 eA9
      generalize wr.alloc (.cells #[.bool xq.N.b, .slice xq.N.A xq.N.n xq.N.c, .bool xq.D.b, .slice xq.D.A xq.D.n xq.D.c] 105) = wa at *
      go_upto_region 8 with fail
      have HB8 := Lib.hid (Below.refl wa.heap.size wa)
      have hb5 := (Below.refl wa.heap.size wa).drew
      replace HB8 := Lib.hid hb5
      replace BQ := Lib.hid (BQ.out.go hb5)
      replace D3 := Lib.hid (D3.out.trans (hb5.mono D3.out.size))
      clear hb5
      have HB0 := Lib.hid (Below.refl wa.drew.heap.size wa.drew)
      have hlt_D3 := D3.out.size
      generalize hw9 : wa.drew = w8 at *
      have hSw : (fun w' : World => Below w8.heap.size w8 w') w8 := HB0.out
      refine wp_region_mid (fun w' : World => Below w8.heap.size w8 w') 11 (by kernel_rfl) ?_
      rw [hw9]
      clear hw9
      refine Tk.go [(0, [1, 8, 9, 10]), (2, [3, 5, 6, 7, 8, 9, 10]), (3, [5, 6, 7, 8, 9, 10]), (4, [5, 6, 7, 8, 9, 10]), (5, [6, 7, 8, 9, 10]), (6, [7, 8, 9, 10]), (7, [8, 9, 10])] ?_
      iterate 7 (refine Tk.cons rfl (by kernel_rfl) (fun _ _ _ h => h) hSw (by kernel_rfl) (fun w' hSx => by have ck := ((BQ.out.go hSx).blk).cell; have cn := (BN.out.go ((D3.out.trans (hSx.mono D3.out.size)))).cell; rw [EA2.out] at cn; have cl := HLIM8.out _ (HB8.out.trans (hSx.mono HB8.out.size)); go_simp; first | done | with_reducible rfl) ?_; simp only [Act.put, List.setIfInBounds_toArray])
      refine Tk.nil ?_
      refine wpAnyM_ready [1] (by kernel_rfl) (by simp) ?_
      refine AllReadyM.cons (by rfl) (fun K hK => ?_) AllReadyM.nil
      go_simp
      refine (rabs_any (BQ.out.go HB0.out).num HSQ).mono ?_
      rintro e wq1 ⟨x1, rfl, hx9, hb5⟩
      replace HB0 := Lib.hid (Below.trans HB0.out (hb5.mono HB0.out.size))
      have HX1 := Lib.hid hx9
      clear hx9
      clear hb5
      clear hSw
      have hSw : (fun w' : World => Below w8.heap.size w8 w') wq1 := HB0.out
      refine hK.out _ _ hSw ?_
      clear hK K
      refine wpAnyM_ready [8] (by kernel_rfl) (by simp) ?_
      refine AllReadyM.cons (by rfl) (fun K hK => ?_) AllReadyM.nil
      go_simp
      refine (whole_any lm wq1 (by omega) (by omega)).mono ?_
      rintro e wq2 ⟨x2, rfl, hx9, hb5⟩
      replace HX1 := Lib.hid (HX1.out.go hb5)
      replace HB0 := Lib.hid (Below.trans HB0.out (hb5.mono HB0.out.size))
      have HX2 := Lib.hid hx9
      clear hx9
      clear hb5
      clear hSw
      have hSw : (fun w' : World => Below w8.heap.size w8 w') wq2 := HB0.out
      refine hK.out _ _ hSw ?_
      clear hK K
      refine wpAnyM_ready [9] (by kernel_rfl) (by simp) ?_
      refine AllReadyM.cons (by rfl) (fun K hK => ?_) AllReadyM.nil
      go_simp
      refine (rcmp_any HX1.out HX2.out HSA HSL).mono ?_
      rintro e wq3 ⟨rfl, hb5⟩
      clear HX1 HX2
      replace HB0 := Lib.hid (Below.trans HB0.out (hb5.mono HB0.out.size))
      clear hb5
      clear hSw
      have hSw : (fun w' : World => Below w8.heap.size w8 w') wq3 := HB0.out
      refine hK.out _ _ hSw ?_
      clear hK K
      refine wpAnyM_takeB 10 [] rfl (by kernel_rfl) (by kernel_rfl) (by kernel_rfl) (by kernel_rfl) (by kernel_rfl) (fun _ _ _ h => h) hSw (by kernel_rfl) (fun w' hSx => by have ck := ((BQ.out.go hSx).blk).cell; have cn := (BN.out.go ((D3.out.trans (hSx.mono D3.out.size)))).cell; rw [EA2.out] at cn; have cl := HLIM8.out _ (HB8.out.trans (hSx.mono HB8.out.size)); go_simp; first | done | with_reducible rfl) ?_
      simp only [Act.put]
      refine wpAnyM_done (by kernel_rfl) ?_ _
      simp only [List.getElem_toArray, List.getElem_cons_succ, List.getElem_cons_zero, List.setIfInBounds_toArray, List.set_cons_zero, List.set_cons_succ]
      replace BQ := Lib.hid (BQ.out.go HB0.out)
      replace D3 := Lib.hid (D3.out.trans (HB0.out.mono D3.out.size))
      clear HB0 hSw
      by_cases hcm : 0 < Pl.cmpR (Pl.absR q) (lm : Rat)
      · have HCM : Hid (Pl.limAt N fs k = false) := by show _ = _; rw [HLIM9.out]; exact decide_eq_false (by omega)
        go_wp2_with fail
        go_ret2
        exact ⟨.inr ⟨fs, HG.out, by rw [inLim_no (by rw [HL2.out]; exact hlt) HCM.out]; rfl⟩, D.out.trans (D3.out.mono D.out.size)⟩
      · have HCM : Hid (Pl.limAt N fs k = true) := by show _ = _; rw [HLIM9.out]; exact decide_eq_true (by omega)
        go_wp2_with fail
        go_roundw
        case rel => exact ⟨k + 1, hlt, by go_num, Lib.hid (allTo_succ HOKS.out HCM.out), D3⟩
        case measure => simp [intOf]; omega
    · obtain rfl : n2 = k := by omega
      have hk9 : ¬ ((n2 : Int) < (n2 : Int)) := by omega
      go_wp2_with fail
      go_ret2
      exact ⟨.inr ⟨fs, HG.out, by rw [inLim_of (fun j hj => HOKS.out j (by rw [← HL2.out]; exact hj))]; rfl⟩, D.out.trans (D3.out.mono D.out.size)⟩
end Go.Proofs.YtoblpcljhblnmaaGreatDoor
namespace Go.Proofs.YtoblpcljhblnmaaGreatDoor
open Go.RowKit
set_option maxRecDepth 100000
theorem RfErr.same {N : Pl.Net} {l : List Pl.RI} {E E' : Int} (h : Pl.RfErr N l E) (h' : Pl.RfErr N l E') : E = E' := by
  rcases h with ⟨h1, rfl⟩ | ⟨h0, ⟨h1, rfl⟩ | ⟨h1, bus, isl, mb, mi, ht, h2⟩⟩
  · rcases h' with ⟨_, rfl⟩ | ⟨h9, _⟩
    · rfl
    · exact absurd h9 h1
  · rcases h' with ⟨h9, _⟩ | ⟨_, ⟨_, rfl⟩ | ⟨h9, _⟩⟩
    · exact absurd h0 h9
    · rfl
    · omega
  · rcases h' with ⟨h9, _⟩ | ⟨_, ⟨h9, _⟩ | ⟨_, bus', isl', mb', mi', ht', h3⟩⟩
    · exact absurd h0 h9
    · omega
    · obtain ⟨rfl, rfl, rfl, rfl⟩ := ht.uniq ht'
      rcases h2 with ⟨h2, rfl⟩ | ⟨h2, h4, rfl⟩
      · rcases h3 with ⟨_, rfl⟩ | ⟨h5, _⟩
        · rfl
        · rw [h2] at h5; cases h5
      · rcases h3 with ⟨h5, _⟩ | ⟨_, _, rfl⟩
        · rw [h2] at h5; cases h5
        · rfl
theorem RfErr.not {N : Pl.Net} {l : List Pl.RI} {E : Int} {fs : List Rat} (h : Pl.RfErr N l E) (h' : Pl.RfGood N l fs) : False := by
  obtain ⟨g0, g1, bus, isl, mb, mi, gt, g2, rfl, g3⟩ := h'
  rcases h with ⟨h1, rfl⟩ | ⟨_, ⟨h1, rfl⟩ | ⟨_, bus', isl', mb', mi', ht, h2⟩⟩
  · exact h1 g0
  · omega
  · obtain ⟨rfl, rfl, rfl, rfl⟩ := gt.uniq ht
    rcases h2 with ⟨h2, _⟩ | ⟨_, h2, _⟩
    · rw [g2] at h2; cases h2
    · exact h2 g3
theorem RfGood.same {N : Pl.Net} {l : List Pl.RI} {fs fs' : List Rat} (h : Pl.RfGood N l fs) (h' : Pl.RfGood N l fs') : fs = fs' := by
  obtain ⟨g0, g1, bus, isl, mb, mi, gt, g2, rfl, g3⟩ := h
  obtain ⟨_, _, bus', isl', mb', mi', gt', _, rfl, _⟩ := h'
  obtain ⟨rfl, rfl, rfl, rfl⟩ := gt.uniq gt'
  rfl
theorem cmpR_lt9 {a b : Rat} : Pl.cmpR a b < 0 ↔ a < b := by
  unfold Pl.cmpR
  rw [Int.sign_neg_iff, Rat.lt_iff]
  omega
theorem cmpR_pos9 {a b : Rat} : 0 < Pl.cmpR a b ↔ b < a := by
  unfold Pl.cmpR
  rw [Int.sign_pos_iff, Rat.lt_iff]
  omega
theorem abs_two (q L : Rat) : decide (Pl.cmpR (Pl.absR q) L ≤ 0) = (decide (Pl.cmpR q L ≤ 0) && decide (0 ≤ Pl.cmpR q (-L))) := by
  have h1 : Pl.cmpR (Pl.absR q) L ≤ 0 ↔ ¬ L < Pl.absR q := by rw [← cmpR_pos9]; omega
  have h2 : Pl.cmpR q L ≤ 0 ↔ ¬ L < q := by rw [← cmpR_pos9]; omega
  have h3 : 0 ≤ Pl.cmpR q (-L) ↔ ¬ q < -L := by rw [← cmpR_lt9]; omega
  rw [Bool.eq_iff_iff, Bool.and_eq_true, decide_eq_true_eq, decide_eq_true_eq, decide_eq_true_eq, h1, h2, h3]
  unfold Pl.absR
  by_cases h : q < 0
  · rw [if_pos h]
    constructor
    · intro h9
      refine ⟨fun h8 => h9 ?_, fun h8 => h9 ?_⟩ <;> grind
    · rintro ⟨h8, h9⟩ h7
      refine h9 ?_
      grind
  · rw [if_neg h]
    constructor
    · intro h9
      refine ⟨h9, fun h8 => h9 ?_⟩
      grind
    · rintro ⟨h8, _⟩
      exact h8
theorem ring_top {bus isl : List Int} {mb mi : Nat} (h : Pl.TopOk (RN 10) bus isl mb mi) : bus = [0, 1] ∧ isl = [0, 0] ∧ mb = 2 := by
  obtain ⟨rfl, rfl⟩ : bus = [0, 1] ∧ mb = 2 := Pl.two_free h.buses
  have hi := h.isles
  have e0 := Pl.lab_zero hi (by omega)
  have hE : (Pl.brE (RN 10) [0, 1])[0]? = some (0, 1) := by decide +kernel
  have h1 := (hi.closed 0 0 1 (by decide) hE).1 (by omega)
  have hl := hi.len
  match isl, hl with
  | [a, b], _ =>
    have ea : a = 0 := e0
    have eb : b = a := h1
    subst ea eb
    exact ⟨rfl, rfl, rfl⟩
def rf7 : List Pl.RI := [⟨tN1, tN2, 7⟩]
def rf11 : List Pl.RI := [⟨tN1, tN2, 11⟩]
theorem rf7_flow : Pl.netFlows (RN 10) [0, 1] [0, 0] 2 (Pl.injN (RN 10) [0, 1] 2 rf7) = [7] := by decide +kernel
theorem rf11_flow : Pl.netFlows (RN 10) [0, 1] [0, 0] 2 (Pl.injN (RN 10) [0, 1] 2 rf11) = [11] := by decide +kernel
theorem rf7_E : Pl.rightsE (RN 10) rf7 = 0 := by decide +kernel
theorem rf11_E : Pl.rightsE (RN 10) rf11 = 0 := by decide +kernel
theorem lt_limK9 {a k : Nat} (ha : a < 100) (h : 2 ≤ k) : a < Pl.limK k := Nat.lt_of_lt_of_le (Nat.lt_of_lt_of_eq ha (by decide)) (Nat.pow_le_pow_right (n := 10) (i := 2) (by omega) h)
theorem fits7 : Pl.Fits 7 := ⟨by unfold Pl.lim; exact lt_limK9 (a := (7 : Rat).num.natAbs) (by decide) (by omega), by unfold Pl.lim; exact lt_limK9 (a := (7 : Rat).den) (by decide) (by omega)⟩
theorem fits11 : Pl.Fits 11 := ⟨by unfold Pl.lim; exact lt_limK9 (a := (11 : Rat).num.natAbs) (by decide) (by omega), by unfold Pl.lim; exact lt_limK9 (a := (11 : Rat).den) (by decide) (by omega)⟩
theorem rf_one {l : List Pl.RI} {q : Rat} (hE : Pl.rightsE (RN 10) l = 0) (hf : Pl.netFlows (RN 10) [0, 1] [0, 0] 2 (Pl.injN (RN 10) [0, 1] 2 l) = [q]) (hq : Pl.Fits q) : (∀ E, ¬ Pl.RfErr (RN 10) l E) ∧ ∀ fs, Pl.RfGood (RN 10) l fs → fs = [q] := by
  constructor
  · intro E h
    rcases h with ⟨h1, _⟩ | ⟨_, ⟨h1, _⟩ | ⟨_, bus, isl, mb, mi, ht, h2⟩⟩
    · exact h1 hE
    · exact absurd h1 (by decide)
    · obtain ⟨rfl, rfl, rfl⟩ := ring_top ht
      rcases h2 with ⟨h2, _⟩ | ⟨_, h2, _⟩
      · exact absurd h2 (by decide)
      · refine h2 fun x hx => ?_
        rw [hf, List.mem_singleton] at hx
        rw [hx]
        exact hq
  · rintro fs ⟨_, _, bus, isl, mb, mi, ht, _, rfl, _⟩
    obtain ⟨rfl, rfl, rfl⟩ := ring_top ht
    exact hf
theorem rf11_out : Pl.inLim (RN 10) [11] = false := by decide +kernel
theorem txt7 : [(7 : Rat)].map Pl.ratTxt = [[55]] := by decide +kernel
end Go.Proofs.YtoblpcljhblnmaaGreatDoor
