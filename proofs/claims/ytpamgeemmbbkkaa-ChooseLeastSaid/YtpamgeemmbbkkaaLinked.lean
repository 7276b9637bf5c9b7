/- The reference's Linked reports whether a node near the place is a source's. Condition: the network is a good one and reads, the place is on a branch. -/
import Derived.Test.YtpamgeemmbbkkaaRefT
import Derived.Test.YtpamgeemmbbkkaaPNear
import Derived.Test.YtpamgeemmbbkkaaFaultP
namespace Go.Proofs.Ytpamgeemmbbkkaa
open Go.RowKit
set_option maxRecDepth 100000
/-- the contract of Near, as it is used -/
def NearOk (M : MNet) (Ao : Option Addr) (no co : Nat) (open_ : List ByteArray) (br : ByteArray) (part : Int) (b : Pl.Bra) : Prop :=
  ∀ w, NetIn w w.heap.size M → Reads w w.heap.size 1 Ao no (txts open_) → Calls Try.prog 38 #[vNet M, .slice Ao no co, vPlace br part] w fun e w' => ∃ (A : Option Addr) (m c : Nat) (l : List Int), e = .returned (.slice A m c) ∧ Reads w' w'.heap.size 1 A m (ints l) ∧ l.Nodup ∧ (∀ v, v ∈ l ↔ Pl.NearR (Pl.PairN M.N open_ br part) (Pl.starts M.N part b) v) ∧ m ≤ 24 ∧ Below w.heap.size w w'
/-- is a node of the list a source's? -/
def Pl.srcIn (N : Pl.Net) (l : List Int) : Bool := N.gens.any (fun g => decide (Pl.idxT N.nodes g.node ∈ l)) || N.stores.any (fun s => decide (Pl.idxT N.nodes s.node ∈ l))
set_option maxHeartbeats 3200000 in
theorem linked_any (M : MNet) (Ao : Option Addr) (no co : Nat) (open_ : List ByteArray) (br : ByteArray) (part : Int) (b : Pl.Bra) (w : World) (hM : NetIn w w.heap.size M) (ho : Reads w w.heap.size 1 Ao no (txts open_)) (HN : Hid (NearOk M Ao no co open_ br part b)) :
    Calls Try.prog 20 #[vNet M, .slice Ao no co, vPlace br part] w fun e w' => ∃ l : List Int, (∀ v, v ∈ l ↔ Pl.NearR (Pl.PairN M.N open_ br part) (Pl.starts M.N part b) v) ∧ e = .returned (.bool (Pl.srcIn M.N l)) ∧ Below w.heap.size w w' := by
  have F0 := Lib.hid (((Below.refl w.heap.size w).alloc (Nat.le_refl _) (.cells (netC M) 29)).alloc (by simp) (.cells #[.string br, .int .i64 part] 34))
  have B0 := Lib.hid ((Blk.new_ w w.heap.size 29 (netC M) rfl).alloc (.cells #[.string br, .int .i64 part] 34))
  have P0 := Lib.hid (Blk.new_ (w.alloc (.cells (netC M) 29)) (w.heap.size + 1) 34 #[.string br, .int .i64 part] (by simp))
  have C0 := Lib.hid (fun (w1 : World) (hb : Below w.heap.size w w1) => HN.out w1 (hM.go hb) (ho.go hb))
  have CN := Lib.hid (fun (x : ByteArray) (w1 : World) (hb : Below w.heap.size w w1) => node_any M x w1 (hM.go hb))
  have HM := Lib.hid hM
  have hz3 := hM.z3
  have hz5 := hM.z5
  have HL3 := Lib.hid hM.r3.2
  have HL5 := Lib.hid hM.r5.2
  clear hM ho HN
  unfold vNet vPlace at *
  obtain ⟨N, A0, n0, c0, A1, n1, c1, A2, n2, c2, A3, n3, c3, A4, n4, c4, A5, n5, c5⟩ := M
  unfold netC at *
  simp only at *
  have k0 := B0.out.cell
  have k1 := P0.out.cell
  go_enter Try.func20, Try.ntmps20
  go_wp2_with fail
  refine (C0.out _ F0.out).mono ?_
  rintro e w1 ⟨A, m, c, l, rfl, hr, hnd, hiff, hm, hb⟩
  have F1 := Lib.hid (F0.out.trans (hb.mono F0.out.size))
  have B1 := Lib.hid (B0.out.go hb)
  have R1 := Lib.hid hr
  have HIF := Lib.hid hiff
  have HY : Hid (Pl.srcIn N l = (N.gens.any (fun g => decide (Pl.idxT N.nodes g.node ∈ l)) || N.stores.any (fun s => decide (Pl.idxT N.nodes s.node ∈ l)))) := rfl
  clear hb hr hnd hiff k0 k1 C0 B0 P0 F0
  have k0 := B1.out.cell
  go_wp2_with fail
  clear k0
  go_loopw [19] (fun i wr => ∃ k : Nat, k ≤ n3 ∧ i = .int .i64 k ∧ Hid (∀ j (hj : j < N.gens.length), j < k → Pl.idxT N.nodes N.gens[j].node ∉ l) ∧ Hid (Below w1.heap.size w1 wr)) (fun i _ => n3 - (intOf i).toNat)
  case atStart => exact ⟨0, Nat.zero_le _, rfl, (fun j _ h => absurd h (by omega)), Below.refl _ _⟩
  case round =>
    obtain ⟨k, hk, rfl, HA, GR⟩ := hrel
    have FR := Lib.hid (F1.out.trans (GR.out.mono F1.out.size))
    have BR := Lib.hid (B1.out.go GR.out)
    have kb := BR.out.cell
    by_cases hkn : k < n3
    · obtain ⟨bg, og, rfl, hlk, q0, q1, q2, q3, q4⟩ := gen_at (HM.out.r3.below FR.out) hkn
      have HMEM : Hid (N.gens[k] ∈ N.gens) := List.getElem_mem hlk
      have HJE : Hid (∃ g, g = N.gens[k]) := ⟨_, rfl⟩
      obtain ⟨g, hg⟩ := HJE.out
      rw [← hg] at q0 q1 q2 q3 q4 HMEM
      have HGE := Lib.hid hg
      clear hg HJE
      obtain ⟨gnm, gnd, h2, h3, h4⟩ := g
      simp only at *
      have d5 := (Below.refl wr.heap.size wr).alloc (Nat.le_refl _) (.cells #[.string gnm, .string gnd, .int .i64 h2, .int .i64 h3, .int .i64 h4] 89)
      have G5 := Lib.hid (GR.out.trans (d5.mono GR.out.size))
      have F5 := Lib.hid (FR.out.trans (d5.mono FR.out.size))
      have hlb : wr.heap.size < wr.heap.size + 1 := Nat.lt_succ_self _
      have hbl : w.heap.size < wr.heap.size := BR.out.lt
      clear d5
      go_wp2_with fail
      refine (CN.out gnd _ F5.out).mono ?_
      rintro e w5 ⟨rfl, hb5⟩
      have G6 := Lib.hid (G5.out.trans (hb5.mono G5.out.size))
      have F6 := Lib.hid (F5.out.trans (hb5.mono F5.out.size))
      have CI := Lib.hid (hasInt_any A m c l (Pl.idxT N.nodes gnd) w5 (by omega) (R1.out.go G6.out))
      clear hb5 q0 q1 q2 q3 q4 hlb kb hbl
      by_cases hin : Pl.idxT N.nodes gnd ∈ l
      · rw [decide_eq_true hin] at CI
        have e : Pl.srcIn N l = true := by rw [HY.out, List.any_eq_true.2 ⟨_, HMEM.out, by simpa using hin⟩]; rfl
        have HE := Lib.hid e
        clear e hin
        go_wp2_with fail
        refine CI.out.mono ?_
        rintro e w5 ⟨rfl, rfl⟩
        go_wp2_with fail
        go_ret
        exact ⟨l, HIF.out, by rw [HE.out]; rfl, F6.out⟩
      · rw [decide_eq_false hin] at CI
        have HNI := Lib.hid hin
        clear hin
        go_wp2_with fail
        refine CI.out.mono ?_
        rintro e w5 ⟨rfl, rfl⟩
        go_wp2_with fail
        go_roundw
        case rel => exact ⟨k + 1, by omega, by go_num, (fun j hj hjk => by
          by_cases e : j = k
          · subst e; rw [← HGE.out]; exact HNI.out
          · exact HA.out j hj (by omega)), G6⟩
        case measure => simp [intOf]; omega
    · have HGA : Hid (N.gens.any (fun g => decide (Pl.idxT N.nodes g.node ∈ l)) = false) := List.any_eq_false.2 fun g hg => by
        obtain ⟨j, hj, rfl⟩ := List.getElem_of_mem hg
        have := HA.out j hj (by have := HL3.out; omega)
        simpa using this
      go_wp2_with fail
      clear kb HA
      have G0 := GR
      go_loopw [33] (fun i wr => ∃ k : Nat, k ≤ n5 ∧ i = .int .i64 k ∧ Hid (∀ j (hj : j < N.stores.length), j < k → Pl.idxT N.nodes N.stores[j].node ∉ l) ∧ Hid (Below w1.heap.size w1 wr)) (fun i _ => n5 - (intOf i).toNat)
      case atStart => exact ⟨0, Nat.zero_le _, rfl, (fun j _ h => absurd h (by omega)), GR⟩
      case round =>
        clear GR FR BR
        obtain ⟨k, hk, rfl, HA, GR⟩ := hrel
        have FR := Lib.hid (F1.out.trans (GR.out.mono F1.out.size))
        have BR := Lib.hid (B1.out.go GR.out)
        have kb := BR.out.cell
        by_cases hkn : k < n5
        · obtain ⟨bg, og, rfl, hlk, q0, q1, q2, q3, q4⟩ := sto_at (HM.out.r5.below FR.out) hkn
          have HMEM : Hid (N.stores[k] ∈ N.stores) := List.getElem_mem hlk
          have HJE : Hid (∃ g, g = N.stores[k]) := ⟨_, rfl⟩
          obtain ⟨g, hg⟩ := HJE.out
          rw [← hg] at q0 q1 q2 q3 q4 HMEM
          have HGE := Lib.hid hg
          clear hg HJE
          obtain ⟨gnm, gnd, h2, h3, h4⟩ := g
          simp only at *
          have d5 := (Below.refl wr.heap.size wr).alloc (Nat.le_refl _) (.cells #[.string gnm, .string gnd, .int .i64 h2, .int .i64 h3, .int .i64 h4] 91)
          have G5 := Lib.hid (GR.out.trans (d5.mono GR.out.size))
          have F5 := Lib.hid (FR.out.trans (d5.mono FR.out.size))
          have hlb : wr.heap.size < wr.heap.size + 1 := Nat.lt_succ_self _
          have hbl : w.heap.size < wr.heap.size := BR.out.lt
          clear d5
          go_wp2_with fail
          refine (CN.out gnd _ F5.out).mono ?_
          rintro e w5 ⟨rfl, hb5⟩
          have G6 := Lib.hid (G5.out.trans (hb5.mono G5.out.size))
          have F6 := Lib.hid (F5.out.trans (hb5.mono F5.out.size))
          have CI := Lib.hid (hasInt_any A m c l (Pl.idxT N.nodes gnd) w5 (by omega) (R1.out.go G6.out))
          clear hb5 q0 q1 q2 q3 q4 hlb kb hbl
          by_cases hin : Pl.idxT N.nodes gnd ∈ l
          · rw [decide_eq_true hin] at CI
            have e : Pl.srcIn N l = true := by rw [HY.out, HGA.out, List.any_eq_true.2 ⟨_, HMEM.out, by simpa using hin⟩]; rfl
            have HE := Lib.hid e
            clear e hin
            go_wp2_with fail
            refine CI.out.mono ?_
            rintro e w5 ⟨rfl, rfl⟩
            go_wp2_with fail
            go_ret
            exact ⟨l, HIF.out, by rw [HE.out]; rfl, F6.out⟩
          · rw [decide_eq_false hin] at CI
            have HNI := Lib.hid hin
            clear hin
            go_wp2_with fail
            refine CI.out.mono ?_
            rintro e w5 ⟨rfl, rfl⟩
            go_wp2_with fail
            go_roundw
            case rel => exact ⟨k + 1, by omega, by go_num, (fun j hj hjk => by
              by_cases e : j = k
              · subst e; rw [← HGE.out]; exact HNI.out
              · exact HA.out j hj (by omega)), G6⟩
            case measure => simp [intOf]; omega
        · have HSA : Hid (N.stores.any (fun g => decide (Pl.idxT N.nodes g.node ∈ l)) = false) := List.any_eq_false.2 fun g hg => by
            obtain ⟨j, hj, rfl⟩ := List.getElem_of_mem hg
            have := HA.out j hj (by have := HL5.out; omega)
            simpa using this
          go_wp2_with fail
          go_ret
          exact ⟨l, HIF.out, by rw [HY.out, HGA.out, HSA.out]; rfl, FR.out⟩
end Go.Proofs.Ytpamgeemmbbkkaa
