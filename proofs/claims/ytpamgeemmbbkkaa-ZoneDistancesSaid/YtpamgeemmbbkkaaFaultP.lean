/- netmodel.Find, zone.branch and zone.CheckPlace answer as their plain functions say. Condition: the network reads. -/
import Derived.Test.YtpamgeemmbbkkaaNetFind
namespace Go.Proofs.Ytpamgeemmbbkkaa
open Go.RowKit
set_option maxRecDepth 100000
/-- netmodel.Find -/
def Pl.findE (N : Pl.Net) (nm : ByteArray) : ByteArray × Int × Int :=
  if Pl.netE N ≠ 0 then (⟨#[]⟩, 0, Pl.netE N) else if (Pl.findK N nm).2 < 0 then (⟨#[]⟩, 0, 6) else ((Pl.findK N nm).1, (Pl.findK N nm).2, 0)
/-- zone.CheckPlace -/
def Pl.placeE (N : Pl.Net) (br : ByteArray) (part : Int) : Int :=
  if Pl.netE N ≠ 0 then Pl.netE N else if Pl.idxBra N br < 0 then 6 else if part < 0 ∨ 1000 < part then 4 else 0
set_option maxHeartbeats 1600000 in
theorem findE_any (M : MNet) (nm : ByteArray) (w : World) (hM : NetIn w w.heap.size M) :
    Calls Try.prog 19 #[vNet M, .string nm] w fun e w' => e = .returned (.tuple #[.string (Pl.findE M.N nm).1, .int .i64 (Pl.findE M.N nm).2.1, .int .i64 (Pl.findE M.N nm).2.2]) ∧ Below w.heap.size w w' := by
  have HE : Hid (Pl.findE M.N nm = if Pl.netE M.N ≠ 0 then (⟨#[]⟩, 0, Pl.netE M.N) else if (Pl.findK M.N nm).2 < 0 then (⟨#[]⟩, 0, 6) else ((Pl.findK M.N nm).1, (Pl.findK M.N nm).2, 0)) := rfl
  have C0 := Lib.hid (fun (w1 : World) (hb : Below w.heap.size w w1) => netcheck_any M w1 (hM.go hb))
  have C1 := Lib.hid (fun (w1 : World) (hb : Below w.heap.size w w1) => find_any M nm w1 (hM.go hb))
  generalize Pl.findE M.N nm = R at *
  obtain ⟨R1, R2, R3⟩ := R
  simp only at *
  generalize Pl.netE M.N = ne at *
  generalize Pl.findK M.N nm = K at *
  obtain ⟨K1, K2⟩ := K
  simp only at *
  clear hM
  unfold vNet at *
  have F0 := Lib.hid ((Below.refl w.heap.size w).alloc (Nat.le_refl _) (.cells (netC M) 29))
  have B0 := Lib.hid (Blk.new_ w w.heap.size 29 (netC M) rfl)
  obtain ⟨N, A0, n0, c0, A1, n1, c1, A2, n2, c2, A3, n3, c3, A4, n4, c4, A5, n5, c5⟩ := M
  unfold netC at *
  simp only at *
  go_enter Try.func19, Try.ntmps19
  have k0 := B0.out.cell
  go_wp2_with fail
  refine (C0.out _ F0.out).mono ?_
  rintro e w1 ⟨rfl, hb⟩
  have F1 := Lib.hid (F0.out.trans (hb.mono F0.out.size))
  have B1 := Lib.hid (B0.out.go hb)
  clear hb k0 C0 B0
  by_cases h0 : ne = 0
  · rw [if_neg (by simpa using h0)] at HE
    subst h0
    have k0 := B1.out.cell
    go_wp2_with fail
    refine (C1.out _ F1.out).mono ?_
    rintro e w2 ⟨rfl, hb⟩
    have F2 := Lib.hid (F1.out.trans (hb.mono F1.out.size))
    clear hb k0 C1
    by_cases h1 : K2 < 0
    · rw [if_pos h1] at HE
      go_wp2_with fail
      go_ret3
      injection HE.out with e1 e2
      injection e2 with e2 e3
      exact ⟨by rw [e1, e2, e3]; rfl, F2.out⟩
    · rw [if_neg h1] at HE
      go_wp2_with fail
      go_ret3
      injection HE.out with e1 e2
      injection e2 with e2 e3
      exact ⟨by rw [e1, e2, e3]; rfl, F2.out⟩
  · rw [if_pos (by simpa using h0)] at HE
    have h02 : (ne != 0) = true := by simpa using h0
    clear h0
    go_wp2_with fail
    go_ret3
    injection HE.out with e1 e2
    injection e2 with e2 e3
    exact ⟨by rw [e1, e2, e3]; rfl, F1.out⟩
theorem zbranch_any (M : MNet) (nm : ByteArray) (w : World) (hM : NetIn w w.heap.size M) :
    Calls Try.prog 30 #[vNet M, .string nm] w fun e w' => e = .returned (.int .i64 (Pl.idxBra M.N nm)) ∧ Below w.heap.size w w' := by
  have C2 := Lib.hid (fun (w1 : World) (hb : Below w.heap.size w w1) (hc : w1.cell? ⟨w.heap.size + 1, 0, none⟩ = some (.string nm)) => zbr_idx M.A2 M.n2 M.c2 M.N.branches nm (w.heap.size + 1) w1 hM.z2 hc ((hM.below hb).r2.more hb.size))
  change Hid (∀ (w1 : World), Below w.heap.size w w1 → (w1.cell? ⟨w.heap.size + 1, 0, none⟩ = some (.string nm)) → Calls Try.prog _ _ w1 fun e w' => e = .returned (.int .i64 (Pl.idxBra M.N nm)) ∧ _) at C2
  generalize Pl.idxBra M.N nm = R at *
  clear hM
  obtain ⟨N, A0, n0, c0, A1, n1, c1, A2, n2, c2, A3, n3, c3, A4, n4, c4, A5, n5, c5⟩ := M
  unfold vNet netC at *
  simp only at *
  have F0 := Lib.hid (((Below.refl w.heap.size w).alloc (Nat.le_refl _) (.cells #[.slice A0 n0 c0, .slice A1 n1 c1, .slice A2 n2 c2, .slice A3 n3 c3, .slice A4 n4 c4, .slice A5 n5 c5] 29)).alloc (by simp) (.cells #[.string nm] 9))
  have B1 := Lib.hid (Blk.new_ (w.alloc (.cells #[.slice A0 n0 c0, .slice A1 n1 c1, .slice A2 n2 c2, .slice A3 n3 c3, .slice A4 n4 c4, .slice A5 n5 c5] 29)) (w.heap.size + 1) 9 #[.string nm] (by simp))
  go_enter Try.func30, Try.ntmps30
  go_wp2_with fail
  refine (C2.out _ F0.out (B1.out.cell 0)).mono ?_
  rintro e w1 ⟨rfl, hb⟩
  have F1 := Lib.hid (F0.out.trans (hb.mono F0.out.size))
  clear hb
  go_wp2_with fail
  go_ret
  exact ⟨rfl, F1.out⟩
def vPlace (br : ByteArray) (part : Int) : Value := .agg #[.string br, .int .i64 part]
set_option maxHeartbeats 1600000 in
theorem placeE_any (M : MNet) (br : ByteArray) (part : Int) (w : World) (hM : NetIn w w.heap.size M) :
    Calls Try.prog 10 #[vNet M, vPlace br part] w fun e w' => e = .returned (.int .i64 (Pl.placeE M.N br part)) ∧ Below w.heap.size w w' := by
  have HE : Hid (Pl.placeE M.N br part = if Pl.netE M.N ≠ 0 then Pl.netE M.N else if Pl.idxBra M.N br < 0 then 6 else if part < 0 ∨ 1000 < part then 4 else 0) := rfl
  have C0 := Lib.hid (fun (w1 : World) (hb : Below w.heap.size w w1) => netcheck_any M w1 (hM.go hb))
  have C1 := Lib.hid (fun (w1 : World) (hb : Below w.heap.size w w1) => zbranch_any M br w1 (hM.go hb))
  generalize Pl.placeE M.N br part = R at *
  generalize Pl.netE M.N = ne at *
  generalize Pl.idxBra M.N br = ib at *
  clear hM
  unfold vNet vPlace at *
  have F0 := Lib.hid (((Below.refl w.heap.size w).alloc (Nat.le_refl _) (.cells (netC M) 29)).alloc (by simp) (.cells #[.string br, .int .i64 part] 34))
  have B0 := Lib.hid ((Blk.new_ w w.heap.size 29 (netC M) rfl).alloc (.cells #[.string br, .int .i64 part] 34))
  have P0 := Lib.hid (Blk.new_ (w.alloc (.cells (netC M) 29)) (w.heap.size + 1) 34 #[.string br, .int .i64 part] (by simp))
  obtain ⟨N, A0, n0, c0, A1, n1, c1, A2, n2, c2, A3, n3, c3, A4, n4, c4, A5, n5, c5⟩ := M
  unfold netC at *
  simp only at *
  go_enter Try.func10, Try.ntmps10
  have k0 := B0.out.cell
  go_wp2_with fail
  refine (C0.out _ F0.out).mono ?_
  rintro e w1 ⟨rfl, hb⟩
  have F1 := Lib.hid (F0.out.trans (hb.mono F0.out.size))
  have B1 := Lib.hid (B0.out.go hb)
  have P1 := Lib.hid (P0.out.go hb)
  clear hb k0 C0 B0 P0
  by_cases h0 : ne = 0
  · rw [if_neg (by simpa using h0)] at HE
    subst h0
    have k0 := B1.out.cell
    have k1 := P1.out.cell
    go_wp2_with fail
    refine (C1.out _ F1.out).mono ?_
    rintro e w2 ⟨rfl, hb⟩
    have F2 := Lib.hid (F1.out.trans (hb.mono F1.out.size))
    have P2 := Lib.hid (P1.out.go hb)
    clear hb k0 k1 C1
    by_cases h1 : ib < 0
    · rw [if_pos h1] at HE
      go_wp2_with fail
      go_ret
      exact ⟨by rw [HE.out]; rfl, F2.out⟩
    · rw [if_neg h1] at HE
      have k1 := P2.out.cell 1
      simp at k1
      by_cases h2 : part < 0
      · rw [if_pos (.inl h2)] at HE
        go_wp2_with fail
        go_ret
        exact ⟨by rw [HE.out]; rfl, F2.out⟩
      · by_cases h3 : 1000 < part
        · rw [if_pos (.inr h3)] at HE
          go_wp2_with fail
          go_ret
          exact ⟨by rw [HE.out]; rfl, F2.out⟩
        · rw [if_neg (by omega)] at HE
          go_wp2_with fail
          go_ret
          exact ⟨by rw [HE.out]; rfl, F2.out⟩
  · rw [if_pos (by simpa using h0)] at HE
    have h02 : (ne != 0) = true := by simpa using h0
    clear h0
    go_wp2_with fail
    go_ret
    exact ⟨by rw [HE.out]; rfl, F1.out⟩
end Go.Proofs.Ytpamgeemmbbkkaa
