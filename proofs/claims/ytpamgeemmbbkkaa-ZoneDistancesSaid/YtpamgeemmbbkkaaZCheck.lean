/- zone.Check answers as its plain function says. Condition: the network and the relay read. -/
import Derived.Test.YtpamgeemmbbkkaaFaultP
import Derived.Test.YtpamgeemmbbkkaaRefT
import Derived.Test.YtpamgeemmbbkkaaQuiet
import Derived.BigQuiet
namespace Go.Proofs.Ytpamgeemmbbkkaa
open Go.RowKit
set_option maxRecDepth 100000
namespace Pl
/-- the zones of a relay, one after the other -/
def zsE : Option (Int × Int) → List (Int × Int) → Int
  | _, [] => 0
  | p, z :: l => if z.1 < 1 ∨ 1000000 < z.1 ∨ z.2 < 0 ∨ 100000 < z.2 then 4 else if p.any (fun q => decide (z.1 ≤ q.1) || decide (z.2 < q.2)) = true then 3 else zsE (some z) l
def noBra : Bra := ⟨ByteArray.empty, ByteArray.empty, ByteArray.empty, 0, 0, 0, 0, 0, 0⟩
/-- the branch of a name -/
def braOf (N : Net) (br : ByteArray) : Bra := N.branches.getD (idxBra N br).toNat noBra
/-- zone.Check -/
def zoneE (N : Net) (node br : ByteArray) (zs : List (Int × Int)) : Int :=
  if netE N ≠ 0 then netE N else if idxBra N br < 0 then 6 else if (lst node ≠ lst (braOf N br).from_ ∧ lst node ≠ lst (braOf N br).to_) ∨ zs.length < 1 ∨ 4 < zs.length then 3 else zsE none zs
end Pl
theorem idxBra_at {N : Pl.Net} {br : ByteArray} (h : 0 ≤ Pl.idxBra N br) : 0 ≤ Pl.idxBra N br ∧ ∃ hl : (Pl.idxBra N br).toNat < N.branches.length, Pl.braOf N br = N.branches[(Pl.idxBra N br).toNat] ∧ (Pl.braOf N br).name = br := by
  unfold Pl.braOf
  unfold Pl.idxBra Pl.idxOf at h ⊢
  cases e : N.branches.findIdx? (fun z : Pl.Bra => z.name.toList == br.toList) with
  | none => rw [e] at h; simp at h
  | some i =>
    rw [List.findIdx?_eq_some_iff_getElem] at e
    obtain ⟨hi, h5, _⟩ := e
    have hg : N.branches.getD ((i : Int)).toNat Pl.noBra = N.branches[i] := by rw [List.getD_eq_getElem?_getD, show ((i : Int)).toNat = i by omega, List.getElem?_eq_getElem hi]; rfl
    refine ⟨by simp, by simpa using hi, by simpa using hg, ?_⟩
    show (N.branches.getD ((i : Int)).toNat Pl.noBra).name = br
    rw [hg]
    rw [beq_iff_eq, ByteArray.toList_eq, ByteArray.toList_eq] at h5
    exact Pl.lst_inj h5
def vRelay (node br : ByteArray) (A : Option Addr) (n c : Nat) : Value := .agg #[.string node, .string br, .slice A n c]
set_option maxHeartbeats 6400000 in
theorem zoneE_any (M : MNet) (node br : ByteArray) (Az : Option Addr) (nz cz : Nat) (zs : List (Int × Int)) (w : World) (hM : NetIn w w.heap.size M) (hz : Reads w w.heap.size 2 Az nz (pairs zs)) (hnz : nz ≤ 9223372036854775807) :
    Calls Try.prog 9 #[vNet M, vRelay node br Az nz cz] w fun e w' => e = .returned (.int .i64 (Pl.zoneE M.N node br zs)) ∧ Below w.heap.size w w' := by
  have HE : Hid (Pl.zoneE M.N node br zs = if Pl.netE M.N ≠ 0 then Pl.netE M.N else if Pl.idxBra M.N br < 0 then 6 else if (Pl.lst node ≠ Pl.lst (Pl.braOf M.N br).from_ ∧ Pl.lst node ≠ Pl.lst (Pl.braOf M.N br).to_) ∨ zs.length < 1 ∨ 4 < zs.length then 3 else Pl.zsE none zs) := rfl
  have C0 := Lib.hid (fun (w1 : World) (hb : Below w.heap.size w w1) => netcheck_any M w1 (hM.go hb))
  have C1 := Lib.hid (fun (w1 : World) (hb : Below w.heap.size w w1) => zbranch_any M br w1 (hM.go hb))
  have HBA := Lib.hid (fun h => idxBra_at (N := M.N) (br := br) h)
  have HZ := Lib.hid hz
  have HM2 := Lib.hid hM.r2
  have hlz := hz.pair_len
  rw [hlz] at HE
  have HLZ := Lib.hid hlz
  clear hM hz hlz
  generalize Pl.zoneE M.N node br zs = R at *
  generalize Pl.netE M.N = ne at *
  generalize Pl.idxBra M.N br = ib at *
  generalize Pl.braOf M.N br = bq at *
  unfold vNet vRelay at *
  have F0 := Lib.hid (((Below.refl w.heap.size w).alloc (Nat.le_refl _) (.cells (netC M) 29)).alloc (by simp) (.cells #[.string node, .string br, .slice Az nz cz] 32))
  have B0 := Lib.hid ((Blk.new_ w w.heap.size 29 (netC M) rfl).alloc (.cells #[.string node, .string br, .slice Az nz cz] 32))
  have P0 := Lib.hid (Blk.new_ (w.alloc (.cells (netC M) 29)) (w.heap.size + 1) 32 #[.string node, .string br, .slice Az nz cz] (by simp))
  obtain ⟨N, A0, n0, c0, A1, n1, c1, A2, n2, c2, A3, n3, c3, A4, n4, c4, A5, n5, c5⟩ := M
  unfold netC at *
  simp only at *
  go_enter Try.func9, Try.ntmps9
  have k0 := B0.out.cell
  go_wp2_with fail
  refine (C0.out _ F0.out).mono ?_
  rintro e w1 ⟨rfl, hb⟩
  have F1 := Lib.hid (F0.out.trans (hb.mono F0.out.size))
  have B1 := Lib.hid (B0.out.go hb)
  have P1 := Lib.hid (P0.out.go hb)
  clear hb k0 C0 B0 P0 F0
  by_cases h0 : ne = 0
  · rw [if_neg (by simpa using h0)] at HE
    subst h0
    have k0 := B1.out.cell
    have k1 := P1.out.cell
    go_wp2_with fail
    refine (C1.out _ F1.out).mono ?_
    rintro e w2 ⟨rfl, hb⟩
    have F2 := Lib.hid (F1.out.trans (hb.mono F1.out.size))
    have B2 := Lib.hid (B1.out.go hb)
    have P2 := Lib.hid (P1.out.go hb)
    clear hb k0 k1 C1 B1 P1 F1
    by_cases h1 : ib < 0
    · rw [if_pos h1] at HE
      go_wp2_with fail
      go_ret
      exact ⟨by rw [HE.out]; rfl, F2.out⟩
    · rw [if_neg h1] at HE
      have hib0 : 0 ≤ ib := by omega
      obtain ⟨hib, hil, hbq, hnm⟩ := HBA.out hib0
      clear hnm
      have hni : ib.toNat < n2 := by have := HM2.out.2; omega
      have hn2 : ib < (n2 : Int) := by omega
      obtain ⟨bb, oo, rfl, hls, s0, s1, s2, s3, s4, s5, s6, s7, s8⟩ := bra_at (HM2.out.below F2.out) hni
      rw [← hbq] at s0 s1 s2 s3 s4 s5 s6 s7 s8
      obtain ⟨qn, qf, qt, q3, q4, q5, q6, q7, q8⟩ := bq
      simp only at *
      have hpi : (ib.toNat : Int) = ib := by omega
      have k0 := B2.out.cell
      have k1 := P2.out.cell
      clear hbq HBA
      have F3 := Lib.hid (F2.out.alloc F2.out.size (.cells #[.string qn, .string qf, .string qt, .int .i64 q3, .int .i64 q4, .int .i64 q5, .int .i64 q6, .int .i64 q7, .int .i64 q8] 42))
      have P3 := Lib.hid (P2.out.alloc (.cells #[.string qn, .string qf, .string qt, .int .i64 q3, .int .i64 q4, .int .i64 q5, .int .i64 q6, .int .i64 q7, .int .i64 q8] 42))
      have hlb : w2.heap.size < w2.heap.size + 1 := Nat.lt_succ_self _
      have hlp := P2.out.lt
      have HNE := Lib.hid (lst_beq node qf)
      have HNT := Lib.hid (lst_beq node qt)
      by_cases hf : Pl.lst node = Pl.lst qf
      · have ef : (node.toList == qf.toList) = true := by rw [HNE.out]; simp [hf]
        by_cases m1 : nz < 1
        · have e1 : decide ((nz : Int) < 1) = true := by simp; omega
          rw [if_pos (.inr (.inl m1))] at HE
          go_wp2_with fail
          go_ret
          exact ⟨by rw [HE.out]; rfl, F3.out⟩
        · have e1 : decide ((nz : Int) < 1) = false := by simp; omega
          by_cases m4 : 4 < nz
          · have e4 : decide ((4 : Int) < (nz : Int)) = true := by simp; omega
            rw [if_pos (.inr (.inr m4))] at HE
            go_wp2_with fail
            go_ret
            exact ⟨by rw [HE.out]; rfl, F3.out⟩
          · have e4 : decide ((4 : Int) < (nz : Int)) = false := by simp; omega
            have e5 : decide (4 < nz) = false := by simp; omega
            have e6 : ¬ nz < 1 := m1
            have e7 : ¬ 4 < nz := m4
            rw [if_neg (fun h => h.elim (fun h2 => h2.1 hf) (fun h2 => by omega))] at HE
            have HEH : Hid (R = Pl.zsE none (zs.drop 0)) := HE.out
            go_wp2_with fail
            clear k0 k1 s0 s1 s2 s3 s4 s5 s6 s7 s8
            generalize hw3 : w2.alloc (.cells #[.string qn, .string qf, .string qt, .int .i64 q3, .int .i64 q4, .int .i64 q5, .int .i64 q6, .int .i64 q7, .int .i64 q8] 42) = w3 at *
            clear hw3
            go_loopw [53] (fun i wr => ∃ (k : Nat) (p : Option (Int × Int)), k ≤ nz ∧ i = .int .i64 k ∧ Hid (R = Pl.zsE p (zs.drop k)) ∧ Hid (k = 0 → p = none) ∧ Hid (∀ j, k = j + 1 → ∃ hj : j < zs.length, p = some zs[j]) ∧ Hid (Below w.heap.size w wr) ∧ Hid (Blk wr (w.heap.size + 1) 32 #[.string node, .string br, .slice Az nz cz])) (fun i _ => nz - (intOf i).toNat)
            case atStart => exact ⟨0, none, Nat.zero_le _, rfl, HEH.out, (fun _ => rfl), (fun j h => absurd h (by omega)), F3.out, P3.out⟩
            case round =>
              clear F3 P3 HEH HE
              obtain ⟨k, p, hk, rfl, HR, HP0, HP1, FR, PR⟩ := hrel
              have kp := PR.out.cell
              by_cases hkn : k < nz
              · obtain ⟨zb, zo, rfl, hlk, z0, z1⟩ := (HZ.out.go FR.out).pair_at hkn
                have HDR : Hid (zs.drop k = zs[k] :: zs.drop (k + 1)) := List.drop_eq_getElem_cons hlk
                rw [HDR.out] at HR
                have HZK : Hid (zs[k] = zs[k]) := rfl
                obtain ⟨zk, hzk⟩ : ∃ z, z = zs[k] := ⟨_, rfl⟩
                rw [← hzk] at HR z0 z1
                have HZE := Lib.hid hzk
                clear hzk HZK HDR
                obtain ⟨r, d⟩ := zk
                simp only at z0 z1
                have HRE : Hid (R = if r < 1 ∨ 1000000 < r ∨ d < 0 ∨ 100000 < d then 4 else if p.any (fun q => decide (r ≤ q.1) || decide (d < q.2)) = true then 3 else Pl.zsE (some (r, d)) (zs.drop (k + 1))) := HR.out
                have GR := Lib.hid (FR.out.alloc FR.out.size (.cells #[.int .i64 r, .int .i64 d] 71))
                have QR := Lib.hid (PR.out.alloc (.cells #[.int .i64 r, .int .i64 d] 71))
                have HGB := Lib.hid (Blk.new_ wr wr.heap.size 71 #[.int .i64 r, .int .i64 d] rfl)
                have hzl : zb < wr.heap.size := cell_lt z0
                have kk0 : (0 : Int) ≤ (k : Int) := by omega
                have kk1 : (k : Int) < (nz : Int) := by omega
                clear HR
                by_cases g0 : r < 1
                · have e0 : decide (r < 1) = true := by simp [g0]
                  have HR4 : Hid (R = 4) := by show _ = _; rw [HRE.out, if_pos (by omega)]
                  go_wp2_with fail
                  go_ret
                  exact ⟨by rw [HR4.out]; rfl, GR.out⟩
                · have e0 : decide (r < 1) = false := by simp; omega
                  by_cases g1 : 1000000 < r
                  · have e1 : decide (1000000 < r) = true := by simp [g1]
                    have HR4 : Hid (R = 4) := by show _ = _; rw [HRE.out, if_pos (by omega)]
                    go_wp2_with fail
                    go_ret
                    exact ⟨by rw [HR4.out]; rfl, GR.out⟩
                  · have e1 : decide (1000000 < r) = false := by simp; omega
                    by_cases g2 : d < 0
                    · have e2 : decide (d < 0) = true := by simp [g2]
                      have HR4 : Hid (R = 4) := by show _ = _; rw [HRE.out, if_pos (by omega)]
                      go_wp2_with fail
                      go_ret
                      exact ⟨by rw [HR4.out]; rfl, GR.out⟩
                    · have e2 : decide (d < 0) = false := by simp; omega
                      by_cases g3 : 100000 < d
                      · have e3 : decide (100000 < d) = true := by simp [g3]
                        have HR4 : Hid (R = 4) := by show _ = _; rw [HRE.out, if_pos (by omega)]
                        go_wp2_with fail
                        go_ret
                        exact ⟨by rw [HR4.out]; rfl, GR.out⟩
                      · have e3 : decide (100000 < d) = false := by simp; omega
                        rw [if_neg (by omega)] at HRE
                        clear g0 g1 g2 g3
                        rcases Nat.eq_zero_or_pos k with hk0 | hk0
                        · obtain rfl := HP0.out hk0
                          have HRN : Hid (R = Pl.zsE (some (r, d)) (zs.drop (k + 1))) := by show _ = _; rw [HRE.out]; rfl
                          have ek : decide ((0 : Int) < (k : Int)) = false := by simp; omega
                          have ek2 : decide (0 < k) = false := by simp; omega
                          have HK0 := Lib.hid hk0
                          clear hk0
                          go_wp2_with fail
                          go_quiet (fail)
                          go_wp2_with fail
                          go_roundw
                          case rel => exact ⟨k + 1, some (r, d), by omega, by go_num, HRN.out, (fun h => absurd h (by omega)), (fun j hj => ⟨by have := HLZ.out; omega, by have e : j = k := (by omega); subst e; rw [← HZE.out]⟩), below_drewN GR.out _, QR.out.drewN _⟩
                          case measure => simp [intOf]; omega
                        · obtain ⟨j, rfl⟩ : ∃ j, k = j + 1 := ⟨k - 1, by omega⟩
                          obtain ⟨hj, rfl⟩ := HP1.out j rfl
                          obtain ⟨zb2, zo2, hzz, hlj, y0, y1⟩ := (HZ.out.go GR.out).pair_at (k := j) (by omega)
                          injection hzz with hzz
                          injection hzz with hz1 hz2
                          subst hz1 hz2
                          generalize zs[j] = zj at *
                          obtain ⟨r2, d2⟩ := zj
                          simp only at y0 y1
                          have ek : decide ((0 : Int) < ((j + 1 : Nat) : Int)) = true := decide_eq_true (by omega)
                          have ek2 : (0 : Int) < (j : Int) + 1 := by omega
                          have wj : IntKind.i64.wrap ((j : Int) + 1 - 1) = (j : Int) := (IntWalk.i64_in _ (by omega)).trans (by omega)
                          have kj0 : (0 : Int) ≤ (j : Int) := by omega
                          have kj1 : (j : Int) < (nz : Int) := by omega
                          have qp := QR.out.cell
                          have qb := HGB.out.cell
                          go_wp2_with fail
                          by_cases t1 : r ≤ r2
                          · have u1 : decide (r ≤ r2) = true := by simp [t1]
                            have HR3 : Hid (R = 3) := by show _ = _; rw [HRE.out, if_pos (by simp [t1])]
                            go_quiet (fail)
                            go_wp2_with fail
                            go_ret
                            exact ⟨by rw [HR3.out]; rfl, below_drewN GR.out _⟩
                          · have u1 : decide (r ≤ r2) = false := by simp; omega
                            by_cases t2 : d < d2
                            · have u2 : decide (d < d2) = true := by simp [t2]
                              have HR3 : Hid (R = 3) := by show _ = _; rw [HRE.out, if_pos (by simp [t2])]
                              go_quiet (fail)
                              go_wp2_with fail
                              go_ret
                              exact ⟨by rw [HR3.out]; rfl, below_drewN GR.out _⟩
                            · have u2 : decide (d < d2) = false := by simp; omega
                              have HRN : Hid (R = Pl.zsE (some (r, d)) (zs.drop (j + 1 + 1))) := by show _ = _; rw [HRE.out, if_neg (by simp; omega)]
                              go_quiet (fail)
                              go_wp2_with fail
                              go_roundw
                              case rel => exact ⟨j + 1 + 1, some (r, d), by omega, by go_num, HRN.out, (fun h => absurd h (by omega)), (fun j2 hj => ⟨by have := HLZ.out; omega, by have e : j2 = j + 1 := (by omega); subst e; rw [← HZE.out]⟩), below_drewN GR.out _, QR.out.drewN _⟩
                              case measure => simp [intOf]; omega
              · have HRZ : Hid (R = 0) := by
                  show _ = _
                  rw [HR.out, List.drop_of_length_le (by have := HLZ.out; omega)]; rfl
                have kk1 : ¬ ((k : Int) < (nz : Int)) := by omega
                go_wp2_with fail
                go_ret
                exact ⟨by rw [HRZ.out]; rfl, FR.out⟩
      · have ef : (node.toList == qf.toList) = false := by rw [HNE.out]; simp [hf]
        by_cases ht : Pl.lst node = Pl.lst qt
        · have et : (node.toList == qt.toList) = true := by rw [HNT.out]; simp [ht]
          by_cases m1 : nz < 1
          · have e1 : decide ((nz : Int) < 1) = true := by simp; omega
            rw [if_pos (.inr (.inl m1))] at HE
            go_wp2_with fail
            go_ret
            exact ⟨by rw [HE.out]; rfl, F3.out⟩
          · have e1 : decide ((nz : Int) < 1) = false := by simp; omega
            by_cases m4 : 4 < nz
            · have e4 : decide ((4 : Int) < (nz : Int)) = true := by simp; omega
              rw [if_pos (.inr (.inr m4))] at HE
              go_wp2_with fail
              go_ret
              exact ⟨by rw [HE.out]; rfl, F3.out⟩
            · have e4 : decide ((4 : Int) < (nz : Int)) = false := by simp; omega
              have e5 : decide (4 < nz) = false := by simp; omega
              have e6 : ¬ nz < 1 := m1
              have e7 : ¬ 4 < nz := m4
              rw [if_neg (fun h => h.elim (fun h2 => h2.2 ht) (fun h2 => by omega))] at HE
              have HEH : Hid (R = Pl.zsE none (zs.drop 0)) := HE.out
              go_wp2_with fail
              clear k0 k1 s0 s1 s2 s3 s4 s5 s6 s7 s8
              generalize hw3 : w2.alloc (.cells #[.string qn, .string qf, .string qt, .int .i64 q3, .int .i64 q4, .int .i64 q5, .int .i64 q6, .int .i64 q7, .int .i64 q8] 42) = w3 at *
              clear hw3
              go_loopw [53] (fun i wr => ∃ (k : Nat) (p : Option (Int × Int)), k ≤ nz ∧ i = .int .i64 k ∧ Hid (R = Pl.zsE p (zs.drop k)) ∧ Hid (k = 0 → p = none) ∧ Hid (∀ j, k = j + 1 → ∃ hj : j < zs.length, p = some zs[j]) ∧ Hid (Below w.heap.size w wr) ∧ Hid (Blk wr (w.heap.size + 1) 32 #[.string node, .string br, .slice Az nz cz])) (fun i _ => nz - (intOf i).toNat)
              case atStart => exact ⟨0, none, Nat.zero_le _, rfl, HEH.out, (fun _ => rfl), (fun j h => absurd h (by omega)), F3.out, P3.out⟩
              case round =>
                clear F3 P3 HEH HE
                obtain ⟨k, p, hk, rfl, HR, HP0, HP1, FR, PR⟩ := hrel
                have kp := PR.out.cell
                by_cases hkn : k < nz
                · obtain ⟨zb, zo, rfl, hlk, z0, z1⟩ := (HZ.out.go FR.out).pair_at hkn
                  have HDR : Hid (zs.drop k = zs[k] :: zs.drop (k + 1)) := List.drop_eq_getElem_cons hlk
                  rw [HDR.out] at HR
                  have HZK : Hid (zs[k] = zs[k]) := rfl
                  obtain ⟨zk, hzk⟩ : ∃ z, z = zs[k] := ⟨_, rfl⟩
                  rw [← hzk] at HR z0 z1
                  have HZE := Lib.hid hzk
                  clear hzk HZK HDR
                  obtain ⟨r, d⟩ := zk
                  simp only at z0 z1
                  have HRE : Hid (R = if r < 1 ∨ 1000000 < r ∨ d < 0 ∨ 100000 < d then 4 else if p.any (fun q => decide (r ≤ q.1) || decide (d < q.2)) = true then 3 else Pl.zsE (some (r, d)) (zs.drop (k + 1))) := HR.out
                  have GR := Lib.hid (FR.out.alloc FR.out.size (.cells #[.int .i64 r, .int .i64 d] 71))
                  have QR := Lib.hid (PR.out.alloc (.cells #[.int .i64 r, .int .i64 d] 71))
                  have HGB := Lib.hid (Blk.new_ wr wr.heap.size 71 #[.int .i64 r, .int .i64 d] rfl)
                  have hzl : zb < wr.heap.size := cell_lt z0
                  have kk0 : (0 : Int) ≤ (k : Int) := by omega
                  have kk1 : (k : Int) < (nz : Int) := by omega
                  clear HR
                  by_cases g0 : r < 1
                  · have e0 : decide (r < 1) = true := by simp [g0]
                    have HR4 : Hid (R = 4) := by show _ = _; rw [HRE.out, if_pos (by omega)]
                    go_wp2_with fail
                    go_ret
                    exact ⟨by rw [HR4.out]; rfl, GR.out⟩
                  · have e0 : decide (r < 1) = false := by simp; omega
                    by_cases g1 : 1000000 < r
                    · have e1 : decide (1000000 < r) = true := by simp [g1]
                      have HR4 : Hid (R = 4) := by show _ = _; rw [HRE.out, if_pos (by omega)]
                      go_wp2_with fail
                      go_ret
                      exact ⟨by rw [HR4.out]; rfl, GR.out⟩
                    · have e1 : decide (1000000 < r) = false := by simp; omega
                      by_cases g2 : d < 0
                      · have e2 : decide (d < 0) = true := by simp [g2]
                        have HR4 : Hid (R = 4) := by show _ = _; rw [HRE.out, if_pos (by omega)]
                        go_wp2_with fail
                        go_ret
                        exact ⟨by rw [HR4.out]; rfl, GR.out⟩
                      · have e2 : decide (d < 0) = false := by simp; omega
                        by_cases g3 : 100000 < d
                        · have e3 : decide (100000 < d) = true := by simp [g3]
                          have HR4 : Hid (R = 4) := by show _ = _; rw [HRE.out, if_pos (by omega)]
                          go_wp2_with fail
                          go_ret
                          exact ⟨by rw [HR4.out]; rfl, GR.out⟩
                        · have e3 : decide (100000 < d) = false := by simp; omega
                          rw [if_neg (by omega)] at HRE
                          clear g0 g1 g2 g3
                          rcases Nat.eq_zero_or_pos k with hk0 | hk0
                          · obtain rfl := HP0.out hk0
                            have HRN : Hid (R = Pl.zsE (some (r, d)) (zs.drop (k + 1))) := by show _ = _; rw [HRE.out]; rfl
                            have ek : decide ((0 : Int) < (k : Int)) = false := by simp; omega
                            have ek2 : decide (0 < k) = false := by simp; omega
                            have HK0 := Lib.hid hk0
                            clear hk0
                            go_wp2_with fail
                            go_quiet (fail)
                            go_wp2_with fail
                            go_roundw
                            case rel => exact ⟨k + 1, some (r, d), by omega, by go_num, HRN.out, (fun h => absurd h (by omega)), (fun j hj => ⟨by have := HLZ.out; omega, by have e : j = k := (by omega); subst e; rw [← HZE.out]⟩), below_drewN GR.out _, QR.out.drewN _⟩
                            case measure => simp [intOf]; omega
                          · obtain ⟨j, rfl⟩ : ∃ j, k = j + 1 := ⟨k - 1, by omega⟩
                            obtain ⟨hj, rfl⟩ := HP1.out j rfl
                            obtain ⟨zb2, zo2, hzz, hlj, y0, y1⟩ := (HZ.out.go GR.out).pair_at (k := j) (by omega)
                            injection hzz with hzz
                            injection hzz with hz1 hz2
                            subst hz1 hz2
                            generalize zs[j] = zj at *
                            obtain ⟨r2, d2⟩ := zj
                            simp only at y0 y1
                            have ek : decide ((0 : Int) < ((j + 1 : Nat) : Int)) = true := decide_eq_true (by omega)
                            have ek2 : (0 : Int) < (j : Int) + 1 := by omega
                            have wj : IntKind.i64.wrap ((j : Int) + 1 - 1) = (j : Int) := (IntWalk.i64_in _ (by omega)).trans (by omega)
                            have kj0 : (0 : Int) ≤ (j : Int) := by omega
                            have kj1 : (j : Int) < (nz : Int) := by omega
                            have qp := QR.out.cell
                            have qb := HGB.out.cell
                            go_wp2_with fail
                            by_cases t1 : r ≤ r2
                            · have u1 : decide (r ≤ r2) = true := by simp [t1]
                              have HR3 : Hid (R = 3) := by show _ = _; rw [HRE.out, if_pos (by simp [t1])]
                              go_quiet (fail)
                              go_wp2_with fail
                              go_ret
                              exact ⟨by rw [HR3.out]; rfl, below_drewN GR.out _⟩
                            · have u1 : decide (r ≤ r2) = false := by simp; omega
                              by_cases t2 : d < d2
                              · have u2 : decide (d < d2) = true := by simp [t2]
                                have HR3 : Hid (R = 3) := by show _ = _; rw [HRE.out, if_pos (by simp [t2])]
                                go_quiet (fail)
                                go_wp2_with fail
                                go_ret
                                exact ⟨by rw [HR3.out]; rfl, below_drewN GR.out _⟩
                              · have u2 : decide (d < d2) = false := by simp; omega
                                have HRN : Hid (R = Pl.zsE (some (r, d)) (zs.drop (j + 1 + 1))) := by show _ = _; rw [HRE.out, if_neg (by simp; omega)]
                                go_quiet (fail)
                                go_wp2_with fail
                                go_roundw
                                case rel => exact ⟨j + 1 + 1, some (r, d), by omega, by go_num, HRN.out, (fun h => absurd h (by omega)), (fun j2 hj => ⟨by have := HLZ.out; omega, by have e : j2 = j + 1 := (by omega); subst e; rw [← HZE.out]⟩), below_drewN GR.out _, QR.out.drewN _⟩
                                case measure => simp [intOf]; omega
                · have HRZ : Hid (R = 0) := by
                    show _ = _
                    rw [HR.out, List.drop_of_length_le (by have := HLZ.out; omega)]; rfl
                  have kk1 : ¬ ((k : Int) < (nz : Int)) := by omega
                  go_wp2_with fail
                  go_ret
                  exact ⟨by rw [HRZ.out]; rfl, FR.out⟩
        · have et : (node.toList == qt.toList) = false := by rw [HNT.out]; simp [ht]
          rw [if_pos (.inl ⟨hf, ht⟩)] at HE
          go_wp2_with fail
          go_ret
          exact ⟨by rw [HE.out]; rfl, F3.out⟩
  · rw [if_pos (by simpa using h0)] at HE
    have h02 : (ne != 0) = true := by simpa using h0
    clear h0
    go_wp2_with fail
    go_ret
    exact ⟨by rw [HE.out]; rfl, F1.out⟩
end Go.Proofs.Ytpamgeemmbbkkaa
