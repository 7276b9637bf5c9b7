/- ChooseLeast returns true, whatever network and place it is given. Condition: they read; choose answers as its plain function says. -/
import Derived.Test.YtpamgeemmbbkkaaChWorks
import Derived.Test.YtpamgeemmbbkkaaRefCut
namespace Go.Proofs.Ytpamgeemmbbkkaa
open Go.RowKit
set_option maxRecDepth 100000
set_option maxHeartbeats 6400000 in
theorem chooseLeast_walk0 (M : MNet) (br : ByteArray) (part : Int) (w : World) (hM : NetIn w w.heap.size M) (HC : Hid (∀ b, Pl.NetOk M.N → Pl.PlaceOk M.N br part b → ∀ size, size ≤ 64 → ChooseOk M br part b size)) :
    Calls Try.prog 4 #[vNet M, vPlace br part] w fun e w' => e = .returned (.bool true) ∧ Below w.heap.size w w' := by
  have F0 := Lib.hid (((Below.refl w.heap.size w).alloc (Nat.le_refl _) (.cells (netC M) 29)).alloc (by simp) (.cells #[.string br, .int .i64 part] 34))
  have B0 := Lib.hid ((Blk.new_ w w.heap.size 29 (netC M) rfl).alloc (.cells #[.string br, .int .i64 part] 34))
  have P0 := Lib.hid (Blk.new_ (w.alloc (.cells (netC M) 29)) (w.heap.size + 1) 34 #[.string br, .int .i64 part] (by simp))
  have CI := Lib.hid (fun (w1 : World) (hb : Below w.heap.size w w1) => leastE_any M br part w1 (hM.go hb) (Lib.hid fun w2 h2 hok => fieldOf_any M none 0 0 [] br part w2 h2 hok Reads.none_ (by omega)))
  have CP := Lib.hid (fun (w1 : World) (hb : Below w.heap.size w w1) => placeE_any M br part w1 (hM.go hb))
  have CL := Lib.hid (fun (b : Pl.Bra) (hok : Pl.NetOk M.N) (hp : Pl.PlaceOk M.N br part b) (w1 : World) (hb : Below w.heap.size w w1) => refcut_any M br part b w1 (hM.go hb) hok (Lib.hid (HC.out b hok hp)))
  have HPK := Lib.hid (fun h => placeE_ok (N := M.N) (br := br) (part := part) h)
  have HM := Lib.hid hM
  have hz1 := hM.z1
  clear hM HC
  unfold vNet vPlace at *
  obtain ⟨N, A0, n0, c0, A1, n1, c1, A2, n2, c2, A3, n3, c3, A4, n4, c4, A5, n5, c5⟩ := M
  unfold netC at *
  simp only at *
  go_enter Try.func4, Try.ntmps4
  go_wp2_with fail
  refine (chooseWorks_any _).mono ?_
  rintro e w1 ⟨rfl, hb1⟩
  have F1 := Lib.hid (F0.out.trans (hb1.mono F0.out.size))
  have B1 := Lib.hid (B0.out.go hb1)
  have P1 := Lib.hid (P0.out.go hb1)
  clear hb1 B0 P0 F0
  have k0 := B1.out.cell
  have k1 := P1.out.cell
  go_wp2_with fail
  refine (CI.out _ F1.out).mono ?_
  rintro e w2 ⟨A, m, c, out, er, rfl, hsd, hr, hm, hb2⟩
  have F2 := Lib.hid (F1.out.trans (hb2.mono F1.out.size))
  have B2 := Lib.hid (B1.out.go hb2)
  have P2 := Lib.hid (P1.out.go hb2)
  have HSD := Lib.hid hsd
  have HR := Lib.hid hr
  clear hb2 B1 P1 F1 k0 k1 hsd CI hr
  have k0 := B2.out.cell
  have k1 := P2.out.cell
  go_wp2_with fail
  refine (CP.out _ F2.out).mono ?_
  rintro e w3 ⟨rfl, hb3⟩
  have F3 := Lib.hid (F2.out.trans (hb3.mono F2.out.size))
  have B3 := Lib.hid (B2.out.go hb3)
  have P3 := Lib.hid (P2.out.go hb3)
  have HR3 : Hid (er = 0 → Reads w3 w3.heap.size 1 A m (txts out)) := fun h => (HR.out h).go hb3
  clear hb3 B2 P2 F2 k0 k1 CP HR
  by_cases h0 : Pl.placeE N br part = 0
  · obtain ⟨hok, b, hpk⟩ := HPK.out h0
    have HOK := Lib.hid hok
    have HBP := Lib.hid hpk
    have H2 := Lib.hid (HSD.out.2 h0)
    have h02 : (Pl.placeE N br part != 0) = false := by simp [h0]
    generalize Pl.placeE N br part = pe at *
    clear h0 hok hpk HPK HSD
    have kb := B3.out.cell
    have hn1 : n1 ≤ 32 := by have := HOK.out.ns; have := HM.out.r1.2; simp only at this; omega
    go_wp2_with fail
    clear kb
    go_loopw [8, 37] (fun v i wr => ∃ k cnt : Nat, k ≤ n1 ∧ cnt ≤ k ∧ i = .int .i64 k ∧ v = .int .i64 cnt ∧ Hid (Below w3.heap.size w3 wr)) (fun _ i _ => n1 - (intOf i).toNat)
    case atStart => exact ⟨0, 0, Nat.zero_le _, Nat.le_refl _, rfl, rfl, Below.refl _ _⟩
    case round =>
      obtain ⟨k, cnt, hk, hck, rfl, rfl, GR⟩ := hrel
      have FR := Lib.hid (F3.out.trans (GR.out.mono F3.out.size))
      have BR := Lib.hid (B3.out.go GR.out)
      have PR := Lib.hid (P3.out.go GR.out)
      have kb := BR.out.cell
      have kp := PR.out.cell
      by_cases hkn : k < n1
      · obtain ⟨bs, os, rfl, hls, s0, s1, s2, s3, s4⟩ := swi_at (HM.out.r1.below FR.out) hkn
        generalize N.switches[k] = sw at *
        obtain ⟨sn, sa, sb, sk, so⟩ := sw
        simp only at *
        have G1 := Lib.hid (GR.out.alloc GR.out.size (.cells #[.string sn, .string sa, .string sb, .bool sk, .bool so] 50))
        have hlb : wr.heap.size < wr.heap.size + 1 := Nat.lt_succ_self _
        cases sk
        · go_wp2_with fail
          go_roundw
          case rel => exact ⟨k + 1, cnt, by omega, by omega, by go_num, rfl, G1⟩
          case measure => simp [intOf]; omega
        · go_wp2_with fail
          go_roundw
          case rel => exact ⟨k + 1, cnt + 1, by omega, by omega, by go_num, by go_num, G1⟩
          case measure => simp [intOf]; omega
      · by_cases h8 : 8 < cnt
        · have h8d : decide ((8 : Int) < (cnt : Int)) = true := by simp; omega
          have h8e : decide (8 < cnt) = true := by simp; omega
          go_wp2_with fail
          go_ret
          exact ⟨rfl, FR.out⟩
        · have h8d : decide ((8 : Int) < (cnt : Int)) = false := by simp; omega
          have h8e : decide (8 < cnt) = false := by simp; omega
          have CLK := Lib.hid (CL.out b HOK.out HBP.out wr FR.out)
          obtain ⟨is2, hle, hf, ht⟩ := H2.out
          have hcut := Pl.least_cut HOK.out HBP.out hle
          have HCU := Lib.hid hcut
          have HF := Lib.hid hf
          have HT := Lib.hid ht
          clear hle hf ht hcut
          go_wp2_with fail
          refine CLK.out.mono ?_
          rintro e w4 ⟨A4', m4, c4', want, is, rfl, g1, g2, hb⟩
          have GS := Lib.hid (GR.out.trans (hb.mono GR.out.size))
          have FS := Lib.hid (FR.out.trans (hb.mono FR.out.size))
          clear hb kb kp
          cases is
          · have h3 := g2 rfl
            rw [HCU.out] at h3
            cases is2
            · obtain ⟨rfl, rfl⟩ := HF.out rfl
              clear g1 g2 h3 h8
              go_wp2_with fail
              go_ret
              exact ⟨rfl, FS.out⟩
            · simp at h3
          · obtain ⟨h3, h4⟩ := g1 rfl
            rw [HCU.out] at h3
            cases is2
            · simp at h3
            · rw [if_pos rfl] at h3
              injection h3 with h3
              subst h3
              obtain ⟨rfl, hmo⟩ := HT.out rfl
              have CS := Lib.hid (sameTexts_any A A4' m c m4 c4' out out w4 (by omega) ((HR3.out rfl).go GS.out) h4)
              rw [Pl.sameT_iff.2 rfl] at CS
              clear g1 g2 h4 h8 hmo
              go_wp2_with fail
              refine CS.out.mono ?_
              rintro e w5 ⟨rfl, hb5⟩
              have F5 := Lib.hid (FS.out.trans (hb5.mono FS.out.size))
              clear hb5
              go_wp2_with fail
              go_ret
              exact ⟨rfl, F5.out⟩
  · obtain ⟨rfl, rfl⟩ := HSD.out.1 h0
    have h02 : (Pl.placeE N br part != 0) = true := by simp [h0]
    generalize Pl.placeE N br part = pe at *
    clear h0
    go_wp2_with fail
    go_ret
    exact ⟨rfl, F3.out⟩
end Go.Proofs.Ytpamgeemmbbkkaa
