/- netmodel.Check answers as its plain function says. Condition: the network reads. -/
import Derived.Test.YtpamgeemmbbkkaaEnds
namespace Go.Proofs.Ytpamgeemmbbkkaa
open Go.RowKit
set_option maxRecDepth 100000
theorem swi_at {w : World} {B : Nat} {A : Option Addr} {n : Nat} {l : List Pl.Swi} (h : Elems swiC 5 w B A n l) {k : Nat} (hk : k < n) :
    ∃ b o, A = some ⟨b, o, none⟩ ∧ ∃ hl : k < l.length, w.cell? ⟨b, o + k * 5, none⟩ = some (.string (l[k]'hl).name) ∧ w.cell? ⟨b, o + k * 5 + 1, none⟩ = some (.string (l[k]'hl).a) ∧ w.cell? ⟨b, o + k * 5 + 2, none⟩ = some (.string (l[k]'hl).b) ∧ w.cell? ⟨b, o + k * 5 + 3, none⟩ = some (.bool (l[k]'hl).breaker) ∧ w.cell? ⟨b, o + k * 5 + 4, none⟩ = some (.bool (l[k]'hl).opened) := by
  obtain ⟨b, o, rfl, _, hl, hc⟩ := Elems.at_ (dec := swiC) (size := 5) (fun _ => rfl) (by decide) h hk
  exact ⟨b, o, rfl, hl, hc 0 (by omega), hc 1 (by omega), hc 2 (by omega), hc 3 (by omega), hc 4 (by omega)⟩
theorem bra_at {w : World} {B : Nat} {A : Option Addr} {n : Nat} {l : List Pl.Bra} (h : Elems braC 9 w B A n l) {k : Nat} (hk : k < n) :
    ∃ b o, A = some ⟨b, o, none⟩ ∧ ∃ hl : k < l.length, w.cell? ⟨b, o + k * 9, none⟩ = some (.string (l[k]'hl).name) ∧ w.cell? ⟨b, o + k * 9 + 1, none⟩ = some (.string (l[k]'hl).from_) ∧ w.cell? ⟨b, o + k * 9 + 2, none⟩ = some (.string (l[k]'hl).to_) ∧ w.cell? ⟨b, o + k * 9 + 3, none⟩ = some (.int .i64 (l[k]'hl).x) ∧ w.cell? ⟨b, o + k * 9 + 4, none⟩ = some (.int .i64 (l[k]'hl).tap) ∧ w.cell? ⟨b, o + k * 9 + 5, none⟩ = some (.int .i64 (l[k]'hl).shift) ∧ w.cell? ⟨b, o + k * 9 + 6, none⟩ = some (.int .i64 (l[k]'hl).limit) ∧ w.cell? ⟨b, o + k * 9 + 7, none⟩ = some (.int .i64 (l[k]'hl).short) ∧ w.cell? ⟨b, o + k * 9 + 8, none⟩ = some (.int .i64 (l[k]'hl).hold) := by
  obtain ⟨b, o, rfl, _, hl, hc⟩ := Elems.at_ (dec := braC) (size := 9) (fun _ => rfl) (by decide) h hk
  exact ⟨b, o, rfl, hl, hc 0 (by omega), hc 1 (by omega), hc 2 (by omega), hc 3 (by omega), hc 4 (by omega), hc 5 (by omega), hc 6 (by omega), hc 7 (by omega), hc 8 (by omega)⟩
theorem device_nil (b n BB : Nat) (A : Option Addr) (k c : Nat) (nodes : List ByteArray) (seen : List (List UInt8)) (nm : ByteArray) (w : World)
    (hs : Seen w b n seen) (hn : n < 1000000) (hBB : BB ≤ b) (hr : Reads w BB 1 A k (txts nodes)) (hk : k ≤ 9223372036854775807) (hsz : nm.size ≤ maxLen) :
    Calls Try.prog 52 #[.agg #[.map (some b), .slice A k c], .string nm, .slice none 0 0] w fun e w' => e = .returned (.int .i64 (Pl.devE nodes seen nm [])) ∧ w.grownBy w' (some b) ∧ (Pl.devE nodes seen nm [] = 0 → Seen w' b (n + 1) (Pl.lst nm :: seen)) :=
  device_any b n BB A k c nodes seen nm none 0 0 [] w hs hn hBB hr hk Reads.none_ (by omega) (fun _ h => by cases h) hsz
theorem Pl.big_eq (N : Pl.Net) : Pl.big N = (decide (24 < N.nodes.length) || decide (32 < N.switches.length) || decide (24 < N.branches.length) || decide (10 < N.gens.length) || decide (12 < N.loads.length) || decide (4 < N.stores.length)) := rfl
set_option maxHeartbeats 3200000 in
theorem netcheck_any (M : MNet) (w : World) (hM : NetIn w w.heap.size M) :
    Calls Try.prog 29 #[vNet M] w fun e w' => e = .returned (.int .i64 (Pl.netE M.N)) ∧ Below w.heap.size w w' := by
  have l0 := txts_len hM.r0
  have l1 := hM.r1.2
  have l2 := hM.r2.2
  have l3 := hM.r3.2
  have l4 := hM.r4.2
  have l5 := hM.r5.2
  have HE : Hid (Pl.netE M.N = if Pl.big M.N then 2 else Pl.devs M.N.nodes [] (Pl.allDevs M.N)) := rfl
  rw [Pl.big_eq, l0, l1, l2, l3, l4, l5] at HE
  unfold Pl.allDevs at HE
  have HEnd : Hid (∀ (b n : Nat) (sn : List (List UInt8)) (w1 : World), Seen w1 b n sn → n < 900000 → w.heap.size ≤ b → NetIn w1 w.heap.size M → M.n3 ≤ 10 → M.n4 ≤ 12 → M.n5 ≤ 4 → Calls Try.prog 54 #[.agg #[.map (some b), .slice M.A0 M.n0 M.c0], vNet M] w1 fun e w' => e = .returned (.int .i64 (Pl.devs M.N.nodes sn (Pl.ends M.N))) ∧ Below w.heap.size w1 w') := fun b n sn w1 h1 h2 h3 h4 h5 h6 h7 => ends_any b n w.heap.size M sn w1 h1 h2 h3 h4 h5 h6 h7
  have HR : Hid (∃ R, R = Pl.netE M.N) := ⟨_, rfl⟩
  generalize Pl.netE M.N = R at *
  clear HR
  obtain ⟨N, A0, n0, c0, A1, n1, c1, A2, n2, c2, A3, n3, c3, A4, n4, c4, A5, n5, c5⟩ := M
  simp only at *
  unfold vNet netC at *
  simp only at *
  have HM := Lib.hid hM
  have HL2 := Lib.hid l2
  have HL1 := Lib.hid l1
  have HL0 := Lib.hid l0
  clear hM l0 l1 l2 l3 l4 l5
  have A0' := Lib.hid ((Below.refl w.heap.size w).alloc (Nat.le_refl _) (.cells #[.slice A0 n0 c0, .slice A1 n1 c1, .slice A2 n2 c2, .slice A3 n3 c3, .slice A4 n4 c4, .slice A5 n5 c5] 29))
  have B0 := Lib.hid (Blk.new_ w w.heap.size 29 #[.slice A0 n0 c0, .slice A1 n1 c1, .slice A2 n2 c2, .slice A3 n3 c3, .slice A4 n4 c4, .slice A5 n5 c5] rfl)
  go_enter Try.func29, Try.ntmps29
  generalize hb0 : decide (24 < n0) = b0 at HE
  generalize hb1 : decide (32 < n1) = b1 at HE
  generalize hb2 : decide (24 < n2) = b2 at HE
  generalize hb3 : decide (10 < n3) = b3 at HE
  generalize hb4 : decide (12 < n4) = b4 at HE
  generalize hb5 : decide (4 < n5) = b5 at HE
  have g0 : decide ((24 : Int) < (n0 : Int)) = b0 := by rw [← hb0]; apply decide_eq_decide.2; omega
  have g1 : decide ((32 : Int) < (n1 : Int)) = b1 := by rw [← hb1]; apply decide_eq_decide.2; omega
  have g2 : decide ((24 : Int) < (n2 : Int)) = b2 := by rw [← hb2]; apply decide_eq_decide.2; omega
  have g3 : decide ((10 : Int) < (n3 : Int)) = b3 := by rw [← hb3]; apply decide_eq_decide.2; omega
  have g4 : decide ((12 : Int) < (n4 : Int)) = b4 := by rw [← hb4]; apply decide_eq_decide.2; omega
  have g5 : decide ((4 : Int) < (n5 : Int)) = b5 := by rw [← hb5]; apply decide_eq_decide.2; omega
  rcases or6 b0 b1 b2 b3 b4 b5 with rfl | ⟨rfl, rfl⟩ | ⟨rfl, rfl, rfl⟩ | ⟨rfl, rfl, rfl, rfl⟩ | ⟨rfl, rfl, rfl, rfl, rfl⟩ | ⟨rfl, rfl, rfl, rfl, rfl, rfl⟩ | ⟨rfl, rfl, rfl, rfl, rfl, rfl⟩
  iterate 6
    · clear hb0 hb1 hb2 hb3 hb4 hb5
      go_wp2_with fail
      go_ret
      exact ⟨by rw [HE.out]; rfl, A0'.out⟩
  · rw [if_neg (by simp)] at HE
    have HN := Lib.hid (And.intro (of_decide_eq_false hb0) (And.intro (of_decide_eq_false hb1) (And.intro (of_decide_eq_false hb2) (And.intro (of_decide_eq_false hb3) (And.intro (of_decide_eq_false hb4) (of_decide_eq_false hb5))))))
    clear hb0 hb1 hb2 hb3 hb4 hb5
    have hmm : ∀ w : World, (Instr.makeMap 121 none).run Try.prog w = .ok (.map (some w.heap.size)) (w.alloc (.map #[] 0)) := fun w => run_makeMap _ w
    go_wp2_with fail
    clear hmm
    have SM := Lib.hid ((Seen.made (w.alloc (.cells #[.slice A0 n0 c0, .slice A1 n1 c1, .slice A2 n2 c2, .slice A3 n3 c3, .slice A4 n4 c4, .slice A5 n5 c5] 29))).alloc (.cells #[.map (some (w.heap.size + 1)), .slice A0 n0 c0] 123))
    have A1' := Lib.hid ((A0'.out.alloc (by simp) (.map #[] 0)).alloc (by simp; omega) (.cells #[.map (some (w.heap.size + 1)), .slice A0 n0 c0] 123))
    have B1 := Lib.hid (Blk.new_ ((w.alloc (.cells #[.slice A0 n0 c0, .slice A1 n1 c1, .slice A2 n2 c2, .slice A3 n3 c3, .slice A4 n4 c4, .slice A5 n5 c5] 29)).alloc (.map #[] 0)) (w.heap.size + 1 + 1) 123 #[.map (some (w.heap.size + 1)), .slice A0 n0 c0] (by simp))
    have B0' := Lib.hid ((B0.out.alloc (.map #[] 0)).alloc (.cells #[.map (some (w.heap.size + 1)), .slice A0 n0 c0] 123))
    have SM : Hid (Seen (((w.alloc (.cells #[.slice A0 n0 c0, .slice A1 n1 c1, .slice A2 n2 c2, .slice A3 n3 c3, .slice A4 n4 c4, .slice A5 n5 c5] 29)).alloc (.map #[] 0)).alloc (.cells #[.map (some (w.heap.size + 1)), .slice A0 n0 c0] 123)) (w.heap.size + 1) 0 []) := by
      have := SM.out
      simp only [World.size_alloc] at this
      exact this
    have HBL : Hid (w.heap.size < w.heap.size + 1) := Nat.lt_succ_self _
    have HM1 := Lib.hid (HM.out.below A1'.out)
    have HW1 := Lib.hid A1'.out.size
    clear A0' B0
    generalize ((w.alloc (.cells #[.slice A0 n0 c0, .slice A1 n1 c1, .slice A2 n2 c2, .slice A3 n3 c3, .slice A4 n4 c4, .slice A5 n5 c5] 29)).alloc (.map #[] 0)).alloc (.cells #[.map (some (w.heap.size + 1)), .slice A0 n0 c0] 123) = w1 at *
    have HT0 : Hid (∃ T, T = N.switches.map Pl.dSwi ++ (N.branches.map Pl.dBra ++ Pl.ends N) ∧ R = Pl.devs N.nodes [] ((N.nodes.drop 0).map Pl.dNode ++ T)) := ⟨_, rfl, by rw [HE.out]; simp⟩
    obtain ⟨T0, HTe0, HEe0⟩ := HT0.out
    have HTe0 := Lib.hid HTe0
    have HEe0 := Lib.hid HEe0
    clear HE HT0
    go_loopw [55] (fun s wr => ∃ (i : Nat) (sn : List (List UInt8)), i ≤ n0 ∧ s = .int .i64 i ∧ Hid (w1.grownBy wr (some (w.heap.size + 1))) ∧ Hid (Seen wr (w.heap.size + 1) (0 + i) sn) ∧ Hid (R = Pl.devs N.nodes sn ((N.nodes.drop i).map Pl.dNode ++ T0))) (fun s _ => n0 - (intOf s).toNat)
    case atStart => exact ⟨0, [], Nat.zero_le _, rfl, World.grownBy.refl _ _, SM.out, HEe0.out⟩
    case round =>
      obtain ⟨i0, sn0, hi, rfl, HG0, HSn0, HEi⟩ := hrel
      clear HEe0
      have hN := HN.out
      by_cases hlt : i0 < n0
      · have HMr := Lib.hid (HM1.out.below (below_grow HG0.out (Nat.le_succ _) HW1.out))
        obtain ⟨bb, o, rfl, _, hl, q0⟩ := txts_at HMr.out.r0 hlt
        simp only at hl q0
        have HDR : Hid (R = Pl.devs N.nodes sn0 (Pl.dNode N.nodes[i0] :: ((N.nodes.drop (i0 + 1)).map Pl.dNode ++ T0))) := by
          show _ = _
          rw [HEi.out, List.drop_eq_getElem_cons hl]
          rfl
        rw [devs_cons] at HDR
        have hz : (Pl.dNode N.nodes[i0]).name.size ≤ maxLen := (HM1.out.sz.names (Pl.dNode N.nodes[i0]) (by unfold Pl.allDevs; simp only [List.mem_append]; exact .inl (List.mem_map_of_mem (List.getElem_mem hl)))).1
        have HZ := Lib.hid hz
        clear hz HEi
        have B1r := Lib.hid (B1.out.grown HG0.out (by intro h; injection h with h; omega))
        have k0 := B1r.out.cell
        have lt0 := B1r.out.lt
        unfold Pl.dNode at HDR HZ
        simp only at HDR HZ
        generalize N.nodes[i0] = nm at *
        have HC := Lib.hid (device_nil (w.heap.size + 1) (0 + i0) w.heap.size (some ⟨bb, o, none⟩) n0 c0 N.nodes sn0 nm wr HSn0.out (by omega) (Nat.le_succ _) HMr.out.r0 HMr.out.z0 HZ.out)
        go_wp2_with fail
        generalize Pl.devE N.nodes sn0 nm [] = dv at *
        refine HC.out.mono ?_
        rintro e w2 ⟨rfl, hg, hsn⟩
        have G2 := Lib.hid (HG0.out.trans hg)
        have S2 := Lib.hid hsn
        clear hg hsn HC k0 lt0 q0 B1r
        by_cases hdv : dv = 0
        · subst hdv
          rw [if_neg (by simp)] at HDR
          have S3 := Lib.hid (S2.out rfl)
          clear S2
          rw [if_neg (by simp)] at HDR
          go_wp2_with fail
          go_roundw
          case rel => exact ⟨i0 + 1, Pl.lst nm :: sn0, by omega, by go_num, G2.out, S3.out, by rw [HDR.out]; rfl⟩
          case measure => simp [intOf]; omega
        · have hdv2 : (dv != 0) = true := by simpa using hdv
          rw [if_pos hdv] at HDR
          clear hdv
          go_wp2_with fail
          go_ret
          exact ⟨by rw [HDR.out]; rfl, A1'.out.trans (below_grow G2.out (Nat.le_succ _) HW1.out)⟩
      · have hi2 : i0 = n0 := by omega
        have HX1 : Hid (R = Pl.devs N.nodes sn0 (N.switches.map Pl.dSwi ++ (N.branches.map Pl.dBra ++ Pl.ends N))) := by
          show _ = _
          rw [HEi.out, HTe0.out, List.drop_of_length_le (by have := HL0.out; omega)]
          rfl
        clear HEi hi2
        have B0r := Lib.hid (B0'.out.grown HG0.out (by intro h; injection h with h; omega))
        have k0 := B0r.out.cell
        go_wp2_with fail
        clear k0 B0r
        have HT1 : Hid (∃ T, T = N.branches.map Pl.dBra ++ Pl.ends N ∧ R = Pl.devs N.nodes sn0 ((N.switches.drop 0).map Pl.dSwi ++ T)) := ⟨_, rfl, by rw [HX1.out]; simp⟩
        obtain ⟨T1, HTe1, HEe1⟩ := HT1.out
        have HTe1 := Lib.hid HTe1
        have HEe1 := Lib.hid HEe1
        clear HX1 HT1
        go_loopw [69] (fun s wr => ∃ (i : Nat) (sn : List (List UInt8)), i ≤ n1 ∧ s = .int .i64 i ∧ Hid (w1.grownBy wr (some (w.heap.size + 1))) ∧ Hid (Seen wr (w.heap.size + 1) ((0 + i0) + i) sn) ∧ Hid (R = Pl.devs N.nodes sn ((N.switches.drop i).map Pl.dSwi ++ T1))) (fun s _ => n1 - (intOf s).toNat)
        case atStart => exact ⟨0, sn0, Nat.zero_le _, rfl, HG0.out, HSn0.out, HEe1.out⟩
        case round =>
          obtain ⟨i1, sn1, hi, rfl, HG1, HSn1, HEi⟩ := hrel
          clear HEe1
          have hN := HN.out
          by_cases hlt : i1 < n1
          · have HMr := Lib.hid (HM1.out.below (below_grow HG1.out (Nat.le_succ _) HW1.out))
            obtain ⟨bb, o, rfl, hl, q0, q1, q2, q3, q4⟩ := swi_at HMr.out.r1 hlt
            simp only at hl q0 q1 q2 q3 q4
            have HDR : Hid (R = Pl.devs N.nodes sn1 (Pl.dSwi N.switches[i1] :: ((N.switches.drop (i1 + 1)).map Pl.dSwi ++ T1))) := by
              show _ = _
              rw [HEi.out, List.drop_eq_getElem_cons hl]
              rfl
            rw [devs_cons] at HDR
            have hz : (Pl.dSwi N.switches[i1]).name.size ≤ maxLen := (HM1.out.sz.names (Pl.dSwi N.switches[i1]) (by unfold Pl.allDevs; simp only [List.mem_append]; exact .inr (.inl (List.mem_map_of_mem (List.getElem_mem hl))))).1
            have HZ := Lib.hid hz
            clear hz HEi
            have B1r := Lib.hid (B1.out.grown HG1.out (by intro h; injection h with h; omega))
            have k0 := B1r.out.cell
            have lt0 := B1r.out.lt
            unfold Pl.dSwi at HDR HZ
            simp only at HDR HZ
            generalize N.switches[i1] = x at *
            obtain ⟨nm, fr, to_, br, op⟩ := x
            simp only at *
            have HC := Lib.hid (device_go (w.heap.size + 1) ((0 + i0) + i1) w.heap.size A0 n0 c0 N.nodes sn1 nm 2 [fr, to_] (.cells #[.string nm, .string fr, .string to_, .bool br, .bool op] 50) 9 wr (wr.heap.size + 1) rfl #[.string fr, .string to_] rfl rfl HSn1.out (by omega) (Nat.le_succ _) HMr.out.r0 HMr.out.z0 (by omega) HZ.out)
            go_wp2_with fail
            generalize Pl.devE N.nodes sn1 nm [fr, to_] = dv at *
            refine HC.out.mono ?_
            rintro e w2 ⟨rfl, hg, hbk, hsn⟩
            have G2 := Lib.hid (HG1.out.trans hg)
            have BX := Lib.hid (hbk wr.heap.size _ _ (by have := HSn1.out.lt; omega) (Blk.new_ wr wr.heap.size 50 #[.string nm, .string fr, .string to_, .bool br, .bool op] rfl))
            have S2 := Lib.hid hsn
            clear hg hbk hsn HC k0 lt0 q0 q1 q2 q3 q4 B1r
            by_cases hdv : dv = 0
            · subst hdv
              rw [if_neg (by simp)] at HDR
              have S3 := Lib.hid (S2.out rfl)
              clear S2
              rw [if_neg (by simp)] at HDR
              go_wp2_with fail
              go_roundw
              case rel => exact ⟨i1 + 1, Pl.lst nm :: sn1, by omega, by go_num, G2.out, S3.out, by rw [HDR.out]; rfl⟩
              case measure => simp [intOf]; omega
            · have hdv2 : (dv != 0) = true := by simpa using hdv
              rw [if_pos hdv] at HDR
              clear hdv
              go_wp2_with fail
              go_ret
              exact ⟨by rw [HDR.out]; rfl, A1'.out.trans (below_grow G2.out (Nat.le_succ _) HW1.out)⟩
          · have hi2 : i1 = n1 := by omega
            have HX2 : Hid (R = Pl.devs N.nodes sn1 (N.branches.map Pl.dBra ++ Pl.ends N)) := by
              show _ = _
              rw [HEi.out, HTe1.out, List.drop_of_length_le (by have := HL1.out; omega)]
              rfl
            clear HEi hi2
            have B0r := Lib.hid (B0'.out.grown HG1.out (by intro h; injection h with h; omega))
            have k0 := B0r.out.cell
            go_wp2_with fail
            clear k0 B0r
            have HT2 : Hid (∃ T, T = Pl.ends N ∧ R = Pl.devs N.nodes sn1 ((N.branches.drop 0).map Pl.dBra ++ T)) := ⟨_, rfl, by rw [HX2.out]; simp⟩
            obtain ⟨T2, HTe2, HEe2⟩ := HT2.out
            have HTe2 := Lib.hid HTe2
            have HEe2 := Lib.hid HEe2
            clear HX2 HT2
            go_loopw [89] (fun s wr => ∃ (i : Nat) (sn : List (List UInt8)), i ≤ n2 ∧ s = .int .i64 i ∧ Hid (w1.grownBy wr (some (w.heap.size + 1))) ∧ Hid (Seen wr (w.heap.size + 1) (((0 + i0) + i1) + i) sn) ∧ Hid (R = Pl.devs N.nodes sn ((N.branches.drop i).map Pl.dBra ++ T2))) (fun s _ => n2 - (intOf s).toNat)
            case atStart => exact ⟨0, sn1, Nat.zero_le _, rfl, HG1.out, HSn1.out, HEe2.out⟩
            case round =>
              obtain ⟨i2, sn2, hi, rfl, HG2, HSn2, HEi⟩ := hrel
              clear HEe2
              have hN := HN.out
              by_cases hlt : i2 < n2
              · have HMr := Lib.hid (HM1.out.below (below_grow HG2.out (Nat.le_succ _) HW1.out))
                obtain ⟨bb, o, rfl, hl, q0, q1, q2, q3, q4, q5, q6, q7, q8⟩ := bra_at HMr.out.r2 hlt
                simp only at hl q0 q1 q2 q3 q4 q5 q6 q7 q8
                have HDR : Hid (R = Pl.devs N.nodes sn2 (Pl.dBra N.branches[i2] :: ((N.branches.drop (i2 + 1)).map Pl.dBra ++ T2))) := by
                  show _ = _
                  rw [HEi.out, List.drop_eq_getElem_cons hl]
                  rfl
                rw [devs_cons] at HDR
                have hz : (Pl.dBra N.branches[i2]).name.size ≤ maxLen := (HM1.out.sz.names (Pl.dBra N.branches[i2]) (by unfold Pl.allDevs; simp only [List.mem_append]; exact .inr (.inr (.inl (List.mem_map_of_mem (List.getElem_mem hl)))))).1
                have HZ := Lib.hid hz
                clear hz HEi
                have B1r := Lib.hid (B1.out.grown HG2.out (by intro h; injection h with h; omega))
                have k0 := B1r.out.cell
                have lt0 := B1r.out.lt
                unfold Pl.dBra at HDR HZ
                simp only at HDR HZ
                have HBr := Lib.hid (fun w => nbranch_any N.branches[i2] w)
                have HBe : Hid (Pl.braE N.branches[i2] = if Pl.braOut N.branches[i2] = true then 4 else 0) := rfl
                generalize N.branches[i2] = x at *
                generalize Pl.braOut x = bo at *
                generalize Pl.braE x = be at *
                obtain ⟨nm, fr, to_, x, tap, shift, limit, short, hold⟩ := x
                simp only at *
                have HC := Lib.hid (device_go (w.heap.size + 1) (((0 + i0) + i1) + i2) w.heap.size A0 n0 c0 N.nodes sn2 nm 2 [fr, to_] (.cells #[.string nm, .string fr, .string to_, .int .i64 x, .int .i64 tap, .int .i64 shift, .int .i64 limit, .int .i64 short, .int .i64 hold] 42) 9 wr (wr.heap.size + 1) rfl #[.string fr, .string to_] rfl rfl HSn2.out (by omega) (Nat.le_succ _) HMr.out.r0 HMr.out.z0 (by omega) HZ.out)
                go_wp2_with fail
                generalize Pl.devE N.nodes sn2 nm [fr, to_] = dv at *
                refine HC.out.mono ?_
                rintro e w2 ⟨rfl, hg, hbk, hsn⟩
                have G2 := Lib.hid (HG2.out.trans hg)
                have BX := Lib.hid (hbk wr.heap.size _ _ (by have := HSn2.out.lt; omega) (Blk.new_ wr wr.heap.size 42 #[.string nm, .string fr, .string to_, .int .i64 x, .int .i64 tap, .int .i64 shift, .int .i64 limit, .int .i64 short, .int .i64 hold] rfl))
                have S2 := Lib.hid hsn
                clear hg hbk hsn HC k0 lt0 q0 q1 q2 q3 q4 q5 q6 q7 q8 B1r
                by_cases hdv : dv = 0
                · subst hdv
                  rw [if_neg (by simp)] at HDR
                  have S3 := Lib.hid (S2.out rfl)
                  clear S2
                  have k0 := BX.out.cell 0
                  have k1 := BX.out.cell 1
                  have k2 := BX.out.cell 2
                  have k3 := BX.out.cell 3
                  have k4 := BX.out.cell 4
                  have k5 := BX.out.cell 5
                  have k6 := BX.out.cell 6
                  have k7 := BX.out.cell 7
                  have k8 := BX.out.cell 8
                  simp at k0 k1 k2 k3 k4 k5 k6 k7 k8
                  go_wp2_with fail
                  refine (HBr.out _).mono ?_
                  rintro e w3 ⟨rfl, hb⟩
                  have G3 := Lib.hid (G2.out.trans (grownBy_below (r := some (w.heap.size + 1)) hb))
                  have S4 := Lib.hid (S3.out.go hb)
                  clear hb k0 k1 k2 k3 k4 k5 k6 k7 k8 HBr BX
                  cases bo
                  · rw [if_neg (by simp)] at HBe HDR
                    have hbe : be = 0 := HBe.out
                    subst hbe
                    go_wp2_with fail
                    go_roundw
                    case rel => exact ⟨i2 + 1, Pl.lst nm :: sn2, by omega, by go_num, G3.out, S4.out, by rw [HDR.out]; rfl⟩
                    case measure => simp [intOf]; omega
                  · rw [if_pos rfl] at HBe HDR
                    have hbe : be = 4 := HBe.out
                    subst hbe
                    go_wp2_with fail
                    go_ret
                    exact ⟨by rw [HDR.out]; rfl, A1'.out.trans (below_grow G3.out (Nat.le_succ _) HW1.out)⟩
                · have hdv2 : (dv != 0) = true := by simpa using hdv
                  rw [if_pos hdv] at HDR
                  clear hdv
                  go_wp2_with fail
                  go_ret
                  exact ⟨by rw [HDR.out]; rfl, A1'.out.trans (below_grow G2.out (Nat.le_succ _) HW1.out)⟩
              · have hi2 : i2 = n2 := by omega
                have HX3 : Hid (R = Pl.devs N.nodes sn2 (Pl.ends N)) := by
                  show _ = _
                  rw [HEi.out, HTe2.out, List.drop_of_length_le (by have := HL2.out; omega)]
                  rfl
                clear HEi hi2
                have B0r := Lib.hid (B0'.out.grown HG2.out (by intro h; injection h with h; omega))
                have k0 := B0r.out.cell
                have B1r := Lib.hid (B1.out.grown HG2.out (by intro h; injection h with h; omega))
                have j0 := B1r.out.cell
                have HMr := Lib.hid (HM1.out.below (below_grow HG2.out (Nat.le_succ _) HW1.out))
                have HC := Lib.hid (HEnd.out (w.heap.size + 1) (((0 + i0) + i1) + i2) sn2 wr HSn2.out (by omega) (Nat.le_succ _) HMr.out (by omega) (by omega) (by omega))
                go_wp2_with fail
                refine HC.out.mono ?_
                rintro e w2 ⟨rfl, hb⟩
                have G2 := Lib.hid (A1'.out.trans ((below_grow HG2.out (Nat.le_succ _) HW1.out).trans hb))
                clear hb HC k0 j0
                go_wp2_with fail
                go_ret
                exact ⟨by rw [HX3.out]; rfl, G2.out⟩
end Go.Proofs.Ytpamgeemmbbkkaa
