/- The reference's Cut answers as its plain function says. Condition: the network is a good one and reads, choose answers as its plain function says. -/
import Derived.Test.YtpamgeemmbbkkaaLeast
import Derived.Test.YtpamgeemmbbkkaaPCutC
namespace Go.Proofs.Ytpamgeemmbbkkaa
open Go.RowKit
set_option maxRecDepth 100000
/-- the contract of choose -/
def ChooseOk (M : MNet) (br : ByteArray) (part : Int) (b : Pl.Bra) (size : Nat) : Prop :=
  ∀ (Aa : Option Addr) (na ca : Nat) (all : List ByteArray) (As : Option Addr) (ns cs : Nat) (set : List ByteArray) (w : World), NetIn w w.heap.size M → Reads w w.heap.size 1 Aa na (txts all) → Reads w w.heap.size 1 As ns (txts set) → na ≤ ca → na + ns + size ≤ 1000 →
    Calls Try.prog 34 #[vNet M, vPlace br part, .slice Aa na ca, .int .i64 size, .slice As ns cs] w fun e w' => ∃ (A : Option Addr) (m c : Nat) (out : List ByteArray) (is : Bool), e = .returned (.tuple #[.slice A m c, .bool is]) ∧ (is = true → Pl.chooseP (Pl.isoD M.N br part) (Pl.nearN M.N br part b) size all set = some out ∧ Reads w' w'.heap.size 1 A m (txts out)) ∧ (is = false → Pl.chooseP (Pl.isoD M.N br part) (Pl.nearN M.N br part b) size all set = none) ∧ Below w.heap.size w w'
theorem own_capC {w : World} {base : Nat} {e : TypeId} {size n : Nat} {A : Option Addr} {c : Nat} {xs : List Value} (h : w.ownsRow base e size (.slice A n c) n xs) : n ≤ c := by
  rcases h.2 with ⟨hv, _⟩ | ⟨g, cap, cur, hv, _, _, hc, _⟩
  · injection hv with _ h2 h3; omega
  · injection hv with _ _ h3; omega
theorem allB_snoc (l : List Pl.Swi) (k : Nat) (hk : k < l.length) : (((l.take (k + 1)).filter fun s => s.breaker && !s.opened).map Pl.Swi.name) = (((l.take k).filter fun s => s.breaker && !s.opened).map Pl.Swi.name) ++ (if (l[k].breaker && !l[k].opened) = true then [l[k].name] else []) := by
  rw [List.take_succ_eq_append_getElem hk, List.filter_append, List.map_append]
  congr 1
  by_cases h : (l[k].breaker && !l[k].opened) = true
  · simp [h]
  · simp [h]
set_option maxHeartbeats 6400000 in
theorem refcut_any (M : MNet) (br : ByteArray) (part : Int) (b : Pl.Bra) (w : World) (hM : NetIn w w.heap.size M) (hok : Pl.NetOk M.N) (HC : Hid (∀ size, size ≤ 64 → ChooseOk M br part b size)) :
    Calls Try.prog 16 #[vNet M, vPlace br part] w fun e w' => ∃ (A : Option Addr) (m c : Nat) (out : List ByteArray) (is : Bool), e = .returned (.tuple #[.slice A m c, .bool is]) ∧ (is = true → Pl.cutP (Pl.isoD M.N br part) (Pl.nearN M.N br part b) (Pl.allB M.N) = some out ∧ Reads w' w'.heap.size 1 A m (txts out)) ∧ (is = false → Pl.cutP (Pl.isoD M.N br part) (Pl.nearN M.N br part b) (Pl.allB M.N) = none) ∧ Below w.heap.size w w' := by
  have F0 := Lib.hid (((Below.refl w.heap.size w).alloc (Nat.le_refl _) (.cells (netC M) 29)).alloc (by simp) (.cells #[.string br, .int .i64 part] 34))
  have B0 := Lib.hid ((Blk.new_ w w.heap.size 29 (netC M) rfl).alloc (.cells #[.string br, .int .i64 part] 34))
  have P0 := Lib.hid (Blk.new_ (w.alloc (.cells (netC M) 29)) (w.heap.size + 1) 34 #[.string br, .int .i64 part] (by simp))
  have CC := Lib.hid (fun (size : Nat) (hs : size ≤ 64) (Aa : Option Addr) (na ca : Nat) (all : List ByteArray) (w1 : World) (hb : Below w.heap.size w w1) (ha : Reads w1 w1.heap.size 1 Aa na (txts all)) (hc : na ≤ ca) (hn : na + size ≤ 1000) => HC.out size hs Aa na ca all none 0 0 [] w1 (hM.go hb) ha Reads.none_ hc (by omega))
  have HM := Lib.hid hM
  have hl1 := hM.r1.2
  have hn1 : M.n1 ≤ 32 := by have := hok.ns; omega
  have HL1 := Lib.hid hl1
  clear hM hok HC hl1
  unfold vNet vPlace at *
  obtain ⟨N, A0, n0, c0, A1, n1, c1, A2, n2, c2, A3, n3, c3, A4, n4, c4, A5, n5, c5⟩ := M
  unfold netC at *
  simp only at *
  have HCP : Hid (Pl.cutP (Pl.isoD N br part) (Pl.nearN N br part b) (Pl.allB N) = Pl.cutGo (Pl.isoD N br part) (Pl.nearN N br part b) (Pl.allB N) 0 ((Pl.allB N).length + 1)) := rfl
  generalize Pl.cutP (Pl.isoD N br part) (Pl.nearN N br part b) (Pl.allB N) = CP at *
  have HAL : Hid (Pl.allB N = ((N.switches.filter fun s => s.breaker && !s.opened).map Pl.Swi.name)) := rfl
  generalize Pl.allB N = al at *
  generalize Pl.isoD N br part = iso at *
  generalize Pl.nearN N br part b = nl at *
  have k0 := B0.out.cell
  go_enter Try.func16, Try.ntmps16
  go_wp2_with fail
  clear k0
  generalize ((w.alloc (.cells #[.slice A0 n0 c0, .slice A1 n1 c1, .slice A2 n2 c2, .slice A3 n3 c3, .slice A4 n4 c4, .slice A5 n5 c5] 29)).alloc (.cells #[.string br, .int .i64 part] 34)) = w3 at *
  have G3 : Hid (Below w3.heap.size w3 w3) := Below.refl _ _
  have R3 : Hid (w3.ownsRow w3.heap.size 9 1 (.slice none 0 0) 0 (txts [])) := World.ownsRow_nil _ _ _ _
  go_loopw [6, 15] (fun v i wr => ∃ (k m : Nat) (A : Option Addr) (c : Nat), k ≤ n1 ∧ m ≤ k ∧ i = .int .i64 k ∧ v = .slice A m c ∧ Hid (wr.ownsRow w3.heap.size 9 1 (.slice A m c) m (txts (((N.switches.take k).filter fun s => s.breaker && !s.opened).map Pl.Swi.name))) ∧ Hid (Below w3.heap.size w3 wr)) (fun _ i _ => n1 - (intOf i).toNat)
  case atStart => exact ⟨0, 0, none, 0, Nat.zero_le _, Nat.zero_le _, rfl, rfl, R3, G3⟩
  case round =>
    clear R3 G3
    obtain ⟨k, m, A, c, hk, hmk, rfl, rfl, OR, GR⟩ := hrel
    have FR := Lib.hid (F0.out.trans (GR.out.mono F0.out.size))
    by_cases hkn : k < n1
    · obtain ⟨bs, os, rfl, hls, s0, s1, s2, s3, s4⟩ := swi_at (HM.out.r1.below FR.out) hkn
      have HST := Lib.hid (allB_snoc N.switches k hls)
      generalize N.switches[k] = sw at *
      obtain ⟨sn, sa, sb, sk, so⟩ := sw
      simp only at *
      generalize ((N.switches.take k).filter fun s => s.breaker && !s.opened).map Pl.Swi.name = zs at *
      have X1 := Lib.hid (Blk.new_ wr wr.heap.size 50 #[.string sn, .string sa, .string sb, .bool sk, .bool so] rfl)
      have A1 := (Below.refl wr.heap.size wr).alloc (Nat.le_refl _) (.cells #[.string sn, .string sa, .string sb, .bool sk, .bool so] 50)
      have O1 := Lib.hid (own_go OR.out A1)
      have G1 := Lib.hid (GR.out.alloc GR.out.size (.cells #[.string sn, .string sa, .string sb, .bool sk, .bool so] 50))
      have hlb : wr.heap.size < wr.heap.size + 1 := Nat.lt_succ_self _
      clear A1
      cases sk
      · simp only [Bool.false_and, Bool.false_eq_true, if_false, List.append_nil] at HST
        go_wp2_with fail
        go_roundw
        case rel => exact ⟨k + 1, m, A, c, by omega, by omega, by go_num, rfl, by rw [HST.out]; exact O1, G1⟩
        case measure => simp [intOf]; omega
      · cases so
        · simp only [Bool.not_false, Bool.and_self, if_true] at HST
          obtain ⟨j0, hj0, hjz0, hjz1, hjz2⟩ := info_parts info_txt
          have AZ := (Below.refl (wr.alloc (.cells #[.string sn, .string sa, .string sb, .bool true, .bool false] 50)).heap.size _).alloc (Nat.le_refl _) (.cells #[.string sn] 9)
          have OZ := Lib.hid (own_go O1.out AZ)
          have GZ := Lib.hid (G1.out.alloc G1.out.size (.cells #[.string sn] 9))
          clear AZ
          go_wp2_with (at_builtin; go_must (refine wpList_append_any _ rfl (.tmp 26) (.tmp 29) 22 rfl w3.heap.size 9 j0 _ 1 16 Try.underlying22 hj0 hjz0 hjz1 hjz2 rfl (by decide) (.slice A m c) m (txts zs) rfl OZ.out (wr.heap.size + 1 + 1) (some ⟨wr.heap.size + 1, 0, none⟩) 1 1 [.string sn] rfl (by have := Reads.lit (wr.alloc (.cells #[.string sn, .string sa, .string sb, .bool true, .bool false] 50)) #[.string sn] 9 1 1 (wr.heap.size + 1) (by simp) rfl; simpa using this) (by intro u hu; simp at hu; subst hu; rfl) (by unfold maxLen; omega) (by omega) (by have := GR.out.size; simp; omega) ?_; intro v' w6 hown6 hg6 _; obtain ⟨A6, c6, rfl, _⟩ := own_slice hown6; have G6 := Lib.hid (below_grown GZ.out hg6 OZ.out (Nat.le_refl _) (by have := GR.out.size; simp; omega)); have O6 := Lib.hid hown6; clear hown6 hg6))
          go_roundw
          case rel => exact ⟨k + 1, m + 1, A6, c6, by omega, by omega, by go_num, rfl, by rw [HST.out]; unfold txts at *; rw [List.map_append]; exact O6, G6⟩
          case measure => simp [intOf]; omega
        · simp only [Bool.not_true, Bool.and_false, Bool.false_eq_true, if_false, List.append_nil] at HST
          go_wp2_with fail
          go_roundw
          case rel => exact ⟨k + 1, m, A, c, by omega, by omega, by go_num, rfl, by rw [HST.out]; exact O1, G1⟩
          case measure => simp [intOf]; omega
    · have hke : k = n1 := by omega
      rw [hke, List.take_of_length_le (by have := HL1.out; omega), ← HAL.out] at OR
      clear hke
      have R4 := Lib.hid (Reads.of_own OR.out)
      have hlal : al.length = m := txts_len R4.out
      have hmc : m ≤ c := own_capC OR.out
      have B4 := Lib.hid (B0.out.go GR.out)
      have P4 := Lib.hid (P0.out.go GR.out)
      rw [hlal] at HCP
      clear hlal
      go_wp2_with fail
      have G4 : Hid (Below wr.heap.size wr wr) := Below.refl _ _
      generalize wr = w4 at *
      go_loopw [9] (fun i wr => ∃ s : Nat, s ≤ m + 1 ∧ i = .int .i64 s ∧ Hid (CP = Pl.cutGo iso nl al s (m + 1 - s)) ∧ Hid (Below w4.heap.size w4 wr)) (fun i _ => m + 1 - (intOf i).toNat)
      case atStart => exact ⟨0, Nat.zero_le _, rfl, HCP, G4⟩
      case round =>
        clear HCP G4
        obtain ⟨s, hs, rfl, HCP, G5⟩ := hrel
        have B5 := Lib.hid (B4.out.go G5.out)
        have P5 := Lib.hid (P4.out.go G5.out)
        have F5 := Lib.hid (FR.out.trans (G5.out.mono FR.out.size))
        have kb := B5.out.cell
        have kp := P5.out.cell
        by_cases hsm : s < m + 1
        · have CS := Lib.hid (CC.out s (by omega) A m c al wr F5.out (R4.out.go G5.out) hmc (by omega))
          have hle : (s : Int) ≤ (m : Int) := by omega
          have HGO : Hid (Pl.cutGo iso nl al s (m + 1 - s) = match Pl.chooseP iso nl s al [] with
            | some o => some o
            | none => Pl.cutGo iso nl al (s + 1) (m + 1 - (s + 1))) := by
            show _ = _
            rw [show m + 1 - s = (m + 1 - (s + 1)) + 1 by omega]; rfl
          rw [HGO.out] at HCP
          go_wp2_with fail
          refine CS.out.mono ?_
          rintro e w6 ⟨A6, m6, c6, out, is, rfl, h1, h2, hb⟩
          have G6 := Lib.hid (G5.out.trans (hb.mono G5.out.size))
          have F6 := Lib.hid (F5.out.trans (hb.mono F5.out.size))
          clear hb kb kp CS
          cases is
          · have h3 := h2 rfl
            rw [h3] at HCP
            clear h1 h2 h3
            go_wp2_with fail
            go_roundw
            case rel => exact ⟨s + 1, by omega, by go_num, HCP, G6⟩
            case measure => simp [intOf]; omega
          · obtain ⟨h3, h4⟩ := h1 rfl
            rw [h3] at HCP
            have R6 := Lib.hid h4
            clear h1 h2 h3 h4
            go_wp2_with fail
            go_ret2
            exact ⟨A6, m6, c6, out, true, rfl, (fun _ => ⟨HCP.out, R6.out⟩), (fun h => by cases h), F6.out⟩
        · have hse : m + 1 - s = 0 := by omega
          rw [hse] at HCP
          have hle : decide (s ≤ m) = false := by simp; omega
          clear hse
          go_wp2_with fail
          go_ret2
          exact ⟨none, 0, 0, [], false, rfl, (fun h => by cases h), (fun _ => HCP.out), F5.out⟩
end Go.Proofs.Ytpamgeemmbbkkaa
