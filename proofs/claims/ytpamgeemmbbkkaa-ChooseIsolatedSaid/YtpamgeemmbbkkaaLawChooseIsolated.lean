/- ChooseIsolated returns true, whatever network, names and place it is given. Condition: they read. -/
import Derived.Test.YtpamgeemmbbkkaaChWorks
import Derived.Test.YtpamgeemmbbkkaaNearB
import Derived.Test.YtpamgeemmbbkkaaLinked
namespace Go.Proofs.Ytpamgeemmbbkkaa
open Go.RowKit
set_option maxRecDepth 100000
theorem isol_linked {N : Pl.Net} {open_ : List ByteArray} {br : ByteArray} {part : Int} {b : Pl.Bra} (hok : Pl.NetOk N) (hp : Pl.PlaceOk N br part b) {l : List Int} (hl : ∀ v, v ∈ l ↔ Pl.NearR (Pl.PairN N open_ br part) (Pl.starts N part b) v) {is : Bool}
    (h : is = true ↔ ∀ v, Pl.Rch (Pl.fEdges N open_ br part) (Pl.fPlace N open_ br part) v → (Pl.fSrc N)[v.toNat]? ≠ some true) : is = !Pl.srcIn N l := by
  have h2 := h.trans (Pl.reach_near hok hp hl)
  have h3 : Pl.srcIn N l = (N.gens.any (fun g => decide (Pl.idxT N.nodes g.node ∈ l)) || N.stores.any (fun s => decide (Pl.idxT N.nodes s.node ∈ l))) := rfl
  rw [← h3] at h2
  cases is <;> cases hs : Pl.srcIn N l <;> simp_all
set_option maxHeartbeats 6400000 in
theorem chooseIsolated_walk (M : MNet) (Ao : Option Addr) (no co : Nat) (open_ : List ByteArray) (br : ByteArray) (part : Int) (w : World) (hM : NetIn w w.heap.size M) (ho : Reads w w.heap.size 1 Ao no (txts open_)) (hno : no ≤ 9223372036854775807) :
    Calls Try.prog 5 #[vNet M, .slice Ao no co, vPlace br part] w fun e w' => e = .returned (.bool true) ∧ Below w.heap.size w w' := by
  have F0 := Lib.hid (((Below.refl w.heap.size w).alloc (Nat.le_refl _) (.cells (netC M) 29)).alloc (by simp) (.cells #[.string br, .int .i64 part] 34))
  have B0 := Lib.hid ((Blk.new_ w w.heap.size 29 (netC M) rfl).alloc (.cells #[.string br, .int .i64 part] 34))
  have P0 := Lib.hid (Blk.new_ (w.alloc (.cells (netC M) 29)) (w.heap.size + 1) 34 #[.string br, .int .i64 part] (by simp))
  have CI := Lib.hid (fun (w1 : World) (hb : Below w.heap.size w w1) => isolated_any M Ao no co open_ br part w1 (hM.go hb) (ho.go hb) hno (Lib.hid fun w2 h2 hok h3 => fieldOf_any M Ao no co open_ br part w2 h2 hok h3 hno))
  have CP := Lib.hid (fun (w1 : World) (hb : Below w.heap.size w w1) => placeE_any M br part w1 (hM.go hb))
  have CF := Lib.hid (fun (x : ByteArray) (w1 : World) (hb : Below w.heap.size w w1) => findE_any M x w1 (hM.go hb))
  have CL := Lib.hid (fun (b : Pl.Bra) (hok : Pl.NetOk M.N) (hp : Pl.PlaceOk M.N br part b) (w1 : World) (hb : Below w.heap.size w w1) => linked_any M Ao no co open_ br part b w1 (hM.go hb) (ho.go hb) (Lib.hid fun w2 h2 h3 => near_any M Ao no co open_ br part b w2 h2 hok hp h3 hno))
  have HO := Lib.hid ho
  have HL := Lib.hid (txts_len ho)
  have HPK := Lib.hid (fun h => placeE_ok (N := M.N) (br := br) (part := part) h)
  clear hM ho
  unfold vNet vPlace at *
  obtain ⟨N, A0, n0, c0, A1, n1, c1, A2, n2, c2, A3, n3, c3, A4, n4, c4, A5, n5, c5⟩ := M
  unfold netC at *
  simp only at *
  go_enter Try.func5, Try.ntmps5
  go_wp2_with fail
  refine (chooseWorks_any _).mono ?_
  rintro e w1 ⟨rfl, hb1⟩
  have F1 := Lib.hid (F0.out.trans (hb1.mono F0.out.size))
  have B1 := Lib.hid (B0.out.go hb1)
  have P1 := Lib.hid (P0.out.go hb1)
  clear hb1 B0 P0 F0
  have k0 := B1.out.cell
  have k1 := P1.out.cell
  go_wp2_with fail
  refine (CI.out _ F1.out).mono ?_
  rintro e w2 ⟨is, er, rfl, hsd, hb2⟩
  have F2 := Lib.hid (F1.out.trans (hb2.mono F1.out.size))
  have B2 := Lib.hid (B1.out.go hb2)
  have P2 := Lib.hid (P1.out.go hb2)
  have HSD := Lib.hid hsd
  clear hb2 B1 P1 F1 k0 k1 hsd CI
  have k0 := B2.out.cell
  have k1 := P2.out.cell
  go_wp2_with fail
  refine (CP.out _ F2.out).mono ?_
  rintro e w3 ⟨rfl, hb3⟩
  have F3 := Lib.hid (F2.out.trans (hb3.mono F2.out.size))
  have B3 := Lib.hid (B2.out.go hb3)
  have P3 := Lib.hid (P2.out.go hb3)
  clear hb3 B2 P2 F2 k0 k1 CP
  by_cases h0 : Pl.placeE N br part = 0
  · obtain ⟨hok, b, hpk⟩ := HPK.out h0
    have HOK := Lib.hid hok
    have HBP := Lib.hid hpk
    have H1 := Lib.hid (HSD.out.2.1 h0)
    have H2 := Lib.hid (HSD.out.2.2 h0)
    have h02 : (Pl.placeE N br part != 0) = false := by simp [h0]
    generalize Pl.placeE N br part = pe at *
    clear h0 hok hpk HPK HSD
    go_wp2_with fail
    go_loopw [38] (fun i wr => ∃ k : Nat, k ≤ no ∧ i = .int .i64 k ∧ Hid ((open_.take k).all (Pl.swB N) = true) ∧ Hid (Below w3.heap.size w3 wr)) (fun i _ => no - (intOf i).toNat)
    case atStart => exact ⟨0, Nat.zero_le _, rfl, rfl, Below.refl _ _⟩
    case round =>
      obtain ⟨k, hk, rfl, HAL, GR⟩ := hrel
      have FR := Lib.hid (F3.out.trans (GR.out.mono F3.out.size))
      have BR := Lib.hid (B3.out.go GR.out)
      have PR := Lib.hid (P3.out.go GR.out)
      have kb := BR.out.cell
      have kp := PR.out.cell
      by_cases hkn : k < no
      · obtain ⟨bo, oo, rfl, _, hlk, ck⟩ := txts_at (HO.out.go FR.out) hkn
        have HCK := Lib.hid (CF.out open_[k] wr FR.out)
        have HAK : Hid ((open_.take (k + 1)).all (Pl.swB N) = ((open_.take k).all (Pl.swB N) && Pl.swB N open_[k])) := by
          show _ = _
          rw [List.take_succ_eq_append_getElem hlk, List.all_append]; simp
        have HBAD : Hid (Pl.swB N open_[k] = false → open_.all (Pl.swB N) = false) := fun h => by
          rw [List.all_eq_false]
          exact ⟨_, List.getElem_mem hlk, by simp [h]⟩
        have HSW : Hid (Pl.swB N open_[k] = (decide ((Pl.findE N open_[k]).2.2 = 0) && ((Pl.findE N open_[k]).1.toList == ([115, 119, 105, 116, 99, 104] : List UInt8)))) := rfl
        generalize open_[k] = ok at *
        generalize Pl.swB N ok = sw at *
        generalize Pl.findE N ok = R at *
        obtain ⟨R1, R2, R3⟩ := R
        simp only at *
        go_wp2_with fail
        refine HCK.out.mono ?_
        rintro e w4 ⟨rfl, hb⟩
        have GS := Lib.hid (GR.out.trans (hb.mono GR.out.size))
        have FS := Lib.hid (FR.out.trans (hb.mono FR.out.size))
        clear hb kb kp HCK
        by_cases h3 : R3 = 0
        · have h32 : (R3 != 0) = false := by simp [h3]
          rw [h3] at HSW
          clear h3
          cases hsx : (R1.toList == ([115, 119, 105, 116, 99, 104] : List UInt8))
          · rw [hsx] at HSW
            obtain ⟨rfl, rfl⟩ := H1.out (HBAD.out (by rw [HSW.out]; rfl))
            go_wp2_with fail
            go_ret
            exact ⟨rfl, FS.out⟩
          · rw [hsx] at HSW
            have HS1 : Hid (sw = true) := by show _ = _; rw [HSW.out]; rfl
            go_wp2_with fail
            go_roundw
            case rel => exact ⟨k + 1, by omega, by go_num, by show _ = _; rw [HAK.out, HAL.out, HS1.out]; rfl, GS⟩
            case measure => simp [intOf]; omega
        · have h32 : (R3 != 0) = true := by simp [h3]
          obtain ⟨rfl, rfl⟩ := H1.out (HBAD.out (by rw [HSW.out]; simp [h3]))
          clear h3
          go_wp2_with fail
          go_ret
          exact ⟨rfl, FS.out⟩
      · have hke : k = no := by omega
        rw [hke, List.take_of_length_le (by have := HL.out; omega)] at HAL
        obtain ⟨rfl, hiff⟩ := H2.out HAL.out
        have HIF := Lib.hid hiff
        have CLK := Lib.hid (CL.out b HOK.out HBP.out wr FR.out)
        clear hke hiff
        go_wp2_with fail
        refine CLK.out.mono ?_
        rintro e w4 ⟨l, hl, rfl, hb⟩
        have FS := Lib.hid (FR.out.trans (hb.mono FR.out.size))
        have hE := isol_linked HOK.out HBP.out hl HIF.out
        have HE := Lib.hid hE
        generalize Pl.srcIn N l = sr at *
        clear hb hl kb kp hE
        cases sr
        · have hE2 : is = true := HE.out
          subst hE2
          go_wp2_with fail
          go_ret
          exact ⟨rfl, FS.out⟩
        · have hE2 : is = false := HE.out
          subst hE2
          go_wp2_with fail
          go_ret
          exact ⟨rfl, FS.out⟩
  · obtain ⟨rfl, rfl⟩ := HSD.out.1 h0
    have h02 : (Pl.placeE N br part != 0) = true := by simp [h0]
    generalize Pl.placeE N br part = pe at *
    clear h0
    go_wp2_with fail
    go_ret
    exact ⟨rfl, F3.out⟩
end Go.Proofs.Ytpamgeemmbbkkaa
