/- netmodel's checker of a device's name and nodes answers as its plain function says, and remembers the name. Condition: the map is the call's own, the texts read. -/
import Derived.Test.YtpamgeemmbbkkaaNet
import Derived.Test.YtpamgeemmbbkkaaSeen
import Derived.Test.YtpamgeemmbbkkaaName
import Derived.Test.YtpamgeemmbbkkaaQuiet
namespace Go.Proofs.Ytpamgeemmbbkkaa
open Go.RowKit
theorem Reads.grown2 {w w' : World} {B size n : Nat} {A : Option Addr} {xs : List Value} {b : Nat} (h : Reads w B size A n xs) (hg : w.grownBy w' (some b)) (hB : B ≤ w.heap.size) (hb : ∀ ad, A = some ad → ad.block ≠ b) : Reads w' B size A n xs :=
  ⟨h.1, fun hn => by
    obtain ⟨ad, e, hlt, hc⟩ := h.2 hn
    refine ⟨ad, e, hlt, fun j u hu => ?_⟩
    rw [World.cell?_of_block (hg.block _ (by rw [block_of_add]; omega) (by rw [block_of_add]; intro h; injection h with h; exact hb ad e h))]
    exact hc j u hu⟩
theorem grownBy_below {w w' : World} {r : Option Nat} (h : Below w.heap.size w w') : w.grownBy w' r := ⟨h.os, h.tape, h.output, h.size, fun i hi _ => h.block i hi⟩
theorem grownBy_drewN {w w' : World} {r : Option Nat} (h : w.grownBy w' r) (n : Nat) : w.grownBy (w'.drewN n) r := ⟨h.os, h.tape, h.output, h.size, h.block⟩
theorem Seen.drewN {w : World} {b n : Nat} {seen : List (List UInt8)} (h : Seen w b n seen) (k : Nat) : Seen (w.drewN k) b n seen := h.kept (row := none) ⟨rfl, rfl, rfl, Nat.le_refl _, fun _ _ _ => rfl⟩ (by simp)
set_option maxHeartbeats 1600000 in
set_option maxRecDepth 100000 in
theorem device_any (b n BB : Nat) (A : Option Addr) (k c : Nat) (nodes : List ByteArray) (seen : List (List UInt8)) (nm : ByteArray) (D : Option Addr) (m mc : Nat) (ats : List ByteArray) (w : World)
    (hs : Seen w b n seen) (hn : n < 1000000) (hBB : BB ≤ b) (hr : Reads w BB 1 A k (txts nodes)) (hk : k ≤ 9223372036854775807) (ha : Reads w w.heap.size 1 D m (txts ats)) (hm : m ≤ 2) (hD : ∀ ad, D = some ad → ad.block ≠ b) (hsz : nm.size ≤ maxLen) :
    Calls Try.prog 52 #[.agg #[.map (some b), .slice A k c], .string nm, .slice D m mc] w fun e w' => e = .returned (.int .i64 (Pl.devE nodes seen nm ats)) ∧ w.grownBy w' (some b) ∧ (Pl.devE nodes seen nm ats = 0 → Seen w' b (n + 1) (Pl.lst nm :: seen)) := by
  have HN := Lib.hid (fun w => name_any nm w (by unfold maxLen at hsz; omega))
  have HE : Hid (Pl.devE nodes seen nm ats = if Pl.nameB nm = false then 5 else if Pl.lst nm ∈ seen then 7 else if ats.all (Pl.inB nodes) = false then 6 else if ats.length = 2 ∧ Pl.lst (ats.getD 0 ByteArray.empty) = Pl.lst (ats.getD 1 ByteArray.empty) then 3 else 0) := by show _ = _; unfold Pl.devE; rfl
  generalize Pl.devE nodes seen nm ats = R at *
  have A0 := (Below.refl w.heap.size w).alloc (Nat.le_refl _) (.cells #[.map (some b), .slice A k c] 123)
  have B0 := Lib.hid (Blk.new_ w w.heap.size 123 #[.map (some b), .slice A k c] rfl)
  have S0 := Lib.hid (hs.alloc (.cells #[.map (some b), .slice A k c] 123))
  have HBB := Lib.hid hBB
  have R0 := Lib.hid (hr.below (A0.mono (by have := hs.lt; omega)))
  have D0 := Lib.hid (ha.go A0)
  have F0 := Lib.hid A0
  have HDB := Lib.hid hD
  have HBL := Lib.hid hs.lt
  clear hs hr ha A0 hD hBB
  have HSZ := Lib.hid hsz
  clear hsz
  go_enter Try.func52, Try.ntmps52
  go_wp2_with fail
  refine (HN.out _).mono ?_
  rintro e w1 ⟨rfl, hb⟩
  have F1 := Lib.hid (F0.out.trans (hb.mono F0.out.size))
  have B1 := Lib.hid (B0.out.go hb)
  have S1 := Lib.hid (S0.out.go hb)
  have R1 := Lib.hid (R0.out.below (hb.mono (by have := HBL.out; have := HBB.out; simp; omega)))
  have D1 := Lib.hid (D0.out.go hb)
  clear hb HN B0 S0 R0 D0 F0
  have c1 := B1.out.cell
  have hl := S1.out.look nm HSZ.out
  cases hnm : Pl.nameB nm
  · rw [hnm, if_pos rfl] at HE
    go_wp2_with fail
    go_ret
    exact ⟨by rw [HE.out]; rfl, grownBy_below F1.out, fun h => by rw [HE.out] at h; omega⟩
  · rw [hnm, if_neg (by simp)] at HE
    by_cases hin : Pl.lst nm ∈ seen
    · rw [if_pos hin] at HE
      rw [show nm.data.toList = Pl.lst nm from rfl, decide_eq_true hin] at hl
      go_wp2_with fail
      go_ret
      exact ⟨by rw [HE.out]; rfl, grownBy_below F1.out, fun h => by rw [HE.out] at h; omega⟩
    · rw [if_neg hin] at HE
      rw [show nm.data.toList = Pl.lst nm from rfl, decide_eq_false hin] at hl
      obtain ⟨w2, hup, S2, hg⟩ := S1.out.put (by unfold maxLen; omega) nm HSZ.out
      go_wp2_with fail
      have G2 := Lib.hid ((grownBy_below (r := some b) F1.out).trans hg)
      have R2 := Lib.hid (R1.out.grown hg (by have := HBL.out; have := HBB.out; have := F1.out.size; omega) (by intro g h; injection h with h; have := HBB.out; omega))
      have D2 := Lib.hid (D1.out.grown2 hg (Nat.le_refl _) HDB.out)
      have B2 := Lib.hid (B1.out.grown hg (by intro h; injection h with h; have := HBL.out; omega))
      have Q2 := Lib.hid (fun (_ : R = 0) => S2)
      clear hl hg hup c1 B1 S1 R1 D1 F1 S2
      have HL := Lib.hid (txts_len D2.out)
      have HLR := Lib.hid (txts_len R2.out)
      go_loop [8, 23, 24, 25, 26, 27, 28, 29, 30, 31] (fun _ i _ _ _ _ _ _ _ _ => ∃ j : Nat, j ≤ m ∧ i = .int .i64 j ∧ Hid (∀ q (hq : q < ats.length), q < j → Pl.inB nodes ats[q] = true)) (fun _ i _ _ _ _ _ _ _ _ => m - (intOf i).toNat)
      case atStart => exact ⟨0, Nat.zero_le _, rfl, Lib.hid (fun q _ h => absurd h (by omega))⟩
      case round =>
        obtain ⟨j, hj, rfl, hall⟩ := hrel
        by_cases hlt : j < m
        · obtain ⟨bb, o, rfl, _, hl2, hc⟩ := txts_at D2.out hlt
          have q1 := B2.out.cell 1
          simp at q1
          have HX := Lib.hid (contains_txt A k c nodes ats[j] w2 BB hk R2.out)
          cases hin2 : Pl.inB nodes ats[j]
          · have HF : Hid (ats.all (Pl.inB nodes) = false) := by
              show _ = _
              rw [List.all_eq_false]
              exact ⟨ats[j], List.getElem_mem hl2, by simp [hin2]⟩
            rw [HF.out, if_pos rfl] at HE
            rw [hin2] at HX
            generalize ats[j] = aj at *
            go_wp2_with fail
            refine HX.out.mono ?_
            rintro e w3 ⟨rfl, rfl⟩
            go_wp2_with fail
            go_ret
            exact ⟨by rw [HE.out]; rfl, G2.out, fun h => by rw [HE.out] at h; omega⟩
          · rw [hin2] at HX
            have HI := Lib.hid hin2
            have HN2 : Hid (∀ q (hq : q < ats.length), q < j + 1 → Pl.inB nodes ats[q] = true) := by
              intro q hq hqj
              by_cases e : q = j
              · subst e; exact HI.out
              · exact hall.out q hq (by omega)
            clear hin2 HI hall
            generalize ats[j] = aj at *
            go_wp2_with fail
            refine HX.out.mono ?_
            rintro e w3 ⟨rfl, rfl⟩
            go_wp2_with fail
            go_round
            case rel => exact ⟨j + 1, by omega, by go_num, HN2⟩
            case measure => simp [intOf]; omega
        · have HF : Hid (ats.all (Pl.inB nodes) = true) := by
            show _ = _
            rw [List.all_eq_true]
            intro x hx
            obtain ⟨q, hq, rfl⟩ := List.getElem_of_mem hx
            exact hall.out q hq (by have := HL.out; omega)
          rw [HF.out, if_neg (by simp)] at HE
          by_cases hm2 : m = 2
          · subst hm2
            obtain ⟨bb, o, rfl, _, h0, hc0⟩ := txts_at D2.out (k := 0) (by omega)
            obtain ⟨bb', o', e, _, h1, hc1⟩ := txts_at D2.out (k := 1) (by omega)
            injection e with e; injection e with e1 e2; subst e1 e2
            have hL2 : ats.length = 2 := HL.out
            have e0 : ats.getD 0 ByteArray.empty = ats[0] := by simp [List.getD_eq_getElem?_getD, hL2]
            have e1 : ats.getD 1 ByteArray.empty = ats[1] := by simp [List.getD_eq_getElem?_getD, hL2]
            rw [e0, e1] at HE
            clear e0 e1
            have HL2 := Lib.hid hL2
            clear hL2 HF hall
            rw [Nat.add_zero] at hc0
            generalize ats[0] = a0 at *
            generalize ats[1] = a1 at *
            by_cases heq : Pl.lst a0 = Pl.lst a1
            · rw [if_pos ⟨HL2.out, heq⟩] at HE
              have : a0 = a1 := Pl.lst_inj heq
              subst this
              clear heq
              go_wp2_with fail
              go_quiet (fail)
              all_goals go_wp2_with fail
              go_ret
              exact ⟨by rw [HE.out]; rfl, grownBy_drewN G2.out _, fun h => by rw [HE.out] at h; omega⟩
            · rw [if_neg (fun h => heq h.2)] at HE
              have hne : (a0.toList == a1.toList) = false := by
                rw [beq_eq_false_iff_ne, ByteArray.toList_eq, ByteArray.toList_eq]
                exact heq
              clear heq
              go_wp2_with fail
              go_quiet (fail)
              all_goals go_wp2_with fail
              go_ret
              exact ⟨by rw [HE.out]; rfl, grownBy_drewN G2.out _, fun h => (Q2.out h).drewN _⟩
          · have hd : ((m : Int) == 2) = false := by rw [beq_eq_false_iff_ne]; omega
            rw [if_neg (by have := HL.out; omega)] at HE
            clear HF hall
            go_wp2_with fail
            go_quiet (fail)
            all_goals go_wp2_with fail
            go_ret
            exact ⟨by rw [HE.out]; rfl, grownBy_drewN G2.out _, fun h => (Q2.out h).drewN _⟩
end Go.Proofs.Ytpamgeemmbbkkaa
