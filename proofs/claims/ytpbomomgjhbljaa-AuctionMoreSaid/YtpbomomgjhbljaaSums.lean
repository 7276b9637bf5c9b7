/- The contract of hours.Sums: where it gives sums they keep the total; old memory is left as it is. No condition. -/
import Derived.Test.YtpbomomgjhbljaaSpreadB
import Derived.Deep.DeepFit
namespace Go.Proofs.Ytpbomomgjhbljaa
open Go.RowKit
/-- what Sums gives: rest, place, sums so far -/
def Pl.sums_ (size : Int) : List Int → Nat → List Int → List Int
  | [], _, l => l
  | x :: r, k, l => Pl.sums_ size r (k + 1) (if (k : Int) % size = 0 then l ++ [x] else l.dropLast ++ [l.getLastD 0 + x])
def SumsSaid (size : Int) (ws : List Int) (w : World) (e : Ending) (w' : World) : Prop :=
  ∃ A c er l, e = .returned (.tuple #[.slice A l.length c, .int .i64 er]) ∧ Reads w' w'.heap.size 1 A l.length (ints l) ∧ (er = 0 → Pl.hcheck ws = 0 ∧ Pl.sumI l = Pl.sumI ws ∧ l.length ≤ 24 ∧ ∀ x ∈ l, -2400000 ≤ x ∧ x ≤ 2400000) ∧ (Pl.hcheck ws = 0 → Pl.outB size 1 24 = false → er = 0 ∧ l = Pl.sums_ size ws 0 []) ∧ Below w.heap.size w w'
set_option maxHeartbeats 3200000 in
set_option maxRecDepth 100000 in
theorem sums_any (A : Option Addr) (n c : Nat) (ws : List Int) (size : Int) (w : World) (hr : Reads w w.heap.size 1 A n (ints ws)) :
    Calls Try.prog 17 #[.slice A n c, .int .i64 size] w (SumsSaid size ws w) := by
  have L1 := Lib.hid hr.int_len
  have HC := Lib.hid (fun B w h => check_any A n c ws B w h)
  by_cases h1 : Pl.hcheck ws = 0
  · rw [h1] at HC
    have HCK := Lib.hid h1
    obtain ⟨hn0, hw1⟩ := Pl.hcheck_ok h1
    have hn : n ≤ 24 := by have := hr.int_len; omega
    have HW := Lib.hid hw1
    clear h1 hn0 hw1
    cases h2 : Pl.outB size 1 24
    · obtain ⟨s0, s1⟩ := Pl.outB_false.1 h2
      have HO := Lib.hid h2
      clear h2
      obtain ⟨i0, hi0, hz0, hz1, hz2⟩ := info_parts info_int
      go_enter Try.func17, Try.ntmps17
      go_wp2_with fail
      refine (HC.out _ _ hr).mono ?_; rintro e w' ⟨rfl, rfl⟩
      go_wp2_with fail
      refine (out_any _ _ _ _).mono ?_; rintro e w' ⟨rfl, rfl⟩
      rw [HO.out]
      go_wp2_with fail
      go_loopw [7, 8, 9, 19] (fun v _ _ i wr => ∃ (k : Nat) (l : List Int), k ≤ n ∧ i = .int .i64 k ∧ wr.ownsRow w.heap.size 3 1 v l.length (ints l) ∧ l.length ≤ k ∧ Hid (0 < k → l ≠ []) ∧ Hid (Pl.sumI l = Pl.sumI (ws.take k)) ∧ Hid (∀ x ∈ l, -(100000 * (k : Int)) ≤ x ∧ x ≤ 100000 * (k : Int)) ∧ Hid (Pl.sums_ size ws 0 [] = Pl.sums_ size (ws.drop k) k l) ∧ Below w.heap.size w wr) (fun _ _ _ i _ => n - (intOf i).toNat)
      case atStart => exact ⟨0, [], Nat.zero_le _, rfl, World.ownsRow_nil _ _ _ _, Nat.le_refl _, fun h => absurd h (by omega), rfl, (fun _ h => absurd h (by simp)), rfl, Below.refl _ _⟩
      case round =>
        obtain ⟨k, l, hk, rfl, hown, hlk, HNE, HSM, HBD, HXR, hbel⟩ := hrel
        have HB := Lib.hid hbel
        by_cases hlt : k < n
        · obtain ⟨b, o, rfl, hl1, c1⟩ := (hr.go hbel).int_at hlt
          obtain ⟨x1, x2⟩ := HW.out k hl1
          have HST : Hid (Pl.sumI (ws.take (k + 1)) = Pl.sumI (ws.take k) + ws[k]) := by show _ = _; rw [List.take_succ_eq_append_getElem hl1, Pl.sumI_snoc]
          have HDR : Hid (ws.drop k = ws[k] :: ws.drop (k + 1)) := List.drop_eq_getElem_cons hl1
          have hsz := hbel.size
          clear hbel
          generalize ws[k] = x at *
          have r1 := Int.emod_nonneg (k : Int) (show size ≠ 0 by omega)
          have r2 := Int.emod_lt_of_pos (k : Int) (show 0 < size by omega)
          by_cases hz : (k : Int) % size = 0
          · have hzb : ((k : Int) % size == 0) = true := by simpa using hz
            have HO := Lib.hid hown
            obtain ⟨A2, c2, rfl, _⟩ := own_slice hown
            have HXN : Hid (Pl.sums_ size ws 0 [] = Pl.sums_ size (ws.drop (k + 1)) (k + 1) (l ++ [x])) := by show _ = _; rw [HXR.out, HDR.out, Pl.sums_, if_pos hz]
            clear hz hown
            have HBN : Hid (∀ y ∈ l ++ [x], -(100000 * ((k + 1 : Nat) : Int)) ≤ y ∧ y ≤ 100000 * ((k + 1 : Nat) : Int)) := fun y hy => by
              rcases List.mem_append.1 hy with hy | hy
              · have := HBD.out y hy; omega
              · rw [List.mem_singleton.1 hy]; omega
            have HSN : Hid (Pl.sumI (l ++ [x]) = Pl.sumI (ws.take (k + 1))) := by show _ = _; rw [Pl.sumI_snoc, HSM.out, HST.out]
            have m1 : IntKind.i64.wrap (l.length : Int) = (l.length : Int) := IntWalk.i64_in _ (by omega)
            have m2 : (0 : Int) ≤ (l.length : Int) := by omega
            have m3 : (l.length : Int) < (l.length : Int) + 1 := by omega
            go_wp2_with (at_builtin; go_must (refine wpList_append_grow _ rfl (.tmp 28) (.tmp 29) 22 rfl w.heap.size 3 i0 _ 1 8 Try.underlying22 hi0 hz0 hz1 hz2 rfl (by decide) (.slice A2 l.length c2) l.length (ints l) rfl HO.out hsz #[.int .i64 0] rfl rfl rfl (by simp [Value.oneCell']) (by unfold maxLen; omega) (by omega) ?_); intro v' w3 hown3 hg3 hsz3; obtain ⟨g, cap, rfl, hg1, hg2⟩ := hown3.form (by omega); have hown4 : w3.ownsRow w.heap.size 3 1 (.slice (some ⟨g, 0, none⟩) (l.length + 1) cap) (l.length + 1) (ints (l ++ [0])) := (by have := hown3; unfold ints at this ⊢; rw [List.map_append]; exact this); have cl := own_int_cell hown4 l.length (by omega); have fl := World.ownsRow.frozenAt hown4; have HO4 := Lib.hid hown4; have HG3 := Lib.hid hg3; clear hown3 hown4 hg3; rw [show ((l ++ [(0 : Int)]) : List Int).getD l.length 0 = 0 from by simp] at cl)
            have HB3 := Lib.hid (below_grown HB.out HG3.out HO.out (Nat.le_refl _) hsz)
            go_roundw
            case rel =>
              refine ⟨k + 1, l ++ [x], by omega, by go_num, ?_, by simp; omega, fun _ => by simp, HSN, HBN, HXN, HB3.out.setCell hg1 _⟩
              have := own_int_set HO4.out l.length x
              rw [show ((l ++ [(0 : Int)]) : List Int).set l.length x = l ++ [x] from by simp] at this
              rw [show (l ++ [x]).length = l.length + 1 from by simp]
              exact this
            case measure => simp [intOf]; omega
          · have hzb : ((k : Int) % size == 0) = false := by simpa using hz
            have k0 : 0 < k := by
              rcases Nat.eq_zero_or_pos k with h | h
              · subst h; simp at hz
              · exact h
            have HNE2 := HNE.out k0
            have HXQ : Hid (Pl.sums_ size ws 0 [] = Pl.sums_ size (ws.drop (k + 1)) (k + 1) (l.dropLast ++ [l.getLastD 0 + x])) := by show _ = _; rw [HXR.out, HDR.out, Pl.sums_, if_neg hz]
            clear hz
            induction l using Pl.snocInd with
            | h0 => exact absurd rfl HNE2
            | h1 M y _ =>
              have HL : Hid ((M ++ [y]).length = M.length + 1) := by show _ = _; simp
              rw [HL.out] at hown hlk
              obtain ⟨g, cap, rfl, hg1, hg2⟩ := hown.form (by omega)
              have cl := own_int_cell hown M.length (by omega)
              rw [show (M ++ [y]).getD M.length 0 = y from by simp] at cl
              have fl := World.ownsRow.frozenAt hown
              obtain ⟨y1, y2⟩ := HBD.out y (by simp)
              have HO := Lib.hid hown
              have HXN : Hid (Pl.sums_ size ws 0 [] = Pl.sums_ size (ws.drop (k + 1)) (k + 1) (M ++ [y + x])) := by show _ = _; rw [HXQ.out]; simp
              clear hown HNE2
              have HBN : Hid (∀ z ∈ M ++ [y + x], -(100000 * ((k + 1 : Nat) : Int)) ≤ z ∧ z ≤ 100000 * ((k + 1 : Nat) : Int)) := fun z hz => by
                rcases List.mem_append.1 hz with hz | hz
                · have := HBD.out z (by simp [hz]); omega
                · rw [List.mem_singleton.1 hz]; omega
              have HSN : Hid (Pl.sumI (M ++ [y + x]) = Pl.sumI (ws.take (k + 1))) := by show _ = _; have := HSM.out; rw [Pl.sumI_snoc] at this ⊢; rw [HST.out]; omega
              have m1 : IntKind.i64.wrap (M.length : Int) = (M.length : Int) := IntWalk.i64_in _ (by omega)
              have m2 : (0 : Int) ≤ (M.length : Int) := by omega
              have m3 : (M.length : Int) < (M.length : Int) + 1 := by omega
              go_wp2_with fail
              go_roundw
              case rel =>
                refine ⟨k + 1, M ++ [y + x], by omega, by go_num, ?_, by simp; omega, fun _ => by simp, HSN, HBN, HXN, HB.out.setCell hg1 _⟩
                have := own_int_set HO.out M.length (y + x)
                rw [show (M ++ [y]).set M.length (y + x) = M ++ [y + x] from by simp] at this
                rw [show (M ++ [y + x]).length = M.length + 1 from by simp]
                exact this
              case measure => simp [intOf]; omega
        · have : k = n := by omega
          subst this
          have HT : Hid (ws.take k = ws) := List.take_of_length_le (by have := L1.out; omega)
          obtain ⟨A2, c2, rfl, hrd⟩ := own_slice hown
          have HRD := Lib.hid hrd
          clear hrd hown hbel
          go_wp2_with fail
          go_ret2
          exact ⟨A2, c2, 0, l, rfl, HRD.out, fun _ => ⟨HCK.out, by rw [HSM.out, HT.out], by omega, fun x hx => by have := HBD.out x hx; omega⟩, fun _ _ => ⟨rfl, by rw [HXR.out, List.drop_eq_nil_of_le (by have := L1.out; omega)]; rfl⟩, HB.out⟩
    · have HO := Lib.hid h2
      clear h2
      go_enter Try.func17, Try.ntmps17
      go_wp2_with fail
      refine (HC.out _ _ hr).mono ?_; rintro e w' ⟨rfl, rfl⟩
      go_wp2_with fail
      refine (out_any _ _ _ _).mono ?_; rintro e w' ⟨rfl, rfl⟩
      rw [HO.out]
      go_wp2_with fail
      go_ret2
      exact ⟨none, 0, 1, [], rfl, Reads.none_, fun h => absurd h (by decide), fun _ h => absurd (HO.out.symm.trans h) (by decide), Below.refl _ _⟩
  · have h2 : (Pl.hcheck ws != 0) = true := by simpa using h1
    have HE := Lib.hid h1
    clear h1
    generalize hu : Pl.hcheck ws = u at *
    have HU := Lib.hid hu
    clear hu
    go_enter Try.func17, Try.ntmps17
    go_wp2_with fail
    refine (HC.out _ _ hr).mono ?_; rintro e w' ⟨rfl, rfl⟩
    go_wp2_with fail
    go_ret2
    exact ⟨none, 0, u, [], rfl, Reads.none_, fun h => absurd h HE.out, fun h => absurd (HU.out.symm.trans h) HE.out, Below.refl _ _⟩
end Go.Proofs.Ytpbomomgjhbljaa
