/- slices.Contains at integers, slices.ContainsFunc at integers with a closure that only reads. No condition on the integers. -/
import Derived.Test.YtoblpcljhblnmaaGreatDoorBase
import Derived.Test.YtoblpcljhblnmaaGreatDoorName
namespace Go.Proofs.YtoblpcljhblnmaaGreatDoor
open Go.RowKit
set_option maxRecDepth 100000
theorem idx_int (A : Option Addr) (n c : Nat) (zs : List Int) (x : Int) (B : Nat) (w : World) (hn : n ≤ 1000000000000000) (h : Reads w B 1 A n (ints zs)) :
    Calls Tryz.prog 182 #[.slice A n c, .int .i64 x] w fun e w' => e = .returned (.int .i64 (Pl.idxOf (fun z => x == z) zs)) ∧ w' = w := by
  have HL := Lib.hid h.int_len
  have HR := Lib.hid h
  clear h
  go_enter Tryz.func182, Tryz.ntmps182
  go_wp2_with fail
  go_loopw [8] (fun i wr => ∃ k : Nat, k ≤ n ∧ i = .int .i64 k ∧ Hid (∀ j (hj : j < zs.length), j < k → (x == zs[j]) = false) ∧ wr = w) (fun i _ => n - (intOf i).toNat)
  case atStart => exact ⟨0, Nat.zero_le _, rfl, fun j _ h => absurd h (by omega), rfl⟩
  case round =>
    obtain ⟨k, hk, rfl, HN, rfl⟩ := hrel
    by_cases hlt : k < n
    · obtain ⟨b, o, rfl, hl, hc⟩ := HR.out.int_at hlt
      have HZ : Hid (∃ z, z = zs[k]) := ⟨_, rfl⟩
      obtain ⟨z, hz⟩ := HZ.out
      rw [← hz] at hc
      have HZE := Lib.hid hz
      clear hz HZ
      have k0 : (0 : Int) ≤ (k : Int) := by omega
      have k1 : (k : Int) < (n : Int) := by omega
      cases hv : (x == z)
      · have HV := Lib.hid hv
        have hne : ¬ x = z := by simpa using hv
        go_wp2_with fail
        go_roundw
        case rel => exact ⟨k + 1, by omega, by go_num, (fun j hj hjk => by
          by_cases e : j = k
          · subst e; rw [← HZE.out]; exact HV.out
          · exact HN.out j hj (by omega)), by first | exact rfl | trivial⟩
        case measure => simp [intOf]; omega
      · have HV := Lib.hid hv
        have heq : x = z := by simpa using hv
        go_wp2_with fail
        go_ret
        exact ⟨ret_int (Pl.idxOf_hit _ zs k hl (by rw [← HZE.out]; exact HV.out) HN.out).symm, rfl⟩
    · go_wp2_with fail
      go_ret
      exact ⟨ret_int (Pl.idxOf_miss _ zs fun j hj => HN.out j hj (by have := HL.out; omega)).symm, rfl⟩
set_option maxHeartbeats 800000 in
theorem idxfn_intb (F : FuncId) (lb : Array Value) (p : Int → Bool) (eg : ∀ args w, Sem.run Tryz.prog (callFunc F args) w = .ok (.enter F args) w) (A : Option Addr) (n c : Nat) (zs : List Int) (B : Nat) (w : World) (hn : n ≤ 1000000000000000)
    (hp : Hid (∀ z, Calls Tryz.prog F (#[.int .i64 z] ++ lb) w fun e w' => e = .returned (.bool (p z)) ∧ w' = w)) (h : Reads w B 1 A n (ints zs)) :
    Calls Tryz.prog 147 #[.slice A n c, .func (.func F) #[] lb] w fun e w' => e = .returned (.int .i64 (Pl.idxOf p zs)) ∧ w' = w := by
  have HL := Lib.hid h.int_len
  have HR := Lib.hid h
  clear h
  go_enter Tryz.func147, Tryz.ntmps147
  go_wp2_with fail
  go_loopw [8] (fun i wr => ∃ k : Nat, k ≤ n ∧ i = .int .i64 k ∧ Hid (∀ j (hj : j < zs.length), j < k → p zs[j] = false) ∧ wr = w) (fun i _ => n - (intOf i).toNat)
  case atStart => exact ⟨0, Nat.zero_le _, rfl, fun j _ h => absurd h (by omega), rfl⟩
  case round =>
    obtain ⟨k, hk, rfl, HN, rfl⟩ := hrel
    by_cases hlt : k < n
    · obtain ⟨b, o, rfl, hl, hc⟩ := HR.out.int_at hlt
      have HC := Lib.hid (hp.out zs[k])
      go_wp2_with (go_at_fn F; refine HC.out.mono ?_; rintro e w' ⟨rfl, rfl⟩)
      all_goals first
        | (go_roundw
           case rel =>
             have hv : p zs[k] = false := by assumption
             exact ⟨k + 1, by omega, by go_num, (fun j hj hjk => by
               by_cases e : j = k
               · subst e; exact hv
               · exact HN.out j hj (by omega)), by first | exact rfl | trivial⟩
           case measure => simp [intOf]; omega)
        | (go_ret
           have hv : p zs[k] = true := by assumption
           exact ⟨ret_int (Pl.idxOf_hit p zs k hl hv HN.out).symm, rfl⟩)
    · go_wp2_with fail
      go_ret
      exact ⟨ret_int (Pl.idxOf_miss p zs fun j hj => HN.out j hj (by have := HL.out; omega)).symm, rfl⟩
theorem conf_intb (F : FuncId) (lb : Array Value) (p : Int → Bool) (eg : ∀ args w, Sem.run Tryz.prog (callFunc F args) w = .ok (.enter F args) w) (A : Option Addr) (n c : Nat) (zs : List Int) (B : Nat) (w : World) (hn : n ≤ 1000000000000000)
    (hp : Hid (∀ z, Calls Tryz.prog F (#[.int .i64 z] ++ lb) w fun e w' => e = .returned (.bool (p z)) ∧ w' = w)) (h : Reads w B 1 A n (ints zs)) :
    Calls Tryz.prog 100 #[.slice A n c, .func (.func F) #[] lb] w fun e w' => e = .returned (.bool (zs.any p)) ∧ w' = w := by
  have HC := Lib.hid (idxfn_intb F lb p eg A n c zs B w hn hp h)
  have HE : Hid (zs.any p = decide (0 ≤ Pl.idxOf p zs)) := (Pl.has_idx p zs).symm
  generalize Pl.idxOf p zs = R at *
  clear h hp
  go_enter Tryz.func100, Tryz.ntmps100
  go_wp2_with fail
  refine HC.out.mono ?_
  rintro e w1 ⟨rfl, rfl⟩
  go_wp2_with fail
  go_ret
  exact ⟨by rw [HE.out]; rfl, rfl⟩
end Go.Proofs.YtoblpcljhblnmaaGreatDoor
