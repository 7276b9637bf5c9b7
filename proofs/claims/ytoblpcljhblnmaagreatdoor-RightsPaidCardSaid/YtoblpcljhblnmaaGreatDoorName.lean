/- The contract of netmodel.Name: it returns what the plain function nameB gives, and leaves old memory as it is. -/
import Derived.Test.YtoblpcljhblnmaaGreatDoorBase
import Derived.Test.YtoblpcljhblnmaaGreatDoorPName
namespace Go.Proofs.YtoblpcljhblnmaaGreatDoor
open Go.RowKit
/-- a string as bytes: a new block that reads as the string's bytes -/
theorem bytes_of (s : ByteArray) (w : World) : ∃ cap w1, (convert 9 268 (.string s)).run Tryz.prog w = .ok (.slice (some ⟨w.heap.size, 0, none⟩) s.size cap) w1 ∧
    (∀ k (hk : k < s.size), w1.cell? ⟨w.heap.size, k, none⟩ = some (.int .u8 (s[k].toNat : Int))) ∧ Below w.heap.size w w1 := by
  refine ⟨_, _, run_bytes_of_string w _ _ _ s Tryz.underlying9 Tryz.underlying268 Tryz.underlying5, fun k hk => ?_, ((Below.refl _ _).drew).alloc (Nat.le_refl _) _⟩
  have h := World.cell?_alloc_mark w.drew (bytesRow s (grownCap w s.size 0 5)) 5 ((bytesRow s (grownCap w s.size 0 5)).size, (bytesRow s (grownCap w s.size 0 5)).size + 1) k
  exact h.trans (bytesRow_at s _ k hk)
set_option maxHeartbeats 800000 in
set_option maxRecDepth 100000 in
theorem name_any (s : ByteArray) (w : World) (hs : s.size ≤ 9223372036854775807) :
    Calls Tryz.prog 144 #[.string s] w fun e w' => e = .returned (.bool (Pl.nameB s)) ∧ Below w.heap.size w w' := by
  obtain ⟨cap, w1, hrun, hc, hb⟩ := bytes_of s w
  have HC := Lib.hid hc
  clear hc
  go_enter Tryz.func144, Tryz.ntmps144
  go_wp2_with fail
  go_loop [2, 3, 4, 8] (fun _ _ _ i => ∃ k : Nat, k ≤ s.size ∧ i = .int .i64 k ∧ ∀ j (hj : j < s.size), j < k → Pl.okByte j s[j] = true) (fun _ _ _ i => s.size - (intOf i).toNat)
  case atStart => exact ⟨0, Nat.zero_le _, rfl, fun j _ h => absurd h (by omega)⟩
  case round =>
    obtain ⟨k, hk, rfl, hno⟩ := hrel
    have HN := Lib.hid hno
    clear hno
    by_cases hlt : k < s.size
    · have hc := HC.out k hlt
      have HK : Hid (Pl.okByte k s[k] = decide ((65 ≤ s[k].toNat ∧ s[k].toNat ≤ 90) ∨ (0 < k ∧ 48 ≤ s[k].toNat ∧ s[k].toNat ≤ 57))) := rfl
      have HT : Hid (∀ h : Pl.okByte k s[k] = true, ∀ j (hj : j < s.size), j < k + 1 → Pl.okByte j s[j] = true) := by
        intro h j hj hjk
        by_cases e : j = k
        · subst e; exact h
        · exact HN.out j hj (by omega)
      have HF : Hid (Pl.okByte k s[k] = false → Pl.nameB s = false) := Pl.nameB_no k hlt
      generalize s[k] = cc at *
      have hcc : cc.toNat < 256 := cc.toNat_lt
      generalize cc.toNat = c at *
      go_wp2_with fail
      all_goals try simp only [Bool.not_eq_true', Bool.not_eq_false', decide_eq_false_iff_not, decide_eq_true_eq] at *
      all_goals first
        | (go_ret
           exact ⟨ret_bool (HF.out (by rw [HK.out]; apply decide_eq_false; omega)).symm, hb⟩)
        | (go_round
           case rel => exact ⟨k + 1, by omega, by go_num, HT.out (by rw [HK.out]; apply decide_eq_true; omega)⟩
           case measure => simp [intOf]; omega)
    · have HA : Hid (Pl.nameB s = decide (1 ≤ s.size ∧ s.size ≤ 8)) := Pl.nameB_all fun j hj => HN.out j hj (by omega)
      by_cases h1 : 1 ≤ s.size
      · go_wp2_with fail
        go_ret
        exact ⟨ret_bool (by rw [HA.out, Bool.eq_iff_iff]; simp; omega), hb⟩
      · go_wp2_with fail
        go_ret
        exact ⟨ret_bool (by rw [HA.out]; symm; apply decide_eq_false; omega), hb⟩
end Go.Proofs.YtoblpcljhblnmaaGreatDoor
