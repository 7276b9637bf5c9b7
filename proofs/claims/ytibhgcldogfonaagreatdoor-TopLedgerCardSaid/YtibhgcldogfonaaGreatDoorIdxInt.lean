/- slices.IndexFunc and ContainsFunc at integers. No condition on what the integers are. -/
import Derived.Test.YtibhgcldogfonaaGreatDoorBase
import Derived.Test.YtibhgcldogfonaaGreatDoorPHours
namespace Go.Proofs.YtibhgcldogfonaaGreatDoor
open Go.RowKit
theorem idxfn_int (A : Option Addr) (n c : Nat) (zs : List Int) (F : FuncId) (p : Int → Bool) (B : Nat) (w : World) (hn : n ≤ 1000000000000000)
    (eg : ∀ args w, Sem.run Tryz.prog (callFunc F args) w = .ok (.enter F args) w)
    (hp : Hid (∀ z w, Calls Tryz.prog F #[.int .i64 z] w fun e w' => e = .returned (.bool (p z)) ∧ w = w'))
    (h : Reads w B 1 A n (ints zs)) :
    Calls Tryz.prog 18 #[.slice A n c, .func (.func F) #[] #[]] w fun e w' => e = .returned (.int .i64 (Pl.idxOf p zs)) ∧ w = w' := by
  have HL := Lib.hid h.int_len
  go_enter Tryz.func18, Tryz.ntmps18
  go_wp2
  go_loop [8] (fun i => ∃ k : Nat, k ≤ n ∧ i = .int .i64 k ∧ ∀ j (hj : j < zs.length), j < k → p zs[j] = false) (fun i => n - (intOf i).toNat)
  case atStart => exact ⟨0, Nat.zero_le _, rfl, fun j _ h => absurd h (by omega)⟩
  case round =>
    obtain ⟨k, hk, rfl, hno⟩ := hrel
    have HN := Lib.hid hno
    clear hno
    by_cases hlt : k < n
    · obtain ⟨b, o, rfl, hl, hc⟩ := h.int_at hlt
      go_wp2_with fail
      refine (hp.out _ _).mono ?_
      rintro e w' ⟨rfl, rfl⟩
      go_wp2
      · have hpk : p zs[k] = true := by assumption
        go_ret
        exact ⟨ret_int (Pl.idxOf_hit p zs k hl hpk HN.out).symm, rfl⟩
      · go_round
        case rel =>
          exact ⟨k + 1, by omega, by go_num, fun j hj hjk => by
            by_cases e : j = k
            · subst e; assumption
            · exact HN.out j hj (by omega)⟩
        case measure => simp [intOf]; omega
    · go_wp2
      go_ret
      exact ⟨ret_int (Pl.idxOf_miss p zs fun j hj => HN.out j hj (by have := HL.out; omega)).symm, rfl⟩

end Go.Proofs.YtibhgcldogfonaaGreatDoor
