/- The contract of the laws' helper fine. No condition on what the errors are. -/
import Derived.Test.YtoblpcljhblnmaaGreatDoorBase
import Derived.Test.YtoblpcljhblnmaaGreatDoorPName
namespace Go.Proofs.YtoblpcljhblnmaaGreatDoor
open Go.RowKit
theorem idxfn_errno (A : Option Addr) (n c : Nat) (zs : List Int) (F : FuncId) (p : Int → Bool) (B : Nat) (w : World) (hn : n ≤ 1000000000000000)
    (eg : ∀ args w, Sem.run Tryz.prog (callFunc F args) w = .ok (.enter F args) w)
    (hp : Hid (∀ z w, Calls Tryz.prog F #[.int .i64 z] w fun e w' => e = .returned (.bool (p z)) ∧ w = w'))
    (h : Reads w B 1 A n (ints zs)) :
    Calls Tryz.prog 91 #[.slice A n c, .func (.func F) #[] #[]] w fun e w' => e = .returned (.int .i64 (Pl.idxOf p zs)) ∧ w = w' := by
  have HL := Lib.hid h.int_len
  go_enter Tryz.func91, Tryz.ntmps91
  go_wp2
  go_loop [8] (fun i => ∃ k : Nat, k ≤ n ∧ i = .int .i64 k ∧ ∀ j (hj : j < zs.length), j < k → p zs[j] = false) (fun i => n - (intOf i).toNat)
  case atStart => exact ⟨0, Nat.zero_le _, rfl, fun j _ h => absurd h (by omega)⟩
  case round =>
    obtain ⟨k, hk, rfl, hno⟩ := hrel
    have HN := Lib.hid hno
    clear hno
    by_cases hlt : k < n
    · obtain ⟨b, o, rfl, hl, hc⟩ := h.int_at hlt
      go_wp2_with fail
      refine (hp.out _ _).mono ?_
      rintro e w' ⟨rfl, rfl⟩
      go_wp2
      · have hpk : p zs[k] = true := by assumption
        go_ret
        exact ⟨ret_int (Pl.idxOf_hit p zs k hl hpk HN.out).symm, rfl⟩
      · go_round
        case rel =>
          exact ⟨k + 1, by omega, by go_num, fun j hj hjk => by
            by_cases e : j = k
            · subst e; assumption
            · exact HN.out j hj (by omega)⟩
        case measure => simp [intOf]; omega
    · go_wp2
      go_ret
      exact ⟨ret_int (Pl.idxOf_miss p zs fun j hj => HN.out j hj (by have := HL.out; omega)).symm, rfl⟩

theorem contains_errno (A : Option Addr) (n c : Nat) (zs : List Int) (F : FuncId) (p : Int → Bool) (B : Nat) (w : World) (hn : n ≤ 1000000000000000)
    (eg : ∀ args w, Sem.run Tryz.prog (callFunc F args) w = .ok (.enter F args) w)
    (hp : Hid (∀ z w, Calls Tryz.prog F #[.int .i64 z] w fun e w' => e = .returned (.bool (p z)) ∧ w = w'))
    (h : Reads w B 1 A n (ints zs)) :
    Calls Tryz.prog 42 #[.slice A n c, .func (.func F) #[] #[]] w fun e w' => e = .returned (.bool (Pl.has p zs)) ∧ w = w' := by
  go_enter Tryz.func42, Tryz.ntmps42
  go_wp2_with (go_at_call 91; refine (idxfn_errno A n c zs F p B _ hn eg hp h).mono ?_; rintro e w' ⟨rfl, rfl⟩)
  go_ret
  exact ⟨ret_bool (Pl.has_idx p zs), rfl⟩

theorem enters_fine1 : ∀ args w, Sem.run Tryz.prog (callFunc 43 args) w = .ok (.enter 43 args) w := by intro args w; go_simp
theorem fine1_any (z : Int) (w : World) : Calls Tryz.prog 43 #[.int .i64 z] w fun e w' => e = .returned (.bool (z != 0)) ∧ w = w' := by
  go_enter Tryz.func43, Tryz.ntmps43
  go_wp2_with fail
  go_ret
  exact ⟨rfl, rfl⟩
def allOk (es : List Int) : Bool := !Pl.has (· != 0) es
theorem fine_any (A : Option Addr) (n c : Nat) (es : List Int) (B : Nat) (w : World) (hn : n ≤ 1000) (h : Reads w B 1 A n (ints es)) :
    Calls Tryz.prog 16 #[.slice A n c] w fun e w' => e = .returned (.bool (allOk es)) ∧ w = w' := by
  unfold allOk
  go_enter Tryz.func16, Tryz.ntmps16
  go_wp2_with (go_at_call 42; refine (contains_errno A n c es _ (· != 0) B _ (by omega) enters_fine1 (Lib.hid fine1_any) h).mono ?_; rintro e w' ⟨rfl, rfl⟩)
  go_ret
  exact ⟨rfl, rfl⟩
end Go.Proofs.YtoblpcljhblnmaaGreatDoor
