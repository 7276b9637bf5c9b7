/- Contracts of package hours' functions that the law HoursErrors calls: each returns what its plain function gives, and leaves old memory alone. -/
import Derived.Test.YtpbomomgjhbljaaBase
import Derived.Test.YtpbomomgjhbljaaPHours
namespace Go.Proofs.Ytpbomomgjhbljaa
open Go.RowKit

theorem out_any (n lo hi : Int) (w : World) : Calls Try.prog 48 #[.int .i64 n, .int .i64 lo, .int .i64 hi] w fun e w' => e = .returned (.bool (Pl.outB n lo hi)) ∧ w = w' := by
  unfold Pl.outB
  go_enter Try.func48, Try.ntmps48
  go_wp2
  all_goals (go_ret; exact ⟨rfl, rfl⟩)

theorem idxfn_int (A : Option Addr) (n c : Nat) (zs : List Int) (F : FuncId) (p : Int → Bool) (B : Nat) (w : World) (hn : n ≤ 1000000000000000)
    (eg : ∀ args w, Sem.run Try.prog (callFunc F args) w = .ok (.enter F args) w)
    (hp : Hid (∀ z w, Calls Try.prog F #[.int .i64 z] w fun e w' => e = .returned (.bool (p z)) ∧ w = w'))
    (h : Reads w B 1 A n (ints zs)) :
    Calls Try.prog 86 #[.slice A n c, .func (.func F) #[] #[]] w fun e w' => e = .returned (.int .i64 (Pl.idxOf p zs)) ∧ w = w' := by
  have HL := Lib.hid h.int_len
  go_enter Try.func86, Try.ntmps86
  go_wp2
  go_loop [8] (fun i => ∃ k : Nat, k ≤ n ∧ i = .int .i64 k ∧ ∀ j (hj : j < zs.length), j < k → p zs[j] = false) (fun i => n - (intOf i).toNat)
  case atStart => exact ⟨0, Nat.zero_le _, rfl, fun j _ h => absurd h (by omega)⟩
  case round =>
    obtain ⟨k, hk, rfl, hno⟩ := hrel
    have HN := Lib.hid hno
    clear hno
    by_cases hlt : k < n
    · obtain ⟨b, o, rfl, hl, hc⟩ := h.int_at hlt
      go_wp2_with fail
      refine (hp.out _ _).mono ?_
      rintro e w' ⟨rfl, rfl⟩
      go_wp2
      · have hpk : p zs[k] = true := by assumption
        go_ret
        exact ⟨ret_int (Pl.idxOf_hit p zs k hl hpk HN.out).symm, rfl⟩
      · go_round
        case rel =>
          exact ⟨k + 1, by omega, by go_num, fun j hj hjk => by
            by_cases e : j = k
            · subst e; assumption
            · exact HN.out j hj (by omega)⟩
        case measure => simp [intOf]; omega
    · go_wp2
      go_ret
      exact ⟨ret_int (Pl.idxOf_miss p zs fun j hj => HN.out j hj (by have := HL.out; omega)).symm, rfl⟩

theorem contains_int (A : Option Addr) (n c : Nat) (zs : List Int) (F : FuncId) (p : Int → Bool) (B : Nat) (w : World) (hn : n ≤ 1000000000000000)
    (eg : ∀ args w, Sem.run Try.prog (callFunc F args) w = .ok (.enter F args) w)
    (hp : Hid (∀ z w, Calls Try.prog F #[.int .i64 z] w fun e w' => e = .returned (.bool (p z)) ∧ w = w'))
    (h : Reads w B 1 A n (ints zs)) :
    Calls Try.prog 49 #[.slice A n c, .func (.func F) #[] #[]] w fun e w' => e = .returned (.bool (Pl.has p zs)) ∧ w = w' := by
  go_enter Try.func49, Try.ntmps49
  go_wp2_with (go_at_call 86; refine (idxfn_int A n c zs F p B _ hn eg hp h).mono ?_; rintro e w' ⟨rfl, rfl⟩)
  go_ret
  exact ⟨ret_bool (Pl.has_idx p zs), rfl⟩

theorem enters_chk1 : ∀ args w, Sem.run Try.prog (callFunc 85 args) w = .ok (.enter 85 args) w := by intro args w; go_simp
theorem chk1_any (z : Int) (w : World) : Calls Try.prog 85 #[.int .i64 z] w fun e w' => e = .returned (.bool (Pl.outB z (-100000) 100000)) ∧ w = w' := by
  go_enter Try.func85, Try.ntmps85
  go_wp2_with (go_at_call 48; refine (out_any _ _ _ _).mono ?_; rintro e w' ⟨rfl, rfl⟩)
  go_ret
  exact ⟨rfl, rfl⟩

theorem check_any (A : Option Addr) (n c : Nat) (zs : List Int) (B : Nat) (w : World) (h : Reads w B 1 A n (ints zs)) :
    Calls Try.prog 47 #[.slice A n c] w fun e w' => e = .returned (.int .i64 (Pl.hcheck zs)) ∧ w = w' := by
  have HL := Lib.hid h.int_len
  by_cases hn : n ≤ 24
  · cases hp : Pl.has (Pl.outB · (-100000) 100000) zs
    all_goals
      go_enter Try.func47, Try.ntmps47
      go_wp2_with (go_at_call 49; refine (contains_int A n c zs _ (Pl.outB · (-100000) 100000) B _ (by omega) enters_chk1 (Lib.hid chk1_any) h).mono ?_; rintro e w' ⟨rfl, rfl⟩)
      go_ret
      exact ⟨ret_int (by rw [Pl.hcheck, if_neg (by have := HL.out; omega), hp]; rfl), rfl⟩
  · go_enter Try.func47, Try.ntmps47
    go_wp2
    go_ret
    exact ⟨ret_int (by rw [Pl.hcheck, if_pos (by have := HL.out; omega)]), rfl⟩
end Go.Proofs.Ytpbomomgjhbljaa
