/- slices.IndexFunc at the kinds of devices of a network, whatever the predicate. Condition: the rows read, and the predicate answers. -/
import Derived.Test.YtpamgeemmbbkkaaNetChk
namespace Go.Proofs.Ytpamgeemmbbkkaa
open Go.RowKit
set_option maxRecDepth 100000
set_option maxHeartbeats 800000 in
theorem idxfn_swi (F : Nat) (lb : Array Value) (p : Pl.Swi → Bool) (eg : ∀ args w, Sem.run Try.prog (callFunc F args) w = .ok (.enter F args) w) (A : Option Addr) (n c : Nat) (l : List Pl.Swi) (w : World) (hn : n ≤ 9223372036854775807) (h : Elems swiC 5 w w.heap.size A n l)
    (hp : ∀ x w', Below w.heap.size w w' → Calls Try.prog F (#[.agg #[.string x.name, .string x.a, .string x.b, .bool x.breaker, .bool x.opened]] ++ lb) w' fun e w'' => e = .returned (.bool (p x)) ∧ Below w'.heap.size w' w'') :
    Calls Try.prog 61 #[.slice A n c, .func (.func F) #[] lb] w fun e w' => e = .returned (.int .i64 (Pl.idxOf p l)) ∧ Below w.heap.size w w' := by
  have HL := Lib.hid h.2
  have HP := Lib.hid hp
  clear hp
  go_enter Try.func61, Try.ntmps61
  go_wp2_with fail
  go_loopw [8] (fun i wr => ∃ k : Nat, k ≤ n ∧ i = .int .i64 k ∧ Hid (∀ j (hj : j < l.length), j < k → p l[j] = false) ∧ Below w.heap.size w wr) (fun i _ => n - (intOf i).toNat)
  case atStart => exact ⟨0, Nat.zero_le _, rfl, fun j _ h => absurd h (by omega), Below.refl _ _⟩
  case round =>
    obtain ⟨k, hk, rfl, HN, hbel⟩ := hrel
    have HB := Lib.hid hbel
    clear hbel
    by_cases hlt : k < n
    · obtain ⟨b, o, rfl, hl, q0, q1, q2, q3, q4⟩ := swi_at (h.below HB.out) hlt
      have HC := Lib.hid (HP.out l[k] wr HB.out)
      go_wp2_with (go_at_fn F; refine HC.out.mono ?_; rintro e w' ⟨rfl, hb⟩)
      all_goals first
        | (go_roundw
           case rel =>
             have hv : p l[k] = false := by assumption
             exact ⟨k + 1, by omega, by go_num, fun j hj hjk => by
               by_cases e : j = k
               · subst e; exact hv
               · exact HN.out j hj (by omega), HB.out.trans (hb.mono HB.out.size)⟩
           case measure => simp [intOf]; omega)
        | (go_ret
           have hv : p l[k] = true := by assumption
           exact ⟨ret_int (Pl.idxOf_hit p l k hl hv HN.out).symm, HB.out.trans (hb.mono HB.out.size)⟩)
    · go_wp2_with fail
      go_ret
      exact ⟨ret_int (Pl.idxOf_miss p l fun j hj => HN.out j hj (by have := HL.out; omega)).symm, HB.out⟩
set_option maxHeartbeats 800000 in
theorem idxfn_bra (F : Nat) (lb : Array Value) (p : Pl.Bra → Bool) (eg : ∀ args w, Sem.run Try.prog (callFunc F args) w = .ok (.enter F args) w) (A : Option Addr) (n c : Nat) (l : List Pl.Bra) (w : World) (hn : n ≤ 9223372036854775807) (h : Elems braC 9 w w.heap.size A n l)
    (hp : ∀ x w', Below w.heap.size w w' → Calls Try.prog F (#[.agg #[.string x.name, .string x.from_, .string x.to_, .int .i64 x.x, .int .i64 x.tap, .int .i64 x.shift, .int .i64 x.limit, .int .i64 x.short, .int .i64 x.hold]] ++ lb) w' fun e w'' => e = .returned (.bool (p x)) ∧ Below w'.heap.size w' w'') :
    Calls Try.prog 55 #[.slice A n c, .func (.func F) #[] lb] w fun e w' => e = .returned (.int .i64 (Pl.idxOf p l)) ∧ Below w.heap.size w w' := by
  have HL := Lib.hid h.2
  have HP := Lib.hid hp
  clear hp
  go_enter Try.func55, Try.ntmps55
  go_wp2_with fail
  go_loopw [8] (fun i wr => ∃ k : Nat, k ≤ n ∧ i = .int .i64 k ∧ Hid (∀ j (hj : j < l.length), j < k → p l[j] = false) ∧ Below w.heap.size w wr) (fun i _ => n - (intOf i).toNat)
  case atStart => exact ⟨0, Nat.zero_le _, rfl, fun j _ h => absurd h (by omega), Below.refl _ _⟩
  case round =>
    obtain ⟨k, hk, rfl, HN, hbel⟩ := hrel
    have HB := Lib.hid hbel
    clear hbel
    by_cases hlt : k < n
    · obtain ⟨b, o, rfl, hl, q0, q1, q2, q3, q4, q5, q6, q7, q8⟩ := bra_at (h.below HB.out) hlt
      have HC := Lib.hid (HP.out l[k] wr HB.out)
      go_wp2_with (go_at_fn F; refine HC.out.mono ?_; rintro e w' ⟨rfl, hb⟩)
      all_goals first
        | (go_roundw
           case rel =>
             have hv : p l[k] = false := by assumption
             exact ⟨k + 1, by omega, by go_num, fun j hj hjk => by
               by_cases e : j = k
               · subst e; exact hv
               · exact HN.out j hj (by omega), HB.out.trans (hb.mono HB.out.size)⟩
           case measure => simp [intOf]; omega)
        | (go_ret
           have hv : p l[k] = true := by assumption
           exact ⟨ret_int (Pl.idxOf_hit p l k hl hv HN.out).symm, HB.out.trans (hb.mono HB.out.size)⟩)
    · go_wp2_with fail
      go_ret
      exact ⟨ret_int (Pl.idxOf_miss p l fun j hj => HN.out j hj (by have := HL.out; omega)).symm, HB.out⟩
set_option maxHeartbeats 800000 in
theorem idxfn_gen (F : Nat) (lb : Array Value) (p : Pl.Gen → Bool) (eg : ∀ args w, Sem.run Try.prog (callFunc F args) w = .ok (.enter F args) w) (A : Option Addr) (n c : Nat) (l : List Pl.Gen) (w : World) (hn : n ≤ 9223372036854775807) (h : Elems genC 5 w w.heap.size A n l)
    (hp : ∀ x w', Below w.heap.size w w' → Calls Try.prog F (#[.agg #[.string x.name, .string x.node, .int .i64 x.least, .int .i64 x.most, .int .i64 x.ramp]] ++ lb) w' fun e w'' => e = .returned (.bool (p x)) ∧ Below w'.heap.size w' w'') :
    Calls Try.prog 64 #[.slice A n c, .func (.func F) #[] lb] w fun e w' => e = .returned (.int .i64 (Pl.idxOf p l)) ∧ Below w.heap.size w w' := by
  have HL := Lib.hid h.2
  have HP := Lib.hid hp
  clear hp
  go_enter Try.func64, Try.ntmps64
  go_wp2_with fail
  go_loopw [8] (fun i wr => ∃ k : Nat, k ≤ n ∧ i = .int .i64 k ∧ Hid (∀ j (hj : j < l.length), j < k → p l[j] = false) ∧ Below w.heap.size w wr) (fun i _ => n - (intOf i).toNat)
  case atStart => exact ⟨0, Nat.zero_le _, rfl, fun j _ h => absurd h (by omega), Below.refl _ _⟩
  case round =>
    obtain ⟨k, hk, rfl, HN, hbel⟩ := hrel
    have HB := Lib.hid hbel
    clear hbel
    by_cases hlt : k < n
    · obtain ⟨b, o, rfl, hl, q0, q1, q2, q3, q4⟩ := gen_at (h.below HB.out) hlt
      have HC := Lib.hid (HP.out l[k] wr HB.out)
      go_wp2_with (go_at_fn F; refine HC.out.mono ?_; rintro e w' ⟨rfl, hb⟩)
      all_goals first
        | (go_roundw
           case rel =>
             have hv : p l[k] = false := by assumption
             exact ⟨k + 1, by omega, by go_num, fun j hj hjk => by
               by_cases e : j = k
               · subst e; exact hv
               · exact HN.out j hj (by omega), HB.out.trans (hb.mono HB.out.size)⟩
           case measure => simp [intOf]; omega)
        | (go_ret
           have hv : p l[k] = true := by assumption
           exact ⟨ret_int (Pl.idxOf_hit p l k hl hv HN.out).symm, HB.out.trans (hb.mono HB.out.size)⟩)
    · go_wp2_with fail
      go_ret
      exact ⟨ret_int (Pl.idxOf_miss p l fun j hj => HN.out j hj (by have := HL.out; omega)).symm, HB.out⟩
set_option maxHeartbeats 800000 in
theorem idxfn_loa (F : Nat) (lb : Array Value) (p : Pl.Loa → Bool) (eg : ∀ args w, Sem.run Try.prog (callFunc F args) w = .ok (.enter F args) w) (A : Option Addr) (n c : Nat) (l : List Pl.Loa) (w : World) (hn : n ≤ 9223372036854775807) (h : Elems loaC 3 w w.heap.size A n l)
    (hp : ∀ x w', Below w.heap.size w w' → Calls Try.prog F (#[.agg #[.string x.name, .string x.node, .int .i64 x.demand]] ++ lb) w' fun e w'' => e = .returned (.bool (p x)) ∧ Below w'.heap.size w' w'') :
    Calls Try.prog 66 #[.slice A n c, .func (.func F) #[] lb] w fun e w' => e = .returned (.int .i64 (Pl.idxOf p l)) ∧ Below w.heap.size w w' := by
  have HL := Lib.hid h.2
  have HP := Lib.hid hp
  clear hp
  go_enter Try.func66, Try.ntmps66
  go_wp2_with fail
  go_loopw [8] (fun i wr => ∃ k : Nat, k ≤ n ∧ i = .int .i64 k ∧ Hid (∀ j (hj : j < l.length), j < k → p l[j] = false) ∧ Below w.heap.size w wr) (fun i _ => n - (intOf i).toNat)
  case atStart => exact ⟨0, Nat.zero_le _, rfl, fun j _ h => absurd h (by omega), Below.refl _ _⟩
  case round =>
    obtain ⟨k, hk, rfl, HN, hbel⟩ := hrel
    have HB := Lib.hid hbel
    clear hbel
    by_cases hlt : k < n
    · obtain ⟨b, o, rfl, hl, q0, q1, q2⟩ := loa_at (h.below HB.out) hlt
      have HC := Lib.hid (HP.out l[k] wr HB.out)
      go_wp2_with (go_at_fn F; refine HC.out.mono ?_; rintro e w' ⟨rfl, hb⟩)
      all_goals first
        | (go_roundw
           case rel =>
             have hv : p l[k] = false := by assumption
             exact ⟨k + 1, by omega, by go_num, fun j hj hjk => by
               by_cases e : j = k
               · subst e; exact hv
               · exact HN.out j hj (by omega), HB.out.trans (hb.mono HB.out.size)⟩
           case measure => simp [intOf]; omega)
        | (go_ret
           have hv : p l[k] = true := by assumption
           exact ⟨ret_int (Pl.idxOf_hit p l k hl hv HN.out).symm, HB.out.trans (hb.mono HB.out.size)⟩)
    · go_wp2_with fail
      go_ret
      exact ⟨ret_int (Pl.idxOf_miss p l fun j hj => HN.out j hj (by have := HL.out; omega)).symm, HB.out⟩
set_option maxHeartbeats 800000 in
theorem idxfn_sto (F : Nat) (lb : Array Value) (p : Pl.Sto → Bool) (eg : ∀ args w, Sem.run Try.prog (callFunc F args) w = .ok (.enter F args) w) (A : Option Addr) (n c : Nat) (l : List Pl.Sto) (w : World) (hn : n ≤ 9223372036854775807) (h : Elems stoC 5 w w.heap.size A n l)
    (hp : ∀ x w', Below w.heap.size w w' → Calls Try.prog F (#[.agg #[.string x.name, .string x.node, .int .i64 x.charge, .int .i64 x.discharge, .int .i64 x.capacity]] ++ lb) w' fun e w'' => e = .returned (.bool (p x)) ∧ Below w'.heap.size w' w'') :
    Calls Try.prog 68 #[.slice A n c, .func (.func F) #[] lb] w fun e w' => e = .returned (.int .i64 (Pl.idxOf p l)) ∧ Below w.heap.size w w' := by
  have HL := Lib.hid h.2
  have HP := Lib.hid hp
  clear hp
  go_enter Try.func68, Try.ntmps68
  go_wp2_with fail
  go_loopw [8] (fun i wr => ∃ k : Nat, k ≤ n ∧ i = .int .i64 k ∧ Hid (∀ j (hj : j < l.length), j < k → p l[j] = false) ∧ Below w.heap.size w wr) (fun i _ => n - (intOf i).toNat)
  case atStart => exact ⟨0, Nat.zero_le _, rfl, fun j _ h => absurd h (by omega), Below.refl _ _⟩
  case round =>
    obtain ⟨k, hk, rfl, HN, hbel⟩ := hrel
    have HB := Lib.hid hbel
    clear hbel
    by_cases hlt : k < n
    · obtain ⟨b, o, rfl, hl, q0, q1, q2, q3, q4⟩ := sto_at (h.below HB.out) hlt
      have HC := Lib.hid (HP.out l[k] wr HB.out)
      go_wp2_with (go_at_fn F; refine HC.out.mono ?_; rintro e w' ⟨rfl, hb⟩)
      all_goals first
        | (go_roundw
           case rel =>
             have hv : p l[k] = false := by assumption
             exact ⟨k + 1, by omega, by go_num, fun j hj hjk => by
               by_cases e : j = k
               · subst e; exact hv
               · exact HN.out j hj (by omega), HB.out.trans (hb.mono HB.out.size)⟩
           case measure => simp [intOf]; omega)
        | (go_ret
           have hv : p l[k] = true := by assumption
           exact ⟨ret_int (Pl.idxOf_hit p l k hl hv HN.out).symm, HB.out.trans (hb.mono HB.out.size)⟩)
    · go_wp2_with fail
      go_ret
      exact ⟨ret_int (Pl.idxOf_miss p l fun j hj => HN.out j hj (by have := HL.out; omega)).symm, HB.out⟩
end Go.Proofs.Ytpamgeemmbbkkaa
