/- hours.Spread: the comparison, and the error cases. No condition. -/
import Derived.Test.YtpbomomgjhbljaaHours
import Derived.Test.YtpbomomgjhbljaaPSpread
import Derived.Test.YtpbomomgjhbljaaSrtEI
namespace Go.Proofs.Ytpbomomgjhbljaa
open Go.RowKit
theorem below_drewN_s {B : Nat} {a w : World} (h : Below B a w) (n : Nat) : Below B a (w.drewN n) := ⟨h.os, h.tape, h.output, h.size, h.block⟩
theorem enters_spread1 : ∀ args w, Sem.run Try.prog (callFunc 50 args) w = .ok (.enter 50 args) w := by intro args w; go_simp
theorem spread1_any (z : Int) (w : World) : Calls Try.prog 50 #[.int .i64 z] w fun e w' => e = .returned (.bool (decide (z < 0))) ∧ w = w' := by
  go_enter Try.func50, Try.ntmps50
  go_wp2
  all_goals (go_ret; exact ⟨rfl, rfl⟩)
theorem enters_spread2 : ∀ args w, Sem.run Try.prog (callFunc 52 args) w = .ok (.enter 52 args) w := by intro args w; go_simp
namespace Pl
def scf (total S : Int) (ws : List Int) (x y : Int) : Int := rem_ total S (ws.getD y.toNat 0) - rem_ total S (ws.getD x.toNat 0)
theorem scf_swo (total S : Int) (ws : List Int) : Sort.SWO (Srt.ltOf (scf total S ws)) := by
  constructor
  · intro x; unfold Srt.ltOf scf; simp
  · intro x y z; unfold Srt.ltOf scf; simp only [decide_eq_true_eq]; omega
  · intro x y z; unfold Srt.ltOf scf; simp only [decide_eq_false_iff_not]; omega
end Pl
set_option maxHeartbeats 800000 in
set_option maxRecDepth 100000 in
theorem spread2_any (bt bw bs : Nat) (A : Option Addr) (n c : Nat) (ws : List Int) (total S : Int) (B : Nat) (x y : Int) (w : World) (ct : w.cell? ⟨bt, 0, none⟩ = some (.int .i64 total)) (cw : w.cell? ⟨bw, 0, none⟩ = some (.slice A n c)) (cs : w.cell? ⟨bs, 0, none⟩ = some (.int .i64 S))
    (hr : Reads w B 1 A n (ints ws)) (t0 : 0 ≤ total) (t1 : total ≤ 2400000) (s0 : 0 < S) (s1 : S ≤ 2400000) (hw : ∀ z ∈ ws, 0 ≤ z ∧ z ≤ 100000) (hx : 0 ≤ x ∧ x < n) (hy : 0 ≤ y ∧ y < n) :
    Calls Try.prog 52 #[.int .i64 x, .int .i64 y, .pointer (some ⟨bt, 0, none⟩), .pointer (some ⟨bw, 0, none⟩), .pointer (some ⟨bs, 0, none⟩)] w fun e w' => e = .returned (.int .i64 (Pl.scf total S ws x y)) ∧ Below w.heap.size w w' := by
  obtain ⟨i, rfl⟩ := Int.eq_ofNat_of_zero_le hx.1
  obtain ⟨j, rfl⟩ := Int.eq_ofNat_of_zero_le hy.1
  have i1 : i < n := by omega
  have j1 : j < n := by omega
  obtain ⟨b, o, rfl, hl1, c1⟩ := hr.int_at i1
  obtain ⟨_, _, e, hl2, c2⟩ := hr.int_at j1
  injection e with e; injection e with e1 e2; subst e1 e2
  obtain ⟨u1, u2⟩ := hw _ (List.getElem_mem hl1)
  obtain ⟨v1, v2⟩ := hw _ (List.getElem_mem hl2)
  have HX : Hid (Pl.scf total S ws i j = total * ws[j] % S - total * ws[i] % S) := by
    show _ = _
    unfold Pl.scf Pl.rem_
    rw [Int.toNat_natCast, Int.toNat_natCast, List.getD_eq_getElem?_getD, List.getD_eq_getElem?_getD, List.getElem?_eq_getElem hl1, List.getElem?_eq_getElem hl2]
    rfl
  have k1 : (0 : Int) ≤ (i : Int) := by omega
  have k2 : (0 : Int) ≤ (j : Int) := by omega
  have k3 : (i : Int) < (n : Int) := by omega
  have k4 : (j : Int) < (n : Int) := by omega
  have m1 := Int.mul_nonneg t0 u1
  have m2 := Int.mul_nonneg t0 v1
  have m3 : total * ws[i] ≤ 240000000000 := by
    have : total * ws[i] ≤ total * 100000 := Int.mul_le_mul_of_nonneg_left u2 t0
    omega
  have m4 : total * ws[j] ≤ 240000000000 := by
    have : total * ws[j] ≤ total * 100000 := Int.mul_le_mul_of_nonneg_left v2 t0
    omega
  have r1 := Int.emod_nonneg (total * ws[i]) (show S ≠ 0 by omega)
  have r2 := Int.emod_lt_of_pos (total * ws[i]) s0
  have r3 := Int.emod_nonneg (total * ws[j]) (show S ≠ 0 by omega)
  have r4 := Int.emod_lt_of_pos (total * ws[j]) s0
  generalize Pl.scf total S ws i j = R at *
  generalize ws[i] = wi at *
  generalize ws[j] = wj at *
  clear hx hy hw hr
  go_enter Try.func52, Try.ntmps52
  go_wp2_with fail
  go_quiet (fail)
  go_wp2_with fail
  go_ret
  exact ⟨by rw [HX.out]; rfl, below_drewN_s (Below.refl _ _) _⟩
end Go.Proofs.Ytpbomomgjhbljaa
