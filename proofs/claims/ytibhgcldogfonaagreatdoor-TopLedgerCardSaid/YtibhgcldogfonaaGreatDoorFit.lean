/- auction.fitting: the least and the greatest price that fit. No condition. -/
import Derived.Test.YtibhgcldogfonaaGreatDoorOrdB
import Derived.Test.YtibhgcldogfonaaGreatDoorPFit
import Derived.BigQuiet
namespace Go.Proofs.YtibhgcldogfonaaGreatDoor
open Go.RowKit
set_option maxHeartbeats 3200000 in
set_option maxRecDepth 100000 in
theorem fitting_any (A B : Option Addr) (n c d : Nat) (l : List Pl.Ord) (fs : List Int) (w : World) (hn : n ≤ 32) (hr : Reads w w.heap.size 4 A n (orders l)) (hf : Reads w w.heap.size 1 B n (ints fs)) :
    Calls Tryz.prog 14 #[.slice A n c, .slice B n d] w fun e w' => e = .returned (.tuple #[.int .i64 (Pl.fit l fs).1, .int .i64 (Pl.fit l fs).2]) ∧ Below w.heap.size w w' := by
  have L1 := Lib.hid hr.ord_len
  have L2 := Lib.hid hf.int_len
  go_enter Tryz.func14, Tryz.ntmps14
  go_wp2_with fail
  go_loopw [6, 7, 12] (fun lo hi i wr => ∃ (k : Nat) (u v : Int), k ≤ n ∧ i = .int .i64 k ∧ lo = .int .i64 u ∧ hi = .int .i64 v ∧ Hid (Pl.fitL ((l.zip fs).take k) = (u, v)) ∧ Below w.heap.size w wr) (fun _ _ i _ => n - (intOf i).toNat)
  case atStart => exact ⟨0, -1099511627776, 1099511627776, Nat.zero_le _, rfl, rfl, rfl, rfl, Below.refl _ _⟩
  case round =>
    obtain ⟨k, u, v, hk, rfl, rfl, rfl, HF, hbel⟩ := hrel
    have HB := Lib.hid hbel
    clear hbel
    by_cases hlt : k < n
    · obtain ⟨b, o, rfl, hl1, c1, c2, c3, c4⟩ := (hr.below HB.out).ord_at hlt
      obtain ⟨b', o', rfl, hl2, d1⟩ := (hf.below HB.out).int_at hlt
      have HZ : Hid (Pl.fitL ((l.zip fs).take (k + 1)) = Pl.fitStep (u, v) (l[k], fs[k])) := by
        show _ = _
        rw [List.take_succ_eq_append_getElem (by rw [List.length_zip]; omega), Pl.fitL_snoc, HF.out, List.getElem_zip]
      generalize fs[k] = f at *
      generalize l[k] = z at *
      obtain ⟨nm, bz, pw, pr⟩ := z
      simp only at c1 c2 c3 c4
      have hsz := HB.out.size
      have k1 : (0 : Int) ≤ (k : Int) := by omega
      have k2 : (k : Int) < (n : Int) := by omega
      have BN := Lib.hid (Blk.new_ wr wr.heap.size 24 #[.string nm, .bool bz, .int .i64 pw, .int .i64 pr] rfl)
      have HBN := Lib.hid (HB.out.alloc HB.out.size (.cells #[.string nm, .bool bz, .int .i64 pw, .int .i64 pr] 24))
      have q4 : (wr.alloc (.cells #[.string nm, .bool bz, .int .i64 pw, .int .i64 pr] 24)).cell? ⟨b', o' + k, none⟩ = some (.int .i64 f) := by rw [World.cell?_alloc_some _ _ _ (by rw [d1]; rfl)]; exact d1
      go_wp2_with fail
      generalize wr.alloc (.cells #[.string nm, .bool bz, .int .i64 pw, .int .i64 pr] 24) = w2 at *
      generalize wr.heap.size = bn at *
      have q0 : w2.cell? ⟨bn, 0, none⟩ = some (.string nm) := BN.out.cell 0
      have q1 : w2.cell? ⟨bn, 1, none⟩ = some (.bool bz) := BN.out.cell 1
      have q2 : w2.cell? ⟨bn, 2, none⟩ = some (.int .i64 pw) := BN.out.cell 2
      have q3 : w2.cell? ⟨bn, 3, none⟩ = some (.int .i64 pr) := BN.out.cell 3
      clear c1 c2 c3 c4 d1
      cases g1 : decide (0 < f) <;> cases g2 : decide (f < pw) <;> cases bz
      all_goals
        go_quiet (fail)
        go_wp2_with fail
        all_goals
          go_quiet (fail)
          go_wp2_with fail
          all_goals
            go_roundw
            case rel =>
              refine ⟨k + 1, _, _, by omega, by go_num, rfl, rfl, ?_, ?_⟩
              · show _ = _
                rw [HZ.out]
                unfold Pl.fitStep
                simp only [g1, g2]
                first
                  | rfl
                  | (simp; (try apply And.intro) <;> (try split) <;> omega)
                  | (simp; trace_state; done)
              · first
                  | exact HBN.out
                  | exact below_drewN_s HBN.out _
                  | exact below_drewN_s (below_drewN_s HBN.out _) _
            case measure => simp [intOf]; omega
    · have : k = n := by omega
      subst this
      have HT : Hid (Pl.fit l fs = (u, v)) := by
        show _ = _
        unfold Pl.fit
        rw [← HF.out, List.take_of_length_le (by rw [List.length_zip, L1.out, L2.out]; omega)]
      go_wp2_with fail
      go_ret2
      exact ⟨by rw [HT.out]; rfl, HB.out⟩
end Go.Proofs.YtibhgcldogfonaaGreatDoor
