/- The fixed example of package zone holds: zoneWorks returns true. No condition. -/
import Derived.Test.YtpamgeemmbbkkaaZDistance
import Derived.Test.YtpamgeemmbbkkaaLine
namespace Go.Proofs.Ytpamgeemmbbkkaa
open Go.RowKit
set_option maxRecDepth 100000
theorem zworks_chk : Pl.zchkE LN tB tL [(1, 0)] tL 250 = 0 := by decide +kernel
theorem zworks_x : (Pl.braOf LN tL).x * (if Pl.lst tB = Pl.lst (Pl.braOf LN tL).from_ then 250 else 1000 - 250) = 250000 := by decide +kernel
theorem zworks_said {d e : Int} (h : DistanceSaid LN tB tL [(1, 0)] tL 250 d e) : e = 0 ∧ d = 250000 := by
  obtain ⟨d1, is, h1, _, h3, _⟩ := h.2 zworks_chk
  obtain ⟨h4, h5⟩ := h1 rfl
  obtain ⟨h6, h7⟩ := h3 h4
  exact ⟨h6, by rw [h7, h5]; exact zworks_x⟩
set_option maxHeartbeats 1600000 in
theorem zoneWorks_any (w : World) : Calls Try.prog 7 #[] w fun e w' => e = .returned (.bool true) ∧ Below w.heap.size w w' := by
  go_enter Try.func7, Try.ntmps7
  go_wp2_with fail
  refine (line_any _).mono ?_
  rintro e w1 ⟨M, rfl, hMN, hM, hb1⟩
  have d5 := (Below.refl w1.heap.size w1).alloc (Nat.le_refl _) (.cells #[.int .i64 1, .int .i64 0] 71)
  have F1 := Lib.hid (hb1.trans (d5.mono hb1.size))
  have HL := Lib.hid (distance_any M tB tL (some ⟨w1.heap.size, 0, none⟩) 1 1 [(1, 0)] tL 250 (w1.alloc (.cells #[.int .i64 1, .int .i64 0] 71)) (hM.go d5) (Reads.lit w1 #[.int .i64 1, .int .i64 0] 71 1 2 w1.heap.size rfl rfl) (by omega))
  unfold vPlace vRelay tL tB at HL
  rw [hMN] at HL
  clear hb1 hM hMN d5
  go_wp2_with fail
  refine HL.out.mono ?_
  rintro e w2 ⟨d, er, rfl, hds, hb2⟩
  obtain ⟨rfl, rfl⟩ := zworks_said hds
  have F2 := Lib.hid (F1.out.trans (hb2.mono F1.out.size))
  clear hds hb2 HL
  go_wp2_with fail
  go_ret
  exact ⟨rfl, F2.out⟩
end Go.Proofs.Ytpamgeemmbbkkaa
