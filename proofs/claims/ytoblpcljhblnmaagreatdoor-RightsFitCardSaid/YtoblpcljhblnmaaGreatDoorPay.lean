/- rights.payout, rights.Payout: what rights pay. Condition: the network, the rights and the prices read. matrix.TextVec, rights.Payout. Condition: the numbers read; the network, the rights and the prices read. -/
import Derived.Test.YtoblpcljhblnmaaGreatDoorRights
import Derived.Test.YtoblpcljhblnmaaGreatDoorRatQ
namespace Go.Proofs.YtoblpcljhblnmaaGreatDoor
open Go.RowKit
set_option maxRecDepth 100000
theorem riE_ok {N : Pl.Net} {r : Pl.RI} (h : Pl.riE N r = 0) : r.from_ ∈ N.nodes ∧ r.to_ ∈ N.nodes ∧ 1 ≤ r.power ∧ r.power ≤ 100000 := by
  unfold Pl.riE at h
  split at h
  · omega
  · rename_i h1
    split at h
    · omega
    · rename_i h2
      have a1 : Pl.inB N.nodes r.from_ = true := by
        cases hh : Pl.inB N.nodes r.from_ with
        | true => rfl
        | false => exact absurd (.inl hh) h1
      have a2 : Pl.inB N.nodes r.to_ = true := by
        cases hh : Pl.inB N.nodes r.to_ with
        | true => rfl
        | false => exact absurd (.inr hh) h1
      exact ⟨Pl.inB_iff.1 a1, Pl.inB_iff.1 a2, by omega, by omega⟩
theorem rightsE_ok {N : Pl.Net} {l : List Pl.RI} (h : Pl.rightsE N l = 0) : Pl.netE N = 0 ∧ l.length ≤ 12 ∧ Pl.risE N l = 0 := by
  unfold Pl.rightsE at h
  split at h
  · rename_i h1; exact absurd h h1
  · rename_i h1
    split at h
    · omega
    · exact ⟨by simpa using h1, by omega, h⟩
end Go.Proofs.YtoblpcljhblnmaaGreatDoor
namespace Go.Proofs.YtoblpcljhblnmaaGreatDoor
open Go.RowKit
set_option maxRecDepth 100000
def TvSaid (rs : List Rat) (n : Nat) (w : World) (e : Ending) (w' : World) : Prop :=
  ((¬ (∀ q ∈ rs, Pl.Fits q) ∧ e = .returned (.tuple #[.slice none 0 0, .int .i64 2])) ∨
    ((∀ q ∈ rs, Pl.Fits q) ∧ ∃ g, e = .returned (.tuple #[.slice (some ⟨g, 0, none⟩) n n, .int .i64 0]) ∧ Reads w' w'.heap.size 1 (some ⟨g, 0, none⟩) n (txs (rs.map Pl.ratTxt)))) ∧ Below w.heap.size w w'
theorem textvec_any (A : Option Addr) (n c : Nat) (L : List (Rat × Rt)) (rs : List Rat) (w : World) (hn : n ≤ 1000) (hr : RatsIs w w.heap.size A n L) (hL : L.map (·.1) = rs) (hl : LV w) :
    Calls Tryz.prog 39 #[.slice A n c] w (TvSaid rs n w) := by
  have HC := Lib.hid (textsv_any A n c L rs w hn hr hL hl)
  clear hr hL hl
  go_enter Tryz.func39, Tryz.ntmps39
  go_wp2_with fail
  refine HC.out.mono ?_
  rintro e w1 ⟨hc, hb⟩
  have D := Lib.hid hb
  rcases hc with ⟨h1, rfl⟩ | ⟨h1, g, rfl, h2⟩
  · have H1 := Lib.hid h1
    clear h1 hb HC
    go_wp2_with fail
    go_ret2
    exact ⟨.inl ⟨H1.out, rfl⟩, D.out⟩
  · have H1 := Lib.hid h1
    have H2 := Lib.hid h2
    clear h1 h2 hb HC
    go_wp2_with fail
    go_ret2
    exact ⟨.inr ⟨H1.out, g, rfl, H2.out⟩, D.out⟩
end Go.Proofs.YtoblpcljhblnmaaGreatDoor
