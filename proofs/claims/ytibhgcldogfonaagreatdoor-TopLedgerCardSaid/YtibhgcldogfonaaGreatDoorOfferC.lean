/- The contract of offer.Cost: it returns what its plain function gives, and leaves old memory as it is. -/
import Derived.Test.YtibhgcldogfonaaGreatDoorOfferB
namespace Go.Proofs.YtibhgcldogfonaaGreatDoor
open Go.RowKit
def TwoSaid (x : Int × Int) (w : World) (e : Ending) (w' : World) : Prop := e = .returned (.tuple #[.int .i64 x.1, .int .i64 x.2]) ∧ Below w.heap.size w w'
def ThreeSaid (x : Int × Int × Int) (w : World) (e : Ending) (w' : World) : Prop := e = .returned (.tuple #[.int .i64 x.1, .int .i64 x.2.1, .int .i64 x.2.2]) ∧ Below w.heap.size w w'
set_option maxHeartbeats 800000 in
set_option maxRecDepth 100000 in
theorem oCost_any (nm : ByteArray) (A : Option Addr) (n c : Nat) (st : List (Int × Int)) (x : Int) (w : World) (hs : nm.size ≤ 9223372036854775807) (hr : Reads w w.heap.size 2 A n (pairs st)) :
    Calls Tryz.prog 23 #[vOff nm A n c, .int .i64 x] w (TwoSaid (Pl.oCost nm st x) w) := by
  have HC := Lib.hid (fun w h => opcheck_any nm A n c st x w hs h)
  by_cases h1 : Pl.opcheck nm st x = 0
  · obtain ⟨g, l, x0, x1, _⟩ := Pl.opcheck_ok h1
    have HS := Lib.hid (fun w h => ocost_any nm A n c st x w h g (by have := hr.pair_len; omega) x0 (by have := g.sum; omega))
    have HF : Hid (Pl.oCost nm st x = (Pl.ocost st x, 0)) := by show _ = _; unfold Pl.oCost; rw [if_neg (by simpa using h1)]
    rw [h1] at HC
    clear h1 g l x0 x1
    generalize Pl.oCost nm st x = y at *
    generalize Pl.ocost st x = t at *
    unfold vOff at *
    go_enter Tryz.func23, Tryz.ntmps23
    go_wp2_with fail
    refine (HC.out _ ?hr1).mono ?_
    case hr1 => exact hr.go ((Below.refl _ _).alloc (Nat.le_refl _) _)
    rintro e w1 ⟨rfl, hb⟩
    have HB := Lib.hid (((Below.refl w.heap.size w).alloc (Nat.le_refl _) _).trans (hb.mono (by simp)))
    have B1 : Hid (Blk w1 w.heap.size _ _) := (Blk.new_ _ _ _ _ rfl).go hb
    have c1 := B1.out.cell
    clear hb
    go_wp2_with fail
    refine (HS.out _ ?hr2).mono ?_
    case hr2 => exact hr.go HB.out
    rintro e w2 ⟨rfl, hb⟩
    have HB2 := Lib.hid (HB.out.trans (hb.mono HB.out.size))
    clear hb c1
    go_wp2_with fail
    go_ret2
    exact ⟨by rw [HF.out]; rfl, HB2.out⟩
  · have HF : Hid (Pl.oCost nm st x = (0, Pl.opcheck nm st x)) := by show _ = _; unfold Pl.oCost; rw [if_pos h1]
    have h2 : (Pl.opcheck nm st x != 0) = true := by simpa using h1
    clear h1
    generalize Pl.oCost nm st x = y at *
    generalize Pl.opcheck nm st x = u at *
    unfold vOff at *
    go_enter Tryz.func23, Tryz.ntmps23
    go_wp2_with fail
    refine (HC.out _ ?hr3).mono ?_
    case hr3 => exact hr.go ((Below.refl _ _).alloc (Nat.le_refl _) _)
    rintro e w1 ⟨rfl, hb⟩
    go_wp2_with fail
    go_ret2
    exact ⟨by rw [HF.out]; rfl, ((Below.refl w.heap.size w).alloc (Nat.le_refl _) _).trans (hb.mono (by simp))⟩
end Go.Proofs.YtibhgcldogfonaaGreatDoor
