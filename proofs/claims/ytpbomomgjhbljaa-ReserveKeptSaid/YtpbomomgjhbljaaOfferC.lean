/- Contracts of offer.Cost and offer.Marginal: each returns what its plain function gives, and leaves old memory as it is. -/
import Derived.Test.YtpbomomgjhbljaaOfferB
namespace Go.Proofs.Ytpbomomgjhbljaa
open Go.RowKit
def TwoSaid (x : Int × Int) (w : World) (e : Ending) (w' : World) : Prop := e = .returned (.tuple #[.int .i64 x.1, .int .i64 x.2]) ∧ Below w.heap.size w w'
def ThreeSaid (x : Int × Int × Int) (w : World) (e : Ending) (w' : World) : Prop := e = .returned (.tuple #[.int .i64 x.1, .int .i64 x.2.1, .int .i64 x.2.2]) ∧ Below w.heap.size w w'
set_option maxHeartbeats 800000 in
set_option maxRecDepth 100000 in
theorem oCost_any (nm : ByteArray) (A : Option Addr) (n c : Nat) (st : List (Int × Int)) (x : Int) (w : World) (hs : nm.size ≤ 9223372036854775807) (hr : Reads w w.heap.size 2 A n (pairs st)) :
    Calls Try.prog 63 #[vOff nm A n c, .int .i64 x] w (TwoSaid (Pl.oCost nm st x) w) := by
  have HC := Lib.hid (fun w h => opcheck_any nm A n c st x w hs h)
  by_cases h1 : Pl.opcheck nm st x = 0
  · obtain ⟨g, l, x0, x1, _⟩ := Pl.opcheck_ok h1
    have HS := Lib.hid (fun w h => ocost_any nm A n c st x w h g (by have := hr.pair_len; omega) x0 (by have := g.sum; omega))
    have HF : Hid (Pl.oCost nm st x = (Pl.ocost st x, 0)) := by show _ = _; unfold Pl.oCost; rw [if_neg (by simpa using h1)]
    rw [h1] at HC
    clear h1 g l x0 x1
    generalize Pl.oCost nm st x = y at *
    generalize Pl.ocost st x = t at *
    unfold vOff at *
    go_enter Try.func63, Try.ntmps63
    go_wp2_with fail
    refine (HC.out _ ?hr1).mono ?_
    case hr1 => exact hr.go ((Below.refl _ _).alloc (Nat.le_refl _) _)
    rintro e w1 ⟨rfl, hb⟩
    have HB := Lib.hid (((Below.refl w.heap.size w).alloc (Nat.le_refl _) _).trans (hb.mono (by simp)))
    have B1 : Hid (Blk w1 w.heap.size _ _) := (Blk.new_ _ _ _ _ rfl).go hb
    have c1 := B1.out.cell
    clear hb
    go_wp2_with fail
    refine (HS.out _ ?hr2).mono ?_
    case hr2 => exact hr.go HB.out
    rintro e w2 ⟨rfl, hb⟩
    have HB2 := Lib.hid (HB.out.trans (hb.mono HB.out.size))
    clear hb c1
    go_wp2_with fail
    go_ret2
    exact ⟨by rw [HF.out]; rfl, HB2.out⟩
  · have HF : Hid (Pl.oCost nm st x = (0, Pl.opcheck nm st x)) := by show _ = _; unfold Pl.oCost; rw [if_pos h1]
    have h2 : (Pl.opcheck nm st x != 0) = true := by simpa using h1
    clear h1
    generalize Pl.oCost nm st x = y at *
    generalize Pl.opcheck nm st x = u at *
    unfold vOff at *
    go_enter Try.func63, Try.ntmps63
    go_wp2_with fail
    refine (HC.out _ ?hr3).mono ?_
    case hr3 => exact hr.go ((Below.refl _ _).alloc (Nat.le_refl _) _)
    rintro e w1 ⟨rfl, hb⟩
    go_wp2_with fail
    go_ret2
    exact ⟨by rw [HF.out]; rfl, ((Below.refl w.heap.size w).alloc (Nat.le_refl _) _).trans (hb.mono (by simp))⟩
def MargRel (st : List (Int × Int)) (x : Int) (mg : Int × Int) (n : Nat) (w : World) (la ne su i : Value) (wr : World) : Prop :=
  ∃ (k : Nat) (last : Int), k ≤ n ∧ i = .int .i64 k ∧ la = .int .i64 last ∧ ne = .int .i64 2000000 ∧ su = .int .i64 (Pl.total (st.take k)) ∧ Pl.marg x (Pl.total (st.take k)) last (st.drop k) = mg ∧ Below w.heap.size w wr
set_option maxHeartbeats 1600000 in
set_option maxRecDepth 100000 in
theorem oMarg_any (nm : ByteArray) (A : Option Addr) (n c : Nat) (st : List (Int × Int)) (x : Int) (w : World) (hs : nm.size ≤ 9223372036854775807) (hr : Reads w w.heap.size 2 A n (pairs st)) :
    Calls Try.prog 64 #[vOff nm A n c, .int .i64 x] w (ThreeSaid (Pl.oMarg nm st x) w) := by
  have HC := Lib.hid (fun w h => opcheck_any nm A n c st x w hs h)
  by_cases h1 : Pl.opcheck nm st x = 0
  · obtain ⟨g, l, x0, x1, _⟩ := Pl.opcheck_ok h1
    have HF : Hid (Pl.oMarg nm st x = ((Pl.marg x 0 (-2000000) st).1, (Pl.marg x 0 (-2000000) st).2, 0)) := by show _ = _; unfold Pl.oMarg; rw [if_neg (by simpa using h1)]
    have L1 := Lib.hid hr.pair_len
    have HG := Lib.hid (fun k => Pl.total_nonneg g k)
    have hn : n ≤ 12 := by have := hr.pair_len; omega
    rw [h1] at HC
    clear h1 l x1
    generalize Pl.oMarg nm st x = y at *
    generalize hm : Pl.marg x 0 (-2000000) st = mg at *
    have HM := Lib.hid hm
    clear hm
    unfold vOff at *
    go_enter Try.func64, Try.ntmps64
    go_wp2_with fail
    refine (HC.out _ ?hr1).mono ?_
    case hr1 => exact hr.go ((Below.refl _ _).alloc (Nat.le_refl _) _)
    rintro e w1 ⟨rfl, hb⟩
    have HB := Lib.hid (((Below.refl w.heap.size w).alloc (Nat.le_refl _) _).trans (hb.mono (by simp)))
    have B1 : Hid (Blk w1 w.heap.size _ _) := (Blk.new_ _ _ _ _ rfl).go hb
    have c1 := B1.out.cell
    clear hb
    go_wp2_with fail
    clear c1
    go_loopw [8, 9, 10, 22] (fun la ne su i wr => MargRel st x mg n w la ne su i wr) (fun _ _ _ i _ => n - (intOf i).toNat)
    case atStart => exact ⟨0, -2000000, Nat.zero_le _, rfl, rfl, rfl, rfl, HM.out, HB.out⟩
    case round =>
      obtain ⟨k, last, hk, rfl, rfl, rfl, rfl, hmg, hbel⟩ := hrel
      obtain ⟨q1, q2⟩ := HG.out k
      have HB2 := Lib.hid hbel
      have HMG := Lib.hid hmg
      clear hmg
      by_cases hlt : k < n
      · obtain ⟨b, o, rfl, hl1, d1, d2⟩ := (hr.go hbel).pair_at hlt
        obtain ⟨g1, g2, g3, g4⟩ := g.step _ (List.getElem_mem hl1)
        have HS : Hid (Pl.total (st.take (k + 1)) = Pl.total (st.take k) + st[k].1) := by show _ = _; rw [List.take_succ_eq_append_getElem hl1, Pl.total_snoc]
        have HD : Hid (st.drop k = st[k] :: st.drop (k + 1)) := List.drop_eq_getElem_cons hl1
        have HE : Hid (mg = if x < Pl.total (st.take k) + st[k].1 then ((if Pl.total (st.take k) < x then st[k].2 else last), st[k].2) else Pl.marg x (Pl.total (st.take k) + st[k].1) (if Pl.total (st.take k) < x then st[k].2 else last) (st.drop (k + 1))) := by
          show _ = _
          rw [← HMG.out, HD.out]; rfl
        clear HMG HD
        generalize Pl.total (st.take k) = sm at *
        generalize st[k] = p at *
        obtain ⟨px, py⟩ := p
        simp only at g1 g2 d1 d2 HS HE
        by_cases h1 : sm < x
        · have HE1 : Hid (mg = if x < sm + px then (py, py) else Pl.marg x (sm + px) py (st.drop (k + 1))) := by show _ = _; rw [HE.out, if_pos h1]
          by_cases h2 : x < sm + px
          · have HE2 : Hid (mg = (py, py)) := by show _ = _; rw [HE1.out, if_pos h2]
            go_wp2_with fail
            go_ret3
            exact ⟨by rw [HF.out, HE2.out]; rfl, HB2.out.alloc HB2.out.size _⟩
          · have HE2 : Hid (mg = Pl.marg x (sm + px) py (st.drop (k + 1))) := by show _ = _; rw [HE1.out, if_neg h2]
            go_wp2_with fail
            go_roundw
            case rel => exact ⟨k + 1, py, by omega, by go_num, rfl, rfl, by rw [HS.out], by rw [HS.out]; exact HE2.out.symm, HB2.out.alloc HB2.out.size _⟩
            case measure => simp [intOf]; omega
        · have HE1 : Hid (mg = if x < sm + px then (last, py) else Pl.marg x (sm + px) last (st.drop (k + 1))) := by show _ = _; rw [HE.out, if_neg h1]
          by_cases h2 : x < sm + px
          · have HE2 : Hid (mg = (last, py)) := by show _ = _; rw [HE1.out, if_pos h2]
            go_wp2_with fail
            go_ret3
            exact ⟨by rw [HF.out, HE2.out]; rfl, HB2.out.alloc HB2.out.size _⟩
          · exfalso; omega
      · have : k = n := by omega
        subst this
        have HT : Hid (mg = (last, 2000000)) := by
          show _ = _
          rw [← HMG.out, List.drop_of_length_le (by have := L1.out; omega)]; rfl
        go_wp2_with fail
        go_ret3
        exact ⟨by rw [HF.out, HT.out]; rfl, HB2.out⟩
  · have HF : Hid (Pl.oMarg nm st x = (0, 0, Pl.opcheck nm st x)) := by show _ = _; unfold Pl.oMarg; rw [if_pos h1]
    have h2 : (Pl.opcheck nm st x != 0) = true := by simpa using h1
    clear h1
    generalize Pl.oMarg nm st x = y at *
    generalize Pl.opcheck nm st x = u at *
    unfold vOff at *
    go_enter Try.func64, Try.ntmps64
    go_wp2_with fail
    refine (HC.out _ ?hr3).mono ?_
    case hr3 => exact hr.go ((Below.refl _ _).alloc (Nat.le_refl _) _)
    rintro e w1 ⟨rfl, hb⟩
    go_wp2_with fail
    go_ret3
    exact ⟨by rw [HF.out]; rfl, ((Below.refl w.heap.size w).alloc (Nat.le_refl _) _).trans (hb.mono (by simp))⟩
end Go.Proofs.Ytpbomomgjhbljaa
