/- The law UnitStays: for every rule, state and schedule the call returns true, and old memory is left as it is. No condition. -/
import Derived.Test.YthodaikggpbiiaaUnitB
import Derived.Test.YthodaikggpbiiaaRun
import Derived.Test.YthodaikggpbiiaaPStays
namespace Go.Proofs.Ythodaikggpbiiaa
open Go.RowKit
set_option maxRecDepth 100000 in
set_option maxHeartbeats 1600000 in
theorem unitStays_walk (r : Pl.Rule) (s : Pl.St) (A : Option Addr) (n c : Nat) (zs : List Int) (w : World) (hs : r.name.size ≤ 9223372036854775807) (hr : Reads w w.heap.size 1 A n (ints zs)) :
    Calls Try.prog 6 #[vRule r, vSt s, .slice A n c] w fun e w' => e = .returned (.bool true) ∧ Below w.heap.size w w' := by
  have HR := Lib.hid (fun w h => run_any r s A n c zs w hs h)
  by_cases hz : (Pl.urun r s zs).2.2 = 0
  · obtain ⟨g1, g2, g3, g4⟩ := Pl.urun_good hz
    obtain ⟨v1, v2, v3, v4⟩ := Pl.racc_inv r s g1 zs g4
    clear v1 v3 v4
    have HR' : Hid (∀ w, Reads w w.heap.size 1 A n (ints zs) → Calls Try.prog 26 #[vRule r, vSt s, .slice A n c] w (RunSaid ((Pl.racc r s zs).2.1, (Pl.racc r s zs).2.2.1, 0) w)) := by
      intro w h
      have := HR.out w h
      rw [g3, show (Pl.racc r s zs).2 = ((Pl.racc r s zs).2.1, (Pl.racc r s zs).2.2.1, 0) from Prod.ext rfl (Prod.ext rfl g4)] at this
      exact this
    have HG := Lib.hid (fun k hk hl => Pl.racc_get g1 g4 k hk hl)
    have HV := Lib.hid (fun k => Pl.racc_inv r s g1 (zs.take k) (Pl.racc_pre g4 k))
    have HP := Lib.hid (fun k => Pl.racc_pre g4 k)
    clear HR hz g3 g4 g1
    have HLN := Lib.hid v2
    have HM0 := Lib.hid (v2.trans hr.int_len)
    clear v2
    generalize (Pl.racc r s zs).2.1 = L at *
    generalize (Pl.racc r s zs).2.2.1 = cc at *
    have hL : L.length ≤ 24 := by rw [HLN.out]; exact g2
    unfold vRule vSt at *
    go_enter Try.func6, Try.ntmps6
    go_wp2_with fail
    refine (waits_any _).mono ?_
    rintro e w1 ⟨rfl, hb⟩
    have HB := Lib.hid (((Below.refl w.heap.size w).alloc (Nat.le_refl _) _).alloc (by simp) _ |>.trans (hb.mono (by simp; omega)))
    have B3 : Hid (Blk w1 w.heap.size _ _) := (Blk.old_ (by simp) (Blk.new_ _ _ _ _ (by simp))).go hb
    have B4 : Hid (Blk w1 (w.heap.size + 1) _ _) := (Blk.new_ _ _ _ _ (by simp)).go hb
    have c3 := B3.out.cell
    have c4 := B4.out.cell
    clear hb
    go_wp2_with fail
    refine (HR'.out _ ?hr1).mono ?_
    case hr1 => exact hr.go HB.out
    rintro e w2 ⟨A2, cp, rfl, hrd, _, hb⟩
    have HB2 := Lib.hid (HB.out.trans (hb.mono HB.out.size))
    have B5 := Lib.hid (B3.out.go hb)
    have B6 := Lib.hid (B4.out.go hb)
    clear c3 c4 hb
    have c3 := B5.out.cell
    have c4 := B6.out.cell
    simp only at hrd ⊢
    obtain ⟨m, hm⟩ : ∃ m, m = L.length := ⟨_, rfl⟩
    rw [← hm] at hrd hL ⊢
    have HM := Lib.hid hm.symm
    clear hm
    go_wp2_with fail
    clear c3 c4
    go_loopw [10, 11, 34] (fun x y i wr => ∃ (k : Nat) (sc : Int), k ≤ m ∧ i = .int .i64 k ∧ x = .bool (Pl.racc r s (zs.take k)).1.on ∧ y = .int .i64 sc ∧ Pl.stayInv (Pl.racc r s (zs.take k)).1 k sc ∧ -1 ≤ sc ∧ sc ≤ k ∧ Below w2.heap.size w2 wr) (fun _ _ i _ => m - (intOf i).toNat)
    case atStart => exact ⟨0, -1, Nat.zero_le _, rfl, rfl, rfl, .inl rfl, by omega, by omega, Below.refl _ _⟩
    case round =>
      obtain ⟨k, sc, hk, rfl, rfl, rfl, hin, q1, q2, hbel⟩ := hrel
      have HIN := Lib.hid hin
      clear hin
      have B7 := Lib.hid (B5.out.below hbel B5.out.lt)
      have l7 := B7.out.lt
      by_cases hlt : k < m
      · obtain ⟨b, o, rfl, hl1, d1, d2, d3⟩ := (hrd.go hbel).state_at hlt
        have hlz : k < zs.length := by have := HM.out; have := HLN.out; omega
        obtain ⟨t1, t2, t3⟩ := HG.out k hlz hl1
        have HS : Hid ((Pl.racc r s (zs.take (k + 1))).1 = L[k]) := by show _ = _; rw [t3, Pl.rstep_ok _ _ _ (HP.out k) t1, t2]
        have hst := Pl.stay_step (HV.out k).1 t1 k sc (by omega) (by omega) HIN.out
        rw [← t2] at hst
        have HST := Lib.hid hst
        clear hst t1 t2 t3
        have HZ := Lib.hid hbel.size
        have c7 := B7.out.cell
        generalize (Pl.racc r s (zs.take k)).1 = σ at *
        obtain ⟨σ0, σ1, σ2⟩ := σ
        generalize L[k] = x at *
        obtain ⟨x0, x1, x2⟩ := x
        simp only at d1 d2 d3
        cases x0 <;> cases σ0
        case false.false =>
          have hi := HST.out.2 rfl
          have HI := Lib.hid hi
          clear hi
          go_wp2_with fail
          go_roundw
          case rel => exact ⟨k + 1, sc, by omega, by go_num, by rw [HS.out], rfl, (by rw [HS.out, show ((k + 1 : Nat) : Int) = (k : Int) + 1 from by omega]; exact HI.out), by omega, by omega, hbel.alloc HZ.out _⟩
          case measure => simp [intOf]; omega
        case true.true =>
          have hi := HST.out.2 rfl
          have HI := Lib.hid hi
          clear hi
          go_wp2_with fail
          go_roundw
          case rel => exact ⟨k + 1, sc, by omega, by go_num, by rw [HS.out], rfl, (by rw [HS.out, show ((k + 1 : Nat) : Int) = (k : Int) + 1 from by omega]; exact HI.out), by omega, by omega, hbel.alloc HZ.out _⟩
          case measure => simp [intOf]; omega
        all_goals
          obtain ⟨hi, hn⟩ := HST.out.1 (by simp)
          have HI := Lib.hid hi
          clear hi
          simp only [Bool.false_eq_true, if_false, if_true] at hn
          by_cases hs0 : 0 ≤ sc
          · have hn := hn hs0
            go_wp2_with fail
            go_roundw
            case rel => exact ⟨k + 1, k, by omega, by go_num, by rw [HS.out], rfl, (by rw [HS.out, show ((k + 1 : Nat) : Int) = (k : Int) + 1 from by omega]; exact HI.out), by omega, by omega, hbel.alloc HZ.out _⟩
            case measure => simp [intOf]; omega
          · clear hn
            go_wp2_with fail
            go_roundw
            case rel => exact ⟨k + 1, k, by omega, by go_num, by rw [HS.out], rfl, (by rw [HS.out, show ((k + 1 : Nat) : Int) = (k : Int) + 1 from by omega]; exact HI.out), by omega, by omega, hbel.alloc HZ.out _⟩
            case measure => simp [intOf]; omega
      · have : k = m := by omega
        subst this
        have HQ : ((k : Int) == (n : Int)) = true := by have := HM0.out; have := HM.out; simp; omega
        go_wp2_with fail
        go_ret
        exact ⟨rfl, HB2.out.trans (hbel.mono HB2.out.size)⟩
  · obtain ⟨g1, g2⟩ := Pl.urun_bad hz
    have HR' : Hid (∀ w, Reads w w.heap.size 1 A n (ints zs) → Calls Try.prog 26 #[vRule r, vSt s, .slice A n c] w (RunSaid ([], 0, (Pl.urun r s zs).2.2) w)) := by
      intro w h
      have := HR.out w h
      rw [show Pl.urun r s zs = ([], 0, (Pl.urun r s zs).2.2) from Prod.ext g1 (Prod.ext g2 rfl)] at this
      exact this
    have hz1 : ((Pl.urun r s zs).2.2 != 0) = true := by simpa using hz
    clear g1 g2 hz HR
    generalize (Pl.urun r s zs).2.2 = u at *
    unfold vRule vSt at *
    go_enter Try.func6, Try.ntmps6
    go_wp2_with fail
    refine (waits_any _).mono ?_
    rintro e w1 ⟨rfl, hb⟩
    have HB := Lib.hid (((Below.refl w.heap.size w).alloc (Nat.le_refl _) _).alloc (by simp) _ |>.trans (hb.mono (by simp; omega)))
    have B3 : Hid (Blk w1 w.heap.size _ _) := (Blk.old_ (by simp) (Blk.new_ _ _ _ _ (by simp))).go hb
    have B4 : Hid (Blk w1 (w.heap.size + 1) _ _) := (Blk.new_ _ _ _ _ (by simp)).go hb
    have c3 := B3.out.cell
    have c4 := B4.out.cell
    clear hb
    go_wp2_with fail
    refine (HR'.out _ ?hr2).mono ?_
    case hr2 => exact hr.go HB.out
    rintro e w2 ⟨A2, cp, rfl, hrd, _, hb⟩
    have HB2 := Lib.hid (HB.out.trans (hb.mono HB.out.size))
    clear c3 c4 hb
    simp only
    go_wp2_with fail
    go_ret
    exact ⟨rfl, HB2.out⟩
end Go.Proofs.Ythodaikggpbiiaa
