/- The law UnitStarts: for every rule, state and schedule the call returns true, and old memory is left as it is. No condition. -/
import Derived.Test.YthodaikggpbiiaaUnitB
import Derived.Test.YthodaikggpbiiaaRun
namespace Go.Proofs.Ythodaikggpbiiaa
open Go.RowKit
set_option maxRecDepth 100000 in
set_option maxHeartbeats 1600000 in
theorem unitStarts_walk (r : Pl.Rule) (s : Pl.St) (A : Option Addr) (n c : Nat) (zs : List Int) (w : World) (hs : r.name.size ≤ 9223372036854775807) (hr : Reads w w.heap.size 1 A n (ints zs)) :
    Calls Try.prog 7 #[vRule r, vSt s, .slice A n c] w fun e w' => e = .returned (.bool true) ∧ Below w.heap.size w w' := by
  have HR := Lib.hid (fun w h => run_any r s A n c zs w hs h)
  by_cases hz : (Pl.urun r s zs).2.2 = 0
  · obtain ⟨g1, g2, g3, g4⟩ := Pl.urun_good hz
    have hc := (Pl.starts_cost g1 g4).1
    obtain ⟨v1, v2, v3, v4⟩ := Pl.racc_inv r s g1 zs g4
    have g5 := Pl.ucheck_ok (Pl.ustate_ok g1).1
    have r1 := g5.2.2.2.2.2.2.2.2.2.2.2.1
    have r2 := g5.2.2.2.2.2.2.2.2.2.2.2.2
    clear g5 v1
    have HR' : Hid (∀ w, Reads w w.heap.size 1 A n (ints zs) → Calls Try.prog 26 #[vRule r, vSt s, .slice A n c] w (RunSaid ((Pl.racc r s zs).2.1, (Pl.racc r s zs).2.2.1, 0) w)) := by
      intro w h
      have := HR.out w h
      rw [g3, show (Pl.racc r s zs).2 = ((Pl.racc r s zs).2.1, (Pl.racc r s zs).2.2.1, 0) from Prod.ext rfl (Prod.ext rfl g4)] at this
      exact this
    clear HR hz g3 g4 g1
    have HLN := Lib.hid v2
    clear v2
    generalize (Pl.racc r s zs).2.1 = L at *
    generalize (Pl.racc r s zs).2.2.1 = cc at *
    have HCC := Lib.hid hc
    have HBD := Lib.hid (fun k => Pl.starts_bd s.on (L.take k))
    clear hc
    have hL : L.length ≤ 24 := by rw [HLN.out]; exact g2
    unfold vRule vSt at *
    go_enter Try.func7, Try.ntmps7
    go_wp2_with fail
    refine (waits_any _).mono ?_
    rintro e w1 ⟨rfl, hb⟩
    have HB := Lib.hid (((Below.refl w.heap.size w).alloc (Nat.le_refl _) _).alloc (by simp) _ |>.trans (hb.mono (by simp; omega)))
    have B3 : Hid (Blk w1 w.heap.size _ _) := (Blk.old_ (by simp) (Blk.new_ _ _ _ _ (by simp))).go hb
    have B4 : Hid (Blk w1 (w.heap.size + 1) _ _) := (Blk.new_ _ _ _ _ (by simp)).go hb
    have c3 := B3.out.cell
    have c4 := B4.out.cell
    clear hb
    go_wp2_with fail
    refine (HR'.out _ ?hr1).mono ?_
    case hr1 => exact hr.go HB.out
    rintro e w2 ⟨A2, cp, rfl, hrd, _, hb⟩
    have HB2 := Lib.hid (HB.out.trans (hb.mono HB.out.size))
    have B5 := Lib.hid (B3.out.go hb)
    have B6 := Lib.hid (B4.out.go hb)
    clear c3 c4 hb
    have c3 := B5.out.cell
    have c4 := B6.out.cell
    simp only at hrd ⊢
    generalize hm : L.length = m at *
    have HM := Lib.hid hm
    clear hm
    go_wp2_with fail
    go_region
    go_wp2_with fail
    clear c3 c4
    go_loopw [10, 11, 32] (fun x y i wr => ∃ k : Nat, k ≤ m ∧ i = .int .i64 k ∧ x = .int .i64 (Pl.starts s.on (L.take k)).1 ∧ y = .bool (Pl.starts s.on (L.take k)).2 ∧ Below w2.heap.size w2 wr) (fun _ _ i _ => m - (intOf i).toNat)
    case atStart => exact ⟨0, Nat.zero_le _, rfl, rfl, rfl, (Below.refl _ _).drew⟩
    case round =>
      obtain ⟨k, hk, rfl, rfl, rfl, hbel⟩ := hrel
      have bd := HBD.out k
      rw [List.length_take] at bd
      have bd1 := bd.1
      have bd2 : (Pl.starts s.on (L.take k)).1 ≤ 24 := by omega
      clear bd
      by_cases hlt : k < m
      · obtain ⟨b, o, rfl, hl1, d1, d2, d3⟩ := (hrd.go hbel).state_at hlt
        have HS : Hid (Pl.starts s.on (L.take (k + 1)) = ((Pl.starts s.on (L.take k)).1 + (if L[k].on && !(Pl.starts s.on (L.take k)).2 then 1 else 0), L[k].on)) := by
          show _ = _
          rw [List.take_succ_eq_append_getElem hl1, Pl.starts_snoc]
        have HZ := Lib.hid hbel.size
        generalize Pl.starts s.on (L.take k) = st at *
        obtain ⟨sn, so⟩ := st
        simp only at bd1 bd2
        generalize L[k] = x at *
        obtain ⟨x0, x1, x2⟩ := x
        simp only at d1 d2 d3
        cases x0 <;> cases so
        all_goals
          go_wp2_with fail
          go_roundw
          case rel => exact ⟨k + 1, by omega, by go_num, by rw [HS.out]; simp, by rw [HS.out], hbel.alloc HZ.out _⟩
          case measure => simp [intOf]; omega
      · have : k = m := by omega
        subst this
        have HT : Hid (L.take k = L) := List.take_of_length_le (by have := HM.out; omega)
        have HE : Hid ((Pl.starts s.on (L.take k)).1 * r.start = cc) := by rw [HT.out]; exact HCC.out.symm
        have B7 := Lib.hid (B5.out.below hbel B5.out.lt)
        have c7 := B7.out.cell
        generalize (Pl.starts s.on (L.take k)).1 = sn at *
        have p1 : 0 ≤ sn * r.start := Int.mul_nonneg bd1 r1
        have p2 : sn * r.start ≤ 24000000 := by
          have : sn * r.start ≤ 24 * 1000000 := Int.mul_le_mul bd2 r2 r1 (by omega)
          omega
        have HQ : (cc == sn * r.start) = true := by rw [HE.out]; simp
        go_wp2_with fail
        go_ret
        exact ⟨rfl, HB2.out.trans (hbel.mono HB2.out.size)⟩
  · obtain ⟨g1, g2⟩ := Pl.urun_bad hz
    have HR' : Hid (∀ w, Reads w w.heap.size 1 A n (ints zs) → Calls Try.prog 26 #[vRule r, vSt s, .slice A n c] w (RunSaid ([], 0, (Pl.urun r s zs).2.2) w)) := by
      intro w h
      have := HR.out w h
      rw [show Pl.urun r s zs = ([], 0, (Pl.urun r s zs).2.2) from Prod.ext g1 (Prod.ext g2 rfl)] at this
      exact this
    have hz1 : ((Pl.urun r s zs).2.2 != 0) = true := by simpa using hz
    clear g1 g2 hz HR
    generalize (Pl.urun r s zs).2.2 = u at *
    unfold vRule vSt at *
    go_enter Try.func7, Try.ntmps7
    go_wp2_with fail
    refine (waits_any _).mono ?_
    rintro e w1 ⟨rfl, hb⟩
    have HB := Lib.hid (((Below.refl w.heap.size w).alloc (Nat.le_refl _) _).alloc (by simp) _ |>.trans (hb.mono (by simp; omega)))
    have B3 : Hid (Blk w1 w.heap.size _ _) := (Blk.old_ (by simp) (Blk.new_ _ _ _ _ (by simp))).go hb
    have B4 : Hid (Blk w1 (w.heap.size + 1) _ _) := (Blk.new_ _ _ _ _ (by simp)).go hb
    have c3 := B3.out.cell
    have c4 := B4.out.cell
    clear hb
    go_wp2_with fail
    refine (HR'.out _ ?hr2).mono ?_
    case hr2 => exact hr.go HB.out
    rintro e w2 ⟨A2, cp, rfl, hrd, _, hb⟩
    have HB2 := Lib.hid (HB.out.trans (hb.mono HB.out.size))
    clear c3 c4 hb
    simp only
    go_wp2_with fail
    go_ret
    exact ⟨rfl, HB2.out⟩
end Go.Proofs.Ythodaikggpbiiaa
