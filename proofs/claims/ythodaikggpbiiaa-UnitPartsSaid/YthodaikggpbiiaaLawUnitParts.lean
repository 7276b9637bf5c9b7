/- The law UnitParts: for every rule, state, schedule and cut the call returns true, and old memory is left as it is. No condition. -/
import Derived.Test.YthodaikggpbiiaaUnitB
import Derived.Test.YthodaikggpbiiaaEqSt
import Derived.Test.YthodaikggpbiiaaBaseC
import Derived.Test.YthodaikggpbiiaaBaseD
import Derived.Deep.RegionHeld3
import Derived.Deep.DeepMust
namespace Go.Proofs.Ythodaikggpbiiaa
open Go.RowKit
theorem states_one (l : List Pl.St) : ∀ u ∈ states l, u.oneCell' = true := by
  intro u hu
  obtain ⟨s, _, hs⟩ := List.mem_flatMap.1 hu
  simp only [List.mem_cons, List.not_mem_nil, or_false] at hs
  rcases hs with rfl | rfl | rfl <;> rfl
theorem states_append (l m : List Pl.St) : states (l ++ m) = states l ++ states m := by simp [states]
theorem lt_of_cell'  {w : World} {b o : Nat} {v : Value} (h : w.cell? ⟨b, o, none⟩ = some v) : b < w.heap.size := by
  rcases Nat.lt_or_ge b w.heap.size with hlt | hge
  · exact hlt
  · unfold World.cell? at h
    rw [Array.getElem?_eq_none hge] at h
    cases h
set_option maxRecDepth 100000 in
set_option maxHeartbeats 3200000 in
theorem unitParts_walk (r : Pl.Rule) (s : Pl.St) (A : Option Addr) (n c : Nat) (zs : List Int) (cut : Int) (w : World) (hs : r.name.size ≤ 9223372036854775807) (hr : Reads w w.heap.size 1 A n (ints zs)) (hnc : n ≤ c) :
    Calls Try.prog 10 #[vRule r, vSt s, .slice A n c, .int .i64 cut] w fun e w' => e = .returned (.bool true) ∧ Below w.heap.size w w' := by
  have HR := Lib.hid (fun w h => run_any r s A n c zs w hs h)
  by_cases hz : (Pl.urun r s zs).2.2 = 0
  · obtain ⟨g1, g2, g3, g4⟩ := Pl.urun_good hz
    obtain ⟨_, v2, v3, v4⟩ := Pl.racc_inv r s g1 zs g4
    have HR' : Hid (∀ w, Reads w w.heap.size 1 A n (ints zs) → Calls Try.prog 26 #[vRule r, vSt s, .slice A n c] w (RunSaid ((Pl.racc r s zs).2.1, (Pl.racc r s zs).2.2.1, 0) w)) := by
      intro w h
      have := HR.out w h
      rw [g3, show (Pl.racc r s zs).2 = ((Pl.racc r s zs).2.1, (Pl.racc r s zs).2.2.1, 0) from Prod.ext rfl (Prod.ext rfl g4)] at this
      exact this
    have b1 : n ≤ 24 := by have := hr.int_len; omega
    by_cases h0 : n = 0
    · subst h0
      clear HR hz g3
      generalize (Pl.racc r s zs).2.1 = L at *
      generalize (Pl.racc r s zs).2.2.1 = cL at *
      unfold vRule vSt at *
      go_enter Try.func10, Try.ntmps10
      go_wp2_with fail
      refine (waits_any _).mono ?_
      rintro e w1 ⟨rfl, hb⟩
      have HB := Lib.hid (((Below.refl w.heap.size w).alloc (Nat.le_refl _) _).alloc (by simp) _ |>.trans (hb.mono (by simp; omega)))
      have B3 : Hid (Blk w1 w.heap.size _ _) := (Blk.old_ (by simp) (Blk.new_ _ _ _ _ (by simp))).go hb
      have B4 : Hid (Blk w1 (w.heap.size + 1) _ _) := (Blk.new_ _ _ _ _ (by simp)).go hb
      have c3 := B3.out.cell
      have c4 := B4.out.cell
      clear hb
      go_wp2_with fail
      refine (HR'.out _ ?hr3).mono ?_
      case hr3 => exact hr.go HB.out
      rintro e w2 ⟨A2, cp, rfl, hrd, _, hb⟩
      have HB2 := Lib.hid (HB.out.trans (hb.mono HB.out.size))
      clear c3 c4 hb
      simp only
      go_wp2_with fail
      go_ret
      exact ⟨rfl, HB2.out⟩
    · obtain ⟨k, hk, q1, q2⟩ : ∃ k : Nat, Pl.withinF cut 1 n = k ∧ 1 ≤ k ∧ k ≤ n := by
        have := Pl.withinF_bd cut 1 n (by omega)
        exact ⟨(Pl.withinF cut 1 n).toNat, by omega, by omega, by omega⟩
      have HW := Lib.hid (fun w => within_any cut 1 n w (by omega) (by omega) (by omega))
      rw [hk] at HW
      obtain ⟨q, rfl⟩ : ∃ q, k = q + 1 := ⟨k - 1, by omega⟩
      have hqc : ((q + 1 : Nat) : Int) = (q : Int) + 1 := by omega
      rw [hqc] at HW
      clear HR hz g3 hk hqc
      have p4 := Pl.racc_pre g4 (q + 1)
      obtain ⟨p5, p6, p7⟩ := Pl.racc_parts g4 (q + 1)
      obtain ⟨i1, i2, i3, i4⟩ := Pl.racc_inv r s g1 (zs.take (q + 1)) p4
      obtain ⟨_, j2, j3, j4⟩ := Pl.racc_inv r _ i1 (zs.drop (q + 1)) p5
      rw [List.length_take] at i2 i4
      rw [List.length_drop] at j2 j4
      have hzl := hr.int_len
      have hq1 : q < (Pl.racc r s (zs.take (q + 1))).2.1.length := by omega
      have hlast : (Pl.racc r s (zs.take (q + 1))).2.1[q] = (Pl.racc r s (zs.take (q + 1))).1 := by
        obtain ⟨a1, a2, a3⟩ := Pl.racc_get g1 p4 q (by rw [List.length_take]; omega) hq1
        have e1 : (zs.take (q + 1)).take (q + 1) = zs.take (q + 1) := by rw [List.take_take]; simp
        rw [e1] at a3
        rw [a2, a3, Pl.rstep_ok _ _ _ (Pl.racc_pre p4 q) a1]
      have HA : Hid (∀ w, Reads w w.heap.size 1 A (q + 1) (ints (zs.take (q + 1))) → Calls Try.prog 26 #[vRule r, vSt s, .slice A (q + 1) c] w (RunSaid ((Pl.racc r s (zs.take (q + 1))).2.1, (Pl.racc r s (zs.take (q + 1))).2.2.1, 0) w)) := by
        intro w h
        have := run_any r s A (q + 1) c _ w hs h
        rw [show Pl.urun r s (zs.take (q + 1)) = ((Pl.racc r s (zs.take (q + 1))).2.1, (Pl.racc r s (zs.take (q + 1))).2.2.1, 0) from by
          unfold Pl.urun
          rw [if_neg (by simpa using g1), if_neg (by rw [List.length_take]; omega)]
          exact Prod.ext rfl (Prod.ext rfl p4)] at this
        exact this
      have HBB : Hid (∀ w A' c', Reads w w.heap.size 1 A' (n - (q + 1)) (ints (zs.drop (q + 1))) → Calls Try.prog 26 #[vRule r, vSt (Pl.racc r s (zs.take (q + 1))).1, .slice A' (n - (q + 1)) c'] w
          (RunSaid ((Pl.racc r (Pl.racc r s (zs.take (q + 1))).1 (zs.drop (q + 1))).2.1, (Pl.racc r (Pl.racc r s (zs.take (q + 1))).1 (zs.drop (q + 1))).2.2.1, 0) w)) := by
        intro w A' c' h
        have := run_any r (Pl.racc r s (zs.take (q + 1))).1 A' (n - (q + 1)) c' _ w hs h
        rw [show Pl.urun r (Pl.racc r s (zs.take (q + 1))).1 (zs.drop (q + 1)) = ((Pl.racc r (Pl.racc r s (zs.take (q + 1))).1 (zs.drop (q + 1))).2.1, (Pl.racc r (Pl.racc r s (zs.take (q + 1))).1 (zs.drop (q + 1))).2.2.1, 0) from by
          unfold Pl.urun
          rw [if_neg (by simpa using i1), if_neg (by rw [List.length_drop]; omega)]
          exact Prod.ext rfl (Prod.ext rfl p5)] at this
        exact this
      have N1 : (Pl.racc r s zs).2.1.length = n := by omega
      have N2 : (Pl.racc r s (zs.take (q + 1))).2.1.length = q + 1 := by omega
      have N3 : (Pl.racc r (Pl.racc r s (zs.take (q + 1))).1 (zs.drop (q + 1))).2.1.length = n - (q + 1) := by omega
      have hrT := hr.take_ q2
      obtain ⟨A4, c4', hrun, hrD⟩ := slice_from hr hnc ((q : Int) + 1) (q + 1) (by omega) q2
      have bA : (Pl.racc r s (zs.take (q + 1))).2.2.1 ≤ 24000000 := by omega
      have bB : (Pl.racc r (Pl.racc r s (zs.take (q + 1))).1 (zs.drop (q + 1))).2.2.1 ≤ 24000000 := by omega
      clear g1 g2 g4 p4 p5 i1 hzl v3 v4 v2 i4 j4 i2 j2
      have HP6 := Lib.hid p6
      have HP7 := Lib.hid p7
      clear p6 p7
      generalize (Pl.racc r (Pl.racc r s (zs.take (q + 1))).1 (zs.drop (q + 1))).2.1 = LB at *
      generalize (Pl.racc r (Pl.racc r s (zs.take (q + 1))).1 (zs.drop (q + 1))).2.2.1 = cB at *
      rw [← hlast] at HBB
      clear hlast
      generalize (Pl.racc r s (zs.take (q + 1))).2.1 = LA at *
      generalize (Pl.racc r s (zs.take (q + 1))).2.2.1 = cA at *
      generalize (Pl.racc r s zs).2.1 = L at *
      generalize (Pl.racc r s zs).2.2.1 = cL at *
      unfold vRule vSt at *
      go_enter Try.func10, Try.ntmps10
      go_wp2_with fail
      refine (waits_any _).mono ?_
      rintro e w1 ⟨rfl, hb⟩
      have HB := Lib.hid (((Below.refl w.heap.size w).alloc (Nat.le_refl _) _).alloc (by simp) _ |>.trans (hb.mono (by simp; omega)))
      have B3 : Hid (Blk w1 w.heap.size _ _) := (Blk.old_ (by simp) (Blk.new_ _ _ _ _ (by simp))).go hb
      have B4 : Hid (Blk w1 (w.heap.size + 1) _ _) := (Blk.new_ _ _ _ _ (by simp)).go hb
      have c3 := B3.out.cell
      have c4 := B4.out.cell
      clear hb
      go_wp2_with fail
      refine (HR'.out _ ?hr1).mono ?_
      case hr1 => exact hr.go HB.out
      rintro e w2 ⟨A2, cp, rfl, hrd, hown, hb⟩
      have HB2 := Lib.hid (HB.out.trans (hb.mono HB.out.size))
      have B5 := Lib.hid (B3.out.go hb)
      have B6 := Lib.hid (B4.out.go hb)
      clear c3 c4 hb
      have c3 := B5.out.cell
      have c4 := B6.out.cell
      simp only at hrd hown ⊢
      rw [N1] at hrd hown ⊢
      have hn0 : ((n : Int) == 0) = false := by simp; omega
      go_wp2_with fail
      refine (HW.out _).mono ?_
      rintro e w' ⟨rfl, rfl⟩
      have kc : q + 1 ≤ c := by omega
      have kc' : (q : Int) + 1 ≤ (c : Int) := by omega
      have kc0 : (0 : Int) ≤ (q : Int) + 1 := by omega
      go_wp2_with fail
      go_region_held3 (fun w' => (∀ j, w'.cell? ⟨w.heap.size, j, none⟩ = #[.string r.name, .int .i64 r.least, .int .i64 r.most, .int .i64 r.up, .int .i64 r.down, .int .i64 r.minOn, .int .i64 r.minOff, .int .i64 r.start][j]?) ∧ (∀ j, w'.cell? ⟨w.heap.size + 1, j, none⟩ = #[.bool s.on, .int .i64 s.since, .int .i64 s.power][j]?) ∧ Below w2.heap.size w2 w') (first | exact ⟨c3, c4, (Below.refl _ _).drew⟩ | exact ⟨c5, c6, hb3⟩) (first | (go_at_call 26; refine (HA.out _ ?_).mono ?_; (exact hrT.go (HB2.out.drew)); rintro e w3 ⟨A3, cp3, rfl, hrd3, hown3, hb3'⟩; have hb3 := (Below.refl w2.heap.size w2).drew.trans (hb3'.mono (Nat.le_refl _)); have B7 := Lib.hid (B5.out.go hb3); have B8 := Lib.hid (B6.out.go hb3); have c5 := B7.out.cell; have c6 := B8.out.cell; simp only [N2] at hrd3 hown3 ⊢))
      have HB3 := Lib.hid (HB2.out.trans (hb3.mono HB2.out.size))
      obtain ⟨b, o, rfl, hl, f1, f2, f3⟩ := hrd3.state_at (k := q) (by omega)
      have hbl : b < w3.heap.size := lt_of_cell' f1
      have nn : (((q + 1 : Nat) : Int) != (q : Int) + 1) = false := by simp
      have qlt : (q : Int) < (q : Int) + 1 := by omega
      have ww : IntKind.i64.wrap (q : Int) = (q : Int) := IntWalk.i64_in _ (by omega)
      have qlt2 : (q : Int) < ((q + 1 : Nat) : Int) := by omega
      have qlt3 : q < q + 1 := by omega
      have q0 : (0 : Int) ≤ (q : Int) := by omega
      go_wp2_with fail
      go_region_held3 (fun w' => (∀ j, w'.cell? ⟨w.heap.size, j, none⟩ = #[.string r.name, .int .i64 r.least, .int .i64 r.most, .int .i64 r.up, .int .i64 r.down, .int .i64 r.minOn, .int .i64 r.minOff, .int .i64 r.start][j]?) ∧ w'.cell? ⟨b, o + q * 3, none⟩ = some (.bool LA[q].on) ∧ w'.cell? ⟨b, o + q * 3 + 1, none⟩ = some (.int .i64 LA[q].since) ∧ w'.cell? ⟨b, o + q * 3 + 2, none⟩ = some (.int .i64 LA[q].power) ∧ Below w3.heap.size w3 w') (first | exact ⟨c5, f1, f2, f3, (Below.refl _ _).drew⟩ | exact ⟨c7, f4, f5, f6, hb4⟩) (first | (go_at_call 26; refine (HBB.out _ _ _ ?_).mono ?_; (exact hrD.go (HB3.out.drew)); rintro e w4 ⟨A5, cp5, rfl, hrd4, hown4, hb4'⟩; have hb4 := (Below.refl w3.heap.size w3).drew.trans (hb4'.mono (Nat.le_refl _)); have B9 := Lib.hid (B7.out.go hb4); have c7 := B9.out.cell; have f4 := (hb4.cell (p := ⟨b, o + q * 3, none⟩) hbl).trans f1; have f5 := (hb4.cell (p := ⟨b, o + q * 3 + 1, none⟩) hbl).trans f2; have f6 := (hb4.cell (p := ⟨b, o + q * 3 + 2, none⟩) hbl).trans f3; simp only [N3] at hrd4 hown4 ⊢))
      have HB4 := Lib.hid (HB3.out.trans (hb4.mono HB3.out.size))
      have hown5 := own_go hown3 hb4
      have hc2 : (cA + cB == cL) = true := by rw [HP7.out]; simp
      obtain ⟨i0, hi0, hz0, hz1, hz2⟩ := info_parts info_UnitState
      go_wp2_with (at_builtin; (refine wpList_append_any_if _ rfl (.tmp 89) (.tmp 90) 52 rfl w2.heap.size 45 i0 _ 3 24 Try.underlying52 hi0 hz0 hz1 hz2 rfl (by decide) _ _ _ rfl hown5 _ _ _ _ _ rfl hrd4 (states_one _) (by unfold maxLen; omega) (by omega) (by have := hb3.size; have := hb4.size; omega) ?_); intro v' w5 hown6 hg _)
      have hsz : w2.heap.size ≤ w4.heap.size := by have := hb3.size; have := hb4.size; omega
      have hb5 : Below w2.heap.size w2 w5 := below_grown (hb3.trans (hb4.mono hb3.size)) hg hown5 (Nat.le_refl _) hsz
      have HB5 := Lib.hid (HB2.out.trans (hb5.mono HB2.out.size))
      have hrd5 := hrd.go hb5
      obtain ⟨A6, c6, hv6, hrd6⟩ := own_slice hown6
      rw [← states_append, ← HP6.out] at hrd6
      rw [hv6]
      have hN : q + 1 + (n - (q + 1)) = n := by omega
      rw [hN] at hrd6 ⊢
      clear hg hown6 hown5 hown4 hown3 hown hv6
      refine (eqst_any A6 A2 n n c6 cp L L w5 (by omega) hrd6 hrd5 rfl).mono ?_
      rintro e w6 ⟨rfl, hb6⟩
      have HB6 := Lib.hid (HB5.out.trans (hb6.mono HB5.out.size))
      go_wp2_with fail
      go_ret
      exact ⟨rfl, HB6.out⟩
  · obtain ⟨g1, g2⟩ := Pl.urun_bad hz
    have HR' : Hid (∀ w, Reads w w.heap.size 1 A n (ints zs) → Calls Try.prog 26 #[vRule r, vSt s, .slice A n c] w (RunSaid ([], 0, (Pl.urun r s zs).2.2) w)) := by
      intro w h
      have := HR.out w h
      rw [show Pl.urun r s zs = ([], 0, (Pl.urun r s zs).2.2) from Prod.ext g1 (Prod.ext g2 rfl)] at this
      exact this
    have hz1 : ((Pl.urun r s zs).2.2 != 0) = true := by simpa using hz
    have hz2 : ((Pl.urun r s zs).2.2 == 0) = false := by simpa using hz
    clear g1 g2 hz HR
    generalize (Pl.urun r s zs).2.2 = u at *
    unfold vRule vSt at *
    go_enter Try.func10, Try.ntmps10
    go_wp2_with fail
    refine (waits_any _).mono ?_
    rintro e w1 ⟨rfl, hb⟩
    have HB := Lib.hid (((Below.refl w.heap.size w).alloc (Nat.le_refl _) _).alloc (by simp) _ |>.trans (hb.mono (by simp; omega)))
    have B3 : Hid (Blk w1 w.heap.size _ _) := (Blk.old_ (by simp) (Blk.new_ _ _ _ _ (by simp))).go hb
    have B4 : Hid (Blk w1 (w.heap.size + 1) _ _) := (Blk.new_ _ _ _ _ (by simp)).go hb
    have c3 := B3.out.cell
    have c4 := B4.out.cell
    clear hb
    go_wp2_with fail
    refine (HR'.out _ ?hr2).mono ?_
    case hr2 => exact hr.go HB.out
    rintro e w2 ⟨A2, cp, rfl, hrd, _, hb⟩
    have HB2 := Lib.hid (HB.out.trans (hb.mono HB.out.size))
    clear c3 c4 hb
    simp only
    go_wp2_with fail
    go_ret
    exact ⟨rfl, HB2.out⟩
end Go.Proofs.Ythodaikggpbiiaa
