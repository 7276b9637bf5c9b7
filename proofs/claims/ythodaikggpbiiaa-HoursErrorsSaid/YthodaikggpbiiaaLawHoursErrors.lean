/- The law HoursErrors: for every forecast and actual the call returns true, and old memory is left as it is. No condition. -/
import Derived.Test.YthodaikggpbiiaaHoursB
import Derived.Test.YthodaikggpbiiaaHoursC
namespace Go.Proofs.Ythodaikggpbiiaa
open Go.RowKit
theorem errors_lit (A B : Option Addr) (c d : Nat) (w : World) (hf : Reads w w.heap.size 1 A 2 (ints [5, 5])) (ha : Reads w w.heap.size 1 B 2 (ints [7, 4])) :
    Calls Try.prog 15 #[.slice A 2 c, .slice B 2 d] w fun e w' => e = .returned (.tuple #[.int .i64 2, .int .i64 1, .int .i64 5, .int .i64 0]) ∧ w = w' := by
  have h := errors_any A B 2 2 c d [5, 5] [7, 4] w hf ha
  unfold ErrorsSaid at h
  rw [Pl.herrors_ex] at h
  exact h
theorem band_lit (A : Option Addr) (c : Nat) (w : World) (hf : Reads w w.heap.size 1 A 1 (ints [5])) :
    Calls Try.prog 16 #[.slice A 1 c, .int .i64 2] w fun e w' => ∃ b o c, e = .returned (.tuple #[.slice (some ⟨b, o, none⟩) 1 c, .int .i64 0]) ∧ w'.cell? ⟨b, o, none⟩ = some (.int .i64 3) ∧ w'.cell? ⟨b, o + 1, none⟩ = some (.int .i64 7) ∧ Below w.heap.size w w' := by
  have h := band_any A 1 c [5] 2 w hf
  unfold BandSaid at h
  rw [Pl.hband_ex] at h
  refine h.mono ?_
  rintro e w' ⟨a, c, rfl, hr, hb⟩
  obtain ⟨b, o, rfl, _, h1, h2⟩ := Reads.pair_at (l := [(3, 7)]) hr (k := 0) (by simp)
  exact ⟨b, o, c, rfl, by simpa using h1, by simpa using h2, hb⟩
set_option maxRecDepth 100000 in
set_option maxHeartbeats 1600000 in
theorem hoursErrors_walk (A B : Option Addr) (n m c d : Nat) (f a : List Int) (w : World) (hf : Reads w w.heap.size 1 A n (ints f)) (ha : Reads w w.heap.size 1 B m (ints a)) :
    Calls Try.prog 3 #[.slice A n c, .slice B m d] w fun e w' => e = .returned (.bool true) ∧ Below w.heap.size w w' := by
  go_enter Try.func3, Try.ntmps3
  go_wp2_with fail
  refine (errors_lit _ _ _ _ _ ?r1 ?r2).mono ?_
  case r1 => exact (Reads.lit w #[.int .i64 5, .int .i64 5] 3 2 1 _ rfl rfl).go ((Below.refl _ _).alloc (Nat.le_refl _) _)
  case r2 => exact Reads.lit _ #[.int .i64 7, .int .i64 4] 3 2 1 _ (by simp) rfl
  rintro e w' ⟨rfl, rfl⟩
  go_wp2_with fail
  refine (band_lit _ _ _ ?r3).mono ?_
  case r3 => exact Reads.lit _ #[.int .i64 5] 3 1 1 _ (by simp) rfl
  rintro e w' ⟨b1, o1, c1, rfl, hc1, hc2, hb⟩
  have hb1 : Below w.heap.size w w' := ((((Below.refl _ _).alloc (Nat.le_refl _) _).alloc (by simp) _).alloc (by simp; omega) _).trans (hb.mono (by simp; omega))
  clear hb
  go_wp2_with fail
  clear hc1 hc2
  have hf1 := hf.go hb1
  have ha1 := ha.go hb1
  have L1 := Lib.hid hf.int_len
  have L2 := Lib.hid ha.int_len
  have C3 := errors_any A B n m c d f a w' hf1 ha1
  by_cases hz : (Pl.herrors f a).2.2.2 = 0
  · obtain ⟨g1, g2, g3⟩ := Pl.herrors_good hz
    have G1 := Lib.hid g1
    have G2 := Lib.hid g2
    have HV := Pl.herrors_ok g1 g2 g3
    unfold ErrorsSaid at C3
    rw [HV] at C3
    have C3 := Lib.hid C3
    have q := Pl.errAcc_take g1 g2 n
    rw [List.take_of_length_le (by have := L1.out; simp; omega)] at q
    have HB := Lib.hid (Pl.hband_good g1 q.1)
    have HM := Lib.hid (fun h => Pl.band_holds g1 g2 h)
    have q' := Pl.errAcc_sq (f.zip a)
    obtain ⟨q1, q2, q3, q4, q5, q6⟩ := q
    obtain ⟨s1, s2, s3, s4⟩ := q'
    have b1 : n ≤ 24 := by have := (Pl.hcheck_ok g1).1; have := L1.out; omega
    have b2 : m = n := by have := L1.out; have := L2.out; omega
    clear HV g1 g2 g3 hz
    subst b2
    generalize Pl.errAcc (f.zip a) = acc at *
    obtain ⟨x, y, z⟩ := acc
    simp only at q1 q2 q3 q4 q5 q6 s1 s2 s3 s4
    by_cases hx : x ≤ 100000
    · have hmin : min x 100000 = x := by omega
      rw [hmin] at HB HM
      clear hmin
      have C4 := band_any A m c f x w' hf1
      unfold BandSaid at C4
      rw [HB.out] at C4
      simp only [List.length_map, L1.out] at C4
      have C4 := Lib.hid C4
      refine C3.out.mono ?_
      rintro e w' ⟨rfl, rfl⟩
      go_wp2_with fail
      refine C4.out.mono ?_
      rintro e w2 ⟨A2, c2, rfl, hr2, hb2⟩
      have hb3 := hb1.trans (hb2.mono hb1.size)
      go_wp2_with fail
      go_loopw [4, 17, 18, 111] (fun _ _ _ i wr => ∃ k : Nat, k ≤ m ∧ i = .int .i64 k ∧ Below w2.heap.size w2 wr) (fun _ _ _ i _ => m - (intOf i).toNat)
      case atStart => exact ⟨0, Nat.zero_le _, rfl, Below.refl _ _⟩
      case round =>
        obtain ⟨k, hk, rfl, hb4⟩ := hrel
        by_cases hlt : k < m
        · obtain ⟨b, o, rfl, hl1, hc1⟩ := ((ha1.go hb2).go hb4).int_at hlt
          obtain ⟨b', o', rfl, hl2, hc2, hc3⟩ := ((hr2.go hb4).pair_at hlt)
          have hlf : k < f.length := by have := L1.out; omega
          have hh := HM.out hx k hlf hl1
          rw [List.getElem_map] at hc2 hc3
          generalize a[k] = v at *
          generalize (Pl.bandOne x f[k]).1 = lo at *
          generalize (Pl.bandOne x f[k]).2 = hi at *
          by_cases hv : 0 ≤ v
          · obtain ⟨h1, h2⟩ := hh hv
            go_wp2_with fail
            go_roundw
            case rel => exact ⟨k + 1, by omega, by go_num, hb4⟩
            case measure => simp [intOf]; omega
          · go_wp2_with fail
            go_roundw
            case rel => exact ⟨k + 1, by omega, by go_num, hb4⟩
            case measure => simp [intOf]; omega
        · go_wp2_with fail
          go_ret
          exact ⟨rfl, hb3.trans (hb4.mono hb3.size)⟩
    · have hmin : min x 100000 = 100000 := by omega
      rw [hmin] at HB
      clear hmin
      have C4 := band_any A m c f 100000 w' hf1
      unfold BandSaid at C4
      rw [HB.out] at C4
      have C4 := Lib.hid C4
      refine C3.out.mono ?_
      rintro e w' ⟨rfl, rfl⟩
      go_wp2_with fail
      refine C4.out.mono ?_
      rintro e w2 ⟨A2, c2, rfl, hr2, hb2⟩
      go_wp2_with fail
      go_ret
      exact ⟨rfl, hb1.trans (hb2.mono hb1.size)⟩
  · obtain ⟨g1, g2, g3⟩ := Pl.herrors_bad hz
    unfold ErrorsSaid at C3
    rw [g1, g2, g3] at C3
    have C3 := Lib.hid C3
    have hz1 : ((Pl.herrors f a).2.2.2 != 0) = true := by simpa using hz
    clear g1 g2 g3 hz
    generalize (Pl.herrors f a).2.2.2 = er at *
    refine C3.out.mono ?_
    rintro e w' ⟨rfl, rfl⟩
    go_wp2_with fail
    go_ret
    exact ⟨rfl, hb1⟩
end Go.Proofs.Ythodaikggpbiiaa
