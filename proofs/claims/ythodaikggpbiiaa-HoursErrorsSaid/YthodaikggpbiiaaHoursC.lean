/- The contract of hours.Band: it returns what the plain function hband gives, in new memory, and leaves old memory as it is. -/
import Derived.Test.YthodaikggpbiiaaHours
namespace Go.Proofs.Ythodaikggpbiiaa
open Go.RowKit
theorem info_RampLimit : (Try.prog.info? 30).map (fun i => (i.zero, i.size, i.bytes)) = some (some (.agg #[.int .i64 0, .int .i64 0]), 2, 16) := by kernel_rfl
/-- the contract of hours.Band -/
def BandSaid (r : List (Int × Int) × Int) (w : World) (e : Ending) (w' : World) : Prop :=
  ∃ A c, e = .returned (.tuple #[.slice A r.1.length c, .int .i64 r.2]) ∧ Reads w' w'.heap.size 2 A r.1.length (pairs r.1) ∧ Below w.heap.size w w'
set_option maxHeartbeats 800000 in
set_option maxRecDepth 100000 in
theorem band_any (A : Option Addr) (n c : Nat) (zs : List Int) (most : Int) (w : World) (hf : Reads w w.heap.size 1 A n (ints zs)) :
    Calls Try.prog 16 #[.slice A n c, .int .i64 most] w (BandSaid (Pl.hband zs most) w) := by
  have C1 := Lib.hid (check_any A n c zs _ w hf)
  have L1 := Lib.hid hf.int_len
  by_cases h1 : Pl.hcheck zs = 0
  · have C1 := C1.out
    rw [h1] at C1
    have C1 := Lib.hid C1
    cases h2 : Pl.outB most 0 100000
    · have HF : Hid (Pl.hband zs most = (zs.map (Pl.bandOne most), 0)) := by show _ = _; unfold Pl.hband; rw [if_neg (by simpa using h1), if_neg (by simp [h2])]
      have H1 := Lib.hid h1
      have H2 := Lib.hid h2
      clear h1 h2
      have K1 := Lib.hid (Pl.hcheck_ok H1.out)
      obtain ⟨m0, m1⟩ := Pl.outB_false.1 H2.out
      have b1 : n ≤ 24 := by have := K1.out.1; have := L1.out; omega
      obtain ⟨i0, hi0, hz0, hz1, hz2⟩ := info_parts info_RampLimit
      go_enter Try.func16, Try.ntmps16
      go_wp2_with fail
      refine C1.out.mono ?_; rintro e w' ⟨rfl, rfl⟩
      go_wp2_with fail
      refine (out_any _ _ _ _).mono ?_; rintro e w' ⟨rfl, rfl⟩
      rw [H2.out]
      go_wp2_with fail
      go_loopw [7, 19] (fun v i wr => ∃ k : Nat, k ≤ n ∧ i = .int .i64 k ∧ wr.ownsRow w.heap.size 30 2 v k (pairs ((zs.take k).map (Pl.bandOne most))) ∧ Below w.heap.size w wr) (fun _ i _ => n - (intOf i).toNat)
      case atStart => exact ⟨0, Nat.zero_le _, rfl, World.ownsRow_nil _ _ _ _, Below.refl _ _⟩
      case round =>
        obtain ⟨k, hk, rfl, hown, hbel⟩ := hrel
        by_cases hlt : k < n
        · obtain ⟨b, o, rfl, hl1, hc1⟩ := (hf.go hbel).int_at hlt
          obtain ⟨r1, r2⟩ := K1.out.2 k hl1
          have HS : Hid ((zs.take (k + 1)).map (Pl.bandOne most) = (zs.take k).map (Pl.bandOne most) ++ [Pl.bandOne most zs[k]]) := by
            show _ = _
            rw [List.take_succ_eq_append_getElem hl1, List.map_append]; rfl
          generalize zs[k] = u at *
          go_wp2_with (at_builtin; refine wpList_append_new _ rfl (.tmp 23) (.tmp 35) 26 rfl w.heap.size 30 i0 _ 2 16 Try.underlying26 hi0 hz0 hz1 hz2 rfl (by decide) _ _ _ rfl hown hbel hbel.size _ rfl rfl (by simp [Value.oneCell']) (by unfold maxLen; omega) (by omega) ?_; intro v' w1 hown' hbel' hsz')
          go_roundw
          case rel => exact ⟨k + 1, by omega, by go_num, by rw [HS.out, pairs_snoc]; refine own_pair hown' ?_ ?_ <;> simp only [Pl.bandOne] <;> (repeat' split) <;> omega, hbel'⟩
          case measure => simp [intOf]; omega
        · have : k = n := by omega
          subst this
          have HT : Hid (zs.take k = zs) := List.take_of_length_le (by have := L1.out; omega)
          obtain ⟨A', c', rfl, hr⟩ := own_slice hown
          go_wp2_with fail
          go_ret2
          rw [HF.out]
          rw [HT.out] at hr
          have HL : Hid ((zs.map (Pl.bandOne most)).length = k) := by show _ = _; rw [List.length_map]; exact L1.out
          exact ⟨A', c', by rw [HL.out]; rfl, by rw [HL.out]; exact hr, hbel⟩
    · have HF : Hid (Pl.hband zs most = ([], 1)) := by show _ = _; unfold Pl.hband; rw [if_neg (by simpa using h1), if_pos h2]
      have H2 := Lib.hid h2
      clear h1 h2
      go_enter Try.func16, Try.ntmps16
      go_wp2_with fail
      refine C1.out.mono ?_; rintro e w' ⟨rfl, rfl⟩
      go_wp2_with fail
      refine (out_any _ _ _ _).mono ?_; rintro e w' ⟨rfl, rfl⟩
      rw [H2.out]
      go_wp2_with fail
      go_ret2
      rw [HF.out]
      exact ⟨none, 0, rfl, Reads.none_, Below.refl _ _⟩
  · have h3 : (Pl.hcheck zs != 0) = true := by simpa using h1
    have HF : Hid (Pl.hband zs most = ([], Pl.hcheck zs)) := by show _ = _; unfold Pl.hband; rw [if_pos h1]
    clear h1
    go_enter Try.func16, Try.ntmps16
    go_wp2_with fail
    refine C1.out.mono ?_; rintro e w' ⟨rfl, rfl⟩
    go_wp2_with fail
    go_ret2
    rw [HF.out]
    exact ⟨none, 0, rfl, Reads.none_, Below.refl _ _⟩
end Go.Proofs.Ythodaikggpbiiaa
