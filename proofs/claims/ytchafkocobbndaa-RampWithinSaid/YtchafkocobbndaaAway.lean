/- ramp.away: the distance from a target, in new memory. Condition: the target is a permitted power. -/
import Derived.Test.YtchafkocobbndaaPRampC
import Derived.Test.YtchafkocobbndaaMade
namespace Go.Proofs.Ytchafkocobbndaa
open Go.RowKit
def AwaySaid (t : Int) (w : World) (e : Ending) (w' : World) : Prop :=
  ∃ A c, e = .returned (.agg #[.int .i64 0, .int .i64 t, .slice A (Pl.awayP t).length c]) ∧ Reads w' w'.heap.size 2 A (Pl.awayP t).length (pairs (Pl.awayP t)) ∧ Below w.heap.size w w'
set_option maxHeartbeats 3200000 in
set_option maxRecDepth 100000 in
theorem away_any (t : Int) (w : World) (t0 : 0 ≤ t) (t1 : t ≤ 100000) : Calls Try.prog 40 #[.int .i64 t] w (AwaySaid t w) := by
  obtain ⟨i0, hi0, hz0, hz1, hz2⟩ := info_parts info_ConvexPiece
  obtain ⟨wd, hwd, B2, B3, HBD, HZ⟩ : ∃ wd, wd = (w.alloc (.cells #[.int .i64 0, .int .i64 0, .slice none 0 0] 92)).alloc (.cells #[.int .i64 0, .int .i64 t, .slice none 0 0] 92) ∧ Hid (Blk wd w.heap.size 92 #[.int .i64 0, .int .i64 0, .slice none 0 0]) ∧ Hid (Blk wd (w.heap.size + 1) 92 #[.int .i64 0, .int .i64 t, .slice none 0 0]) ∧ Hid (Below w.heap.size w wd) ∧ Hid (w.heap.size + 1 + 1 = wd.heap.size) := by
    refine ⟨_, rfl, ?_, ?_, ?_, ?_⟩
    · exact (Blk.new_ w w.heap.size _ _ rfl).alloc _
    · exact Blk.new_ _ (w.heap.size + 1) _ _ (by simp)
    · exact ((Below.refl w.heap.size w).alloc (Nat.le_refl _) _).alloc (by simp) _
    · show _ = _; simp
  subst hwd
  clear HZ
  have HN : Hid (((w.alloc (.cells #[.int .i64 0, .int .i64 0, .slice none 0 0] 92)).alloc (.cells #[.int .i64 0, .int .i64 t, .slice none 0 0] 92)).ownsRow (w.heap.size + 2) 94 2 (.slice none 0 0) 0 []) := World.ownsRow_nil _ _ _ _
  by_cases ha : 0 < t
  · by_cases hb : t < 100000
    · have HE : Hid (Pl.awayP t = [(t, -1), (100000 - t, 1)]) := by show _ = _; unfold Pl.awayP; rw [if_pos ha, if_pos hb]; rfl
      go_enter Try.func40, Try.ntmps40
      go_wp2_with (at_builtin; go_must (first | (refine wpList_append_grow _ rfl (.tmp 9) (.tmp 12) 90 rfl (w.heap.size + 2) 94 i0 _ 2 16 Try.underlying90 hi0 hz0 hz1 hz2 rfl (by decide) (.slice none 0 0) 0 [] rfl HN.out (by simp) #[.int .i64 t, .int .i64 (-1)] rfl rfl (by simp) (by simp [Value.oneCell']) (by unfold maxLen; omega) (by omega) ?_; intro v3 w3 hown3 hg3 hsz3; obtain ⟨A3, c3, rfl, _⟩ := own_slice hown3; have E3 := Lib.hid (B3.out.grown hg3 (own_ne HN.out (.inl (Nat.lt_succ_self _)))); have E2 := Lib.hid (B2.out.grown hg3 (own_ne HN.out (.inl (by omega)))); have HB3 := Lib.hid (below_grown HBD.out hg3 HN.out (by omega) HBD.out.size); have e3 := E3.out.cell; have f3 := E3.out.frozen; have l3 := E3.out.lt; have g3 := E2.out.cell; have h3 := E2.out.frozen; have m3 := E2.out.lt; have HO3 := Lib.hid hown3; have HS3 := Lib.hid hsz3; clear hown3 hg3 hsz3) | (refine wpList_append_grow _ rfl (.tmp 18) (.tmp 22) 90 rfl (w.heap.size + 2) 94 i0 _ 2 16 Try.underlying90 hi0 hz0 hz1 hz2 rfl (by decide) (.slice A3 1 c3) 1 (pairs [(t, -1)]) rfl (own_far HO3.out (p := ⟨w.heap.size + 1, 2, none⟩) (Nat.lt_succ_self _) (.slice A3 1 c3)) (by simpa using HS3.out) #[.int .i64 (100000 - t), .int .i64 1] rfl rfl (by simp) (by simp [Value.oneCell']) (by unfold maxLen; omega) (by omega) ?_; intro v5 w5 hown5 hg5 hsz5; obtain ⟨A5, c5, rfl, _⟩ := own_slice hown5; have E5 := Lib.hid ((E3.out.set_ 2 (.slice A3 1 c3)).grown hg5 (own_ne (own_far HO3.out (p := ⟨w.heap.size + 1, 2, none⟩) (Nat.lt_succ_self _) (.slice A3 1 c3)) (.inl (Nat.lt_succ_self _)))); have E25 := Lib.hid ((E2.out.far (p := ⟨w.heap.size + 1, 2, none⟩) (by show w.heap.size ≠ w.heap.size + 1; omega) (.slice A3 1 c3)).grown hg5 (own_ne (own_far HO3.out (p := ⟨w.heap.size + 1, 2, none⟩) (Nat.lt_succ_self _) (.slice A3 1 c3)) (.inl (by omega)))); have HB5 := Lib.hid (below_grown (HB3.out.setCell (p := ⟨w.heap.size + 1, 2, none⟩) (Nat.le_succ _) (.slice A3 1 c3)) hg5 (own_far HO3.out (p := ⟨w.heap.size + 1, 2, none⟩) (Nat.lt_succ_self _) (.slice A3 1 c3)) (by omega) (by simpa using HB3.out.size)); have e5 := E5.out.cell; have f5 := E5.out.frozen; have l5 := E5.out.lt; have g5 := E25.out.cell; have h5 := E25.out.frozen; have m5 := E25.out.lt; have HO5 := Lib.hid hown5; clear hown5 hg5 hsz5)))
      have E6 := Lib.hid ((((E25.out.far (p := ⟨w.heap.size + 1, 2, none⟩) (by show w.heap.size ≠ w.heap.size + 1; omega) (.slice A5 2 c5)).set_ 0 (.int .i64 0)).set_ 1 (.int .i64 t)).set_ 2 (.slice A5 2 c5))
      have k7 := E6.out.cell
      refine bodyPost_ret (v := .agg #[.int .i64 0, .int .i64 t, .slice A5 2 c5]) (by simp [results, Try.results40, go_sem, k7]) rfl ⟨A5, c5, by rw [HE.out]; rfl, ?_, ?_⟩
      · rw [HE.out]
        exact Reads.of_own (own_far (own_far (own_far (own_far HO5.out (p := ⟨w.heap.size + 1, 2, none⟩) (Nat.lt_succ_self _) _) (p := ⟨w.heap.size, 0, none⟩) (by show w.heap.size < w.heap.size + 2; omega) _) (p := ⟨w.heap.size, 1, none⟩) (by show w.heap.size < w.heap.size + 2; omega) _) (p := ⟨w.heap.size, 2, none⟩) (by show w.heap.size < w.heap.size + 2; omega) _)
      · exact (((HB5.out.setCell (p := ⟨w.heap.size + 1, 2, none⟩) (Nat.le_succ _) _).setCell (p := ⟨w.heap.size, 0, none⟩) (Nat.le_refl _) _).setCell (p := ⟨w.heap.size, 1, none⟩) (Nat.le_refl _) _).setCell (p := ⟨w.heap.size, 2, none⟩) (Nat.le_refl _) _
    · have HE : Hid (Pl.awayP t = [(t, -1)]) := by show _ = _; unfold Pl.awayP; rw [if_pos ha, if_neg hb]; rfl
      go_enter Try.func40, Try.ntmps40
      go_wp2_with (at_builtin; go_must (refine wpList_append_grow _ rfl (.tmp 9) (.tmp 12) 90 rfl (w.heap.size + 2) 94 i0 _ 2 16 Try.underlying90 hi0 hz0 hz1 hz2 rfl (by decide) (.slice none 0 0) 0 [] rfl HN.out (by simp) #[.int .i64 t, .int .i64 (-1)] rfl rfl (by simp) (by simp [Value.oneCell']) (by unfold maxLen; omega) (by omega) ?_; intro v3 w3 hown3 hg3 hsz3; obtain ⟨A3, c3, rfl, _⟩ := own_slice hown3; have E3 := Lib.hid (B3.out.grown hg3 (own_ne HN.out (.inl (Nat.lt_succ_self _)))); have E2 := Lib.hid (B2.out.grown hg3 (own_ne HN.out (.inl (by omega)))); have HB3 := Lib.hid (below_grown HBD.out hg3 HN.out (by omega) HBD.out.size); have e3 := E3.out.cell; have f3 := E3.out.frozen; have l3 := E3.out.lt; have g3 := E2.out.cell; have h3 := E2.out.frozen; have m3 := E2.out.lt; have HO3 := Lib.hid hown3; have HS3 := Lib.hid hsz3; clear hown3 hg3 hsz3))
      have E6 := Lib.hid ((((E2.out.far (p := ⟨w.heap.size + 1, 2, none⟩) (by show w.heap.size ≠ w.heap.size + 1; omega) (.slice A3 1 c3)).set_ 0 (.int .i64 0)).set_ 1 (.int .i64 t)).set_ 2 (.slice A3 1 c3))
      have k7 := E6.out.cell
      refine bodyPost_ret (v := .agg #[.int .i64 0, .int .i64 t, .slice A3 1 c3]) (by simp [results, Try.results40, go_sem, k7]) rfl ⟨A3, c3, by rw [HE.out]; rfl, ?_, ?_⟩
      · rw [HE.out]
        exact Reads.of_own (own_far (own_far (own_far (own_far HO3.out (p := ⟨w.heap.size + 1, 2, none⟩) (Nat.lt_succ_self _) _) (p := ⟨w.heap.size, 0, none⟩) (by show w.heap.size < w.heap.size + 2; omega) _) (p := ⟨w.heap.size, 1, none⟩) (by show w.heap.size < w.heap.size + 2; omega) _) (p := ⟨w.heap.size, 2, none⟩) (by show w.heap.size < w.heap.size + 2; omega) _)
      · exact (((HB3.out.setCell (p := ⟨w.heap.size + 1, 2, none⟩) (Nat.le_succ _) _).setCell (p := ⟨w.heap.size, 0, none⟩) (Nat.le_refl _) _).setCell (p := ⟨w.heap.size, 1, none⟩) (Nat.le_refl _) _).setCell (p := ⟨w.heap.size, 2, none⟩) (Nat.le_refl _) _
  · have hb : t < 100000 := by omega
    have HE : Hid (Pl.awayP t = [(100000 - t, 1)]) := by show _ = _; unfold Pl.awayP; rw [if_neg ha, if_pos hb]; rfl
    go_enter Try.func40, Try.ntmps40
    go_wp2_with (at_builtin; go_must (refine wpList_append_grow _ rfl (.tmp 18) (.tmp 22) 90 rfl (w.heap.size + 2) 94 i0 _ 2 16 Try.underlying90 hi0 hz0 hz1 hz2 rfl (by decide) (.slice none 0 0) 0 [] rfl HN.out (by simp) #[.int .i64 (100000 - t), .int .i64 1] rfl rfl (by simp) (by simp [Value.oneCell']) (by unfold maxLen; omega) (by omega) ?_; intro v3 w3 hown3 hg3 hsz3; obtain ⟨A3, c3, rfl, _⟩ := own_slice hown3; have E3 := Lib.hid (B3.out.grown hg3 (own_ne HN.out (.inl (Nat.lt_succ_self _)))); have E2 := Lib.hid (B2.out.grown hg3 (own_ne HN.out (.inl (by omega)))); have HB3 := Lib.hid (below_grown HBD.out hg3 HN.out (by omega) HBD.out.size); have e3 := E3.out.cell; have f3 := E3.out.frozen; have l3 := E3.out.lt; have g3 := E2.out.cell; have h3 := E2.out.frozen; have m3 := E2.out.lt; have HO3 := Lib.hid hown3; have HS3 := Lib.hid hsz3; clear hown3 hg3 hsz3))
    have E6 := Lib.hid ((((E2.out.far (p := ⟨w.heap.size + 1, 2, none⟩) (by show w.heap.size ≠ w.heap.size + 1; omega) (.slice A3 1 c3)).set_ 0 (.int .i64 0)).set_ 1 (.int .i64 t)).set_ 2 (.slice A3 1 c3))
    have k7 := E6.out.cell
    refine bodyPost_ret (v := .agg #[.int .i64 0, .int .i64 t, .slice A3 1 c3]) (by simp [results, Try.results40, go_sem, k7]) rfl ⟨A3, c3, by rw [HE.out]; rfl, ?_, ?_⟩
    · rw [HE.out]
      exact Reads.of_own (own_far (own_far (own_far (own_far HO3.out (p := ⟨w.heap.size + 1, 2, none⟩) (Nat.lt_succ_self _) _) (p := ⟨w.heap.size, 0, none⟩) (by show w.heap.size < w.heap.size + 2; omega) _) (p := ⟨w.heap.size, 1, none⟩) (by show w.heap.size < w.heap.size + 2; omega) _) (p := ⟨w.heap.size, 2, none⟩) (by show w.heap.size < w.heap.size + 2; omega) _)
    · exact (((HB3.out.setCell (p := ⟨w.heap.size + 1, 2, none⟩) (Nat.le_succ _) _).setCell (p := ⟨w.heap.size, 0, none⟩) (Nat.le_refl _) _).setCell (p := ⟨w.heap.size, 1, none⟩) (Nat.le_refl _) _).setCell (p := ⟨w.heap.size, 2, none⟩) (Nat.le_refl _) _
end Go.Proofs.Ytchafkocobbndaa
