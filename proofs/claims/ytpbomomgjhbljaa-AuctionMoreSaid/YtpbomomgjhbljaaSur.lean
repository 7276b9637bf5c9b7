/- auction.Surplus: it gives what its plain function gives. No condition. -/
import Derived.Test.YtpbomomgjhbljaaCkf
namespace Go.Proofs.Ytpbomomgjhbljaa
open Go.RowKit
namespace Pl
theorem acheckK_pre {l : List Ord} {k : Nat} (h : acheckK l k = 0) : ∀ j (hj : j < l.length), j < k → achk (l.take j) l[j] = 0 := by
  induction k with
  | zero => intro j _ h; exact absurd h (by omega)
  | succ k ih =>
    have h0 : acheckK l k = 0 := by
      by_cases e : acheckK l k = 0
      · exact e
      · rw [acheckK, if_neg e] at h; exact h
    intro j hj hjk
    by_cases e : j = k
    · subst e
      rw [acheckK, if_pos h0, List.getD_eq_getElem?_getD, List.getElem?_eq_getElem hj] at h
      exact h
    · exact ih h0 j hj (by omega)
theorem acheck_good {l : List Ord} (h : acheck l = 0) (z : Ord) (hz : z ∈ l) : 1 ≤ z.pow ∧ z.pow ≤ 100000 ∧ -1000000 ≤ z.price ∧ z.price ≤ 1000000 := by
  have hl := acheck_len h
  rw [acheck, if_neg (by omega)] at h
  obtain ⟨j, hj, rfl⟩ := List.getElem_of_mem hz
  have := acheckK_pre h j hj hj
  unfold achk at this
  split at this
  · cases this
  · split at this
    · cases this
    · rename_i h2
      rw [Bool.not_eq_true, Bool.or_eq_false_iff, outB_false, outB_false] at h2
      omega
theorem cfills_good {l : List Ord} {fs : List Int} (h : cfills l fs = 0) : acheck l = 0 ∧ fs.length = l.length ∧ ∀ j (h1 : j < l.length) (h2 : j < fs.length), 0 ≤ fs[j] ∧ fs[j] ≤ l[j].pow := by
  unfold cfills at h
  split at h
  · rename_i h1; exact absurd h h1
  · rename_i h1
    split at h
    · cases h
    · rename_i h2
      split at h
      · cases h
      · rename_i h3
        refine ⟨by simpa using h1, by simpa using h2, fun j g1 g2 => ?_⟩
        rw [Bool.not_eq_true] at h3
        have := has_false h3 j (by rw [List.length_zip]; omega)
        rw [List.getElem_zip] at this
        unfold badFill at this
        simp at this
        omega
/-- what one order gains -/
def gain (p : Int) (x : Ord × Int) : Int := if x.1.buy then x.2 * (x.1.price - p) else -(x.2 * (x.1.price - p))
def gains (p : Int) (z : List (Ord × Int)) : Int := (z.map (gain p)).foldl (· + ·) 0
theorem gains_snoc (p : Int) (z : List (Ord × Int)) (x : Ord × Int) : gains p (z ++ [x]) = gains p z + gain p x := by unfold gains; rw [List.map_append, List.foldl_append]; rfl
def surp (p : Int) (l : List Ord) (fs : List Int) : Int × Int := if cfills l fs ≠ 0 then (0, cfills l fs) else if p < -2000000 ∨ 2000000 < p then (0, 4) else (gains p (l.zip fs), 0)
theorem gain_bd {f d : Int} (f0 : 0 ≤ f) (f1 : f ≤ 100000) (d0 : -3000000 ≤ d) (d1 : d ≤ 3000000) : -300000000000 ≤ f * d ∧ f * d ≤ 300000000000 := by
  have h1 : f * d ≤ f * 3000000 := Int.mul_le_mul_of_nonneg_left d1 f0
  have h2 : f * (-3000000) ≤ f * d := Int.mul_le_mul_of_nonneg_left d0 f0
  omega
end Pl
def vRes (p q : Int) (B : Option Addr) (m d : Nat) : Value := .agg #[.int .i64 p, .int .i64 q, .slice B m d]
set_option maxHeartbeats 3200000 in
set_option maxRecDepth 100000 in
theorem surplus_any (A B : Option Addr) (n m c d : Nat) (l : List Pl.Ord) (fs : List Int) (p q : Int) (w : World) (hcap : n ≤ c) (hs : ∀ z ∈ l, z.name.size ≤ 9223372036854775807) (hr : Reads w w.heap.size 4 A n (orders l)) (hf : Reads w w.heap.size 1 B m (ints fs)) :
    Calls Try.prog 23 #[.slice A n c, vRes p q B m d] w fun e w' => e = .returned (.tuple #[.int .i64 (Pl.surp p l fs).1, .int .i64 (Pl.surp p l fs).2]) ∧ Below w.heap.size w w' := by
  have L1 := Lib.hid hr.ord_len
  have L2 := Lib.hid hf.int_len
  have HB0 := Lib.hid ((Below.refl w.heap.size w).alloc (Nat.le_refl _) (.cells #[.int .i64 p, .int .i64 q, .slice B m d] 35))
  have HC := Lib.hid (fun wt a b => cfills_any A B n m c d l fs wt hcap hs a b)
  unfold vRes
  clear hs
  by_cases h0 : Pl.cfills l fs = 0
  · obtain ⟨g1, g2, g3⟩ := Pl.cfills_good h0
    have HG := Lib.hid (Pl.acheck_good g1)
    have h32 := Pl.acheck_len g1
    obtain rfl : n = m := by have := L1.out; have := L2.out; omega
    have HG3 := Lib.hid g3
    have hn32 : n ≤ 32 := by have := L1.out; omega
    rw [h0] at HC
    have HS : Hid (Pl.surp p l fs = if p < -2000000 ∨ 2000000 < p then (0, 4) else (Pl.gains p (l.zip fs), 0)) := by show _ = _; unfold Pl.surp; rw [if_neg (by simp [h0])]
    clear g1 g2 g3 h0 h32
    go_enter Try.func23, Try.ntmps23
    go_wp2_with fail
    refine (HC.out _ (hr.go HB0.out) (hf.go HB0.out)).mono ?_
    rintro e w1 ⟨rfl, hb⟩
    have B1 : Hid (Blk w1 w.heap.size 35 #[.int .i64 p, .int .i64 q, .slice B n d]) := (Blk.new_ w w.heap.size _ _ rfl).go hb
    have HB1 := Lib.hid (HB0.out.trans (hb.mono HB0.out.size))
    have c1 := B1.out.cell
    clear hb HB0
    by_cases p0 : p < -2000000
    · have HE : Hid (Pl.surp p l fs = (0, 4)) := by show _ = _; rw [HS.out, if_pos (.inl p0)]
      go_wp2_with fail
      go_ret2
      exact ⟨by rw [HE.out]; rfl, HB1.out⟩
    · by_cases p1 : 2000000 < p
      · have HE : Hid (Pl.surp p l fs = (0, 4)) := by show _ = _; rw [HS.out, if_pos (.inr p1)]
        go_wp2_with fail
        go_ret2
        exact ⟨by rw [HE.out]; rfl, HB1.out⟩
      · have HE : Hid (Pl.surp p l fs = (Pl.gains p (l.zip fs), 0)) := by show _ = _; rw [HS.out, if_neg (by omega)]
        go_wp2_with fail
        clear c1
        go_loopw [7, 28] (fun s i wr => ∃ (k : Nat) (t : Int), k ≤ n ∧ i = .int .i64 k ∧ s = .int .i64 t ∧ Hid (Pl.gains p ((l.zip fs).take k) = t) ∧ -(300000000000 * (k : Int)) ≤ t ∧ t ≤ 300000000000 * (k : Int) ∧ Blk wr w.heap.size 35 #[.int .i64 p, .int .i64 q, .slice B n d] ∧ Below w.heap.size w wr) (fun _ i _ => n - (intOf i).toNat)
        case atStart => exact ⟨0, 0, Nat.zero_le _, rfl, rfl, rfl, by omega, by omega, B1.out, HB1.out⟩
        case round =>
          obtain ⟨k, t, hk, rfl, rfl, HT, t0, t1, br, hbel⟩ := hrel
          have HB := Lib.hid hbel
          have BR := Lib.hid br
          have lr := BR.out.lt
          clear hbel br
          by_cases hlt : k < n
          · obtain ⟨b, o, rfl, hl1, c1, c2, c3, c4⟩ := (hr.below HB.out).ord_at hlt
            obtain ⟨b', o', rfl, hl2, d1⟩ := (hf.below HB.out).int_at hlt
            obtain ⟨f0, f1⟩ := HG3.out k hl1 hl2
            obtain ⟨_, z1, z2, z3⟩ := HG.out _ (List.getElem_mem hl1)
            have HN : Hid (Pl.gains p ((l.zip fs).take (k + 1)) = t + Pl.gain p (l[k], fs[k])) := by
              show _ = _
              rw [List.take_succ_eq_append_getElem (by rw [List.length_zip]; omega), Pl.gains_snoc, HT.out, List.getElem_zip]
            generalize fs[k] = f at *
            generalize l[k] = z at *
            obtain ⟨nm, bz, pw, pr⟩ := z
            simp only at c1 c2 c3 c4 f1 z1 z2 z3
            obtain ⟨m1, m2⟩ := Pl.gain_bd (f := f) (d := pr - p) f0 (by omega) (by omega) (by omega)
            have hsz := HB.out.size
            have k1 : (0 : Int) ≤ (k : Int) := by omega
            have k2 : (k : Int) < (n : Int) := by omega
            have BN := Lib.hid (Blk.new_ wr wr.heap.size 32 #[.string nm, .bool bz, .int .i64 pw, .int .i64 pr] rfl)
            have BR2 := Lib.hid (BR.out.alloc (.cells #[.string nm, .bool bz, .int .i64 pw, .int .i64 pr] 32))
            have HBN := Lib.hid (HB.out.alloc HB.out.size (.cells #[.string nm, .bool bz, .int .i64 pw, .int .i64 pr] 32))
            have q4 : (wr.alloc (.cells #[.string nm, .bool bz, .int .i64 pw, .int .i64 pr] 32)).cell? ⟨b', o' + k, none⟩ = some (.int .i64 f) := by rw [World.cell?_alloc_some _ _ _ (by rw [d1]; rfl)]; exact d1
            go_wp2_with fail
            generalize wr.alloc (.cells #[.string nm, .bool bz, .int .i64 pw, .int .i64 pr] 32) = w2 at *
            generalize wr.heap.size = bn at *
            have q1 : w2.cell? ⟨bn, 1, none⟩ = some (.bool bz) := BN.out.cell 1
            have q3 : w2.cell? ⟨bn, 3, none⟩ = some (.int .i64 pr) := BN.out.cell 3
            have r0 : w2.cell? ⟨w.heap.size, 0, none⟩ = some (.int .i64 p) := BR2.out.cell 0
            have r2 : w2.cell? ⟨w.heap.size, 2, none⟩ = some (.slice (some ⟨b', o', none⟩) n d) := BR2.out.cell 2
            clear c1 c2 c3 c4 d1
            cases bz
            all_goals
              go_quiet (fail)
              go_wp2_with fail
              go_roundw
              case rel =>
                refine ⟨k + 1, _, by omega, by go_num, rfl, ?_, by omega, by omega, BR2.out, below_drewN_s HBN.out _⟩
                show _ = _
                rw [HN.out]
                unfold Pl.gain
                simp
              case measure => simp [intOf]; omega
          · have : k = n := by omega
            subst this
            have HT2 : Hid (Pl.gains p (l.zip fs) = t) := by
              show _ = _
              rw [← HT.out, List.take_of_length_le (by rw [List.length_zip, L1.out, L2.out]; omega)]
            go_wp2_with fail
            go_ret2
            exact ⟨by rw [HE.out, HT2.out]; rfl, HB.out⟩
  · have HE : Hid (Pl.surp p l fs = (0, Pl.cfills l fs)) := by show _ = _; unfold Pl.surp; rw [if_pos h0]
    have h2 : (Pl.cfills l fs != 0) = true := by simpa using h0
    clear h0
    generalize Pl.cfills l fs = u at *
    go_enter Try.func23, Try.ntmps23
    go_wp2_with fail
    refine (HC.out _ (hr.go HB0.out) (hf.go HB0.out)).mono ?_
    rintro e w1 ⟨rfl, hb⟩
    have HB1 := Lib.hid (HB0.out.trans (hb.mono HB0.out.size))
    clear hb
    go_wp2_with fail
    go_ret2
    exact ⟨by rw [HE.out]; rfl, HB1.out⟩
end Go.Proofs.Ytpbomomgjhbljaa
