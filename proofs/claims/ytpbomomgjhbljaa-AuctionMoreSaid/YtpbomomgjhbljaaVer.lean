/- auction.Verify: it gives what its plain function gives. No condition. -/
import Derived.Test.YtpbomomgjhbljaaSur
namespace Go.Proofs.Ytpbomomgjhbljaa
open Go.RowKit
namespace Pl
def sidep (b : Bool) (x : Ord × Int) : Int := if x.1.buy = b then x.2 else 0
def sideS (b : Bool) (z : List (Ord × Int)) : Int := (z.map (sidep b)).foldl (· + ·) 0
theorem sideS_snoc (b : Bool) (z : List (Ord × Int)) (x : Ord × Int) : sideS b (z ++ [x]) = sideS b z + sidep b x := by unfold sideS; rw [List.map_append, List.foldl_append]; rfl
def verif (p q : Int) (l : List Ord) (fs : List Int) : Int := if cfills l fs ≠ 0 then cfills l fs else if sideS true (l.zip fs) ≠ sideS false (l.zip fs) ∨ sideS true (l.zip fs) ≠ q then 14 else
  if (fit l fs).2 < (fit l fs).1 ∨ (q ≠ 0 ∧ (p < (fit l fs).1 ∨ (fit l fs).2 < p)) then 21 else 0
end Pl
set_option maxHeartbeats 3200000 in
set_option maxRecDepth 100000 in
theorem verify_any (A B : Option Addr) (n m c d : Nat) (l : List Pl.Ord) (fs : List Int) (p q : Int) (w : World) (hcap : n ≤ c) (hs : ∀ z ∈ l, z.name.size ≤ 9223372036854775807) (hr : Reads w w.heap.size 4 A n (orders l)) (hf : Reads w w.heap.size 1 B m (ints fs)) :
    Calls Try.prog 25 #[.slice A n c, vRes p q B m d] w fun e w' => e = .returned (.int .i64 (Pl.verif p q l fs)) ∧ Below w.heap.size w w' := by
  have L1 := Lib.hid hr.ord_len
  have L2 := Lib.hid hf.int_len
  have HB0 := Lib.hid ((Below.refl w.heap.size w).alloc (Nat.le_refl _) (.cells #[.int .i64 p, .int .i64 q, .slice B m d] 35))
  have HC := Lib.hid (fun wt a b => cfills_any A B n m c d l fs wt hcap hs a b)
  unfold vRes
  clear hs
  by_cases h0 : Pl.cfills l fs = 0
  · obtain ⟨g1, g2, g3⟩ := Pl.cfills_good h0
    have HG := Lib.hid (Pl.acheck_good g1)
    have h32 := Pl.acheck_len g1
    obtain rfl : n = m := by have := L1.out; have := L2.out; omega
    have HG3 := Lib.hid g3
    have hn32 : n ≤ 32 := by have := L1.out; omega
    rw [h0] at HC
    have HS : Hid (Pl.verif p q l fs = if Pl.sideS true (l.zip fs) ≠ Pl.sideS false (l.zip fs) ∨ Pl.sideS true (l.zip fs) ≠ q then 14 else if (Pl.fit l fs).2 < (Pl.fit l fs).1 ∨ (q ≠ 0 ∧ (p < (Pl.fit l fs).1 ∨ (Pl.fit l fs).2 < p)) then 21 else 0) := by show _ = _; unfold Pl.verif; rw [if_neg (by simp [h0])]
    have HFT := Lib.hid (fun wt a b => fitting_any A B n c d l fs wt hn32 a b)
    clear g1 g2 g3 h0 h32
    go_enter Try.func25, Try.ntmps25
    go_wp2_with fail
    refine (HC.out _ (hr.go HB0.out) (hf.go HB0.out)).mono ?_
    rintro e w1 ⟨rfl, hb⟩
    have B1 : Hid (Blk w1 w.heap.size 35 #[.int .i64 p, .int .i64 q, .slice B n d]) := (Blk.new_ w w.heap.size _ _ rfl).go hb
    have HB1 := Lib.hid (HB0.out.trans (hb.mono HB0.out.size))
    have c1 := B1.out.cell
    clear hb HB0
    go_wp2_with fail
    clear c1
    go_loopw [6, 7, 21] (fun s1 s2 i wr => ∃ (k : Nat) (t u : Int), k ≤ n ∧ i = .int .i64 k ∧ s1 = .int .i64 t ∧ s2 = .int .i64 u ∧ Hid (Pl.sideS true ((l.zip fs).take k) = t) ∧ Hid (Pl.sideS false ((l.zip fs).take k) = u) ∧ 0 ≤ t ∧ t ≤ 100000 * (k : Int) ∧ 0 ≤ u ∧ u ≤ 100000 * (k : Int) ∧ Blk wr w.heap.size 35 #[.int .i64 p, .int .i64 q, .slice B n d] ∧ Below w.heap.size w wr) (fun _ _ i _ => n - (intOf i).toNat)
    case atStart => exact ⟨0, 0, 0, Nat.zero_le _, rfl, rfl, rfl, rfl, rfl, by omega, by omega, by omega, by omega, B1.out, HB1.out⟩
    case round =>
      obtain ⟨k, t, u, hk, rfl, rfl, rfl, HT, HU, t0, t1, u0, u1, br, hbel⟩ := hrel
      have HB := Lib.hid hbel
      have BR := Lib.hid br
      have lr := BR.out.lt
      clear hbel br
      by_cases hlt : k < n
      · obtain ⟨b, o, rfl, hl1, c1, c2, c3, c4⟩ := (hr.below HB.out).ord_at hlt
        obtain ⟨b', o', rfl, hl2, d1⟩ := (hf.below HB.out).int_at hlt
        obtain ⟨f0, f1⟩ := HG3.out k hl1 hl2
        obtain ⟨_, z1, z2, z3⟩ := HG.out _ (List.getElem_mem hl1)
        have HN : Hid (∀ bb, Pl.sideS bb ((l.zip fs).take (k + 1)) = Pl.sideS bb ((l.zip fs).take k) + Pl.sidep bb (l[k], fs[k])) := fun bb => by
          rw [List.take_succ_eq_append_getElem (by rw [List.length_zip]; omega), Pl.sideS_snoc, List.getElem_zip]
        generalize fs[k] = f at *
        generalize l[k] = z at *
        obtain ⟨nm, bz, pw, pr⟩ := z
        simp only at c1 c2 c3 c4 f1 z1 z2 z3
        have hsz := HB.out.size
        have k1 : (0 : Int) ≤ (k : Int) := by omega
        have k2 : (k : Int) < (n : Int) := by omega
        have BN := Lib.hid (Blk.new_ wr wr.heap.size 32 #[.string nm, .bool bz, .int .i64 pw, .int .i64 pr] rfl)
        have BR2 := Lib.hid (BR.out.alloc (.cells #[.string nm, .bool bz, .int .i64 pw, .int .i64 pr] 32))
        have HBN := Lib.hid (HB.out.alloc HB.out.size (.cells #[.string nm, .bool bz, .int .i64 pw, .int .i64 pr] 32))
        have q4 : (wr.alloc (.cells #[.string nm, .bool bz, .int .i64 pw, .int .i64 pr] 32)).cell? ⟨b', o' + k, none⟩ = some (.int .i64 f) := by rw [World.cell?_alloc_some _ _ _ (by rw [d1]; rfl)]; exact d1
        have r2 : (wr.alloc (.cells #[.string nm, .bool bz, .int .i64 pw, .int .i64 pr] 32)).cell? ⟨w.heap.size, 2, none⟩ = some (.slice (some ⟨b', o', none⟩) n d) := BR2.out.cell 2
        have q1 : (wr.alloc (.cells #[.string nm, .bool bz, .int .i64 pw, .int .i64 pr] 32)).cell? ⟨wr.heap.size, 1, none⟩ = some (.bool bz) := BN.out.cell 1
        clear d1
        cases bz
        all_goals
          go_wp2_with fail
          go_roundw
          case rel =>
            refine ⟨k + 1, _, _, by omega, by go_num, rfl, rfl, ?_, ?_, by omega, by omega, by omega, by omega, BR2.out, HBN.out⟩
            · show _ = _
              rw [HN.out, HT.out]
              unfold Pl.sidep
              simp
            · show _ = _
              rw [HN.out, HU.out]
              unfold Pl.sidep
              simp
          case measure => simp [intOf]; omega
      · have : k = n := by omega
        subst this
        have hz : (l.zip fs).length ≤ k := by rw [List.length_zip, L1.out, L2.out]; omega
        rw [List.take_of_length_le hz] at HT HU
        have c1 := BR.out.cell
        rw [HT.out, HU.out] at HS
        by_cases e1 : t = u
        · by_cases e2 : t = q
          · have HF := Lib.hid (HFT.out wr (hr.go HB.out) (hf.go HB.out))
            rw [if_neg (by omega)] at HS
            generalize Pl.fit l fs = ft at *
            obtain ⟨lo, hi⟩ := ft
            simp only at HF HS
            have x1 : (t != u) = false := by simpa using e1
            have x2 : (t != q) = false := by simpa using e2
            clear HFT e1 e2
            go_wp2_with fail
            refine HF.out.mono ?_
            rintro e w2 ⟨rfl, hb⟩
            have HB2 := Lib.hid (HB.out.trans (hb.mono HB.out.size))
            have c1 := (BR.out.go hb).cell
            have lr2 := (BR.out.go hb).lt
            clear hb
            by_cases a1 : hi < lo
            · have HE : Hid (Pl.verif p q l fs = 21) := by show _ = _; rw [HS, if_pos (.inl a1)]
              clear HS
              go_wp2_with fail
              go_ret
              exact ⟨by rw [HE.out]; rfl, HB2.out⟩
            · by_cases a2 : q = 0
              · have x3 : (q != 0) = false := by simpa using a2
                have HE : Hid (Pl.verif p q l fs = 0) := by show _ = _; rw [HS, if_neg (by omega)]
                clear a2
                clear HS
                go_wp2_with fail
                go_ret
                exact ⟨by rw [HE.out]; rfl, HB2.out⟩
              · have x3 : (q != 0) = true := by simpa using a2
                by_cases a3 : p < lo
                · have HE : Hid (Pl.verif p q l fs = 21) := by show _ = _; rw [HS, if_pos (.inr ⟨a2, .inl a3⟩)]
                  clear HS
                  go_wp2_with fail
                  go_ret
                  exact ⟨by rw [HE.out]; rfl, HB2.out⟩
                · by_cases a4 : hi < p
                  · have HE : Hid (Pl.verif p q l fs = 21) := by show _ = _; rw [HS, if_pos (.inr ⟨a2, .inr a4⟩)]
                    clear HS
                    go_wp2_with fail
                    go_ret
                    exact ⟨by rw [HE.out]; rfl, HB2.out⟩
                  · have HE : Hid (Pl.verif p q l fs = 0) := by show _ = _; rw [HS, if_neg (by omega)]
                    clear HS
                    go_wp2_with fail
                    go_ret
                    exact ⟨by rw [HE.out]; rfl, HB2.out⟩
          · have x1 : (t != u) = false := by simpa using e1
            have x2 : (t != q) = true := by simpa using e2
            rw [if_pos (.inr e2)] at HS
            clear e1 e2
            go_wp2_with fail
            go_ret
            exact ⟨by rw [HS.out]; rfl, HB.out⟩
        · have x1 : (t != u) = true := by simpa using e1
          rw [if_pos (.inl e1)] at HS
          clear e1
          go_wp2_with fail
          go_ret
          exact ⟨by rw [HS.out]; rfl, HB.out⟩
  · have HE : Hid (Pl.verif p q l fs = Pl.cfills l fs) := by show _ = _; unfold Pl.verif; rw [if_pos h0]
    have h2 : (Pl.cfills l fs != 0) = true := by simpa using h0
    clear h0
    generalize Pl.cfills l fs = u at *
    go_enter Try.func25, Try.ntmps25
    go_wp2_with fail
    refine (HC.out _ (hr.go HB0.out) (hf.go HB0.out)).mono ?_
    rintro e w1 ⟨rfl, hb⟩
    have HB1 := Lib.hid (HB0.out.trans (hb.mono HB0.out.size))
    clear hb
    go_wp2_with fail
    go_ret
    exact ⟨by rw [HE.out]; rfl, HB1.out⟩
end Go.Proofs.Ytpbomomgjhbljaa
