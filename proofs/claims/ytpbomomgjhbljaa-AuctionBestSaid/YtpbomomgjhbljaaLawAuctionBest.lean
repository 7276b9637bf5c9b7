/- The law AuctionBest: for all valid lengths the call returns true, and old memory is left as it is. No condition. -/
import Derived.Test.YtpbomomgjhbljaaLawAuctionVerified
import Derived.Test.YtpbomomgjhbljaaFine
namespace Go.Proofs.Ytpbomomgjhbljaa
open Go.RowKit
namespace Pl
theorem surp_ex : surp 6 soldL [10, 10] = (30, 0) := by kernel_rfl
theorem surp_of {l : List Ord} {fs : List Int} {p : Int} (h : cfills l fs = 0) (h0 : -2000000 ≤ p) (h1 : p ≤ 2000000) : surp p l fs = (gains p (l.zip fs), 0) := by
  unfold surp
  rw [if_neg (by simp [h]), if_neg (by omega)]
theorem cPrice_bd {l : List Ord} {fs : List Int} {q : Int} (h0 : acheck l = 0) (h : Cleared l fs q) : -1000000 ≤ cPrice l fs q ∧ cPrice l fs q ≤ 1000000 := by
  unfold cPrice
  split
  · rename_i hq
    have := h.fit_bd hq (fun x hx => (oAt_good h0 x hx).2.2)
    have := h.fits
    omega
  · omega
/-- what the law's loop gives -/
def wFills (l : List Ord) (gs : List Int) : List Int := (l.zip gs).map fun x => withinF x.2 0 x.1.pow
theorem wFills_len {l : List Ord} {gs : List Int} (h : gs.length = l.length) : (wFills l gs).length = l.length := by unfold wFills; rw [List.length_map, List.length_zip]; omega
theorem wFills_at {l : List Ord} {gs : List Int} {k : Nat} (h1 : k < l.length) (h2 : k < gs.length) : fAt (wFills l gs) k = withinF gs[k] 0 l[k].pow := by
  have e : (wFills l gs)[k]? = some (withinF gs[k] 0 l[k].pow) := by
    unfold wFills
    rw [List.getElem?_map, List.getElem?_eq_getElem (by rw [List.length_zip]; omega), List.getElem_zip]
    rfl
  unfold fAt
  rw [List.getD_eq_getElem?_getD, e]
  rfl
theorem wFills_rng {l : List Ord} {gs : List Int} (h0 : acheck l = 0) (h : gs.length = l.length) (i : Nat) (hi : i < l.length) : 0 ≤ fAt (wFills l gs) i ∧ fAt (wFills l gs) i ≤ (oAt l i).pow := by
  rw [wFills_at hi (by omega)]
  have h1 := oAt_good h0 i hi
  rw [oAt_eq hi] at h1 ⊢
  exact withinF_bd _ _ _ (by omega)
theorem wFills_ok {l : List Ord} {gs : List Int} (h0 : acheck l = 0) (h : gs.length = l.length) : cfills l (wFills l gs) = 0 := by
  unfold cfills
  rw [if_neg (by simpa using h0), if_neg (by simp [wFills_len h]), if_neg]
  unfold has
  rw [Bool.not_eq_true, List.any_eq_false]
  intro x hx
  obtain ⟨i, hi, rfl⟩ := zip_mem (wFills_len h) hx
  obtain ⟨g1, g2⟩ := wFills_rng h0 h i hi
  unfold badFill
  simp
  omega
theorem wFills_take {l : List Ord} {gs : List Int} {k : Nat} (h1 : k < l.length) (h2 : k < gs.length) : (wFills l gs).take (k + 1) = (wFills l gs).take k ++ [withinF gs[k] 0 l[k].pow] := by
  have hl : k < (wFills l gs).length := by unfold wFills; rw [List.length_map, List.length_zip]; omega
  rw [List.take_succ_eq_append_getElem hl, ← wFills_at h1 h2, fAt_eq hl]
theorem sideS_take {b : Bool} {l : List Ord} {gs : List Int} {k : Nat} (h1 : k < l.length) (h2 : k < gs.length) : sideS b ((l.zip (wFills l gs)).take (k + 1)) = sideS b ((l.zip (wFills l gs)).take k) + if l[k].buy = b then withinF gs[k] 0 l[k].pow else 0 := by
  have hl : k < (wFills l gs).length := by unfold wFills; rw [List.length_map, List.length_zip]; omega
  rw [List.take_succ_eq_append_getElem (by rw [List.length_zip]; omega), sideS_snoc, List.getElem_zip, ← wFills_at h1 h2, fAt_eq hl]
  rfl
end Pl
set_option maxHeartbeats 6400000 in
set_option maxRecDepth 100000 in
theorem auctionBest_walk (A : Option Addr) (n c : Nat) (l : List Pl.Ord) (B : Option Addr) (m d : Nat) (gs : List Int) (oth : Int) (w : World) (hcap : n ≤ c) (hs : ∀ a ∈ l, OrdIn a) (hr : Reads w w.heap.size 4 A n (orders l)) (hf : Reads w w.heap.size 1 B m (ints gs)) :
    Calls Try.prog 5 #[.slice A n c, .slice B m d, .int .i64 oth] w fun e w' => e = .returned (.bool true) ∧ Below w.heap.size w w' := by
  have L1 := Lib.hid hr.ord_len
  have L2 := Lib.hid hf.int_len
  have HSZ : Hid (∀ z ∈ l, z.name.size ≤ 9223372036854775807) := fun z hz => (hs z hz).1
  have HSL := Lib.hid (fun A B c d w h hr hf => surplus_any A B 2 2 c d Pl.soldL [10, 10] 6 10 w h (by intro z hz; simp [Pl.soldL] at hz; rcases hz with rfl | rfl <;> decide) hr hf)
  rw [Pl.surp_ex] at HSL
  unfold vRes at HSL
  clear hs
  go_enter Try.func5, Try.ntmps5
  go_wp2_with fail
  have HB1 := Lib.hid (((Below.refl w.heap.size w).alloc (Nat.le_refl _) (.cells #[.string ⟨#[65]⟩, .bool true, .int .i64 10, .int .i64 8, .string ⟨#[66]⟩, .bool false, .int .i64 10, .int .i64 5] 32)).alloc (by simp) (.cells #[.int .i64 10, .int .i64 10] 3))
  have RA := Lib.hid ((soldL_reads w w.heap.size rfl).go ((Below.refl _ _).alloc (Nat.le_refl _) (.cells #[.int .i64 10, .int .i64 10] 3)))
  have RB : Hid (Reads ((w.alloc (.cells #[.string ⟨#[65]⟩, .bool true, .int .i64 10, .int .i64 8, .string ⟨#[66]⟩, .bool false, .int .i64 10, .int .i64 5] 32)).alloc (.cells #[.int .i64 10, .int .i64 10] 3)) _ 1 (some ⟨w.heap.size + 1, 0, none⟩) 2 (ints [10, 10])) := Reads.lit _ #[.int .i64 10, .int .i64 10] 3 2 1 _ (by simp) rfl
  refine (HSL.out _ _ _ _ _ (by decide) RA.out RB.out).mono ?_
  rintro e w1 ⟨rfl, hb⟩
  have HB2 := Lib.hid (HB1.out.trans (hb.mono HB1.out.size))
  clear hb RA RB HB1 HSL
  go_wp2_with fail
  refine (sold_any _).mono ?_
  rintro e w2 ⟨rfl, hb⟩
  have HB3 := Lib.hid (HB2.out.trans (hb.mono HB2.out.size))
  clear hb HB2
  go_wp2_with fail
  by_cases h0 : Pl.acheck l = 0
  · have HA0 := Lib.hid h0
    have h32 := Pl.acheck_len h0
    have hn32 : n ≤ 32 := by have := L1.out; omega
    clear h0 h32
    refine (clear_good A n c l w2 hcap HSZ.out (hr.go HB3.out) HA0.out).mono ?_
    rintro e w3 ⟨Ar, fs, q, rfl, hc, q0, q1, hfr, hb⟩
    obtain ⟨pb1, pb2⟩ := Pl.cPrice_bd HA0.out hc
    have HC := Lib.hid hc
    have HF := Lib.hid hfr
    have HB4 := Lib.hid (HB3.out.trans (hb.mono HB3.out.size))
    have HVE := Lib.hid (fun B m d fs p q w hr hf => surplus_any A B n m c d l fs p q w hcap HSZ.out hr hf)
    have HC0 := Lib.hid (Pl.cfills_zero HA0.out hc)
    unfold vRes at HVE
    unfold vRes
    clear hc hfr hb HB3
    generalize Pl.cPrice l fs q = p at *
    have HS1 := Lib.hid (Pl.surp_of HC0.out (p := p) (by omega) (by omega))
    have ho := Pl.withinF_bd oth (-1000000) 1000000 (by omega)
    have HW1 := Lib.hid (fun w => within_any2 oth (-1000000) 1000000 w (by omega) (by omega) (by omega))
    generalize Pl.withinF oth (-1000000) 1000000 = p2 at *
    have HS2 := Lib.hid (Pl.surp_of HC0.out (p := p2) (by omega) (by omega))
    have HEQ : Hid (Pl.gains p2 (l.zip fs) = Pl.gains p (l.zip fs)) := by show _ = _; rw [Pl.gains_move p2 p, HC.out.buys, HC.out.sells]; simp
    have HPOS := Pl.surplus_pos (p := p) HC.out (fun i hi => by have := Pl.oAt_good HA0.out i hi; omega)
    rw [HEQ.out] at HS2
    go_wp2_with fail
    have HB5 := Lib.hid (HB4.out.alloc HB4.out.size (.cells #[.int .i64 p, .int .i64 q, .slice Ar n n] 35))
    have HF5 := Lib.hid (HF.out.go ((Below.refl w3.heap.size w3).alloc (Nat.le_refl _) (.cells #[.int .i64 p, .int .i64 q, .slice Ar n n] 35)))
    have BX5 := Lib.hid (Blk.new_ w3 w3.heap.size 35 #[.int .i64 p, .int .i64 q, .slice Ar n n] rfl)
    refine (HVE.out _ _ _ fs p q _ (hr.go HB5.out) HF5.out).mono ?_
    rintro e w4 ⟨rfl, hb⟩
    rw [HS1.out]
    have HB6 := Lib.hid (HB5.out.trans (hb.mono HB5.out.size))
    have HF6 := Lib.hid (HF5.out.go hb)
    have BX6 := Lib.hid (BX5.out.go hb)
    have bxl : w.heap.size ≤ w3.heap.size := HB4.out.size
    have hz6 : w3.heap.size < w4.heap.size := BX6.out.lt
    clear hb HB4 HF HB5 HF5 BX5 HS1
    generalize hG : Pl.gains p (l.zip fs) = G at *
    have HGG := Lib.hid hG
    clear hG
    generalize w3.heap.size = bx at *
    have bc := BX6.out.cell
    go_wp2_with fail
    refine (HW1.out _).mono ?_
    rintro e w5 ⟨rfl, rfl⟩
    have BX7 := Lib.hid (BX6.out.alloc (.cells #[.int .i64 p, .int .i64 q, .slice Ar n n] 35))
    have BY7 := Lib.hid (Blk.new_ w4 w4.heap.size 35 #[.int .i64 p, .int .i64 q, .slice Ar n n] rfl)
    have HB7 := Lib.hid (HB6.out.alloc HB6.out.size (.cells #[.int .i64 p, .int .i64 q, .slice Ar n n] 35))
    have HF7 := Lib.hid (HF6.out.go ((Below.refl w4.heap.size w4).alloc (Nat.le_refl _) (.cells #[.int .i64 p, .int .i64 q, .slice Ar n n] 35)))
    have hyw : w.heap.size ≤ w4.heap.size := HB6.out.size
    clear bc BX6 HB6 HW1
    have HF7b : Hid (Reads (w4.alloc (.cells #[.int .i64 p, .int .i64 q, .slice Ar n n] 35)) w4.heap.size 1 Ar n (ints fs)) := HF6.out.alloc (Nat.le_refl _) _
    clear HF6 HF7
    generalize w4.heap.size = yb at *
    generalize w4.alloc (.cells #[.int .i64 p, .int .i64 q, .slice Ar n n] 35) = w5 at *
    have bc := BY7.out.cell
    have bf := BY7.out.frozen
    have bl := BY7.out.lt
    go_wp2_with fail
    have BX8 := Lib.hid (BX7.out.far (p := ⟨yb, 0, none⟩) (by simp; omega) (.int .i64 p2))
    have BY8 := Lib.hid (BY7.out.set_ 0 (.int .i64 p2))
    have HB8 := Lib.hid (HB7.out.setCell (p := ⟨yb, 0, none⟩) hyw (.int .i64 p2))
    have HF8 := Lib.hid ((HF7b.out.setCell (p := ⟨yb, 0, none⟩) (Nat.le_refl _) (.int .i64 p2)).more (B' := (w5.setCell ⟨yb, 0, none⟩ (.int .i64 p2)).heap.size) (by simp; omega))
    clear bc bf bl BX7 BY7 HB7 HF7b
    generalize w5.setCell ⟨yb, 0, none⟩ (.int .i64 p2) = w6 at *
    refine (HVE.out _ _ _ fs p2 q _ (hr.go HB8.out) HF8.out).mono ?_
    rintro e w7 ⟨rfl, hb⟩
    rw [HS2.out]
    have HB9 := Lib.hid (HB8.out.trans (hb.mono HB8.out.size))
    have BX9 := Lib.hid (BX8.out.go hb)
    clear hb HB8 BX8 BY8 HF8 HS2
    have HOK := Lib.hid (fun A c w h => fine_any A 2 c [0, 0] w.heap.size w (by omega) h)
    go_wp2_with fail
    have HBF := Lib.hid (HB9.out.alloc HB9.out.size (.cells #[.int .i64 0, .int .i64 0] 23))
    have BXF := Lib.hid (BX9.out.alloc (.cells #[.int .i64 0, .int .i64 0] 23))
    refine (HOK.out _ _ _ (Reads.lit w7 #[.int .i64 0, .int .i64 0] 23 2 1 _ rfl rfl)).mono ?_
    rintro e w8 ⟨rfl, rfl⟩
    rw [show allOk [0, 0] = true from rfl]
    have g1 : (G != G) = false := by simp
    have g2 : decide (G < 0) = false := decide_eq_false (by omega)
    clear HB9 BX9 HOK
    generalize w7.alloc (.cells #[.int .i64 0, .int .i64 0] 23) = w8 at *
    by_cases hm : m = n
    · obtain rfl : n = m := hm.symm
      have g3 : ((n : Int) != (n : Int)) = false := by simp
      have bc := BXF.out.cell
      go_wp2_with fail
      have BY := Lib.hid (Blk.new_ w8 w8.heap.size 35 #[.int .i64 p, .int .i64 0, .slice none 0 0] rfl)
      have HBY := Lib.hid (HBF.out.alloc HBF.out.size (.cells #[.int .i64 p, .int .i64 0, .slice none 0 0] 35))
      have hyw2 : w.heap.size ≤ w8.heap.size := HBF.out.size
      have LG : Hid (gs.length = l.length) := by show _ = _; rw [L1.out, L2.out]
      have HWL := Lib.hid (Pl.wFills_len LG.out)
      obtain ⟨i0, hi0, hz0, hz1, hz2⟩ := info_parts info_int
      clear bc BXF HBF
      generalize w8.heap.size = y9 at *
      generalize w8.alloc (.cells #[.int .i64 p, .int .i64 0, .slice none 0 0] 35) = w9 at *
      go_loopw [16, 17, 94] (fun v1 v2 i wr => ∃ (k : Nat) (t u : Int) (Ay : Option Addr) (cy : Nat), k ≤ n ∧ i = .int .i64 k ∧ v1 = .int .i64 t ∧ v2 = .int .i64 u ∧ 0 ≤ t ∧ t ≤ 100000 * (k : Int) ∧ 0 ≤ u ∧ u ≤ 100000 * (k : Int) ∧
        Hid (Pl.sideS true ((l.zip (Pl.wFills l gs)).take k) = t) ∧ Hid (Pl.sideS false ((l.zip (Pl.wFills l gs)).take k) = u) ∧ Hid (wr.ownsRow (y9 + 1) 3 1 (.slice Ay k cy) k (ints ((Pl.wFills l gs).take k))) ∧
        Hid (Blk wr y9 35 #[.int .i64 p, .int .i64 0, .slice Ay k cy]) ∧ Hid (Below w.heap.size w wr)) (fun _ _ i _ => n - (intOf i).toNat)
      case atStart => exact ⟨0, 0, 0, none, 0, Nat.zero_le _, rfl, rfl, rfl, by omega, by omega, by omega, by omega, rfl, rfl, World.ownsRow_nil _ _ _ _, BY, HBY⟩
      case round =>
        clear BY HBY
        obtain ⟨k, t, u, Ay, cy, hk, rfl, rfl, rfl, t0, t1, u0, u1, HT, HU, OF, BY, HB⟩ := hrel
        by_cases hlt : k < n
        · obtain ⟨b, o, rfl, hl1, c1, c2, c3, c4⟩ := (hr.below HB.out).ord_at hlt
          obtain ⟨b', o', rfl, hl2, d1⟩ := (hf.below HB.out).int_at hlt
          have hg := Pl.oAt_good HA0.out k (by rw [L1.out]; exact hlt)
          rw [Pl.oAt_eq hl1] at hg
          have HTN : Hid (Pl.sideS true ((l.zip (Pl.wFills l gs)).take (k + 1)) = t + if l[k].buy = true then Pl.withinF gs[k] 0 l[k].pow else 0) := by show _ = _; rw [Pl.sideS_take hl1 hl2, HT.out]
          have HUN : Hid (Pl.sideS false ((l.zip (Pl.wFills l gs)).take (k + 1)) = u + if l[k].buy = false then Pl.withinF gs[k] 0 l[k].pow else 0) := by show _ = _; rw [Pl.sideS_take hl1 hl2, HU.out]
          have HFN : Hid ((Pl.wFills l gs).take (k + 1) = (Pl.wFills l gs).take k ++ [Pl.withinF gs[k] 0 l[k].pow]) := Pl.wFills_take hl1 hl2
          have hwb := Pl.withinF_bd gs[k] 0 l[k].pow (by omega)
          have HW2 := Lib.hid (fun w => (within_any2 gs[k] 0 l[k].pow w (by omega) (by omega) (by omega)).mono (fun _ _ h => And.intro h.1 h.2.symm))
          generalize Pl.withinF gs[k] 0 l[k].pow = x at *
          generalize gs[k] = gk at *
          generalize l[k] = z at *
          obtain ⟨nm, bz, pw, pr⟩ := z
          simp only at c1 c2 c3 c4 hg hwb HTN HUN HW2
          generalize (Pl.wFills l gs).take k = F0 at *
          have hsz := HB.out.size
          have k1 : (0 : Int) ≤ (k : Int) := by omega
          have k2 : (k : Int) < (n : Int) := by omega
          have BN := Lib.hid (Blk.new_ wr wr.heap.size 32 #[.string nm, .bool bz, .int .i64 pw, .int .i64 pr] rfl)
          have BYN := Lib.hid (BY.out.alloc (.cells #[.string nm, .bool bz, .int .i64 pw, .int .i64 pr] 32))
          have OFN := Lib.hid (OF.out.alloc (.cells #[.string nm, .bool bz, .int .i64 pw, .int .i64 pr] 32))
          have HBN := Lib.hid (HB.out.alloc HB.out.size (.cells #[.string nm, .bool bz, .int .i64 pw, .int .i64 pr] 32))
          have q4 : (wr.alloc (.cells #[.string nm, .bool bz, .int .i64 pw, .int .i64 pr] 32)).cell? ⟨b', o' + k, none⟩ = some (.int .i64 gk) := by rw [World.cell?_alloc_some _ _ _ (by rw [d1]; rfl)]; exact d1
          have E2 := own_ne OF.out (g := wr.heap.size) (.inr (Nat.le_refl _))
          have hy9 := BY.out.lt
          go_wp2_with fail
          clear c1 c2 c3 c4 d1 OF BY HB
          generalize wr.alloc (.cells #[.string nm, .bool bz, .int .i64 pw, .int .i64 pr] 32) = w2 at *
          generalize wr.heap.size = bn at *
          have q2 : w2.cell? ⟨bn, 2, none⟩ = some (.int .i64 pw) := BN.out.cell 2
          go_quiet ((go_at_call 24; exact Calls.quiet_of_same (HW2.out _)))
          have BY4 := Lib.hid (BYN.out.drewN nq)
          have BN4 := Lib.hid (BN.out.drewN nq)
          have OF4 : Hid ((w2.drewN nq).ownsRow (y9 + 1) 3 1 (.slice Ay k cy) k (ints F0)) := OFN.out
          have HB4 := Lib.hid (below_drewN_s HBN.out nq)
          clear q2 q4 BYN BN OFN HBN HW2
          generalize w2.drewN nq = w4 at *
          have hz4 := BY4.out.lt
          have bc := BY4.out.cell
          have q1 : w4.cell? ⟨bn, 1, none⟩ = some (.bool bz) := BN4.out.cell 1
          have n4 : y9 < y9 + 1 := Nat.lt_succ_self _
          cases bz
          all_goals
            go_wp2_with (at_builtin; go_must (refine wpList_append_grow _ rfl (.tmp 107) (.tmp 109) 22 rfl (y9 + 1) 3 i0 _ 1 8 Try.underlying22 hi0 hz0 hz1 hz2 rfl (by decide) (.slice Ay k cy) k (ints F0) rfl OF4.out (by omega) #[.int .i64 x] rfl rfl (by simp) (by simp [Value.oneCell']) (by unfold maxLen; omega) (by omega) ?_); intro v' w3 hown3 hg3 hsz3; obtain ⟨A3, c3, rfl, hrd3⟩ := own_slice hown3; have E1 := own_ne OF4.out (g := y9) (.inl n4); have BY5 := Lib.hid (BY4.out.grown hg3 E1); have BN5 := Lib.hid (BN4.out.grown hg3 E2); have c9 := BY5.out.cell; have f9 := BY5.out.frozen; have l9 := BY5.out.lt; have q9 := BN5.out.cell 1; have HO3 := Lib.hid hown3; have HG3 := Lib.hid hg3; clear E1 hrd3 hown3 hg3)
            have HB6 := Lib.hid ((below_grown HB4.out HG3.out OF4.out (by omega) (by omega)).setCell (p := ⟨y9, 2, none⟩) hyw2 (.slice A3 (k + 1) c3))
            have BY6 := Lib.hid (BY5.out.set_ 2 (.slice A3 (k + 1) c3))
            have OF6 := Lib.hid (own_far HO3.out (p := ⟨y9, 2, none⟩) n4 (.slice A3 (k + 1) c3))
            go_roundw
            case rel =>
              refine ⟨k + 1, _, _, A3, c3, by omega, by go_num, rfl, rfl, by omega, by omega, by omega, by omega, ?_, ?_, ?_, BY6, HB6⟩
              · show _ = _
                rw [HTN.out]
                simp
              · show _ = _
                rw [HUN.out]
                simp
              · rw [HFN.out]
                have := OF6.out
                unfold ints at this ⊢
                rw [List.map_append]
                exact this
            case measure => simp [intOf]; omega
        · have : k = n := by omega
          subst this
          have hzl : (l.zip (Pl.wFills l gs)).length ≤ k := by rw [List.length_zip, HWL.out, L1.out]; omega
          have HFT : Hid ((Pl.wFills l gs).take k = Pl.wFills l gs) := List.take_of_length_le (by rw [HWL.out, L1.out]; exact Nat.le_refl _)
          rw [HFT.out] at OF
          rw [List.take_of_length_le hzl] at HT HU
          have HS3 := Lib.hid (Pl.surp_of (Pl.wFills_ok HA0.out LG.out) (p := p) (by omega) (by omega))
          have bc := BY.out.cell
          have bl := BY.out.lt
          go_wp2_with fail
          refine (HVE.out _ _ _ (Pl.wFills l gs) p 0 wr (hr.go HB.out) (Reads.of_own OF.out)).mono ?_
          rintro e w10 ⟨rfl, hb⟩
          rw [HS3.out]
          have HB10 := Lib.hid (HB.out.trans (hb.mono HB.out.size))
          by_cases e1 : t = u
          · have HBST := Pl.surplus_best (p := p) HC.out HWL.out (Pl.wFills_rng HA0.out LG.out) (by rw [HT.out, HU.out, e1])
            rw [HGG.out] at HBST
            have g5 : (t != u) = false := by simpa using e1
            clear hb e1
            generalize Pl.gains p (l.zip (Pl.wFills l gs)) = K at *
            go_wp2_with fail
            go_ret
            exact ⟨rfl, HB10.out⟩
          · have g5 : (t != u) = true := by simpa using e1
            clear hb e1
            go_wp2_with fail
            go_ret
            exact ⟨rfl, HB10.out⟩
    · have g3 : ((m : Int) != (n : Int)) = true := by simp; omega
      go_wp2_with fail
      go_ret
      exact ⟨rfl, HBF.out⟩
  · have hne : (Pl.acheck l != 0) = true := by simpa using h0
    refine (clear_bad A n c l w2 hcap HSZ.out (hr.go HB3.out) h0).mono ?_
    rintro e w3 ⟨rfl, hb⟩
    have HB4 := Lib.hid (HB3.out.trans (hb.mono HB3.out.size))
    clear h0 hb
    generalize Pl.acheck l = u at *
    unfold vRes
    go_wp2_with fail
    go_ret
    exact ⟨rfl, HB4.out.alloc HB4.out.size _⟩
end Go.Proofs.Ytpbomomgjhbljaa
