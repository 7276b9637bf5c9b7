/- The law TopLedger, its walk: the results of an auction are settled at its price, the text of the entries is read as these entries, and no order to sell could gain more. Condition: the orders lie in memory as the words say; the library's tables lie as they are laid. -/
import Derived.Test.YtibhgcldogfonaaGreatDoorPTopL
import Derived.Test.YtibhgcldogfonaaGreatDoorSettle
import Derived.Test.YtibhgcldogfonaaGreatDoorLedH
import Derived.Test.YtibhgcldogfonaaGreatDoorEnvy
import Derived.Test.YtibhgcldogfonaaGreatDoorFineT
import Derived.Test.YtibhgcldogfonaaGreatDoorClr
namespace Go.Proofs.YtibhgcldogfonaaGreatDoor
open Go.RowKit
namespace Pl
def soldL : List Ord := [⟨⟨#[65]⟩, true, 10, 8⟩, ⟨⟨#[66]⟩, false, 10, 5⟩]
theorem soldL_ok : acheck soldL = 0 := by kernel_rfl
theorem sold_of {fs : List Int} {q : Int} (h : Cleared soldL fs q) : q = 10 ∧ fs = [10, 10] := by
  have hl : fs.length = 2 := h.len
  obtain ⟨a, b, rfl⟩ : ∃ a b, fs = [a, b] := by
    match fs, hl with
    | [a, b], _ => exact ⟨a, b, rfl⟩
  have h1 : a = q := by have := h.buys; simp [sideS, soldL, sidep] at this; exact this
  have h2 : b = q := by have := h.sells; simp [sideS, soldL, sidep] at this; exact this
  obtain ⟨t, ht⟩ := h.ends
  have e1 := (ht 0 (by decide)).1 rfl
  have e2 := (ht 1 (by decide)).2 rfl
  have e1' : t < 8 → a = 10 := e1
  have e2' : 5 ≤ t → b = 10 := e2
  have : q = 10 := by omega
  subst this
  exact ⟨rfl, by rw [h1, h2]⟩
theorem sold_price {fs : List Int} {q : Int} (h : Cleared soldL fs q) : q = 10 ∧ cPrice soldL fs q = 6 := by
  obtain ⟨h1, h2⟩ := sold_of h
  subst h1 h2
  exact ⟨rfl, by decide⟩
theorem two_ok : opcheck ⟨#[65]⟩ [(10, 5), (10, 8)] 5 = 0 := by kernel_rfl
theorem two_envy : envyV 8 [(10, 5), (10, 8)] 5 = 15 := by decide +kernel
theorem ab_one {left : List Int} {out : List LE} (h : SInv [[65], [66]] [-5, 5] left out) (hz : ∀ x ∈ left, x = 0) : out.length = 1 := by
  have hnz : nz left = 0 := by
    unfold nz
    rw [List.countP_eq_zero]
    intro x hx
    rw [hz x hx]
    decide
  rcases h.cnt.2 hnz with h1 | h1
  · have h2 : 1 ≤ out.length := by
      rcases Nat.eq_zero_or_pos out.length with h0 | h0
      · have e := h.fst (List.eq_nil_of_length_eq_zero h0)
        have := hz (-5) (by rw [e]; simp)
        omega
      · exact h0
    have h3 : ([-5, 5] : List Int).length = 2 := rfl
    omega
  · have e := h.fst h1
    have := hz (-5) (by rw [e]; simp)
    omega
end Pl
theorem soldL_reads (w : World) (g : Nat) (hg : g = w.heap.size) : Reads (w.alloc (.cells #[.string ⟨#[65]⟩, .bool true, .int .i64 10, .int .i64 8, .string ⟨#[66]⟩, .bool false, .int .i64 10, .int .i64 5] 24)) (w.alloc (.cells #[.string ⟨#[65]⟩, .bool true, .int .i64 10, .int .i64 8, .string ⟨#[66]⟩, .bool false, .int .i64 10, .int .i64 5] 24)).heap.size 4 (some ⟨g, 0, none⟩) 2 (orders Pl.soldL) :=
  Reads.lit w _ _ 2 4 g hg rfl
theorem blocks_new {v v' u : Value} {m m' : Nat} (h : v'.ownBlock = v.ownBlock ∨ v'.ownBlock = some m) (hne : ∀ g, v.ownBlock = some g → u.ownBlock ≠ some g) (hlt : ∀ g, u.ownBlock = some g → g < m') (hm : m' ≤ m) : ∀ g, v'.ownBlock = some g → u.ownBlock ≠ some g := fun g hg e => by
  rcases h with h | h
  · exact hne g (h ▸ hg) e
  · rw [h] at hg
    injection hg with hg
    have := hlt g e
    omega
theorem ints_snoc (l : List Int) (x : Int) : ints (l ++ [x]) = ints l ++ [.int .i64 x] := by simp [ints]
theorem own_apartV {w w' : World} {base n size : Nat} {e : TypeId} {v : Value} {xs : List Value} {row : Option Nat} (h : w.ownsRow base e size v n xs) (hg : w.grownBy w' row) (hne : ∀ g, v.ownBlock = some g → row ≠ some g) : w'.ownsRow base e size v n xs := by
  refine ⟨h.1, ?_⟩
  rcases h.2 with h2 | ⟨g', cap, cur, hv, hb, hh, r⟩
  · exact .inl h2
  · subst hv
    have hlt : g' < w.heap.size := by
      rcases Nat.lt_or_ge g' w.heap.size with h | h
      · exact h
      · rw [Array.getElem?_eq_none h] at hh; cases hh
    exact .inr ⟨g', cap, cur, rfl, hb, (hg.block g' hlt fun e => hne g' rfl e.symm).trans hh, r⟩
set_option maxRecDepth 100000 in
theorem two_any (nm : ByteArray) (w : World) : Calls Tryz.prog 8 #[.string nm] w fun e w' => ∃ g, e = .returned (.agg #[.string nm, .slice (some ⟨g, 0, none⟩) 2 2]) ∧ Reads w' w'.heap.size 2 (some ⟨g, 0, none⟩) 2 (pairs [(10, 5), (10, 8)]) ∧ Below w.heap.size w w' := by
  go_enter Tryz.func8, Tryz.ntmps8
  go_wp2_with fail
  have hsz : (w.alloc (.cells #[.string nm, .slice (some ⟨w.heap.size + 1, 0, none⟩) 2 2] 43)).heap.size = w.heap.size + 1 := by simp
  have bc := ((Blk.new_ w w.heap.size 43 #[.string nm, .slice (some ⟨w.heap.size + 1, 0, none⟩) 2 2] rfl).alloc (.cells #[.int .i64 10, .int .i64 5, .int .i64 10, .int .i64 8] 46)).cell
  have hr := Reads.lit (w.alloc (.cells #[.string nm, .slice (some ⟨w.heap.size + 1, 0, none⟩) 2 2] 43)) #[.int .i64 10, .int .i64 5, .int .i64 10, .int .i64 8] 46 2 2 (w.heap.size + 1) hsz.symm rfl
  have HB := ((Below.refl w.heap.size w).alloc (Nat.le_refl _) (.cells #[.string nm, .slice (some ⟨w.heap.size + 1, 0, none⟩) 2 2] 43)).alloc (by rw [hsz]; exact Nat.le_succ _) (.cells #[.int .i64 10, .int .i64 5, .int .i64 10, .int .i64 8] 46)
  exact bodyPost_ret (v := .agg #[.string nm, .slice (some ⟨w.heap.size + 1, 0, none⟩) 2 2]) (by simp [results, Tryz.results8, go_sem, bc]) rfl ⟨w.heap.size + 1, rfl, hr, HB⟩
set_option maxHeartbeats 6400000 in
set_option maxRecDepth 100000 in
theorem topLedger_any (A : Option Addr) (n c : Nat) (l : List Pl.Ord) (w : World) (hcap : n ≤ c) (hsz : ∀ z ∈ l, z.name.size ≤ 9223372036854775807) (hr : Reads w w.heap.size 4 A n (orders l)) (hl : LW w) :
    Calls Tryz.prog 3 #[.slice A n c] w fun e w' => e = .returned (.bool true) ∧ Below w.heap.size w w' := by
  have HR := Lib.hid hr
  have HLW := Lib.hid hl
  have HLEN := Lib.hid hr.ord_len
  have HCB := Lib.hid (fun w h h0 => clear_bad A n c l w hcap hsz h h0)
  have HCG := Lib.hid (fun w h h0 => clear_good A n c l w hcap hsz h h0)
  have HC0 := Lib.hid (fun A w h => clear_good A 2 2 Pl.soldL w (Nat.le_refl _) (fun z hz => by simp [Pl.soldL] at hz; rcases hz with rfl | rfl <;> decide) h Pl.soldL_ok)
  unfold ClearSaid at HCG HC0
  have HTX := Lib.hid (fun A c l w h1 h2 => text_any A (l : List Pl.LE).length c l w h1 h2)
  have htab : Pl.lText Pl.lAB = (Pl.textS Pl.s0 Pl.lAB, 0) := by unfold Pl.lText; rw [if_neg (by rw [Pl.lAB_ok]; simp)]
  have hle := hr.ord_len
  clear hr hl
  have RS := Lib.hid (soldL_reads w w.heap.size rfl)
  have HB1 := Lib.hid ((Below.refl w.heap.size w).alloc (Nat.le_refl _) (.cells #[.string ⟨#[65]⟩, .bool true, .int .i64 10, .int .i64 8, .string ⟨#[66]⟩, .bool false, .int .i64 10, .int .i64 5] 24))
  go_enter Tryz.func3, Tryz.ntmps3
  go_wp2_with fail
  refine (HC0.out _ _ RS.out).mono ?_
  rintro e w2 ⟨A2, fs2, q2, rfl, hc2, _, _, _, hb⟩
  obtain ⟨rfl, hp2⟩ := Pl.sold_price hc2
  rw [hp2]
  have HB2 := Lib.hid (HB1.out.trans (hb.mono HB1.out.size))
  clear hp2 hc2 hb HB1 RS HC0
  unfold vRes
  have HB3 := Lib.hid (HB2.out.alloc HB2.out.size (.cells #[.int .i64 6, .int .i64 10, .slice A2 2 2] 27))
  have BR := Lib.hid (Blk.new_ w2 w2.heap.size 27 #[.int .i64 6, .int .i64 10, .slice A2 2 2] rfl)
  have hs3 : (w2.alloc (.cells #[.int .i64 6, .int .i64 10, .slice A2 2 2] 27)).heap.size = w2.heap.size + 1 := by simp
  have hs4 : ((w2.alloc (.cells #[.int .i64 6, .int .i64 10, .slice A2 2 2] 27)).alloc (.cells #[.string ⟨#[65]⟩, .string ⟨#[66]⟩] 9)).heap.size = w2.heap.size + 1 + 1 := by simp
  have RN := Lib.hid ((Reads.lit (w2.alloc (.cells #[.int .i64 6, .int .i64 10, .slice A2 2 2] 27)) #[.string ⟨#[65]⟩, .string ⟨#[66]⟩] 9 2 1 (w2.heap.size + 1) hs3.symm rfl).go ((Below.refl _ _).alloc (Nat.le_refl _) (.cells #[.int .i64 (-5), .int .i64 5] 3)))
  have RI := Lib.hid (Reads.lit ((w2.alloc (.cells #[.int .i64 6, .int .i64 10, .slice A2 2 2] 27)).alloc (.cells #[.string ⟨#[65]⟩, .string ⟨#[66]⟩] 9)) #[.int .i64 (-5), .int .i64 5] 3 2 1 (w2.heap.size + 1 + 1) hs4.symm rfl)
  have HB4 := Lib.hid ((HB3.out.alloc HB3.out.size (.cells #[.string ⟨#[65]⟩, .string ⟨#[66]⟩] 9)).alloc (Nat.le_trans HB3.out.size (by rw [hs3, hs4]; exact Nat.le_succ _)) (.cells #[.int .i64 (-5), .int .i64 5] 3))
  have HSE := Lib.hid (settle_good _ _ 2 2 2 [[65], [66]] [-5, 5] _ RN.out RI.out (Nat.le_refl _) (fun t ht => by simp at ht; rcases ht with rfl | rfl <;> decide +kernel) (by decide) (by decide) (fun x hx => by simp at hx; rcases hx with rfl | rfl <;> decide) (by decide))
  unfold SetSaid at HSE
  clear hs3 hs4 RN RI
  go_wp2_with fail
  refine HSE.out.mono ?_
  rintro e w4 ⟨out4, left4, A4, c4, rfl, _, hz4, hi4, _, _, hb⟩
  rw [Pl.ab_one hi4 hz4]
  have HB5 := Lib.hid (HB4.out.trans (hb.mono HB4.out.size))
  clear hz4 hi4 hb HB4 HB3 HSE BR
  have HB6 := Lib.hid (HB5.out.alloc HB5.out.size (.cells #[.string ⟨#[65]⟩, .string ⟨#[66]⟩, .int .i64 5] 38))
  have HT6 := Lib.hid (text_any (some ⟨w4.heap.size, 0, none⟩) 1 1 Pl.lAB _ (lAB_ents w4) (HLW.out.go HB6.out))
  rw [htab] at HT6
  have hne : (Pl.textS Pl.s0 Pl.lAB).isEmpty = false := by
    obtain ⟨r, hr⟩ := Pl.lAB_text
    rw [hr]
    rfl
  clear htab
  simp only at HT6
  unfold txt at HT6
  generalize Pl.textS Pl.s0 Pl.lAB = T0 at *
  go_wp2_with fail
  refine HT6.out.mono ?_
  rintro e w5 ⟨rfl, hb⟩
  have HB7 := Lib.hid (HB6.out.trans (hb.mono HB6.out.size))
  clear hb HB6 HB5 HT6
  go_wp2_with fail
  refine (two_any ⟨#[65]⟩ _).mono ?_
  rintro e w6 ⟨g6, rfl, hr6, hb⟩
  have HB8 := Lib.hid (HB7.out.trans (hb.mono HB7.out.size))
  have HEV := Lib.hid (envy_good ⟨#[65]⟩ (some ⟨g6, 0, none⟩) 2 2 [(10, 5), (10, 8)] 5 8 w6 (by decide) hr6 Pl.two_ok (by decide) (by decide))
  rw [Pl.two_envy] at HEV
  unfold vOff at HEV
  clear hb hr6 HB7 hne
  go_wp2_with fail
  refine HEV.out.mono ?_
  rintro e w7 ⟨rfl, hb⟩
  have HB9 := Lib.hid (HB8.out.trans (hb.mono HB8.out.size))
  clear hb HB8 HEV
  go_wp2_with fail
  by_cases h0 : Pl.acheck l = 0
  · refine (HCG.out _ (HR.out.go HB9.out) h0).mono ?_
    rintro e w8 ⟨A8, fs, q, rfl, hcl, q0, q1, hrf, hb⟩
    have HPD := Lib.hid (Pl.paid_of h0 hcl)
    have HNO := Lib.hid (Pl.namesL_ok h0)
    have HBA := Lib.hid (HB9.out.trans (hb.mono HB9.out.size))
    have HENV := Lib.hid HPD.out.envy
    have HZS := Lib.hid HPD.out.zero
    have HBDS := Lib.hid HPD.out.bd
    have HRG := Lib.hid HPD.out.rng
    have HPR : Hid (-1000000 ≤ Pl.cPrice l fs q ∧ Pl.cPrice l fs q ≤ 1000000) := HPD.out.price
    have HFL : Hid (fs.length = n) := by show _ = _; rw [hcl.len]; exact hle
    have HGD : Hid (∀ z ∈ l, 1 ≤ z.pow ∧ z.pow ≤ 100000 ∧ -1000000 ≤ z.price ∧ z.price ≤ 1000000) := fun z hz => Pl.acheck_good h0 z hz
    have h32 : n ≤ 32 := by rw [← hle]; exact Pl.acheck_len h0
    have HRF := Lib.hid hrf
    clear hb HB9 h0 hle hcl hrf HCB HCG HPD
    generalize Pl.cPrice l fs q = P at *
    unfold vRes
    have BR := Lib.hid (Blk.new_ w8 w8.heap.size 27 #[.int .i64 P, .int .i64 q, .slice A8 n n] rfl)
    have HBB := Lib.hid (HBA.out.alloc HBA.out.size (.cells #[.int .i64 P, .int .i64 q, .slice A8 n n] 27))
    have HRF2 := Lib.hid (HRF.out.go ((Below.refl w8.heap.size w8).alloc (Nat.le_refl _) (.cells #[.int .i64 P, .int .i64 q, .slice A8 n n] 27)))
    go_wp2_with fail
    generalize w8.alloc (.cells #[.int .i64 P, .int .i64 q, .slice A8 n n] 27) = w9 at *
    generalize w8.heap.size = g8 at *
    have HW9 : Hid (w.heap.size ≤ w9.heap.size) := HBB.out.size
    go_loopw [14, 15, 95] (fun v s i wr => ∃ (k : Nat) (An As : Option Addr) (cn cs : Nat), k ≤ n ∧ v = .slice An k cn ∧ s = .slice As k cs ∧ i = .int .i64 k ∧ Hid (wr.ownsRow w9.heap.size 9 1 (.slice An k cn) k (strs ((Pl.namesL l).take k))) ∧ Hid (wr.ownsRow w9.heap.size 3 1 (.slice As k cs) k (ints (Pl.pays P (l.take k) (fs.take k)))) ∧ Hid (∀ g, (Value.slice An k cn).ownBlock = some g → (Value.slice As k cs).ownBlock ≠ some g) ∧ Hid (Below w9.heap.size w9 wr)) (fun _ _ i _ => n - (intOf i).toNat)
    case atStart => exact ⟨0, none, none, 0, 0, Nat.zero_le _, rfl, rfl, rfl, World.ownsRow_nil _ _ _ _, World.ownsRow_nil _ _ _ _, fun g hg => (by cases hg), Below.refl _ _⟩
    case round =>
      obtain ⟨k, An, As, cn, cs, hk, rfl, rfl, rfl, ON, OS, HNE, HB⟩ := hrel
      have HBW := Lib.hid (HBB.out.trans (HB.out.mono HW9.out))
      by_cases hlt : k < n
      · obtain ⟨b, o, rfl, hl1, c1, c2, c3, c4⟩ := (HR.out.go HBW.out).ord_at hlt
        obtain ⟨b2, o2, rfl, hl2, d1⟩ := (HRF2.out.go HB.out).int_at hlt
        have hgd := HGD.out _ (List.getElem_mem hl1)
        have hrg := HRG.out k hl2
        have HEN : Hid (0 < q → l[k].buy = false → Pl.opcheck l[k].name [(l[k].pow, l[k].price)] fs[k] = 0 ∧ Pl.envyV P [(l[k].pow, l[k].price)] fs[k] = 0) := fun h1 h2 => HENV.out h1 k hl1 hl2 h2
        have HTK := Lib.hid (Pl.pays_take P (by rw [HFL.out, HLEN.out]) hl1)
        have HNK : Hid ((Pl.namesL l).take (k + 1) = (Pl.namesL l).take k ++ [Pl.bl l[k].name]) := by
          show _ = _
          rw [List.take_succ_eq_append_getElem (by unfold Pl.namesL; simpa using hl1)]
          unfold Pl.namesL
          simp
        have HNM : Hid (l[k].name.size ≤ 9223372036854775807) := hsz _ (List.getElem_mem hl1)
        have mp := Pl.mulP_bd (P := P) (x := fs[k]) (by have := HPR.out; omega) (by have := HPR.out; omega) hrg.1 hrg.2
        have BRW := Lib.hid (BR.out.go HB.out)
        generalize fs[k] = f at *
        generalize l[k] = od at *
        obtain ⟨nm, bu, pw, pr⟩ := od
        simp only at c1 c2 c3 c4 hgd HEN HNK HNM
        have hww : IntKind.i64.wrap (P * f) = P * f := IntWalk.i64_in _ (by omega)
        have hwn : IntKind.i64.wrap (-(P * f)) = -(P * f) := IntWalk.i64_in _ (by omega)
        go_wp2_with fail
        have hAL := (Below.refl wr.heap.size wr).alloc (Nat.le_refl _) (.cells #[.string nm, .bool bu, .int .i64 pw, .int .i64 pr] 24)
        have BO := Lib.hid (Blk.new_ wr wr.heap.size 24 #[.string nm, .bool bu, .int .i64 pw, .int .i64 pr] rfl)
        have BRA := Lib.hid (BRW.out.go hAL)
        have ONA := Lib.hid (own_go ON.out hAL)
        have OSA := Lib.hid (own_go OS.out hAL)
        have HBA2 := Lib.hid (HB.out.trans (hAL.mono HB.out.size))
        have d2 := (hAL.cell (cell_lt d1)).trans d1
        have HGG : Hid (w9.heap.size ≤ wr.heap.size) := HB.out.size
        clear hAL c1 c2 c3 c4 d1 BRW ON OS HB HBW
        generalize wr.alloc (.cells #[.string nm, .bool bu, .int .i64 pw, .int .i64 pr] 24) = wa at *
        generalize wr.heap.size = go at *
        have r0 := BRA.out.cell 0
        have r1 := BRA.out.cell 1
        have r2 := BRA.out.cell 2
        have p0 := BO.out.cell 0
        have p1 := BO.out.cell 1
        have p2 := BO.out.cell 2
        have p3 := BO.out.cell 3
        go_region
        cases bu with
        | true =>
          have ONX := Lib.hid (own_go ONA.out (Below.refl wa.heap.size wa).drew)
          have OSX := Lib.hid (own_go OSA.out (Below.refl wa.heap.size wa).drew)
          have HBX := Lib.hid (HBA2.out.trans ((Below.refl wa.heap.size wa).drew.mono HBA2.out.size))
          have p1x : wa.drew.cell? ⟨go, 1, none⟩ = some (.bool true) := p1
          have p0x : wa.drew.cell? ⟨go, 0, none⟩ = some (.string nm) := p0
          clear r0 r1 r2 p0 p1 p2 p3 d2 ONA OSA HBA2
          generalize wa.drew = wx at *
          obtain ⟨j0, hj0, hjz0, hjz1, hjz2⟩ := info_parts info_str
          obtain ⟨m0, hm0, hmz0, hmz1, hmz2⟩ := info_parts info_int
          go_wp2_with (first
            | (at_builtin; (refine wpList_append_any _ rfl (.tmp 141) (.tmp 144) 34 rfl w9.heap.size 9 j0 _ 1 16 Tryz.underlying34 hj0 hjz0 hjz1 hjz2 rfl (by decide) (.slice An k cn) k (strs ((Pl.namesL l).take k)) rfl (own_go ONX.out ((Below.refl wx.heap.size wx).alloc (Nat.le_refl _) (.cells #[.string nm] 9))) (wx.heap.size + 1) (some ⟨wx.heap.size, 0, none⟩) 1 1 [.string nm] rfl (by have := Reads.lit wx #[.string nm] 9 1 1 wx.heap.size rfl rfl; simpa using this) (by intro u hu; simp at hu; subst hu; rfl) (by unfold maxLen; omega) (by omega) (by have := HBX.out.size; simp; omega) ?_); intro v' w11 hown11 hg11 hnew11; obtain ⟨A11, c11, rfl, _⟩ := own_slice hown11; have O11 := Lib.hid hown11; have S11 := Lib.hid (own_apartV (own_go OSX.out ((Below.refl wx.heap.size wx).alloc (Nat.le_refl _) (.cells #[.string nm] 9))) hg11 (fun g hs e => HNE.out g e hs)); have B11 := Lib.hid (below_grown (HBX.out.alloc HBX.out.size (.cells #[.string nm] 9)) hg11 (own_go ONX.out ((Below.refl wx.heap.size wx).alloc (Nat.le_refl _) (.cells #[.string nm] 9))) (Nat.le_refl _) (by have := HBX.out.size; simp; omega)); have N11 := Lib.hid (blocks_new hnew11 HNE.out (fun g hs => (OSX.out.lt g hs).2) (by simp)); clear hown11 hg11 hnew11)
            | (at_builtin; go_must (refine wpList_append_any _ rfl (.tmp 146) (.tmp 148) 25 rfl w9.heap.size 3 m0 _ 1 8 Tryz.underlying25 hm0 hmz0 hmz1 hmz2 rfl (by decide) (.slice As k cs) k (ints (Pl.pays P (l.take k) (fs.take k))) rfl (own_go S11.out ((Below.refl w11.heap.size w11).alloc (Nat.le_refl _) (.cells #[.int .i64 (-(P * f))] 3))) (w11.heap.size + 1) (some ⟨w11.heap.size, 0, none⟩) 1 1 [.int .i64 (-(P * f))] rfl (by have := Reads.lit w11 #[.int .i64 (-(P * f))] 3 1 1 w11.heap.size rfl rfl; simpa using this) (by intro u hu; simp at hu; subst hu; rfl) (by unfold maxLen; omega) (by omega) (by have := B11.out.size; simp; omega) ?_); intro v' w12 hown12 hg12 hnew12; obtain ⟨A12, c12, rfl, _⟩ := own_slice hown12; have O12 := Lib.hid hown12; have S12 := Lib.hid (own_apartV (own_go O11.out ((Below.refl w11.heap.size w11).alloc (Nat.le_refl _) (.cells #[.int .i64 (-(P * f))] 3))) hg12 (fun g hs e => N11.out g hs e)); have B12 := Lib.hid (below_grown (B11.out.alloc B11.out.size (.cells #[.int .i64 (-(P * f))] 3)) hg12 (own_go S11.out ((Below.refl w11.heap.size w11).alloc (Nat.le_refl _) (.cells #[.int .i64 (-(P * f))] 3))) (Nat.le_refl _) (by have := B11.out.size; simp; omega)); have N12 := Lib.hid (blocks_new hnew12 (fun g hs e => N11.out g e hs) (fun g hs => (O11.out.lt g hs).2) (by simp)); clear hown12 hg12 hnew12))
          go_roundw
          case rel =>
            refine ⟨k + 1, A11, A12, c11, c12, by omega, rfl, rfl, by go_num, ?_, ?_, fun g h1 h2 => N12.out g h2 h1, B12.out⟩
            · rw [HNK.out, strs_append]
              exact S12.out
            · rw [HTK.out]
              have := O12.out
              rw [← ints_snoc] at this
              exact this
          case measure => simp [intOf]; omega
        | false =>
          have hdr := (Below.refl wa.heap.size wa).drew
          have OND := Lib.hid (own_go ONA.out hdr)
          have OSD := Lib.hid (own_go OSA.out hdr)
          have HBD := Lib.hid (HBA2.out.trans (hdr.mono HBA2.out.size))
          have x0 : wa.drew.cell? ⟨go, 0, none⟩ = some (.string nm) := p0
          have x1 : wa.drew.cell? ⟨go, 1, none⟩ = some (.bool false) := p1
          have x2 : wa.drew.cell? ⟨go, 2, none⟩ = some (.int .i64 pw) := p2
          have x3 : wa.drew.cell? ⟨go, 3, none⟩ = some (.int .i64 pr) := p3
          have y0 : wa.drew.cell? ⟨g8, 0, none⟩ = some (.int .i64 P) := r0
          have y1 : wa.drew.cell? ⟨g8, 1, none⟩ = some (.int .i64 q) := r1
          have y2 : wa.drew.cell? ⟨g8, 2, none⟩ = some (.slice (some ⟨b2, o2, none⟩) n n) := r2
          have y3 : wa.drew.cell? ⟨b2, o2 + k, none⟩ = some (.int .i64 f) := d2
          clear hdr r0 r1 r2 p0 p1 p2 p3 d2 ONA OSA HBA2 BO BRA
          generalize wa.drew = wd at *
          by_cases hq : 0 < q
          · obtain ⟨e1, e2⟩ := HEN.out hq rfl
            have HEVY := Lib.hid (fun (w' : World) (g' : Nat) hr => envy_good nm (some ⟨g', 0, none⟩) 1 1 [(pw, pr)] f P w' HNM.out hr e1 (by have := HPR.out; omega) (by have := HPR.out; omega))
            rw [e2] at HEVY
            unfold vOff at HEVY
            have HSF : Hid (∀ w', Below wd.heap.size wd w' → w'.cell? ⟨go, 0, none⟩ = some (.string nm) ∧ w'.cell? ⟨go, 2, none⟩ = some (.int .i64 pw) ∧ w'.cell? ⟨go, 3, none⟩ = some (.int .i64 pr) ∧ w'.cell? ⟨g8, 0, none⟩ = some (.int .i64 P) ∧ w'.cell? ⟨g8, 2, none⟩ = some (.slice (some ⟨b2, o2, none⟩) n n) ∧ w'.cell? ⟨b2, o2 + k, none⟩ = some (.int .i64 f)) := fun w' hb =>
              ⟨(hb.cell (cell_lt x0)).trans x0, (hb.cell (cell_lt x2)).trans x2, (hb.cell (cell_lt x3)).trans x3, (hb.cell (cell_lt y0)).trans y0, (hb.cell (cell_lt y2)).trans y2, (hb.cell (cell_lt y3)).trans y3⟩
            have hcur : Hid (Below wd.heap.size wd wd.drew) := (Below.refl _ _).drew
            have HCA : Hid (Below wd.heap.size wd (wd.alloc (.cells #[.int .i64 pw, .int .i64 pr] 46)).drew) := ((Below.refl wd.heap.size wd).alloc (Nat.le_refl _) _).drew
            have HST : Hid (Reads (wd.alloc (.cells #[.int .i64 pw, .int .i64 pr] 46)).drew (wd.alloc (.cells #[.int .i64 pw, .int .i64 pr] 46)).drew.heap.size 2 (some ⟨wd.heap.size, 0, none⟩) 1 (pairs [(pw, pr)])) := Reads.lit wd #[.int .i64 pw, .int .i64 pr] 46 1 2 wd.heap.size rfl rfl
            have X0 := Lib.hid x0
            clear e1 e2 x2 x3 y0 y2 y3 HEN x0
            go_wp2_with fail
            go_region_held3 (fun w' => w'.cell? ⟨go, 0, none⟩ = some (.string nm) ∧ w'.cell? ⟨go, 2, none⟩ = some (.int .i64 pw) ∧ w'.cell? ⟨go, 3, none⟩ = some (.int .i64 pr) ∧ w'.cell? ⟨g8, 0, none⟩ = some (.int .i64 P) ∧ w'.cell? ⟨g8, 2, none⟩ = some (.slice (some ⟨b2, o2, none⟩) n n) ∧ w'.cell? ⟨b2, o2 + k, none⟩ = some (.int .i64 f))
              (first | exact HSF.out _ hcur.out | exact HSF.out _ HCA.out)
              ((go_at_call 7; refine (HEVY.out _ _ HST.out).mono ?_; rintro e wz ⟨rfl, hbz⟩; have hcur := Lib.hid (HCA.out.trans (hbz.mono HCA.out.size)); clear hbz))
            all_goals
              have ONX := Lib.hid (own_go OND.out hcur.out)
              have OSX := Lib.hid (own_go OSD.out hcur.out)
              have HBX := Lib.hid (HBD.out.trans (hcur.out.mono HBD.out.size))
              have x0 := (hcur.out.cell (cell_lt X0.out)).trans X0.out
              clear hcur HSF HCA HST HEVY OND OSD HBD X0 x1 y1
              generalize wz = wx at *
              obtain ⟨j0, hj0, hjz0, hjz1, hjz2⟩ := info_parts info_str
              obtain ⟨m0, hm0, hmz0, hmz1, hmz2⟩ := info_parts info_int
              go_wp2_with (first
                | (at_builtin; (refine wpList_append_any _ rfl (.tmp 141) (.tmp 144) 34 rfl w9.heap.size 9 j0 _ 1 16 Tryz.underlying34 hj0 hjz0 hjz1 hjz2 rfl (by decide) (.slice An k cn) k (strs ((Pl.namesL l).take k)) rfl (own_go ONX.out ((Below.refl wx.heap.size wx).alloc (Nat.le_refl _) (.cells #[.string nm] 9))) (wx.heap.size + 1) (some ⟨wx.heap.size, 0, none⟩) 1 1 [.string nm] rfl (by have := Reads.lit wx #[.string nm] 9 1 1 wx.heap.size rfl rfl; simpa using this) (by intro u hu; simp at hu; subst hu; rfl) (by unfold maxLen; omega) (by omega) (by have := HBX.out.size; simp; omega) ?_); intro v' w11 hown11 hg11 hnew11; obtain ⟨A11, c11, rfl, _⟩ := own_slice hown11; have O11 := Lib.hid hown11; have S11 := Lib.hid (own_apartV (own_go OSX.out ((Below.refl wx.heap.size wx).alloc (Nat.le_refl _) (.cells #[.string nm] 9))) hg11 (fun g hs e => HNE.out g e hs)); have B11 := Lib.hid (below_grown (HBX.out.alloc HBX.out.size (.cells #[.string nm] 9)) hg11 (own_go ONX.out ((Below.refl wx.heap.size wx).alloc (Nat.le_refl _) (.cells #[.string nm] 9))) (Nat.le_refl _) (by have := HBX.out.size; simp; omega)); have N11 := Lib.hid (blocks_new hnew11 HNE.out (fun g hs => (OSX.out.lt g hs).2) (by simp)); clear hown11 hg11 hnew11)
                | (at_builtin; go_must (refine wpList_append_any _ rfl (.tmp 146) (.tmp 148) 25 rfl w9.heap.size 3 m0 _ 1 8 Tryz.underlying25 hm0 hmz0 hmz1 hmz2 rfl (by decide) (.slice As k cs) k (ints (Pl.pays P (l.take k) (fs.take k))) rfl (own_go S11.out ((Below.refl w11.heap.size w11).alloc (Nat.le_refl _) (.cells #[.int .i64 (P * f)] 3))) (w11.heap.size + 1) (some ⟨w11.heap.size, 0, none⟩) 1 1 [.int .i64 (P * f)] rfl (by have := Reads.lit w11 #[.int .i64 (P * f)] 3 1 1 w11.heap.size rfl rfl; simpa using this) (by intro u hu; simp at hu; subst hu; rfl) (by unfold maxLen; omega) (by omega) (by have := B11.out.size; simp; omega) ?_); intro v' w12 hown12 hg12 hnew12; obtain ⟨A12, c12, rfl, _⟩ := own_slice hown12; have O12 := Lib.hid hown12; have S12 := Lib.hid (own_apartV (own_go O11.out ((Below.refl w11.heap.size w11).alloc (Nat.le_refl _) (.cells #[.int .i64 (P * f)] 3))) hg12 (fun g hs e => N11.out g hs e)); have B12 := Lib.hid (below_grown (B11.out.alloc B11.out.size (.cells #[.int .i64 (P * f)] 3)) hg12 (own_go S11.out ((Below.refl w11.heap.size w11).alloc (Nat.le_refl _) (.cells #[.int .i64 (P * f)] 3))) (Nat.le_refl _) (by have := B11.out.size; simp; omega)); have N12 := Lib.hid (blocks_new hnew12 (fun g hs e => N11.out g e hs) (fun g hs => (O11.out.lt g hs).2) (by simp)); clear hown12 hg12 hnew12))
              go_roundw
              case rel =>
                refine ⟨k + 1, A11, A12, c11, c12, by omega, rfl, rfl, by go_num, ?_, ?_, fun g h1 h2 => N12.out g h2 h1, B12.out⟩
                · rw [HNK.out, strs_append]
                  exact S12.out
                · rw [HTK.out]
                  have := O12.out
                  rw [← ints_snoc] at this
                  exact this
              case measure => simp [intOf]; omega
          · have ONX := OND
            have OSX := OSD
            have HBX := HBD
            clear OND OSD HBD y0 y2 y3 x2 x3 HEN
            generalize wd = wx at *
            obtain ⟨j0, hj0, hjz0, hjz1, hjz2⟩ := info_parts info_str
            obtain ⟨m0, hm0, hmz0, hmz1, hmz2⟩ := info_parts info_int
            go_wp2_with (first
              | (at_builtin; (refine wpList_append_any _ rfl (.tmp 141) (.tmp 144) 34 rfl w9.heap.size 9 j0 _ 1 16 Tryz.underlying34 hj0 hjz0 hjz1 hjz2 rfl (by decide) (.slice An k cn) k (strs ((Pl.namesL l).take k)) rfl (own_go ONX.out ((Below.refl wx.heap.size wx).alloc (Nat.le_refl _) (.cells #[.string nm] 9))) (wx.heap.size + 1) (some ⟨wx.heap.size, 0, none⟩) 1 1 [.string nm] rfl (by have := Reads.lit wx #[.string nm] 9 1 1 wx.heap.size rfl rfl; simpa using this) (by intro u hu; simp at hu; subst hu; rfl) (by unfold maxLen; omega) (by omega) (by have := HBX.out.size; simp; omega) ?_); intro v' w11 hown11 hg11 hnew11; obtain ⟨A11, c11, rfl, _⟩ := own_slice hown11; have O11 := Lib.hid hown11; have S11 := Lib.hid (own_apartV (own_go OSX.out ((Below.refl wx.heap.size wx).alloc (Nat.le_refl _) (.cells #[.string nm] 9))) hg11 (fun g hs e => HNE.out g e hs)); have B11 := Lib.hid (below_grown (HBX.out.alloc HBX.out.size (.cells #[.string nm] 9)) hg11 (own_go ONX.out ((Below.refl wx.heap.size wx).alloc (Nat.le_refl _) (.cells #[.string nm] 9))) (Nat.le_refl _) (by have := HBX.out.size; simp; omega)); have N11 := Lib.hid (blocks_new hnew11 HNE.out (fun g hs => (OSX.out.lt g hs).2) (by simp)); clear hown11 hg11 hnew11)
              | (at_builtin; go_must (refine wpList_append_any _ rfl (.tmp 146) (.tmp 148) 25 rfl w9.heap.size 3 m0 _ 1 8 Tryz.underlying25 hm0 hmz0 hmz1 hmz2 rfl (by decide) (.slice As k cs) k (ints (Pl.pays P (l.take k) (fs.take k))) rfl (own_go S11.out ((Below.refl w11.heap.size w11).alloc (Nat.le_refl _) (.cells #[.int .i64 (P * f)] 3))) (w11.heap.size + 1) (some ⟨w11.heap.size, 0, none⟩) 1 1 [.int .i64 (P * f)] rfl (by have := Reads.lit w11 #[.int .i64 (P * f)] 3 1 1 w11.heap.size rfl rfl; simpa using this) (by intro u hu; simp at hu; subst hu; rfl) (by unfold maxLen; omega) (by omega) (by have := B11.out.size; simp; omega) ?_); intro v' w12 hown12 hg12 hnew12; obtain ⟨A12, c12, rfl, _⟩ := own_slice hown12; have O12 := Lib.hid hown12; have S12 := Lib.hid (own_apartV (own_go O11.out ((Below.refl w11.heap.size w11).alloc (Nat.le_refl _) (.cells #[.int .i64 (P * f)] 3))) hg12 (fun g hs e => N11.out g hs e)); have B12 := Lib.hid (below_grown (B11.out.alloc B11.out.size (.cells #[.int .i64 (P * f)] 3)) hg12 (own_go S11.out ((Below.refl w11.heap.size w11).alloc (Nat.le_refl _) (.cells #[.int .i64 (P * f)] 3))) (Nat.le_refl _) (by have := B11.out.size; simp; omega)); have N12 := Lib.hid (blocks_new hnew12 (fun g hs e => N11.out g e hs) (fun g hs => (O11.out.lt g hs).2) (by simp)); clear hown12 hg12 hnew12))
            go_roundw
            case rel =>
              refine ⟨k + 1, A11, A12, c11, c12, by omega, rfl, rfl, by go_num, ?_, ?_, fun g h1 h2 => N12.out g h2 h1, B12.out⟩
              · rw [HNK.out, strs_append]
                exact S12.out
              · rw [HTK.out]
                have := O12.out
                rw [← ints_snoc] at this
                exact this
            case measure => simp [intOf]; omega
      · have hke : k = n := by omega
        subst hke
        have en : (Pl.namesL l).take k = Pl.namesL l := List.take_of_length_le (by unfold Pl.namesL; rw [List.length_map, HLEN.out]; exact Nat.le_refl _)
        have ep : Pl.pays P (l.take k) (fs.take k) = Pl.pays P l fs := by
          rw [List.take_of_length_le (by rw [HLEN.out]; exact Nat.le_refl _), List.take_of_length_le (by rw [HFL.out]; exact Nat.le_refl _)]
        rw [en] at ON
        rw [ep] at OS
        have hcn : k ≤ cn := by
          rcases ON.out.2 with ⟨hv, _⟩ | ⟨g, cap, cur, hv, _, _, hn, _⟩
          · injection hv with _ h1 h2; omega
          · injection hv with _ h1 h2; omega
        have HSE := Lib.hid (settle_good An As k cn cs (Pl.namesL l) (Pl.pays P l fs) wr (Reads.of_own ON.out) (Reads.of_own OS.out) hcn HNO.out.1 HNO.out.2 (by omega) HBDS.out HZS.out)
        unfold SetSaid at HSE
        clear en ep hcn hlt
        go_wp2_with fail
        refine HSE.out.mono ?_
        rintro e w10 ⟨out, left, A10, c10, rfl, hok, _, _, hown, hin, hb⟩
        have HB10 := Lib.hid (HBW.out.trans (hb.mono HBW.out.size))
        have HE10 : Hid (Ents w10 A10 out.length out) := ⟨Reads.of_own hown, hin⟩
        have HT10 := Lib.hid (HTX.out A10 c10 out w10 HE10.out (HLW.out.go HB10.out))
        have htx : Pl.lText out = (Pl.textS Pl.s0 out, 0) := by unfold Pl.lText; rw [if_neg (by rw [hok]; simp)]
        rw [htx] at HT10
        have HOK := Lib.hid hok
        have ho256 : out.length ≤ 256 := (Pl.lcheck_ok.1 hok).1
        have HRD := Lib.hid (fun w h => read_any (Pl.textS Pl.s0 out) w h)
        unfold ReadSaid at HRD
        generalize hS : Pl.textS Pl.s0 out = S10 at *
        have HS := Lib.hid hS
        clear hS htx hok hown hin hb HSE ON OS HNE HB HBW
        simp only at HT10
        unfold txt at HT10 HRD
        go_wp2_with fail
        refine HT10.out.mono ?_
        rintro e w11 ⟨rfl, hb⟩
        have HB11 := Lib.hid (HB10.out.trans (hb.mono HB10.out.size))
        have HE11 := Lib.hid (HE10.out.go hb)
        clear hb HB10 HE10 HT10
        go_wp2_with fail
        refine (HRD.out w11 (HLW.out.go HB11.out)).mono ?_
        rintro e w12 ⟨out2, A12, c12, er, rfl, g1, g2, hback, hown, g3, hb⟩
        obtain ⟨rfl, rfl⟩ := hback out HOK.out HS.out.symm
        have HB12 := Lib.hid (HB11.out.trans (hb.mono HB11.out.size))
        have HE12 := Lib.hid (HE11.out.go hb)
        have HF12 : Hid (Ents w12 A12 out2.length out2) := ⟨Reads.of_own hown, g3⟩
        clear g1 g2 g3 hback hown hb HB11 HE11 HRD
        have HAL := Lib.hid ((Below.refl w12.heap.size w12).alloc (Nat.le_refl _) (.cells #[.int .i64 0, .int .i64 0] 28))
        have HB13 := Lib.hid (HB12.out.trans (HAL.out.mono HB12.out.size))
        have RF := Lib.hid (Reads.lit w12 #[.int .i64 0, .int .i64 0] 28 2 1 w12.heap.size rfl rfl)
        have HF := Lib.hid (fineT_any (some ⟨w12.heap.size, 0, none⟩) 2 2 [0, 0] _ _ (by decide) RF.out)
        have ea : allOk [0, 0] = true := by decide
        rw [ea] at HF
        have HQ := Lib.hid (eqle_any A10 A12 out2.length out2.length c10 c12 out2 out2 _ (by omega) (HE12.out.go HAL.out) (HF12.out.go HAL.out) rfl)
        clear ea RF
        go_wp2_with (first | (go_at_call 10; refine HF.out.mono ?_; rintro e w14 ⟨rfl, rfl⟩) | (go_at_call 11; refine HQ.out.mono ?_; rintro e w15 ⟨rfl, hb15⟩; have HB15 := Lib.hid (HB13.out.trans (hb15.mono HB13.out.size)); clear hb15))
        go_ret
        exact ⟨rfl, HB15.out⟩
  · refine (HCB.out _ (HR.out.go HB9.out) h0).mono ?_
    rintro e w8 ⟨rfl, hb⟩
    have HBA := Lib.hid (HB9.out.trans (hb.mono HB9.out.size))
    have he : (Pl.acheck l != 0) = true := by simpa using h0
    unfold vRes
    clear hb HB9 h0 hle
    go_wp2_with fail
    go_ret
    exact ⟨rfl, HBA.out.alloc HBA.out.size _⟩
end Go.Proofs.YtibhgcldogfonaaGreatDoor
