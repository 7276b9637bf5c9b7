/- matrix.CheckVec and price.Parts (the text XParts pasted, for the count of files); the law PriceParts answers true. Condition: the texts read; the library's tables lie as they are laid. -/
import Derived.Test.YtflfbbdapbjaaaaDoorRatAS
import Derived.BigQuiet
namespace Go.Proofs.YtflfbbdapbjaaaaDoor
open Go.RowKit
set_option maxRecDepth 100000
/-- what CheckVec returns -/
def Pl.vecE (ls : List (List UInt8)) : Int := if 40 < ls.length then 2 else Pl.ratsE ls
theorem checkvec_any (A : Option Addr) (n c : Nat) (ls : List (List UInt8)) (w : World) (hn : n ≤ 9223372036854775807) (hr : Reads w w.heap.size 1 A n (txs ls)) (hs : ∀ l ∈ ls, l.length ≤ 9223372036854775807) (hl : LV w) :
    Calls Tryd.prog 6 #[.slice A n c] w fun e w' => e = .returned (.int .i64 (Pl.vecE ls)) ∧ Below w.heap.size w w' := by
  have HC := Lib.hid (rcheckall_any A n c ls w hn hr hs hl)
  have hlen := txs_len hr
  by_cases h : 40 < ls.length
  · have e1 : (40 : Int) < (n : Int) := by omega
    have HV : Hid (Pl.vecE ls = 2) := if_pos h
    clear hr hs hl HC h hlen
    go_enter Tryd.func6, Tryd.ntmps6
    go_wp2_with fail
    go_ret
    exact ⟨by rw [HV.out]; rfl, Below.refl _ _⟩
  · have e1 : ¬ (40 : Int) < (n : Int) := by omega
    have HV : Hid (Pl.vecE ls = Pl.ratsE ls) := if_neg h
    rw [HV.out]
    obtain ⟨E, hE⟩ : ∃ E : Int, E = Pl.ratsE ls := ⟨_, rfl⟩
    rw [← hE] at HC ⊢
    clear hr hs hl h hlen HV hE
    go_enter Tryd.func6, Tryd.ntmps6
    go_wp2_with fail
    refine HC.out.mono ?_
    rintro e w2 ⟨rfl, hb⟩
    have HB := Lib.hid hb
    clear hb HC
    go_wp2_with fail
    go_ret
    exact ⟨rfl, HB.out⟩
/-- parts of prices as cells -/
def pps (l : List (List UInt8 × List UInt8)) : List Value := l.flatMap fun x => [tx x.1, tx x.2]
theorem pps_snoc (l : List (List UInt8 × List UInt8)) (a b : List UInt8) : pps l ++ [tx a, tx b] = pps (l ++ [(a, b)]) := by unfold pps; rw [List.flatMap_append]; rfl
theorem pps_len (l : List (List UInt8 × List UInt8)) : (pps l).length = 2 * l.length := by
  unfold pps
  induction l with
  | nil => rfl
  | cons x l ih => rw [List.flatMap_cons, List.length_append, ih, List.length_cons]; simp; omega
theorem pps_at : ∀ {l : List (List UInt8 × List UInt8)} {k : Nat} (hk : k < l.length), (pps l)[2 * k]? = some (tx l[k].1) ∧ (pps l)[2 * k + 1]? = some (tx l[k].2)
  | x :: l, 0, _ => ⟨rfl, rfl⟩
  | x :: l, k + 1, hk => by
    have ih := pps_at (l := l) (k := k) (by simpa using hk)
    have e1 : 2 * (k + 1) = 2 * k + 1 + 1 := by omega
    rw [e1]
    exact ih
theorem info_pps : (Tryd.prog.info? 30).map (fun i => (i.zero, i.size, i.bytes)) = some (some (.agg #[.string ⟨#[]⟩, .string ⟨#[]⟩]), 2, 32) := by kernel_rfl
/-- the parts of the first k prices -/
def Pl.PartOk (ls : List (List UInt8)) (k : Nat) (x : List UInt8 × List UInt8) : Prop :=
  ∃ (hk : k < ls.length) (p p0 : Rat), ls[k] = Pl.ratTxt p ∧ Pl.Fits p ∧ ls[0]'(by omega) = Pl.ratTxt p0 ∧ Pl.Fits p0 ∧ Pl.Fits (p - p0) ∧ x = (ls[0]'(by omega), Pl.ratTxt (p - p0))
/-- what is wrong with prices -/
def Pl.PartBad (ls : List (List UInt8)) : Prop := Pl.vecE ls ≠ 0 ∨ ∃ (k : Nat) (hk : k < ls.length) (p p0 : Rat), ls[k] = Pl.ratTxt p ∧ ls[0]'(by omega) = Pl.ratTxt p0 ∧ ¬ Pl.Fits (p - p0)
/-- what Parts returns -/
def PartsSaid (ls : List (List UInt8)) (w : World) (e : Ending) (w' : World) : Prop :=
  ((∃ E : Int, E ≠ 0 ∧ e = .returned (.tuple #[.slice none 0 0, .int .i64 E]) ∧ Pl.PartBad ls) ∨
   (∃ (A : Option Addr) (c : Nat) (out : List (List UInt8 × List UInt8)), e = .returned (.tuple #[.slice A ls.length c, .int .i64 0]) ∧ Pl.vecE ls = 0 ∧ out.length = ls.length ∧ (∀ k (hk : k < out.length), Pl.PartOk ls k out[k]) ∧ Reads w' w'.heap.size 2 A ls.length (pps out))) ∧ Below w.heap.size w w'
set_option maxHeartbeats 6400000 in
theorem parts_any (A : Option Addr) (n c : Nat) (ls : List (List UInt8)) (w : World) (hn : n ≤ 9223372036854775807) (hr : Reads w w.heap.size 1 A n (txs ls)) (hs : ∀ l ∈ ls, l.length ≤ 9223372036854775807) (hl : LV w) :
    Calls Tryd.prog 4 #[.slice A n c] w (PartsSaid ls w) := by
  obtain ⟨i0, hi0, hz0, hz1, hz2⟩ := info_parts info_pps
  have HC := Lib.hid (checkvec_any A n c ls w hn hr hs hl)
  have HR := Lib.hid hr
  have HS := Lib.hid hs
  have HL := Lib.hid hl
  have HN := Lib.hid (txs_len hr)
  obtain ⟨E0, hE0⟩ : ∃ E : Int, E = Pl.vecE ls := ⟨_, rfl⟩
  rw [← hE0] at HC
  have HE0 := Lib.hid hE0
  clear hr hs hl hE0
  go_enter Tryd.func4, Tryd.ntmps4
  go_wp2_with fail
  refine HC.out.mono ?_
  rintro e w1 ⟨rfl, hb5⟩
  have D := Lib.hid hb5
  clear hb5 HC
  by_cases h0 : E0 = 0
  · subst h0
    have hv := HE0.out
    have hn40 : n ≤ 40 := by
      rw [← HN.out]
      unfold Pl.vecE at hv
      split at hv
      · cases hv
      · omega
    have hok : ∀ l ∈ ls, Pl.ratE l = 0 := by
      unfold Pl.vecE at hv
      split at hv
      · cases hv
      · exact Pl.ratsE_ok.1 hv.symm
    have HOK := Lib.hid hok
    clear hv hok
    go_wp2_with fail
    go_loopw [5, 7, 8, 9, 17] (fun o _ _ _ i wr => ∃ (k : Nat) (out : List (List UInt8 × List UInt8)) (Ao : Option Addr) (co : Nat), k ≤ n ∧ i = .int .i64 k ∧ o = .slice Ao k co ∧ out.length = k ∧ Hid (∀ j (hj : j < out.length), Pl.PartOk ls j out[j]) ∧ Hid (wr.ownsRow w.heap.size 30 2 (.slice Ao k co) k (pps out)) ∧ Hid (Below w.heap.size w wr)) (fun _ _ _ _ i _ => n - (intOf i).toNat)
    case atStart => exact ⟨0, [], none, 0, Nat.zero_le _, rfl, rfl, rfl, Lib.hid (fun j hj => by simp at hj), World.ownsRow_nil _ _ _ _, D.out⟩
    case round =>
      clear D
      obtain ⟨k, out, Ao, co, hk, rfl, rfl, hol, HP, HO, D⟩ := hrel
      have HOL := Lib.hid hol
      clear hol
      by_cases hlt : k < n
      · have hkl : k < ls.length := by rw [HN.out]; exact hlt
        have h0l : 0 < ls.length := by omega
        obtain ⟨b, o, rfl, hb, _, y1⟩ := txs_at HR.out (k := k) hlt
        obtain ⟨b2, o2, hbe, _, _, y0⟩ := txs_at HR.out (k := 0) (by omega)
        injection hbe with hbe
        injection hbe with hbe1 hbe2
        subst hbe1 hbe2
        rw [Nat.add_zero] at y0
        have y2 := (D.out.cell (p := ⟨b, o + k, none⟩) hb).trans y1
        have y3 := (D.out.cell (p := ⟨b, o, none⟩) hb).trans y0
        have hbr : b < wr.heap.size := by have := D.out.size; omega
        have hk0 : (0 : Int) ≤ (k : Int) := by omega
        have hk1 : (k : Int) < (n : Int) := by omega
        have hn0 : (0 : Int) < (n : Int) := by omega
        have HSUB := Lib.hid (rsubT_any ls[k] ls[0] wr (HS.out _ (List.getElem_mem hkl)) (HS.out _ (List.getElem_mem h0l)) (HL.out.go D.out))
        have hz2' : Pl.ratsE [ls[k], ls[0]] = 0 := Pl.ratsE_ok.2 fun l hx => by
          simp only [List.mem_cons, List.not_mem_nil, or_false] at hx
          rcases hx with rfl | rfl
          · exact HOK.out _ (List.getElem_mem hkl)
          · exact HOK.out _ (List.getElem_mem h0l)
        have HZ2 := Lib.hid hz2'
        obtain ⟨lk, hlk⟩ : ∃ l, l = ls[k] := ⟨_, rfl⟩
        obtain ⟨l0, hl0⟩ : ∃ l, l = ls[0] := ⟨_, rfl⟩
        rw [← hlk] at y2 HSUB HZ2
        rw [← hl0] at y3 HSUB HZ2
        have HK0 := Lib.hid (And.intro hlk hl0)
        clear hlk hl0 y0 y1 hz2'
        go_wp2_with fail
        refine HSUB.out.mono ?_
        rintro e w3 hc
        clear HSUB y2
        rcases hc with ⟨h1, _, _⟩ | ⟨p, q, h1, h2, h3, h4, ⟨h5, rfl⟩ | ⟨h5, rfl⟩, hb5⟩
        · exact absurd HZ2.out h1
        · have HF := Lib.hid (And.intro h1 (And.intro h2 (And.intro h3 (And.intro h4 h5))))
          have HO3 := Lib.hid (own_go HO.out hb5)
          have D3 := Lib.hid (D.out.trans (hb5.mono D.out.size))
          have y4 := (hb5.cell (p := ⟨b, o, none⟩) hbr).trans y3
          have hbr3 : b < w3.heap.size := by have := hb5.size; omega
          obtain ⟨t, ht⟩ : ∃ t, t = Pl.ratTxt (p - q) := ⟨_, rfl⟩
          rw [← ht]
          have HT := Lib.hid ht
          have hws : w.heap.size ≤ w3.heap.size := D3.out.size
          clear h1 h2 h3 h4 h5 hb5 ht HO D y3 HZ2
          go_wp2_with (at_builtin; go_must (refine wpList_append_grow _ rfl (.tmp 32) (.tmp 38) 24 rfl w.heap.size 30 i0 _ 2 32 Tryd.underlying24 hi0 hz0 hz1 hz2 rfl (by decide) (.slice Ao k co) k (pps out) rfl HO3.out hws #[tx l0, tx t] rfl rfl (by simp) (by simp [Value.oneCell']) (by unfold maxLen; omega) (by omega) ?_); intro v' w4 hown4 hg4 hsz4; obtain ⟨A4, c4, rfl, _⟩ := own_slice hown4; have HO4 := Lib.hid hown4; have HG4 := Lib.hid hg4; clear hown4 hg4)
          have D4 := Lib.hid (below_grown D3.out HG4.out HO3.out (Nat.le_refl _) hws)
          clear HO3 HG4 D3 y4
          go_roundw
          case rel =>
            refine ⟨k + 1, out ++ [(l0, t)], A4, c4, by omega, by go_num, rfl, by simp [HOL.out], ?_, ?_, D4⟩
            · intro j hj
              rcases Nat.lt_or_ge j out.length with h | h
              · rw [List.getElem_append_left h]; exact HP.out j h
              · have hj2 : j = k := by simp at hj; have := HOL.out; omega
                subst hj2
                have he : (out ++ [(l0, t)])[j] = (l0, t) := by
                  rw [List.getElem_append_right h]
                  simp
                rw [he]
                refine ⟨hkl, p, q, ?_, HF.out.2.1, ?_, HF.out.2.2.2.1, HF.out.2.2.2.2, ?_⟩
                · rw [← HK0.out.1]; exact HF.out.1
                · rw [← HK0.out.2]; exact HF.out.2.2.1
                · rw [HT.out, HK0.out.2]
            · have h8 := HO4.out
              show w4.ownsRow _ _ _ _ _ _
              rw [← pps_snoc]
              exact h8
          case measure => simp [intOf]; omega
        · have HF := Lib.hid (And.intro h1 (And.intro h3 h5))
          have D3 := Lib.hid (D.out.trans (hb5.mono D.out.size))
          clear h1 h2 h3 h4 h5 hb5 HO D y3 HZ2
          go_wp2_with fail
          go_ret2
          refine ⟨.inl ⟨2, by decide, rfl, .inr ⟨k, hkl, p, q, ?_, ?_, HF.out.2.2⟩⟩, D3.out⟩
          · rw [← HK0.out.1]; exact HF.out.1
          · rw [← HK0.out.2]; exact HF.out.2.1
      · have hk2 : ¬ (k : Int) < (n : Int) := by omega
        have hkn : k = ls.length := by rw [HN.out]; omega
        have HKN := Lib.hid hkn
        clear hkn hlt
        go_wp2_with fail
        go_ret2
        have hO := HO.out
        rw [HKN.out] at hO
        obtain ⟨A9, c9, e9, hr9⟩ := own_slice hO
        injection e9 with e9a e9b e9c
        refine ⟨.inr ⟨Ao, co, out, ?_, HE0.out.symm, by rw [HOL.out, HKN.out], HP.out, by rw [e9a]; exact hr9⟩, D.out⟩
        rw [← HKN.out]; rfl
  · have e1 : (E0 != 0) = true := by simpa using h0
    have H0 := Lib.hid h0
    clear h0
    go_wp2_with fail
    go_ret2
    exact ⟨.inl ⟨E0, H0.out, rfl, .inl (by rw [← HE0.out]; exact H0.out)⟩, D.out⟩
theorem lim_ge (n : Nat) (h : n < 1000) : n < Pl.lim := by
  have hm : ∀ a b : Nat, a ≤ b → Pl.limK a ≤ Pl.limK b := fun a b h => Nat.pow_le_pow_right (by decide) h
  have h1 := hm 3 2000 (by decide)
  have h2 : Pl.limK 3 = 1000 := by decide
  have h3 : Pl.lim = Pl.limK 2000 := rfl
  omega
def q152 : Rat := ⟨15, 2, by decide, by decide⟩
def q52 : Rat := ⟨5, 2, by decide, by decide⟩
def q5 : Rat := ⟨5, 1, by decide, by decide⟩
theorem q_sub : q152 - q5 = q52 := by decide +kernel
theorem txt5 : Pl.ratTxt q5 = [53] := by
  unfold Pl.ratTxt q5
  rw [if_pos rfl, List.append_nil]
  show Lib.itoa ((5 : Nat) : Int) = _
  rw [Pl.itoa_nat, Pl.dec_one (by omega)]
  rfl
theorem txt52 : Pl.ratTxt q52 = [53, 47, 50] := by
  unfold Pl.ratTxt q52
  rw [if_neg (by decide)]
  show Lib.itoa ((5 : Nat) : Int) ++ _ = _
  rw [Pl.itoa_nat, Pl.dec_one (n := 5) (by omega)]
  show _ ++ 47 :: Go.Lib.decDigits 2 = _
  rw [Pl.dec_one (n := 2) (by omega)]
  rfl
theorem txt152 : Pl.ratTxt q152 = [49, 53, 47, 50] := by
  unfold Pl.ratTxt q152
  rw [if_neg (by decide)]
  show Lib.itoa ((15 : Nat) : Int) ++ _ = _
  rw [Pl.itoa_nat, Go.Lib.decDigits_two (by omega) (by omega)]
  show _ ++ 47 :: Go.Lib.decDigits 2 = _
  rw [Pl.dec_one (n := 2) (by omega)]
  rfl
theorem fit5 : Pl.Fits q5 := ⟨lim_ge _ (by decide), lim_ge _ (by decide)⟩
theorem fit52 : Pl.Fits q52 := ⟨lim_ge _ (by decide), lim_ge _ (by decide)⟩
theorem fit152 : Pl.Fits q152 := ⟨lim_ge _ (by decide), lim_ge _ (by decide)⟩
theorem lit_good : ¬ Pl.PartBad [[53], [49, 53, 47, 50]] := by
  rintro (h | ⟨k, hk, p, p0, h1, h2, h3⟩)
  · apply h
    unfold Pl.vecE
    rw [if_neg (by decide)]
    refine Pl.ratsE_ok.2 fun l hl => ?_
    simp only [List.mem_cons, List.not_mem_nil, or_false] at hl
    rcases hl with rfl | rfl
    · rw [← txt5]; exact Pl.ratE_txt fit5
    · rw [← txt152]; exact Pl.ratE_txt fit152
  · have e0 : p0 = q5 := Pl.ratTxt_inj (by rw [txt5]; exact h2.symm)
    apply h3
    rw [e0]
    match k, hk, h1 with
    | 0, _, h1 =>
      have e1 : p = q5 := Pl.ratTxt_inj (by rw [txt5]; exact h1.symm)
      rw [e1, Rat.sub_self]
      exact ⟨lim_ge _ (by decide), lim_ge _ (by decide)⟩
    | 1, _, h1 =>
      have e1 : p = q152 := Pl.ratTxt_inj (by rw [txt152]; exact h1.symm)
      rw [e1, q_sub]
      exact fit52
    | k + 2, hk, _ => simp at hk; omega
theorem lit_part {x : List UInt8 × List UInt8} (h : Pl.PartOk [[53], [49, 53, 47, 50]] 1 x) : x = ([53], [53, 47, 50]) := by
  obtain ⟨_, p, p0, h1, _, h2, _, _, h3⟩ := h
  have e0 : p0 = q5 := Pl.ratTxt_inj (by rw [txt5]; exact h2.symm)
  have e1 : p = q152 := Pl.ratTxt_inj (by rw [txt152]; exact h1.symm)
  rw [h3, e0, e1, q_sub, txt52]
  rfl
theorem fits_len {q : Rat} (h : Pl.Fits q) : (Pl.ratTxt q).length ≤ 9223372036854775807 := by
  have h1 := (Pl.dec_limK (k := 2000) (by decide)).2 h.1
  have h2 := (Pl.dec_limK (k := 2000) (by decide)).2 h.2
  unfold Pl.ratTxt
  rw [List.length_append]
  have h3 : (Lib.itoa q.num).length ≤ 2001 := by
    rcases Pl.itoa_cases q.num with ⟨_, e⟩ | ⟨_, e⟩ <;> rw [e]
    · rw [List.length_cons]; omega
    · omega
  split
  · rw [List.length_nil]; omega
  · rw [List.length_cons]; omega
theorem below_drewN_p {B : Nat} {a w : World} (h : Below B a w) (n : Nat) : Below B a (w.drewN n) := ⟨h.os, h.tape, h.output, h.size, h.block⟩
theorem add_part {p p0 p1 q1 : Rat} (h1 : Pl.ratTxt p1 = Pl.ratTxt p0) (h2 : Pl.ratTxt q1 = Pl.ratTxt (p - p0)) : p1 + q1 = p := by
  rw [Pl.ratTxt_inj h1, Pl.ratTxt_inj h2, Rat.sub_eq_add_neg, Rat.add_comm, Rat.add_assoc, Rat.neg_add_cancel, Rat.add_zero]
theorem ppBox (w : World) (x y : Value) : Blk (w.alloc (.cells #[x, y] 30)) w.heap.size 30 #[x, y] := Blk.new_ w _ _ _ rfl
set_option maxHeartbeats 12800000 in
theorem priceParts_any (A : Option Addr) (n c : Nat) (ls : List (List UInt8)) (w : World) (hn : n ≤ 9223372036854775807) (hr : Reads w w.heap.size 1 A n (txs ls)) (hs : ∀ l ∈ ls, l.length ≤ 9223372036854775807) (hl : LV w) :
    Calls Tryd.prog 3 #[.slice A n c] w fun e w' => e = .returned (.bool true) ∧ Below w.heap.size w w' := by
  have hd := below_one w (.cells #[tx [53], tx [49, 53, 47, 50]] 28)
  have HLIT := Lib.hid (parts_any (some ⟨w.heap.size, 0, none⟩) 2 2 [[53], [49, 53, 47, 50]] _ (by omega) (Reads.lit w #[tx [53], tx [49, 53, 47, 50]] 28 2 1 w.heap.size rfl rfl) (fun l hx => by
    simp only [List.mem_cons, List.not_mem_nil, or_false] at hx
    rcases hx with rfl | rfl <;> simp) (hl.go hd))
  have HR := Lib.hid hr
  have HS := Lib.hid hs
  have HL := Lib.hid hl
  have HN := Lib.hid (txs_len hr)
  have HD := Lib.hid hd
  clear hr hs hl hd
  go_enter Tryd.func3, Tryd.ntmps3
  go_wp2_with fail
  refine HLIT.out.mono ?_
  rintro e w1 ⟨hc, hb5⟩
  have D := Lib.hid (HD.out.trans (hb5.mono HD.out.size))
  clear hb5 HLIT HD
  rcases hc with ⟨E, _, _, hbad⟩ | ⟨A1, c1, out, rfl, _, hol, hpo, hrd⟩
  · exact absurd hbad lit_good
  have ho1 : out[1]'(by rw [hol]; decide) = ([53], [53, 47, 50]) := lit_part (hpo 1 (by rw [hol]; decide))
  obtain ⟨bo, oo, rfl, hbo, hco⟩ := hrd.where_ (by decide) (by decide)
  have hca := (pps_at (l := out) (k := 1) (by rw [hol]; decide)).1
  have hcb := (pps_at (l := out) (k := 1) (by rw [hol]; decide)).2
  rw [ho1] at hca hcb
  have ya := hco 2 _ hca
  have yb := hco 3 _ hcb
  clear hca hcb hco ho1 hpo hol hrd
  have HN2 := Lib.hid hn
  go_wp2_with fail
  refine (parts_any A n c ls w1 HN2.out (HR.out.go D.out) HS.out (HL.out.go D.out)).mono ?_
  rintro e w2 ⟨hc, hb5⟩
  have D2 := Lib.hid (D.out.trans (hb5.mono D.out.size))
  clear hb5 D ya yb hbo hn
  rcases hc with ⟨E, hE, rfl, _⟩ | ⟨A2, c2, out, he, _, hol, hpo, hrd⟩
  · have e1 : (E != 0) = true := by simpa using hE
    clear hE
    go_wp2_with fail
    go_ret
    exact ⟨rfl, D2.out⟩
  rw [HN.out] at he hrd hol
  subst he
  have HO := Lib.hid hol
  have HP := Lib.hid hpo
  have HRD := Lib.hid hrd
  clear hol hpo hrd
  go_wp2_with fail
  go_loopw [7, 8, 9, 10, 42] (fun _ _ _ _ i wr => ∃ k : Nat, k ≤ n ∧ i = .int .i64 k ∧ Hid (Below w2.heap.size w2 wr)) (fun _ _ _ _ i _ => n - (intOf i).toNat)
  case atStart => exact ⟨0, Nat.zero_le _, rfl, Below.refl _ _⟩
  case round =>
    obtain ⟨k, hk, rfl, D3⟩ := hrel
    have D4 := Lib.hid (D2.out.trans (D3.out.mono D2.out.size))
    by_cases hlt : k < n
    · have hkl : k < out.length := by rw [HO.out]; exact hlt
      have hkls : k < ls.length := by rw [HN.out]; exact hlt
      have h0l : 0 < ls.length := by omega
      have h0n : 0 < n := by omega
      obtain ⟨b, o, rfl, hb, _, y1⟩ := txs_at HR.out (k := k) hlt
      obtain ⟨b2, o2, hbe, _, _, y0⟩ := txs_at HR.out (k := 0) h0n
      injection hbe with hbe
      injection hbe with hbe1 hbe2
      subst hbe1 hbe2
      rw [Nat.add_zero] at y0
      obtain ⟨b3, o3, rfl, hb3, hco⟩ := HRD.out.where_ h0n (by decide)
      have z1 := (D3.out.cell (p := ⟨b3, o3 + 2 * k, none⟩) hb3).trans (hco (2 * k) _ (pps_at hkl).1)
      have z2 := (D3.out.cell (p := ⟨b3, o3 + (2 * k + 1), none⟩) hb3).trans (hco (2 * k + 1) _ (pps_at hkl).2)
      rw [show o3 + 2 * k = o3 + k * 2 by omega] at z1
      rw [show o3 + (2 * k + 1) = o3 + k * 2 + 1 by omega] at z2
      have hpk := HP.out k hkl
      obtain ⟨x, hx⟩ : ∃ x, x = out[k] := ⟨_, rfl⟩
      rw [← hx] at z1 z2 hpk
      clear hx hco
      obtain ⟨te, tc⟩ := x
      obtain ⟨_, p, p0, g1, g2, g3, g4, g5, g6⟩ := hpk
      obtain ⟨rfl, g7⟩ := Prod.mk.inj g6
      have s1 := HS.out _ (List.getElem_mem h0l)
      have s2 : tc.length ≤ 9223372036854775807 := by rw [g7]; exact fits_len g5
      obtain ⟨t0, ht0⟩ : ∃ t, t = ls[0] := ⟨_, rfl⟩
      obtain ⟨tk, htk⟩ : ∃ t, t = ls[k] := ⟨_, rfl⟩
      rw [← htk] at y1 g1
      simp only [← ht0] at y0 g3 z1 z2 s1
      have G := Lib.hid (And.intro g1 (And.intro g2 (And.intro g3 (And.intro g4 (And.intro g5 g7)))))
      have HS2 := Lib.hid (And.intro s1 s2)
      clear g1 g2 g3 g4 g5 g6 g7 s1 s2 ht0 htk
      have hk0 : (0 : Int) ≤ (k : Int) := by omega
      have hk1 : (k : Int) < (n : Int) := by omega
      have hn0 : (0 : Int) < (n : Int) := by omega
      have BX := Lib.hid (Blk.new_ wr wr.heap.size 30 #[tx t0, tx tc] rfl)
      have HX := Lib.hid (below_one wr (.cells #[tx t0, tx tc] 30))
      go_wp2_with fail
      generalize wr.alloc (.cells #[tx t0, tx tc] 30) = wa at *
      have D5 := Lib.hid (D4.out.trans (HX.out.mono D4.out.size))
      have D6 := Lib.hid (D3.out.trans (HX.out.mono D3.out.size))
      refine (raddT_any t0 tc wa HS2.out.1 HS2.out.2 (HL.out.go D5.out)).mono ?_
      rintro e w5 hc
      rcases hc with ⟨h1, _, _⟩ | ⟨p1, q1, h1, _, h3, _, ⟨h5, rfl⟩ | ⟨h5, _⟩, hb5⟩
      · refine absurd (Pl.ratsE_ok.2 fun l hx => ?_) h1
        simp only [List.mem_cons, List.not_mem_nil, or_false] at hx
        rcases hx with rfl | rfl
        · exact Pl.ratE_ok.2 ⟨p0, G.out.2.2.1, G.out.2.2.2.1⟩
        · exact Pl.ratE_ok.2 ⟨p - p0, G.out.2.2.2.2.2, G.out.2.2.2.2.1⟩
      · have hsum : (fun p q : Rat => p + q) p1 q1 = p := add_part (h1.symm.trans G.out.2.2.1) (h3.symm.trans G.out.2.2.2.2.2)
        rw [hsum, ← G.out.1]
        have D7 := Lib.hid (D5.out.trans (hb5.mono D5.out.size))
        have D8 := Lib.hid (D6.out.trans (hb5.mono D6.out.size))
        have y3 := (D7.out.cell (p := ⟨b, o + k, none⟩) hb).trans y1
        have y4 := (D7.out.cell (p := ⟨b, o, none⟩) hb).trans y0
        have x0 := (hb5.cell (p := ⟨wr.heap.size, 0, none⟩) BX.out.lt).trans (BX.out.cell 0)
        generalize wr.heap.size = nb at *
        have x1 : w5.cell? ⟨nb, 0, none⟩ = some (tx t0) := x0
        clear x0 hsum h1 h3 h5 hb5 y0 y1 z1 z2 D3 D4 D5 D6 BX HX
        go_wp2_with fail
        go_quiet (fail)
        have D9 := Lib.hid (below_drewN_p D8.out nq)
        generalize w5.drewN nq = w6 at *
        clear nq
        go_wp2_with fail
        have hn9 := HN2.out
        have hw9 : wrap64 ((k : Int) + 1) = (k : Int) + 1 := IntWalk.wrap64_in _ (by omega)
        rw [hw9]
        refine ⟨⟨k + 1, hlt, rfl, D9⟩, ?_⟩
        clear D9 hw9 x1 y3 y4 G HS2
        simp only [intOf]
        omega
      · have hsum : (fun p q : Rat => p + q) p1 q1 = p := add_part (h1.symm.trans G.out.2.2.1) (h3.symm.trans G.out.2.2.2.2.2)
        rw [hsum] at h5
        exact absurd G.out.2.1 h5
    · have hk2 : ¬ (k : Int) < (n : Int) := by omega
      go_wp2_with fail
      go_ret
      exact ⟨by simp, D4.out⟩
end Go.Proofs.YtflfbbdapbjaaaaDoor