/- The law DispatchConvolves: for all valid lengths the call returns true, and old memory is left as it is. No condition. -/
import Derived.Test.YtjdagpmfnmodbaaConv
import Derived.Test.YtjdagpmfnmodbaaOf
import Derived.Test.YtjdagpmfnmodbaaPConv
import Derived.Test.YtjdagpmfnmodbaaServed
namespace Go.Proofs.Ytjdagpmfnmodbaa
open Go.RowKit
namespace Pl
/-- what the loop knows of the first k offers' convolution -/
structure CvRel (o : List Off) (k : Nat) (F : List (Int × Int)) : Prop where
  ok : ∀ j, j < k → ocheck (nameK o j) (steps o j) = 0
  good : ccheck 0 0 F = 0
  tot : total F = sumN (fun j => total (steps o j)) k
  best : ∀ p, best p F = sumN (fun j => Pl.best p (steps o j)) k
theorem CvRel.start (o : List Off) : CvRel o 0 [] := ⟨fun j hj => absurd hj (by omega), by decide, rfl, fun _ => rfl⟩
theorem CvRel.next {o : List Off} {k : Nat} {F L : List (Int × Int)} (h : CvRel o k F) (h1 : (cOf (nameK o k) (steps o k)).2 = 0) (hp : L.Perm (F ++ cjoin (steps o k))) (h2 : (cMade (0 + 0) (0 + 0) L).2 = 0) :
    cOf (nameK o k) (steps o k) = ((0, 0, cjoin (steps o k)), 0) ∧ ccheck 0 0 (cjoin (steps o k)) = 0 ∧ cMade (0 + 0) (0 + 0) L = ((0, 0, cjoin L), 0) ∧ CvRel o (k + 1) (cjoin L) := by
  have h0 : ocheck (nameK o k) (steps o k) = 0 := by
    unfold cOf at h1
    by_cases h0 : ocheck (nameK o k) (steps o k) = 0
    · exact h0
    · rw [if_pos h0] at h1; exact absurd h1 h0
  obtain ⟨g, _, _⟩ := ocheck_ok h0
  have e1 : cOf (nameK o k) (steps o k) = cMade 0 0 (steps o k) := by unfold cOf; rw [if_neg (by simpa using h0)]
  have hc : ccheck 0 0 (cjoin (steps o k)) = 0 := by
    rw [e1] at h1
    unfold cMade at h1
    by_cases hc : ccheck 0 0 (cjoin (steps o k)) = 0
    · exact hc
    · rw [if_pos hc] at h1; simp at h1
  obtain ⟨gF, _, _, _⟩ := ccheck_ok h.good
  obtain ⟨gC, _, _, _⟩ := ccheck_ok hc
  obtain ⟨m1, m2, m3, m4, m5⟩ := conv_step gF gC hp h2
  have hk := cjoin_keeps fun q hq => (g.step q hq).1
  have hcL : ccheck (0 + 0) (0 + 0) (cjoin L) = 0 := by
    have := m1
    unfold cMade at this
    by_cases hcc : ccheck (0 + 0) (0 + 0) (cjoin L) = 0
    · exact hcc
    · rw [if_pos hcc] at this; simp at this
  refine ⟨by rw [e1]; unfold cMade; rw [if_neg (by simpa using hc)], hc, m1, ⟨fun j hj => ?_, hcL, ?_, fun p => ?_⟩⟩
  · by_cases e : j = k
    · subst e; exact h0
    · exact h.ok j (by omega)
  · rw [m4, h.tot, hk.2.1]; rfl
  · rw [m5 p, h.best p, cjoin_best]; rfl
theorem cOf_ok {nm : ByteArray} {st : List (Int × Int)} (h1 : (cOf nm st).2 = 0) : cOf nm st = ((0, 0, cjoin st), 0) ∧ ccheck 0 0 (cjoin st) = 0 := by
  have h0 : ocheck nm st = 0 := by
    unfold cOf at h1
    by_cases h0 : ocheck nm st = 0
    · exact h0
    · rw [if_pos h0] at h1; exact absurd h1 h0
  have e1 : cOf nm st = cMade 0 0 st := by unfold cOf; rw [if_neg (by simpa using h0)]
  have hc : ccheck 0 0 (cjoin st) = 0 := by
    rw [e1] at h1
    unfold cMade at h1
    by_cases hc : ccheck 0 0 (cjoin st) = 0
    · exact hc
    · rw [if_pos hc] at h1; simp at h1
  exact ⟨by rw [e1]; unfold cMade; rw [if_neg (by simpa using hc)], hc⟩
/-- the end of the law -/
theorem cv_good {o : List Off} {d cost p0 : Int} {F : List (Int × Int)} {xs : List Int} (h : CvRel o o.length F) (hd : dcheck o d = 0) (hs : Served o o.length d xs cost p0) : cAt 0 0 F d = (cost, 0) := by
  obtain ⟨h1, d0, _, d2⟩ := dcheck_ok hd
  obtain ⟨gF, _, _, _⟩ := ccheck_ok h.good
  have hg : ∀ k, k < o.length → Good (steps o k) := fun k hk => (steps_good h1 k hk).1
  have ht : total F = totals o o.length := h.tot
  have hc := conv_cost hg hs (fun q hq => by have := (gF.step q hq).1; omega) (gF.up.imp fun {a b} h => Int.le_of_lt h) h.best d0 (by omega)
  unfold cAt chigh cvat
  rw [if_neg (by simpa using h.good), if_neg (by omega), Int.sub_zero, hc, Int.zero_add]
theorem cv_bad {o : List Off} {d : Int} {F : List (Int × Int)} (hl : o.length ≤ 4) (h : CvRel o o.length F) (hd : dcheck o d ≠ 0) : dcheck o d = 7 ∨ cAt 0 0 F d = (0, 4) := by
  obtain ⟨gF, _, _, _⟩ := ccheck_ok h.good
  have ht : total F = totals o o.length := h.tot
  have hp := gF.place.2
  by_cases h1 : oall o = 0
  · right
    have hx : d < 0 ∨ total F < d := by
      unfold dcheck at hd
      rw [if_neg (by simpa using h1)] at hd
      by_cases h2 : d < 0 ∨ 1000000 < d
      · rcases h2 with h2 | h2
        · exact .inl h2
        · right; omega
      · rw [if_neg h2] at hd
        by_cases h3 : totals o o.length < d
        · right; omega
        · rw [if_neg h3] at hd; exact absurd rfl hd
    unfold cAt chigh
    rw [if_neg (by simpa using h.good), if_pos (by omega)]
  · left
    unfold dcheck
    rw [if_pos h1]
    have hk : ∀ k, k ≤ o.length → oallK o k = 0 ∨ oallK o k = 7 := by
      intro k
      induction k with
      | zero => intro _; exact .inl rfl
      | succ k ih =>
        intro hk
        rcases ih (by omega) with e | e
        · have hz : ocheck (o.getD k (⟨#[]⟩, [])).1 (o.getD k (⟨#[]⟩, [])).2 = 0 := h.ok k (by omega)
          rw [oallK, if_pos e]
          unfold oallS
          rw [if_neg (by simpa using hz)]
          by_cases hh : has (fun z : Off => z.1.toList == (o.getD k (⟨#[]⟩, [])).1.toList) (o.take k) = true
          · rw [if_pos hh]; exact .inr rfl
          · rw [if_neg hh]; exact .inl rfl
        · rw [oallK, if_neg (by rw [e]; decide)]; exact .inr e
    unfold oall at h1 ⊢
    rw [if_neg (by omega)] at h1 ⊢
    exact (hk _ (Nat.le_refl _)).resolve_left h1
/-- what Best says of the cost and the errno -/
def Best4 (o : List Off) (d nn er : Int) : Prop := (er = 0 ∧ dcheck o d = 0 ∧ ∃ ps p, Served o o.length d ps nn p) ∨ (er ≠ 0 ∧ er = dcheck o d ∧ nn = 0)
end Pl
theorem best4 (A : Option Addr) (n c : Nat) (l : List MOff) (d : Int) (w : World) (hcap : n ≤ c) (h : Offs w A n l) :
    Calls Try.prog 17 #[.slice A n c, .int .i64 d] w fun e w' => ∃ P nn er, e = .returned (.tuple #[P, .int .i64 nn, .int .i64 er]) ∧ Pl.Best4 (plo l) d nn er ∧ Below w.heap.size w w' := by
  have hl : (plo l).length = n := by rw [plo_len, h.len]
  by_cases h0 : Pl.dcheck (plo l) d = 0
  · refine (best_good A n c l d w hcap h h0).mono ?_
    rintro e w8 ⟨A8, ps, cost, p, rfl, hs, _, _, _, _, hb⟩
    exact ⟨_, _, _, rfl, .inl ⟨rfl, h0, ps, p, by rw [hl]; exact hs⟩, hb⟩
  · refine (best_bad A n c l d w hcap h h0).mono ?_
    rintro e w8 ⟨rfl, hb⟩
    exact ⟨_, _, _, rfl, .inr ⟨h0, rfl, rfl⟩, hb⟩
set_option maxHeartbeats 6400000 in
set_option maxRecDepth 100000 in
theorem dispatchConvolves_walk (hsort : SortPOk) (A : Option Addr) (n c : Nat) (l : List MOff) (d : Int) (w : World) (hcap : n ≤ c) (h : Offs w A n l) :
    Calls Try.prog 3 #[.slice A n c, .int .i64 d] w fun e w' => e = .returned (.bool true) ∧ Below w.heap.size w w' := by
  have H := Lib.hid h
  obtain ⟨k4, hk4, hk4n, hk44⟩ : ∃ k4 : Nat, (if (4 : Int) < n then (4 : Int) else n) = k4 ∧ k4 ≤ n ∧ k4 ≤ 4 := by
    by_cases h4 : (4 : Int) < n
    · exact ⟨4, by rw [if_pos h4]; rfl, by omega, by omega⟩
    · exact ⟨n, by rw [if_neg h4], by omega, by omega⟩
  have HT : Hid (∀ w', Below w.heap.size w w' → Offs w' A k4 (l.take k4)) := fun w' hb => by
    by_cases e : k4 < n
    · exact (h.go hb).take e
    · have : k4 = n := by omega
      subst this
      rw [List.take_of_length_le (by rw [h.len]; exact Nat.le_refl _)]
      exact h.go hb
  clear h
  go_enter Try.func3, Try.ntmps3
  go_wp2_with fail
  refine (served_any _).mono ?_
  rintro e w1 ⟨rfl, hb⟩
  have HB1 := Lib.hid hb
  clear hb
  go_wp2_with fail
  refine (slopes_any _).mono ?_
  rintro e w2 ⟨rfl, hb⟩
  have HB2 := Lib.hid (HB1.out.trans (hb.mono HB1.out.size))
  clear hb HB1
  go_wp2_with fail
  refine (best4 _ _ _ _ _ _ (by omega) (HT.out _ HB2.out)).mono ?_
  rintro e w3 ⟨P, nn, er, rfl, hs, hb⟩
  have HS := Lib.hid hs
  have HB3 := Lib.hid (HB2.out.trans (hb.mono HB2.out.size))
  clear hb HB2 hs
  go_wp2_with fail
  have HBX := Lib.hid (Blk.new_ w3 w3.heap.size 30 #[.int .i64 0, .int .i64 0, .slice none 0 0] rfl)
  have HBA := Lib.hid (HB3.out.alloc HB3.out.size (.cells #[.int .i64 0, .int .i64 0, .slice none 0 0] 30))
  have HW := Lib.hid HB3.out.size
  clear HB3
  generalize w3.alloc (.cells #[.int .i64 0, .int .i64 0, .slice none 0 0] 30) = wa at *
  generalize w3.heap.size = bx at *
  generalize l.take k4 = l4 at *
  go_loopw [36] (fun i wr => ∃ k : Nat, k ≤ k4 ∧ i = .int .i64 k ∧ ∃ F AF cF, Hid (Pl.CvRel (plo l4) k F) ∧ Hid (Blk wr bx 30 #[.int .i64 0, .int .i64 0, .slice AF F.length cF]) ∧ Hid (wr.ownsRow (bx + 1) 73 2 (.slice AF F.length cF) F.length (pairs F)) ∧ Hid (Below w.heap.size w wr)) (fun i _ => k4 - (intOf i).toNat)
  case atStart => exact ⟨0, Nat.zero_le _, rfl, [], none, 0, Pl.CvRel.start _, HBX.out, ⟨rfl, .inl ⟨rfl, rfl⟩⟩, HBA.out⟩
  case round =>
    obtain ⟨k, hk, rfl, F, AF, cF, HR, HX, HO, HB⟩ := hrel
    have kx := HX.out.cell
    have hsz := HB.out.size
    by_cases hlt : k < k4
    · obtain ⟨b, o, rfl, hl1, c1, c2, hin⟩ := (HT.out _ HB.out).at_ hlt
      have hlp : k < (plo l4).length := by rw [plo_len]; exact hl1
      have HN : Hid (Pl.nameK (plo l4) k = l4[k].nm) := by show _ = _; unfold Pl.nameK; rw [List.getD_eq_getElem?_getD, List.getElem?_eq_getElem hlp, plo_at hl1]; rfl
      have HS2 : Hid (Pl.steps (plo l4) k = l4[k].st) := by show _ = _; unfold Pl.steps; rw [List.getD_eq_getElem?_getD, List.getElem?_eq_getElem hlp, plo_at hl1]; rfl
      have HIN := Lib.hid hin
      clear hin
      generalize l4[k] = z at *
      obtain ⟨nm, Az, nz, cz, st⟩ := z
      simp only at c1 c2 HN HS2
      have HOF := Lib.hid (fun w hq => cOf_any nm Az nz cz st w HIN.out.1 hq)
      have HNX := Lib.hid (fun L => Pl.CvRel.next (L := L) HR.out)
      rw [HN.out, HS2.out] at HNX
      generalize hCO : Pl.cOf nm st = CO at *
      have HCO := Lib.hid hCO
      clear hCO HN HS2
      unfold MadeSaid vOff vCx at HOF
      have BB := (Below.refl wr.heap.size wr).alloc (Nat.le_refl _) (.cells #[.string nm, .slice Az nz cz] 33)
      go_wp2_with fail
      refine (HOF.out _ (HIN.out.2.2.go BB)).mono ?_
      rintro e w5 ⟨A5, c5, rfl, hown5, hb⟩
      have HB5 := Lib.hid ((HB.out.alloc HB.out.size (.cells #[.string nm, .slice Az nz cz] 33)).trans (hb.mono (HB.out.alloc HB.out.size (.cells #[.string nm, .slice Az nz cz] 33)).size))
      have HX5 := Lib.hid ((HX.out.go BB).go hb)
      have HO5 := Lib.hid (own_go (own_go HO.out BB) hb)
      have HG5 := Lib.hid (Reads.of_own hown5)
      clear hown5 hb BB HOF HB kx HX HO
      have kx := HX5.out.cell
      by_cases hc : CO.2 = 0
      · obtain ⟨e1, hcc⟩ := Pl.cOf_ok (by rw [HCO.out]; exact hc)
        rw [HCO.out] at e1
        have HNY := Lib.hid (fun L => HNX.out L hc)
        clear HNX hc HCO
        subst e1
        simp only at HG5
        have BB := (Below.refl w5.heap.size w5).alloc (Nat.le_refl _) (.cells #[.int .i64 0, .int .i64 0, .slice A5 (Pl.cjoin st).length c5] 30)
        have HB6 := Lib.hid (HB5.out.alloc HB5.out.size (.cells #[.int .i64 0, .int .i64 0, .slice A5 (Pl.cjoin st).length c5] 30))
        have HX6 := Lib.hid (HX5.out.go BB)
        have HO6 := Lib.hid (own_go HO5.out BB)
        have kx6 := HX6.out.cell
        have hlt6 := HX6.out.lt
        have HCV := Lib.hid (cConv_good hsort 0 0 0 0 AF A5 F.length (Pl.cjoin st).length cF c5 F (Pl.cjoin st) _ (Reads.of_own HO6.out) (HG5.out.go BB) HR.out.good hcc)
        clear BB
        unfold ConvSaid MadeSaid vCx at HCV
        go_wp2_with fail
        refine HCV.out.mono ?_
        rintro e w7 ⟨L, hp, hsr, A7, c7, rfl, hown7, hb⟩
        have HB7 := Lib.hid (HB6.out.trans (hb.mono HB6.out.size))
        have HX7 := Lib.hid (HX6.out.go hb)
        have HO7 := Lib.hid (own_base hown7 (show bx + 1 ≤ _ from hlt6))
        have HNZ := Lib.hid (HNY.out L hp)
        clear hb hown7 hp hsr HCV kx kx6 HX5 HO5 HG5 HB5 HX6 HO6 HB6 hlt6 HNY
        generalize Pl.cMade (0 + 0) (0 + 0) L = R at *
        have k7 := HX7.out.cell
        have f7 := HX7.out.frozen
        by_cases hr : R.2 = 0
        · obtain ⟨_, _, e2, hnext⟩ := HNZ.out hr
          subst e2
          have HNE := Lib.hid hnext
          clear HNZ hnext hr
          go_wp2_with fail
          go_roundw
          case rel =>
            refine ⟨k + 1, by omega, by go_num, Pl.cjoin L, A7, c7, HNE.out, ((HX7.out.set_ 0 (.int .i64 0)).set_ 1 (.int .i64 0)).set_ 2 (.slice A7 (Pl.cjoin L).length c7), ?_, ?_⟩
            · exact own_far (own_far (own_far HO7.out (by show bx < _; omega) _) (by show bx < _; omega) _) (by show bx < _; omega) _
            · exact ((HB7.out.setCell (p := ⟨bx, 0, none⟩) HW.out _).setCell (p := ⟨bx, 1, none⟩) HW.out _).setCell (p := ⟨bx, 2, none⟩) HW.out _
          case measure => simp [intOf]; omega
        · have hr2 : (R.2 != 0) = true := by simpa using hr
          clear HNZ
          go_wp2_with fail
          go_ret
          exact ⟨rfl, ((HB7.out.setCell (p := ⟨bx, 0, none⟩) HW.out _).setCell (p := ⟨bx, 1, none⟩) HW.out _).setCell (p := ⟨bx, 2, none⟩) HW.out _⟩
      · have hc2 : (CO.2 != 0) = true := by simpa using hc
        clear HNX
        go_wp2_with fail
        go_ret
        exact ⟨rfl, HB5.out.alloc HB5.out.size _⟩
    · have : k = k4 := by omega
      subst this
      have HAT := Lib.hid (cAt_any 0 0 AF F.length cF F d wr (Reads.of_own HO.out))
      unfold TwoSaid vCx at HAT
      have hlen : (plo l4).length = k := by rw [plo_len]; exact (HT.out _ HB.out).len
      have HRR : Pl.CvRel (plo l4) (plo l4).length F := by rw [hlen]; exact HR.out
      have hk5 : (plo l4).length ≤ 4 := by omega
      rcases HS.out with ⟨e0, hd, ps, p, hsv⟩ | ⟨e0, he, hn0⟩
      · rw [Pl.cv_good HRR hd hsv] at HAT
        clear HRR hsv hd hlen hk5 HS
        subst e0
        go_wp2_with fail
        refine HAT.out.mono ?_
        rintro e w8 ⟨rfl, hb⟩
        have HB8 := Lib.hid (HB.out.trans (hb.mono HB.out.size))
        clear hb HAT
        go_wp2_with fail
        go_ret
        exact ⟨rfl, HB8.out⟩
      · have ht := Pl.cv_bad hk5 HRR (by rw [← he]; exact e0)
        clear HRR hlen hk5 HS
        subst hn0
        have hee : (er == 0) = false := by simpa using e0
        rcases ht with h7 | h4
        · rw [h7] at he
          clear h7 e0 hee
          subst he
          generalize Pl.cAt 0 0 F d = y at *
          cases hg : (y.2 == 0)
          all_goals
            cases hv : ((0 : Int) == y.1)
            all_goals
              go_wp2_with fail
              refine HAT.out.mono ?_
              rintro e w8 ⟨rfl, hb⟩
              have HB8 := Lib.hid (HB.out.trans (hb.mono HB.out.size))
              clear hb
              go_wp2_with fail
              go_ret
              exact ⟨rfl, HB8.out⟩
        · rw [h4] at HAT
          clear h4 he e0
          go_wp2_with fail
          refine HAT.out.mono ?_
          rintro e w8 ⟨rfl, hb⟩
          have HB8 := Lib.hid (HB.out.trans (hb.mono HB.out.size))
          clear hb HAT
          go_wp2_with fail
          go_ret
          exact ⟨rfl, HB8.out⟩
end Go.Proofs.Ytjdagpmfnmodbaa
