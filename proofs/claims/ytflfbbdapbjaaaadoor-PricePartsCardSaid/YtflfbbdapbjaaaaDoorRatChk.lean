/- rat.Check answers as the plain check of texts. Condition: the text's length; the library's tables lie as they are laid. -/
import Derived.Test.YtflfbbdapbjaaaaDoorNatGcd
namespace Go.Proofs.YtflfbbdapbjaaaaDoor
open Go.RowKit
set_option maxRecDepth 100000
/-- the plain check in letters -/
def ratF (a b : Int) (n s l d : List UInt8) (c : Bool) : Int :=
  if a = 5 ∨ b = 5 ∨ (n = [48] ∧ s.length < l.length) then 5
  else if a ≠ 0 ∨ b ≠ 0 then 2
  else if c = true ∧ (d = [48] ∨ d = [49] ∨ Nat.gcd (Pl.natOf n) (Pl.natOf d) ≠ 1) then 3 else 0
theorem ratE_F (l : List UInt8) : Pl.ratE l = ratF (Pl.numE (Lib.cut (Pl.trimM l) [47]).1) (if (Lib.cut (Pl.trimM l) [47]).2.2 = true then Pl.numE (Lib.cut (Pl.trimM l) [47]).2.1 else 0) (Lib.cut (Pl.trimM l) [47]).1 (Pl.trimM l) l (Lib.cut (Pl.trimM l) [47]).2.1 (Lib.cut (Pl.trimM l) [47]).2.2 := by
  unfold Pl.ratE ratF
  generalize (Lib.cut (Pl.trimM l) [47]).1 = n
  generalize (Lib.cut (Pl.trimM l) [47]).2.1 = d
  cases (Lib.cut (Pl.trimM l) [47]).2.2
  · simp
  · simp
theorem ratF_a {a b : Int} {n s l d : List UInt8} {c : Bool} (h : a = 5) : ratF a b n s l d c = 5 := by unfold ratF; rw [if_pos (.inl h)]
theorem ratF_b {a b : Int} {n s l d : List UInt8} {c : Bool} (h : b = 5) : ratF a b n s l d c = 5 := by unfold ratF; rw [if_pos (.inr (.inl h))]
theorem ratF_n {a b : Int} {n s l d : List UInt8} {c : Bool} (h : n = [48]) (h2 : s.length < l.length) : ratF a b n s l d c = 5 := by unfold ratF; rw [if_pos (.inr (.inr ⟨h, h2⟩))]
theorem ratF_2 {a b : Int} {n s l d : List UInt8} {c : Bool} (h1 : a ≠ 5) (h2 : b ≠ 5) (h3 : ¬ (n = [48] ∧ s.length < l.length)) (h : a ≠ 0 ∨ b ≠ 0) : ratF a b n s l d c = 2 := by
  unfold ratF
  rw [if_neg (by rintro (h | h | h); exact h1 h; exact h2 h; exact h3 h), if_pos h]
theorem ratF_3 {n s l d : List UInt8} (h3 : ¬ (n = [48] ∧ s.length < l.length)) (h : d = [48] ∨ d = [49] ∨ Nat.gcd (Pl.natOf n) (Pl.natOf d) ≠ 1) : ratF 0 0 n s l d true = 3 := by
  unfold ratF
  rw [if_neg (by rintro (h | h | h); cases h; cases h; exact h3 h), if_neg (by simp), if_pos ⟨rfl, h⟩]
theorem ratF_0 {n s l d : List UInt8} {c : Bool} (h3 : ¬ (n = [48] ∧ s.length < l.length)) (h : c = true → d ≠ [48] ∧ d ≠ [49] ∧ Nat.gcd (Pl.natOf n) (Pl.natOf d) = 1) : ratF 0 0 n s l d c = 0 := by
  unfold ratF
  rw [if_neg (by rintro (h | h | h); cases h; cases h; exact h3 h), if_neg (by simp), if_neg]
  rintro ⟨h1, h2⟩
  obtain ⟨g1, g2, g3⟩ := h h1
  rcases h2 with h2 | h2 | h2
  · exact g1 h2
  · exact g2 h2
  · exact h2 g3
theorem cut_lens (s : List UInt8) : (Lib.cut s [47]).1.length ≤ s.length ∧ (Lib.cut s [47]).2.1.length ≤ s.length := by
  rcases Pl.cutR_cases s 47 with ⟨_, e⟩ | ⟨p, q, _, rfl, e⟩
  · rw [e]; simp
  · rw [e]; simp; omega
set_option maxHeartbeats 12800000 in
theorem rcheck_any (l : List UInt8) (w : World) (hs : l.length ≤ 9223372036854775807) (hl : LV w) :
    Calls Tryd.prog 17 #[tx l] w fun e w' => e = .returned (.int .i64 (Pl.ratE l)) ∧ Below w.heap.size w w' := by
  have HTR := Lib.hid (trim_any l w)
  have hsl : (Pl.trimM l).length ≤ l.length := by
    unfold Pl.trimM
    split
    · rw [List.length_tail]; omega
    · exact Nat.le_refl _
  have hE := ratE_F l
  have hcl := cut_lens (Pl.trimM l)
  obtain ⟨E, hE2⟩ : ∃ E : Int, E = Pl.ratE l := ⟨_, rfl⟩
  rw [← hE2] at hE ⊢
  clear hE2
  generalize Pl.trimM l = s at *
  have HCU := Lib.hid (cutl_any s 47 (by omega) w)
  have HGC : Hid (Pl.numE (Lib.cut s [47]).1 = 0 → Pl.numE (Lib.cut s [47]).2.1 = 0 → ∀ W, LV W → Calls Tryd.prog 32 #[tx (Lib.cut s [47]).1, tx (Lib.cut s [47]).2.1] W fun e w' => e = .returned (.tuple #[tx (Lib.decDigits (Nat.gcd (Pl.natOf (Lib.cut s [47]).1) (Pl.natOf (Lib.cut s [47]).2.1))), .int .i64 0]) ∧ Below W.heap.size W w') := fun h1 h2 W h3 => ngcd_any h1 h2 W h3
  generalize (Lib.cut s [47]).1 = n at *
  generalize (Lib.cut s [47]).2.1 = d at *
  generalize (Lib.cut s [47]).2.2 = c at *
  have HNA := Lib.hid (fun W => ncheck_any n W (by omega))
  have HNB := Lib.hid (fun W => ncheck_any d W (by omega))
  have hs1 : ((⟨s.toArray⟩ : ByteArray).size : Int) = (s.length : Int) := by rw [tx_size]
  have hs2 : ((⟨l.toArray⟩ : ByteArray).size : Int) = (l.length : Int) := by rw [tx_size]
  have HL := Lib.hid hl
  generalize Pl.numE n = a at *
  generalize Pl.numE d = b at *
  have HE := Lib.hid hE
  clear hE hcl hsl hl hs
  go_enter Tryd.func17, Tryd.ntmps17
  go_wp2_with fail
  refine HTR.out.mono ?_
  rintro e w' ⟨rfl, rfl⟩
  go_wp2_with fail
  refine HCU.out.mono ?_
  rintro e w2 ⟨rfl, hb5⟩
  have D := Lib.hid hb5
  clear hb5 HTR HCU
  go_wp2_with fail
  refine (HNA.out _).mono ?_
  rintro e w3 ⟨rfl, hb5⟩
  replace D := Lib.hid (D.out.trans (hb5.mono D.out.size))
  clear hb5 HNA
  cases c with
  | false =>
    rw [if_neg (by decide)] at HE
    clear HGC HNB
    by_cases ha5 : a = 5
    · have e1 : (a == 5) = true := by simpa using ha5
      have HV := Lib.hid (ratF_a (b := 0) (n := n) (s := s) (l := l) (d := d) (c := false) ha5)
      clear ha5
      go_wp2_with fail
      go_ret
      exact ⟨by rw [HE.out, HV.out]; rfl, D.out⟩
    · have e1 : (a == 5) = false := by simpa using ha5
      have HA5 := Lib.hid ha5
      clear ha5
      by_cases hn : n = [48] ∧ s.length < l.length
      · have e3 : (n == [48]) = true := by simpa using hn.1
        have e4 : (s.length : Int) < (l.length : Int) := by have := hn.2; omega
        have HV := Lib.hid (ratF_n (a := a) (b := 0) (d := d) (c := false) hn.1 hn.2)
        clear hn
        go_wp2_with fail
        go_ret
        exact ⟨by rw [HE.out, HV.out]; rfl, D.out⟩
      · have HN := Lib.hid hn
        have hT : Hid ((n == [48]) = false ∨ ((n == [48]) = true ∧ ¬ (s.length : Int) < (l.length : Int))) := by
          by_cases h : n = [48]
          · exact .inr ⟨by simpa using h, fun h2 => hn ⟨h, by omega⟩⟩
          · exact .inl (by simpa using h)
        clear hn
        by_cases ha0 : a = 0
        · subst ha0
          clear HA5
          have HV := Lib.hid (ratF_0 (c := false) (d := d) HN.out (fun h => by cases h))
          rcases hT.out with e3 | ⟨e3, e4⟩
          · clear hT
            go_wp2_with fail
            go_ret
            exact ⟨by rw [HE.out, HV.out]; rfl, D.out⟩
          · clear hT
            go_wp2_with fail
            go_ret
            exact ⟨by rw [HE.out, HV.out]; rfl, D.out⟩
        · have e5 : (a != 0) = true := by simpa using ha0
          have HV := Lib.hid (ratF_2 (b := 0) (c := false) (d := d) HA5.out (by decide) HN.out (.inl ha0))
          clear ha0
          rcases hT.out with e3 | ⟨e3, e4⟩
          · clear hT
            go_wp2_with fail
            go_ret
            exact ⟨by rw [HE.out, HV.out]; rfl, D.out⟩
          · clear hT
            go_wp2_with fail
            go_ret
            exact ⟨by rw [HE.out, HV.out]; rfl, D.out⟩
  | true =>
    rw [if_pos rfl] at HE
    go_wp2_with fail
    refine (HNB.out _).mono ?_
    rintro e w4 ⟨rfl, hb5⟩
    replace D := Lib.hid (D.out.trans (hb5.mono D.out.size))
    clear hb5 HNB
    by_cases ha5 : a = 5
    · have e1 : (a == 5) = true := by simpa using ha5
      have HV := Lib.hid (ratF_a (b := b) (n := n) (s := s) (l := l) (d := d) (c := true) ha5)
      clear ha5
      go_wp2_with fail
      go_ret
      exact ⟨by rw [HE.out, HV.out]; rfl, D.out⟩
    · have e1 : (a == 5) = false := by simpa using ha5
      have HA5 := Lib.hid ha5
      clear ha5
      by_cases hb5 : b = 5
      · have e2 : (b == 5) = true := by simpa using hb5
        have HV := Lib.hid (ratF_b (a := a) (n := n) (s := s) (l := l) (d := d) (c := true) hb5)
        clear hb5
        go_wp2_with fail
        go_ret
        exact ⟨by rw [HE.out, HV.out]; rfl, D.out⟩
      · have e2 : (b == 5) = false := by simpa using hb5
        have HB5 := Lib.hid hb5
        clear hb5
        by_cases hn : n = [48] ∧ s.length < l.length
        · have e3 : (n == [48]) = true := by simpa using hn.1
          have e4 : (s.length : Int) < (l.length : Int) := by have := hn.2; omega
          have HV := Lib.hid (ratF_n (a := a) (b := b) (d := d) (c := true) hn.1 hn.2)
          clear hn
          go_wp2_with fail
          go_ret
          exact ⟨by rw [HE.out, HV.out]; rfl, D.out⟩
        · have HN := Lib.hid hn
          have hT : Hid ((n == [48]) = false ∨ ((n == [48]) = true ∧ ¬ (s.length : Int) < (l.length : Int))) := by
            by_cases h : n = [48]
            · exact .inr ⟨by simpa using h, fun h2 => hn ⟨h, by omega⟩⟩
            · exact .inl (by simpa using h)
          clear hn
          by_cases ha0 : a = 0
          · subst ha0
            clear HA5
            by_cases hb0 : b = 0
            · subst hb0
              clear HB5
              have HG := Lib.hid (HGC.out rfl rfl w4 (HL.out.go D.out))
              clear HGC
              rcases hT.out with e3 | ⟨e3, e4⟩
              · clear hT
                go_wp2_with fail
                refine HG.out.mono ?_
                rintro e w5 ⟨rfl, hb5⟩
                replace D := Lib.hid (D.out.trans (hb5.mono D.out.size))
                clear hb5 HG
                obtain ⟨g, hg⟩ : ∃ g : List UInt8, g = Lib.decDigits (Nat.gcd (Pl.natOf n) (Pl.natOf d)) := ⟨_, rfl⟩
                rw [← hg]
                have HGE : Hid (g = [49] ↔ Nat.gcd (Pl.natOf n) (Pl.natOf d) = 1) := by rw [hg]; exact Pl.dec_eq1
                clear hg
                by_cases h48 : d = [48]
                · have f1 : (d == [48]) = true := by simpa using h48
                  have HV := Lib.hid (ratF_3 (d := d) HN.out (.inl h48))
                  clear h48
                  go_wp2_with fail
                  go_ret
                  exact ⟨by rw [HE.out, HV.out]; rfl, D.out⟩
                · have f1 : (d == [48]) = false := by simpa using h48
                  have H48 := Lib.hid h48
                  clear h48
                  by_cases h49 : d = [49]
                  · have f2 : (d == [49]) = true := by simpa using h49
                    have HV := Lib.hid (ratF_3 (d := d) HN.out (.inr (.inl h49)))
                    clear h49
                    go_wp2_with fail
                    go_ret
                    exact ⟨by rw [HE.out, HV.out]; rfl, D.out⟩
                  · have f2 : (d == [49]) = false := by simpa using h49
                    have H49 := Lib.hid h49
                    clear h49
                    by_cases hg1 : g = [49]
                    · have f3 : (g == [49]) = true := by simpa using hg1
                      have HV := Lib.hid (ratF_0 (c := true) HN.out (fun _ => ⟨H48.out, H49.out, HGE.out.1 hg1⟩))
                      clear hg1
                      go_wp2_with fail
                      go_ret
                      exact ⟨by rw [HE.out, HV.out]; rfl, D.out⟩
                    · have f3 : (g == [49]) = false := by simpa using hg1
                      have HV := Lib.hid (ratF_3 (d := d) HN.out (.inr (.inr (fun h => hg1 (HGE.out.2 h)))))
                      clear hg1
                      go_wp2_with fail
                      go_ret
                      exact ⟨by rw [HE.out, HV.out]; rfl, D.out⟩
              · clear hT
                go_wp2_with fail
                refine HG.out.mono ?_
                rintro e w5 ⟨rfl, hb5⟩
                replace D := Lib.hid (D.out.trans (hb5.mono D.out.size))
                clear hb5 HG
                obtain ⟨g, hg⟩ : ∃ g : List UInt8, g = Lib.decDigits (Nat.gcd (Pl.natOf n) (Pl.natOf d)) := ⟨_, rfl⟩
                rw [← hg]
                have HGE : Hid (g = [49] ↔ Nat.gcd (Pl.natOf n) (Pl.natOf d) = 1) := by rw [hg]; exact Pl.dec_eq1
                clear hg
                by_cases h48 : d = [48]
                · have f1 : (d == [48]) = true := by simpa using h48
                  have HV := Lib.hid (ratF_3 (d := d) HN.out (.inl h48))
                  clear h48
                  go_wp2_with fail
                  go_ret
                  exact ⟨by rw [HE.out, HV.out]; rfl, D.out⟩
                · have f1 : (d == [48]) = false := by simpa using h48
                  have H48 := Lib.hid h48
                  clear h48
                  by_cases h49 : d = [49]
                  · have f2 : (d == [49]) = true := by simpa using h49
                    have HV := Lib.hid (ratF_3 (d := d) HN.out (.inr (.inl h49)))
                    clear h49
                    go_wp2_with fail
                    go_ret
                    exact ⟨by rw [HE.out, HV.out]; rfl, D.out⟩
                  · have f2 : (d == [49]) = false := by simpa using h49
                    have H49 := Lib.hid h49
                    clear h49
                    by_cases hg1 : g = [49]
                    · have f3 : (g == [49]) = true := by simpa using hg1
                      have HV := Lib.hid (ratF_0 (c := true) HN.out (fun _ => ⟨H48.out, H49.out, HGE.out.1 hg1⟩))
                      clear hg1
                      go_wp2_with fail
                      go_ret
                      exact ⟨by rw [HE.out, HV.out]; rfl, D.out⟩
                    · have f3 : (g == [49]) = false := by simpa using hg1
                      have HV := Lib.hid (ratF_3 (d := d) HN.out (.inr (.inr (fun h => hg1 (HGE.out.2 h)))))
                      clear hg1
                      go_wp2_with fail
                      go_ret
                      exact ⟨by rw [HE.out, HV.out]; rfl, D.out⟩
            · have e5 : (b != 0) = true := by simpa using hb0
              have HV := Lib.hid (ratF_2 (a := 0) (c := true) (d := d) (by decide) HB5.out HN.out (.inr hb0))
              clear hb0
              rcases hT.out with e3 | ⟨e3, e4⟩
              · clear hT
                go_wp2_with fail
                go_ret
                exact ⟨by rw [HE.out, HV.out]; rfl, D.out⟩
              · clear hT
                go_wp2_with fail
                go_ret
                exact ⟨by rw [HE.out, HV.out]; rfl, D.out⟩
          · have e5 : (a != 0) = true := by simpa using ha0
            have HV := Lib.hid (ratF_2 (c := true) (d := d) HA5.out HB5.out HN.out (.inl ha0))
            clear ha0
            rcases hT.out with e3 | ⟨e3, e4⟩
            · clear hT
              go_wp2_with fail
              go_ret
              exact ⟨by rw [HE.out, HV.out]; rfl, D.out⟩
            · clear hT
              go_wp2_with fail
              go_ret
              exact ⟨by rw [HE.out, HV.out]; rfl, D.out⟩
end Go.Proofs.YtflfbbdapbjaaaaDoor
