/- Slices of generators of a commitment in memory; dual.Check gives what its plain function gives. Condition: the names have sizes that Go allows. -/
import Derived.Test.YtchafkocobbndaaPDual
import Derived.Test.YtchafkocobbndaaUnit
import Derived.Test.YtchafkocobbndaaOfferB
import Derived.Test.YtchafkocobbndaaQuiet
namespace Go.Proofs.Ytchafkocobbndaa
open Go.RowKit
/-- a generator as memory holds it -/
structure MU where
  r : Pl.Rule
  nm : ByteArray
  A : Option Addr
  n : Nat
  c : Nat
  st : List (Int × Int)
  s : Pl.St
def ucells (u : MU) : List Value := [.string u.r.name, .int .i64 u.r.least, .int .i64 u.r.most, .int .i64 u.r.up, .int .i64 u.r.down, .int .i64 u.r.minOn, .int .i64 u.r.minOff, .int .i64 u.r.start, .string u.nm, .slice u.A u.n u.c, .bool u.s.on, .int .i64 u.s.since, .int .i64 u.s.power]
def unis (l : List MU) : List Value := l.flatMap ucells
def plu (u : MU) : Pl.CU := ⟨u.r, (u.nm, u.st), u.s⟩
def vUn (u : MU) : Value := .agg #[.string u.r.name, .int .i64 u.r.least, .int .i64 u.r.most, .int .i64 u.r.up, .int .i64 u.r.down, .int .i64 u.r.minOn, .int .i64 u.r.minOff, .int .i64 u.r.start, .string u.nm, .slice u.A u.n u.c, .bool u.s.on, .int .i64 u.s.since, .int .i64 u.s.power]
def UnIn (w : World) (u : MU) : Prop := u.r.name.size ≤ 9223372036854775807 ∧ u.nm.size ≤ 9223372036854775807 ∧ u.n ≤ u.c ∧ Reads w w.heap.size 2 u.A u.n (pairs u.st)
theorem UnIn.go {w w' : World} {u : MU} (h : UnIn w u) (hb : Below w.heap.size w w') : UnIn w' u := ⟨h.1, h.2.1, h.2.2.1, h.2.2.2.go hb⟩
/-- a slice of generators, the steps of their offers with them -/
def Unis (w : World) (A : Option Addr) (n : Nat) (l : List MU) : Prop := Reads w w.heap.size 13 A n (unis l) ∧ ∀ u ∈ l, UnIn w u
theorem Unis.go {w w' : World} {A : Option Addr} {n : Nat} {l : List MU} (h : Unis w A n l) (hb : Below w.heap.size w w') : Unis w' A n l :=
  ⟨h.1.go hb, fun u hu => (h.2 u hu).go hb⟩
theorem unis_length (l : List MU) : (unis l).length = l.length * 13 := by
  induction l with
  | nil => rfl
  | cons p l ih => simp [unis, ucells] at ih ⊢; omega
theorem unis_at (l : List MU) (k : Nat) (hk : k < l.length) (j : Nat) (hj : j < 13) : (unis l)[k * 13 + j]? = (ucells l[k])[j]? := by
  induction l generalizing k with
  | nil => simp at hk
  | cons p l ih =>
    have e : unis (p :: l) = ucells p ++ unis l := rfl
    have e2 : (ucells p).length = 13 := rfl
    rw [e]
    cases k with
    | zero => rw [List.getElem?_append_left (by omega)]; simp
    | succ k =>
      rw [List.getElem?_append_right (by omega), e2, show (k + 1) * 13 + j - 13 = k * 13 + j from by omega]
      exact ih k (by simpa using hk)
theorem Unis.len {w : World} {A : Option Addr} {n : Nat} {l : List MU} (h : Unis w A n l) : l.length = n := by
  have := h.1.1; rw [unis_length] at this; omega
theorem Unis.at_ {w : World} {A : Option Addr} {n : Nat} {l : List MU} (h : Unis w A n l) {k : Nat} (hk : k < n) :
    ∃ b o, A = some ⟨b, o, none⟩ ∧ ∃ hl : k < l.length, (∀ j u, (ucells (l[k]'hl))[j]? = some u → w.cell? ⟨b, o + k * 13 + j, none⟩ = some u) ∧ UnIn w (l[k]'hl) := by
  obtain ⟨b, o, rfl, _, hc⟩ := h.1.where_ (by omega) (by omega)
  have hl : k < l.length := by have := h.len; omega
  refine ⟨b, o, rfl, hl, fun j u hu => ?_, h.2 _ (List.getElem_mem hl)⟩
  have hj : j < 13 := by
    rcases Nat.lt_or_ge j 13 with hj | hj
    · exact hj
    · rw [List.getElem?_eq_none (by show 13 ≤ j; exact hj)] at hu; cases hu
  rw [Nat.add_assoc]
  exact hc _ _ (by rw [unis_at l k hl j hj]; exact hu)
theorem Unis.take {w : World} {A : Option Addr} {n k : Nat} {l : List MU} (h : Unis w A n l) (hk : k < n) : Unis w A k (l.take k) := by
  obtain ⟨⟨h1, h2⟩, h3⟩ := h
  have hl : l.length = n := by rw [unis_length] at h1; omega
  refine ⟨⟨by rw [unis_length, List.length_take]; omega, fun hk0 => ?_⟩, fun u hu => h3 u (List.mem_of_mem_take hu)⟩
  obtain ⟨ad, rfl, hb, hc⟩ := h2 (by omega)
  refine ⟨ad, rfl, hb, fun j u hu => hc j u ?_⟩
  have e : unis l = unis (l.take k) ++ unis (l.drop k) := by
    unfold unis; rw [← List.flatMap_append, List.take_append_drop]
  rw [e, List.getElem?_append_left]
  · exact hu
  · rcases Nat.lt_or_ge j (unis (l.take k)).length with h | h
    · exact h
    · rw [List.getElem?_eq_none h] at hu; cases hu
def plus (l : List MU) : List Pl.CU := l.map plu
theorem plus_len (l : List MU) : (plus l).length = l.length := by unfold plus; simp
theorem plus_at {l : List MU} {k : Nat} (hk : k < l.length) : (plus l)[k]'(by rw [plus_len]; exact hk) = plu l[k] := by unfold plus; simp
theorem plus_take (l : List MU) (k : Nat) : (plus l).take k = plus (l.take k) := by unfold plus; rw [List.map_take]
set_option maxHeartbeats 1600000 in
set_option maxRecDepth 100000 in
theorem ducheck_any (u : MU) (w : World) (h : UnIn w u) :
    Calls Try.prog 25 #[vUn u] w fun e w' => e = .returned (.int .i64 (Pl.duCheck (plu u))) ∧ Below w.heap.size w w' := by
  obtain ⟨r, nm, A, n, c, st, s⟩ := u
  obtain ⟨h1, h2, h3, h4⟩ := h
  simp only at h1 h2 h3 h4
  have HR := Lib.hid h4
  have HS := Lib.hid (fun w => ustate_any r s w h1)
  have HO := Lib.hid (fun w hr => ocheck_any nm A n c st w h2 hr)
  have HD : Hid (Pl.duCheck (plu ⟨r, nm, A, n, c, st, s⟩) = if Pl.ustate r s ≠ 0 then Pl.ustate r s else if Pl.ocheck nm st ≠ 0 then Pl.ocheck nm st else if Pl.total st ≠ r.most ∨ (r.name.toList == nm.toList) = false then 3 else if r.up < r.most ∨ r.down < r.most then 1 else 0) := rfl
  generalize Pl.duCheck (plu ⟨r, nm, A, n, c, st, s⟩) = R at *
  unfold vUn vRule vSt at *
  obtain ⟨rn, r1, r2, r3, r4, r5, r6, r7⟩ := r
  obtain ⟨s1, s2, s3⟩ := s
  simp only at *
  have A0 := (Below.refl w.heap.size w).alloc (Nat.le_refl _) (.cells #[.string rn, .int .i64 r1, .int .i64 r2, .int .i64 r3, .int .i64 r4, .int .i64 r5, .int .i64 r6, .int .i64 r7, .string nm, .slice A n c, .bool s1, .int .i64 s2, .int .i64 s3] 35)
  have B0 := Lib.hid (Blk.new_ w w.heap.size 35 #[.string rn, .int .i64 r1, .int .i64 r2, .int .i64 r3, .int .i64 r4, .int .i64 r5, .int .i64 r6, .int .i64 r7, .string nm, .slice A n c, .bool s1, .int .i64 s2, .int .i64 s3] rfl)
  have HB0 := Lib.hid A0
  have HR0 := Lib.hid (HR.out.go A0)
  clear A0 HR h4
  generalize Pl.ustate ⟨rn, r1, r2, r3, r4, r5, r6, r7⟩ ⟨s1, s2, s3⟩ = us at *
  by_cases hu : us = 0
  · have hu2 : (us != 0) = false := by simpa using hu
    rw [if_neg (by simpa using hu)] at HD
    have HUS := Lib.hid hu
    clear hu
    by_cases ho : Pl.ocheck nm st = 0
    · rw [if_neg (by simpa using ho)] at HD
      obtain ⟨hg, h12, _⟩ := Pl.ocheck_ok ho
      have hn12 : n ≤ 12 := by rw [← HR0.out.pair_len]; exact h12
      have HOT := Lib.hid (fun w hr => osum_any nm A n c st w hr hg hn12)
      unfold vOff at HOT
      rw [ho] at HO
      clear ho hg h12
      generalize Pl.total st = tt at *
      go_enter Try.func25, Try.ntmps25
      go_wp2_with fail
      refine (HS.out _).mono ?_
      rintro e w1 ⟨rfl, hb⟩
      have HB1 := Lib.hid (HB0.out.trans (hb.mono HB0.out.size))
      have B1 := Lib.hid (B0.out.go hb)
      have HR1 := Lib.hid (HR0.out.go hb)
      clear hb HS HB0 B0 HR0
      have c1 := B1.out.cell
      go_wp2_with fail
      refine (HO.out _ HR1.out).mono ?_
      rintro e w2 ⟨rfl, hb⟩
      have HB2 := Lib.hid (HB1.out.trans (hb.mono HB1.out.size))
      have B2 := Lib.hid (B1.out.go hb)
      have HR2 := Lib.hid (HR1.out.go hb)
      clear hb HB1 B1 HR1 c1
      go_wp2_with fail
      have q0 := Wd.cell (B2.out.cell 0)
      have q2 := Wd.cell (B2.out.cell 2)
      have q8 := Wd.cell (B2.out.cell 8)
      have q9 := Wd.cell (B2.out.cell 9)
      simp at q0 q2 q8 q9
      cases hne : (tt != r2)
      · have hne2 : tt = r2 := by simpa using hne
        cases hnm : rn.toList == nm.toList
        · have HF : Hid (R = 3) := by show _ = _; rw [HD.out, if_pos (Or.inr hnm)]
          clear HD
          refine wp_region_wd (by kernel_rfl) (by kernel_rfl) ?_
          repeat (go_big_quiet_step ((go_at_call 46; exact Calls.wd (HOT.out _ (HR2.out.go (Wd.ok _))))))
          refine wpQuiet_nil ?_
          rintro _ ⟨w6, rfl⟩
          have HB3 := Lib.hid (HB2.out.trans (w6.ok.mono HB2.out.size))
          have B3 := Lib.hid (B2.out.go w6.ok)
          clear q0 q2 q8 q9 B2 HB2 HR2 HOT
          generalize w6.val = w7 at *
          go_wp2_with fail
          go_ret
          exact ⟨by rw [HF.out]; rfl, HB3.out⟩
        · rw [if_neg (by rw [hnm]; simp [hne2])] at HD
          refine wp_region_wd (by kernel_rfl) (by kernel_rfl) ?_
          repeat (go_big_quiet_step ((go_at_call 46; exact Calls.wd (HOT.out _ (HR2.out.go (Wd.ok _))))))
          refine wpQuiet_nil ?_
          rintro _ ⟨w6, rfl⟩
          have HB3 := Lib.hid (HB2.out.trans (w6.ok.mono HB2.out.size))
          have B3 := Lib.hid (B2.out.go w6.ok)
          clear q0 q2 q8 q9 B2 HB2 HR2 HOT
          generalize w6.val = w7 at *
          have c3 := B3.out.cell
          by_cases h5 : r3 < r2
          · rw [if_pos (Or.inl h5)] at HD
            go_wp2_with fail
            go_ret
            exact ⟨by rw [HD.out]; rfl, HB3.out⟩
          · by_cases h6 : r4 < r2
            · rw [if_pos (Or.inr h6)] at HD
              go_wp2_with fail
              go_ret
              exact ⟨by rw [HD.out]; rfl, HB3.out⟩
            · rw [if_neg (by omega)] at HD
              go_wp2_with fail
              go_ret
              exact ⟨by rw [HD.out]; rfl, HB3.out⟩
      · have hne2 : tt ≠ r2 := by simpa using hne
        have HF : Hid (R = 3) := by show _ = _; rw [HD.out, if_pos (Or.inl hne2)]
        clear HD
        refine wp_region_wd (by kernel_rfl) (by kernel_rfl) ?_
        repeat (go_big_quiet_step ((go_at_call 46; exact Calls.wd (HOT.out _ (HR2.out.go (Wd.ok _))))))
        refine wpQuiet_nil ?_
        rintro _ ⟨w6, rfl⟩
        have HB3 := Lib.hid (HB2.out.trans (w6.ok.mono HB2.out.size))
        have B3 := Lib.hid (B2.out.go w6.ok)
        clear q0 q2 q8 q9 B2 HB2 HR2 HOT
        generalize w6.val = w7 at *
        go_wp2_with fail
        go_ret
        exact ⟨by rw [HF.out]; rfl, HB3.out⟩
    · have ho2 : (Pl.ocheck nm st != 0) = true := by simpa using ho
      rw [if_pos ho] at HD
      generalize Pl.ocheck nm st = oc at *
      clear ho
      go_enter Try.func25, Try.ntmps25
      go_wp2_with fail
      refine (HS.out _).mono ?_
      rintro e w1 ⟨rfl, hb⟩
      have HB1 := Lib.hid (HB0.out.trans (hb.mono HB0.out.size))
      have B1 := Lib.hid (B0.out.go hb)
      have HR1 := Lib.hid (HR0.out.go hb)
      clear hb HS HB0 B0 HR0
      have c1 := B1.out.cell
      go_wp2_with fail
      refine (HO.out _ HR1.out).mono ?_
      rintro e w2 ⟨rfl, hb⟩
      have HB2 := Lib.hid (HB1.out.trans (hb.mono HB1.out.size))
      clear hb
      go_wp2_with fail
      go_ret
      exact ⟨by rw [HD.out]; rfl, HB2.out⟩
  · have hu2 : (us != 0) = true := by simpa using hu
    rw [if_pos hu] at HD
    clear hu
    go_enter Try.func25, Try.ntmps25
    go_wp2_with fail
    refine (HS.out _).mono ?_
    rintro e w1 ⟨rfl, hb⟩
    have HB1 := Lib.hid (HB0.out.trans (hb.mono HB0.out.size))
    clear hb
    go_wp2_with fail
    go_ret
    exact ⟨by rw [HD.out]; rfl, HB1.out⟩
end Go.Proofs.Ytchafkocobbndaa
