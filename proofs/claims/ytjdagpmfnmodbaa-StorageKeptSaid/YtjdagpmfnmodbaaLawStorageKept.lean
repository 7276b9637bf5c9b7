/- The law StorageKept: for all storages, prices and charges the call returns true, and old memory is left as it is. Condition: what the sort of pieces says. -/
import Derived.Test.YtjdagpmfnmodbaaStores
namespace Go.Proofs.Ytjdagpmfnmodbaa
open Go.RowKit
theorem runk_lit (w : World) (A B : Option Addr) (h : Reads w w.heap.size 1 A 1 (ints [4])) (h2 : Reads w w.heap.size 1 B 1 (ints [1])) : Calls Try.prog 34 #[vSt 1 0 1 0 0, .slice A 1 1, .slice B 1 1] w (SchedSaid ([1], 4, 0) w) := by
  have h := sRun_any 1 0 1 0 0 A B 1 1 1 1 [4] [1] w h h2
  rw [Pl.sRun_ex] at h
  exact h
set_option maxRecDepth 100000 in
set_option maxHeartbeats 6400000 in
theorem storageKept_core (hsort : SortPOk) (ch dis cap beg en : Int) (A B : Option Addr) (n m c d : Nat) (ps cs : List Int) (w : World) (hr : Reads w w.heap.size 1 A n (ints ps)) (hq : Reads w w.heap.size 1 B m (ints cs))
    (l : List Int) (nb eb co er mm em : Int)
    (H1 : Hid (∀ w, Reads w w.heap.size 1 A n (ints ps) → Calls Try.prog 36 #[vSt ch dis cap beg en, .slice A n c] w (SchedSaid (l, nb, eb) w)))
    (H2 : Hid (∀ B m d cs w, cs = cs → Reads w w.heap.size 1 A n (ints ps) → Reads w w.heap.size 1 B m (ints cs) → Calls Try.prog 34 #[vSt ch dis cap beg en, .slice A n c, .slice B m d] w (SchedSaid (Pl.sRun ch dis cap beg en ps cs) w)))
    (hco : (Pl.sRun ch dis cap beg en ps cs).2 = (co, er)) (hmm : (Pl.sRun ch dis cap beg en ps l).2 = (mm, em))
    (hbad : eb ≠ 0 → l = [] ∧ nb = 0 ∧ (er ≠ 0 ∨ eb = 2)) (hgood : eb = 0 → em = 0 ∧ mm = nb ∧ (er ≠ 0 ∨ nb ≤ co)) :
    Calls Try.prog 12 #[vSt ch dis cap beg en, .slice A n c, .slice B m d] w fun e w' => e = .returned (.bool true) ∧ Below w.heap.size w w' := by
  have HR := Lib.hid hr
  have HQ := Lib.hid hq
  have HL2 := Lib.hid runk_lit
  have HST := Lib.hid (fun w => stores_any hsort w)
  have HBAD := Lib.hid hbad
  have HGOOD := Lib.hid hgood
  have H3 : Hid (∀ w, Reads w w.heap.size 1 A n (ints ps) → Reads w w.heap.size 1 B m (ints cs) → Calls Try.prog 34 #[vSt ch dis cap beg en, .slice A n c, .slice B m d] w fun e w' => ∃ v, e = .returned (.tuple #[v, .int .i64 co, .int .i64 er]) ∧ Below w.heap.size w w') := fun w h h' => by
    refine (H2.out B m d cs w rfl h h').mono ?_
    rintro e w' ⟨A', c', rfl, _, hb⟩
    rw [hco]
    exact ⟨_, rfl, hb⟩
  have H4 : Hid (∀ B k d w, Reads w w.heap.size 1 A n (ints ps) → Reads w w.heap.size 1 B k (ints l) → Calls Try.prog 34 #[vSt ch dis cap beg en, .slice A n c, .slice B k d] w fun e w' => ∃ v, e = .returned (.tuple #[v, .int .i64 mm, .int .i64 em]) ∧ Below w.heap.size w w') := fun B k d w h h' => by
    refine (H2.out B k d l w rfl h h').mono ?_
    rintro e w' ⟨A', c', rfl, _, hb⟩
    rw [hmm]
    exact ⟨_, rfl, hb⟩
  clear hr hq hbad hgood hsort H2 hco hmm
  unfold SchedSaid at HL2 H1
  unfold vSt at *
  have HB0 : Hid (Below w.heap.size w (w.alloc (.cells #[.int .i64 ch, .int .i64 dis, .int .i64 cap, .int .i64 beg, .int .i64 en] 70))) := (Below.refl _ _).alloc (Nat.le_refl _) _
  have HS0 : Hid (Blk (w.alloc (.cells #[.int .i64 ch, .int .i64 dis, .int .i64 cap, .int .i64 beg, .int .i64 en] 70)) w.heap.size 70 #[.int .i64 ch, .int .i64 dis, .int .i64 cap, .int .i64 beg, .int .i64 en]) := Blk.new_ _ _ _ _ rfl
  go_enter Try.func12, Try.ntmps12
  have e1 : Hid (w.heap.size + 1 = (w.alloc (.cells #[.int .i64 ch, .int .i64 dis, .int .i64 cap, .int .i64 beg, .int .i64 en] 70)).heap.size) := by show _ = _; simp
  go_wp2_with fail
  generalize w.alloc (.cells #[.int .i64 ch, .int .i64 dis, .int .i64 cap, .int .i64 beg, .int .i64 en] 70) = wc at *
  have hz : Hid (w.heap.size + 1 + 1 = (wc.alloc (.cells #[.int .i64 4] 3)).heap.size) := by have := e1.out; show _ = _; simp; omega
  have AL1 := (Below.refl wc.heap.size wc).alloc (Nat.le_refl _) (.cells #[.int .i64 4] 3)
  have AL2 := (Below.refl (wc.alloc (.cells #[.int .i64 4] 3)).heap.size (wc.alloc (.cells #[.int .i64 4] 3))).alloc (Nat.le_refl _) (.cells #[.int .i64 1] 3)
  have HB4 := Lib.hid ((HB0.out.alloc HB0.out.size (.cells #[.int .i64 4] 3)).alloc (HB0.out.alloc HB0.out.size (.cells #[.int .i64 4] 3)).size (.cells #[.int .i64 1] 3))
  have HS4 := Lib.hid ((HS0.out.go AL1).go AL2)
  refine (HL2.out _ _ _ ((Reads.lit wc #[.int .i64 4] 3 1 1 _ e1.out rfl).go AL2) (Reads.lit (wc.alloc (.cells #[.int .i64 4] 3)) #[.int .i64 1] 3 1 1 _ hz.out rfl)).mono ?_
  rintro e w2 ⟨A2, d2, rfl, own2, hb⟩
  have HB5 := Lib.hid (HB4.out.trans (hb.mono HB4.out.size))
  have HS5 := Lib.hid (HS4.out.go hb)
  clear hb own2 HB0 HS0 HB4 HS4 AL1 AL2 e1 hz HL2
  go_wp2_with fail
  refine (HST.out _).mono ?_
  rintro e w3 ⟨rfl, hb⟩
  have HB6 := Lib.hid (HB5.out.trans (hb.mono HB5.out.size))
  have HS6 := Lib.hid (HS5.out.go hb)
  clear hb HB5 HS5
  have s6 := HS6.out.cell
  go_wp2_with fail
  refine (H1.out _ (HR.out.go HB6.out)).mono ?_
  rintro e w4 ⟨A4, d4, rfl, own4, hb⟩
  have HB7 := Lib.hid (HB6.out.trans (hb.mono HB6.out.size))
  have HS7 := Lib.hid (HS6.out.go hb)
  have RL7 := Lib.hid (Reads.of_own own4)
  clear hb own4 HB6 HS6 s6
  (try simp only at RL7)
  have s7 := HS7.out.cell
  go_wp2_with fail
  refine (H3.out _ (HR.out.go HB7.out) (HQ.out.go HB7.out)).mono ?_
  rintro e w5 ⟨v5, rfl, hb⟩
  have HB8 := Lib.hid (HB7.out.trans (hb.mono HB7.out.size))
  have HS8 := Lib.hid (HS7.out.go hb)
  have RL8 := Lib.hid (RL7.out.go hb)
  clear hb HB7 HS7 s7 RL7
  have s8 := HS8.out.cell
  by_cases heb : eb = 0
  · subst heb
    obtain ⟨g1, g2, g3⟩ := HGOOD.out rfl
    subst g1 g2
    clear HGOOD HBAD
    go_wp2_with fail
    refine (H4.out _ _ _ _ (HR.out.go HB8.out) RL8.out).mono ?_
    rintro e w6 ⟨v6, rfl, hb⟩
    have HB9 := Lib.hid (HB8.out.trans (hb.mono HB8.out.size))
    clear hb s8
    by_cases her : er = 0
    · have hle : mm ≤ co := by
        rcases g3 with g3 | g3
        · exact absurd her g3
        · exact g3
      subst her
      clear g3
      go_wp2_with fail
      go_ret
      exact ⟨rfl, HB9.out⟩
    · have her2 : (er != 0) = true := by simpa using her
      clear g3 her
      go_wp2_with fail
      go_ret
      exact ⟨rfl, HB9.out⟩
  · have heb2 : (eb != 0) = true := by simpa using heb
    obtain ⟨g1, g2, g3⟩ := HBAD.out heb
    subst g1 g2
    clear HGOOD HBAD
    by_cases her : er = 0
    · have he2 : eb = 2 := by
        rcases g3 with g3 | g3
        · exact absurd her g3
        · exact g3
      subst her he2
      clear g3 heb
      go_wp2_with fail
      go_ret
      exact ⟨rfl, HB8.out⟩
    · have her2 : (er != 0) = true := by simpa using her
      clear g3 her heb
      go_wp2_with fail
      go_ret
      exact ⟨rfl, HB8.out⟩
theorem storageKept_walk (hsort : SortPOk) (ch dis cap beg en : Int) (A : Option Addr) (n c : Nat) (ps : List Int) (B : Option Addr) (m d : Nat) (cs : List Int) (w : World) (hr : Reads w w.heap.size 1 A n (ints ps)) (hq : Reads w w.heap.size 1 B m (ints cs)) :
    Calls Try.prog 12 #[vSt ch dis cap beg en, .slice A n c, .slice B m d] w fun e w' => e = .returned (.bool true) ∧ Below w.heap.size w w' := by
  refine storageKept_core hsort ch dis cap beg en A B n m c d ps cs w hr hq (Pl.sBest ch dis cap beg en ps).1 (Pl.sBest ch dis cap beg en ps).2.1 (Pl.sBest ch dis cap beg en ps).2.2 (Pl.sRun ch dis cap beg en ps cs).2.1 (Pl.sRun ch dis cap beg en ps cs).2.2 (Pl.sRun ch dis cap beg en ps (Pl.sBest ch dis cap beg en ps).1).2.1 (Pl.sRun ch dis cap beg en ps (Pl.sBest ch dis cap beg en ps).1).2.2
    (fun w h => sBest_any hsort ch dis cap beg en A n c ps w h) (fun B m d cs w _ h1 h2 => sRun_any ch dis cap beg en A B n m c d ps cs w h1 h2) rfl rfl (fun h => ?_) (fun h => ?_)
  · exact Pl.storage_none (cs := cs) h
  · obtain ⟨h1, h2⟩ := Pl.storage_kept (cs := cs) h
    refine ⟨by rw [h1], by rw [h1], ?_⟩
    by_cases e : (Pl.sRun ch dis cap beg en ps cs).2.2 = 0
    · exact .inr (h2 e)
    · exact .inl e
end Go.Proofs.Ytjdagpmfnmodbaa
