/- convexpl.check and Convolve: the pieces of both functions in the order of their slopes. Condition: what the sort of pieces says. -/
import Derived.Test.YtchafkocobbndaaConcat
import Derived.Test.YtchafkocobbndaaMade
namespace Go.Proofs.Ytchafkocobbndaa
open Go.RowKit
set_option maxHeartbeats 1600000 in
set_option maxRecDepth 100000 in
theorem check2_any (AA A B : Option Addr) (cc n m c1 c2 : Nat) (lo1 va1 lo2 va2 : Int) (ps qs : List (Int × Int)) (w : World) (hs : Reads w w.heap.size 3 AA 2 [.int .i64 lo1, .int .i64 va1, .slice A n c1, .int .i64 lo2, .int .i64 va2, .slice B m c2]) (ha : Reads w w.heap.size 2 A n (pairs ps)) (hb : Reads w w.heap.size 2 B m (pairs qs)) :
    Calls Try.prog 59 #[.slice AA 2 cc] w fun e w' => e = .returned (.int .i64 (if Pl.ccheck lo1 va1 ps ≠ 0 then Pl.ccheck lo1 va1 ps else Pl.ccheck lo2 va2 qs)) ∧ Below w.heap.size w w' := by
  obtain ⟨bb, oo, rfl, _, hc⟩ := hs.where_ (by omega) (by omega)
  have q0 : w.cell? ⟨bb, oo, none⟩ = some (.int .i64 lo1) := hc 0 _ rfl
  have q1 : w.cell? ⟨bb, oo + 1, none⟩ = some (.int .i64 va1) := hc 1 _ rfl
  have q2 : w.cell? ⟨bb, oo + 2, none⟩ = some (.slice A n c1) := hc 2 _ rfl
  have q3 : w.cell? ⟨bb, oo + 3, none⟩ = some (.int .i64 lo2) := hc 3 _ rfl
  have q4 : w.cell? ⟨bb, oo + 4, none⟩ = some (.int .i64 va2) := hc 4 _ rfl
  have q5 : w.cell? ⟨bb, oo + 5, none⟩ = some (.slice B m c2) := hc 5 _ rfl
  have bl : bb < w.heap.size := lt_of_cello q0
  have HQ : Hid (∀ wr, Below w.heap.size w wr → wr.cell? ⟨bb, oo, none⟩ = some (.int .i64 lo1) ∧ wr.cell? ⟨bb, oo + 1, none⟩ = some (.int .i64 va1) ∧ wr.cell? ⟨bb, oo + 2, none⟩ = some (.slice A n c1) ∧ wr.cell? ⟨bb, oo + 3, none⟩ = some (.int .i64 lo2) ∧ wr.cell? ⟨bb, oo + 4, none⟩ = some (.int .i64 va2) ∧ wr.cell? ⟨bb, oo + 5, none⟩ = some (.slice B m c2)) := fun wr h =>
    ⟨(h.cell (p := ⟨bb, oo, none⟩) bl).trans q0, (h.cell (p := ⟨bb, oo + 1, none⟩) bl).trans q1, (h.cell (p := ⟨bb, oo + 2, none⟩) bl).trans q2, (h.cell (p := ⟨bb, oo + 3, none⟩) bl).trans q3, (h.cell (p := ⟨bb, oo + 4, none⟩) bl).trans q4, (h.cell (p := ⟨bb, oo + 5, none⟩) bl).trans q5⟩
  have HC1 := Lib.hid (fun w h => ccheck_any lo1 va1 A n c1 ps w h)
  have HC2 := Lib.hid (fun w h => ccheck_any lo2 va2 B m c2 qs w h)
  unfold vCx at HC1 HC2
  generalize Pl.ccheck lo1 va1 ps = er1 at *
  generalize Pl.ccheck lo2 va2 qs = er2 at *
  clear hs hc q0 q1 q2 q3 q4 q5
  go_enter Try.func59, Try.ntmps59
  go_wp2_with fail
  go_loopw [8] (fun i wr => ∃ k : Nat, k ≤ 2 ∧ i = .int .i64 k ∧ Hid (1 ≤ k → er1 = 0) ∧ Hid (2 ≤ k → er2 = 0) ∧ Hid (Below w.heap.size w wr)) (fun i _ => 2 - (intOf i).toNat)
  case atStart => exact ⟨0, by omega, rfl, fun h => absurd h (by omega), fun h => absurd h (by omega), Below.refl _ _⟩
  case round =>
    obtain ⟨k, hk, rfl, HU1, HU2, HB⟩ := hrel
    obtain ⟨p0, p1, p2, p3, p4, p5⟩ := HQ.out _ HB.out
    have hsz := HB.out.size
    have h3 : k = 0 ∨ k = 1 ∨ k = 2 := by omega
    rcases h3 with rfl | rfl | rfl
    · have HB1 := Lib.hid (HB.out.alloc HB.out.size (.cells #[.int .i64 lo1, .int .i64 va1, .slice A n c1] 92))
      go_wp2_with fail
      refine (HC1.out _ (ha.go HB1.out)).mono ?_
      rintro e w3 ⟨rfl, hb3⟩
      have HB3 := Lib.hid (HB1.out.trans (hb3.mono HB1.out.size))
      clear hb3
      by_cases e0 : er1 = 0
      · have E0 := Lib.hid e0
        subst e0
        go_wp2_with fail
        go_roundw
        case rel => exact ⟨1, by omega, rfl, (fun _ => by first | rfl | trivial), fun h => absurd h (by omega), HB3⟩
        case measure => simp [intOf]
      · have e1 : (er1 != 0) = true := by simpa using e0
        have E0 := Lib.hid e0
        clear e0
        go_wp2_with fail
        go_ret
        exact ⟨by first | rfl | (rw [if_pos E0.out]; rfl), HB3.out⟩
    · have h1 : er1 = 0 := HU1.out (by omega)
      subst h1
      have HB1 := Lib.hid (HB.out.alloc HB.out.size (.cells #[.int .i64 lo2, .int .i64 va2, .slice B m c2] 92))
      go_wp2_with fail
      refine (HC2.out _ (hb.go HB1.out)).mono ?_
      rintro e w3 ⟨rfl, hb3⟩
      have HB3 := Lib.hid (HB1.out.trans (hb3.mono HB1.out.size))
      clear hb3
      by_cases e0 : er2 = 0
      · subst e0
        go_wp2_with fail
        go_roundw
        case rel => exact ⟨2, by omega, rfl, (fun _ => by first | rfl | trivial), (fun _ => by first | rfl | trivial), HB3⟩
        case measure => simp [intOf]
      · have e1 : (er2 != 0) = true := by simpa using e0
        clear e0
        go_wp2_with fail
        go_ret
        exact ⟨by first | rfl | (rw [if_neg (by decide)]; rfl), HB3.out⟩
    · have h1 : er1 = 0 := HU1.out (by omega)
      have h2 : er2 = 0 := HU2.out (by omega)
      subst h1 h2
      go_wp2_with fail
      go_ret
      exact ⟨by first | rfl | (rw [if_neg (by decide)]; rfl), HB.out⟩
def ConvSaid (lo1 va1 : Int) (ps : List (Int × Int)) (lo2 va2 : Int) (qs : List (Int × Int)) (w : World) (e : Ending) (w' : World) : Prop :=
  ∃ L : List (Int × Int), L.Perm (ps ++ qs) ∧ L.Pairwise (fun a b => a.2 ≤ b.2) ∧ MadeSaid (Pl.cMade (lo1 + lo2) (va1 + va2) L) w e w'
set_option maxHeartbeats 3200000 in
set_option maxRecDepth 100000 in
theorem cConv_good (hsort : SortPOk) (lo1 va1 lo2 va2 : Int) (A B : Option Addr) (n m c1 c2 : Nat) (ps qs : List (Int × Int)) (w : World) (ha : Reads w w.heap.size 2 A n (pairs ps)) (hb : Reads w w.heap.size 2 B m (pairs qs)) (h1 : Pl.ccheck lo1 va1 ps = 0) (h2 : Pl.ccheck lo2 va2 qs = 0) :
    Calls Try.prog 37 #[vCx lo1 va1 A n c1, vCx lo2 va2 B m c2] w (ConvSaid lo1 va1 ps lo2 va2 qs w) := by
  obtain ⟨g1, l1, ⟨lo1a, lo1b⟩, ⟨va1a, va1b⟩⟩ := Pl.ccheck_ok h1
  obtain ⟨g2, l2, ⟨lo2a, lo2b⟩, ⟨va2a, va2b⟩⟩ := Pl.ccheck_ok h2
  have p1 := ha.pair_len
  have p2 := hb.pair_len
  have hn : n ≤ 64 := by omega
  have hm : m ≤ 64 := by omega
  have HG : Hid (∀ p ∈ ps ++ qs, 1 ≤ p.1 ∧ p.1 ≤ 2000000 ∧ -10000000 ≤ p.2 ∧ p.2 ≤ 10000000) := fun p hp => by
    rcases List.mem_append.1 hp with h | h
    · exact g1.step p h
    · exact g2.step p h
  have HL : Hid ((ps ++ qs).length = n + m) := by show _ = _; rw [List.length_append, p1, p2]
  have HCK := Lib.hid (fun AA cc w a b c => check2_any AA A B cc n m c1 c2 lo1 va1 lo2 va2 ps qs w a b c)
  rw [h1, h2] at HCK
  have HCC := Lib.hid (fun AA cc w a b c => concat_any AA A B cc n m c1 c2 ps qs w a b c hn hm)
  have HA := Lib.hid ha
  have HB := Lib.hid hb
  have HSO := Lib.hid hsort
  clear ha hb h1 h2 g1 g2 p1 p2 l1 l2 hsort
  unfold vCx
  go_enter Try.func37, Try.ntmps37
  obtain ⟨wd, hwd, B2, B3, B4, HBD, e3⟩ : ∃ wd, wd = ((w.alloc (.cells #[.int .i64 lo1, .int .i64 va1, .slice A n c1] 92)).alloc (.cells #[.int .i64 lo2, .int .i64 va2, .slice B m c2] 92)).alloc (.cells #[.int .i64 0, .int .i64 0, .slice none 0 0] 92) ∧ Hid (Blk wd w.heap.size 92 #[.int .i64 lo1, .int .i64 va1, .slice A n c1]) ∧ Hid (Blk wd (w.heap.size + 1) 92 #[.int .i64 lo2, .int .i64 va2, .slice B m c2]) ∧ Hid (Blk wd (w.heap.size + 1 + 1) 92 #[.int .i64 0, .int .i64 0, .slice none 0 0]) ∧ Hid (Below w.heap.size w wd) ∧ Hid (w.heap.size + 1 + 1 + 1 = wd.heap.size) := by
    refine ⟨_, rfl, ?_, ?_, ?_, ?_, ?_⟩
    · exact ((Blk.new_ w w.heap.size _ _ rfl).alloc _).alloc _
    · exact (Blk.new_ _ (w.heap.size + 1) _ _ (by simp)).alloc _
    · exact Blk.new_ _ (w.heap.size + 1 + 1) _ _ (by simp)
    · exact (((Below.refl w.heap.size w).alloc (Nat.le_refl _) _).alloc (by simp) _).alloc (by simp; omega) _
    · show _ = _
      simp
  go_wp2_with fail
  rw [← hwd]
  clear hwd
  have AL := (Below.refl wd.heap.size wd).alloc (Nat.le_refl _) (.cells #[.int .i64 lo1, .int .i64 va1, .slice A n c1, .int .i64 lo2, .int .i64 va2, .slice B m c2] 92)
  have HB1 := Lib.hid (HBD.out.alloc HBD.out.size (.cells #[.int .i64 lo1, .int .i64 va1, .slice A n c1, .int .i64 lo2, .int .i64 va2, .slice B m c2] 92))
  refine (HCK.out _ _ _ (Reads.lit wd #[.int .i64 lo1, .int .i64 va1, .slice A n c1, .int .i64 lo2, .int .i64 va2, .slice B m c2] 92 2 3 _ e3.out rfl) (HA.out.go HB1.out) (HB.out.go HB1.out)).mono ?_
  rintro e w1 ⟨rfl, hb⟩
  have HB2 := Lib.hid (HB1.out.trans (hb.mono HB1.out.size))
  have B21 := Lib.hid ((B2.out.go AL).go hb)
  have B31 := Lib.hid ((B3.out.go AL).go hb)
  have B41 := Lib.hid ((B4.out.go AL).go hb)
  clear hb AL HB1 B2 B3 B4 HCK HBD e3
  have k2 := B21.out.cell
  have k3 := B31.out.cell
  go_wp2_with fail
  have AL := (Below.refl w1.heap.size w1).alloc (Nat.le_refl _) (.cells #[.slice A n c1, .slice B m c2] 90)
  have HB3 := Lib.hid (HB2.out.alloc HB2.out.size (.cells #[.slice A n c1, .slice B m c2] 90))
  refine (HCC.out _ _ _ (Reads.lit w1 #[.slice A n c1, .slice B m c2] 90 2 1 _ rfl rfl) (HA.out.go HB3.out) (HB.out.go HB3.out)).mono ?_
  rintro e w2 ⟨A2, c3, rfl, hown, hb⟩
  have HB4 := Lib.hid (HB3.out.trans (hb.mono HB3.out.size))
  have B22 := Lib.hid ((B21.out.go AL).go hb)
  have B32 := Lib.hid ((B31.out.go AL).go hb)
  have B42 := Lib.hid ((B41.out.go AL).go hb)
  have z4 := B41.out.lt
  have zb : w1.heap.size < (w1.alloc (.cells #[.slice A n c1, .slice B m c2] 90)).heap.size := by simp
  rw [← HL.out] at hown
  have OW := Lib.hid hown
  generalize (w1.alloc (.cells #[.slice A n c1, .slice B m c2] 90)).heap.size = base at *
  have HSS := Lib.hid (HSO.out base A2 c3 (ps ++ qs) w2 (by rw [HL.out]; omega) (fun p hp => (HG.out p hp).2.2) hown)
  rw [HL.out] at HSS
  clear hb AL HB3 HCC B21 B31 B41 k2 k3 hown HSO
  go_wp2_with fail
  refine HSS.out.mono ?_
  rintro e w3 ⟨rfl, L, hperm, hsrt, hown3, hgr⟩
  rw [HL.out] at hown3 hgr OW
  have n2 := own_ne OW.out (g := w.heap.size) (.inl (by omega))
  have n3 := own_ne OW.out (g := w.heap.size + 1) (.inl (by omega))
  have n4 := own_ne OW.out (g := w.heap.size + 1 + 1) (.inl (by omega))
  have HB5 := Lib.hid (below_grown HB4.out hgr OW.out (by omega) HB4.out.size)
  have B23 := Lib.hid (B22.out.grown hgr n2)
  have B33 := Lib.hid (B32.out.grown hgr n3)
  have B43 := Lib.hid (B42.out.grown hgr n4)
  have HPM := Lib.hid hperm
  have HSD := Lib.hid hsrt
  have HMD := Lib.hid (made_big (lo1 + lo2) (va1 + va2) A2 (n + m) c3 L w3 (Reads.of_own hown3) (fun p hp => by have := HG.out p (HPM.out.mem_iff.1 hp); exact ⟨this.1, this.2.1⟩) (by omega))
  have k2 := B23.out.cell
  have k3 := B33.out.cell
  clear n2 n3 n4 hperm hsrt hown3 hgr HSS OW B22 B32 B42 HB4
  unfold MadeSaid vCx at HMD
  unfold ConvSaid MadeSaid
  go_wp2_with fail
  refine HMD.out.mono ?_
  rintro e w4 ⟨A4, c4, rfl, hown4, hb⟩
  have HB6 := Lib.hid (HB5.out.trans (hb.mono HB5.out.size))
  have B44 := Lib.hid (B43.out.go hb)
  have z44 := B43.out.lt
  have OW4 := Lib.hid hown4
  have c44 := B44.out.cell
  have f44 := B44.out.frozen
  clear hb hown4 k2 k3 HMD
  generalize hR : Pl.cMade (lo1 + lo2) (va1 + va2) L = R at *
  have HR := Lib.hid hR
  clear hR
  go_wp2_with fail
  have E6 := Lib.hid (((B44.out.set_ 0 (.int .i64 R.1.1)).set_ 1 (.int .i64 R.1.2.1)).set_ 2 (.slice A4 R.1.2.2.length c4))
  have k7 := E6.out.cell
  refine bodyPost_ret (v := .tuple #[vCx R.1.1 R.1.2.1 A4 R.1.2.2.length c4, .int .i64 R.2]) (by simp [results, Try.results37, go_sem, vCx, k7]) rfl ⟨L, HPM.out, HSD.out, A4, c4, by rw [HR.out], ?_, ?_⟩
  · rw [HR.out]
    exact own_base (own_far (own_far (own_far OW4.out (by show _ < _; omega) _) (by show _ < _; omega) _) (by show _ < _; omega) _) HB5.out.size
  · exact (((HB6.out.setCell (p := ⟨w.heap.size + 1 + 1, 0, none⟩) (by show w.heap.size ≤ w.heap.size + 1 + 1; omega) _).setCell (p := ⟨w.heap.size + 1 + 1, 1, none⟩) (by show w.heap.size ≤ w.heap.size + 1 + 1; omega) _).setCell (p := ⟨w.heap.size + 1 + 1, 2, none⟩) (by show w.heap.size ≤ w.heap.size + 1 + 1; omega) _)
def ConvErr (u : Int) (w : World) (e : Ending) (w' : World) : Prop := e = .returned (.tuple #[.agg #[.int .i64 0, .int .i64 0, .slice none 0 0], .int .i64 u]) ∧ Below w.heap.size w w'
set_option maxHeartbeats 3200000 in
set_option maxRecDepth 100000 in
theorem cConv_bad (lo1 va1 lo2 va2 u : Int) (A B : Option Addr) (n m c1 c2 : Nat) (ps qs : List (Int × Int)) (w : World) (ha : Reads w w.heap.size 2 A n (pairs ps)) (hb : Reads w w.heap.size 2 B m (pairs qs)) (hu : (if Pl.ccheck lo1 va1 ps ≠ 0 then Pl.ccheck lo1 va1 ps else Pl.ccheck lo2 va2 qs) = u) (hu0 : u ≠ 0) :
    Calls Try.prog 37 #[vCx lo1 va1 A n c1, vCx lo2 va2 B m c2] w (ConvErr u w) := by
  have HCK := Lib.hid (fun AA cc w a b c => check2_any AA A B cc n m c1 c2 lo1 va1 lo2 va2 ps qs w a b c)
  rw [hu] at HCK
  have HA := Lib.hid ha
  have HB := Lib.hid hb
  have h2 : (u != 0) = true := by simpa using hu0
  clear ha hb hu hu0
  unfold vCx
  go_enter Try.func37, Try.ntmps37
  obtain ⟨wd, hwd, B4, HBD, e3⟩ : ∃ wd, wd = ((w.alloc (.cells #[.int .i64 lo1, .int .i64 va1, .slice A n c1] 92)).alloc (.cells #[.int .i64 lo2, .int .i64 va2, .slice B m c2] 92)).alloc (.cells #[.int .i64 0, .int .i64 0, .slice none 0 0] 92) ∧ Hid (Blk wd (w.heap.size + 1 + 1) 92 #[.int .i64 0, .int .i64 0, .slice none 0 0]) ∧ Hid (Below w.heap.size w wd) ∧ Hid (w.heap.size + 1 + 1 + 1 = wd.heap.size) := by
    refine ⟨_, rfl, ?_, ?_, ?_⟩
    · exact Blk.new_ _ (w.heap.size + 1 + 1) _ _ (by simp)
    · exact (((Below.refl w.heap.size w).alloc (Nat.le_refl _) _).alloc (by simp) _).alloc (by simp; omega) _
    · show _ = _
      simp
  go_wp2_with fail
  rw [← hwd]
  clear hwd
  have AL := (Below.refl wd.heap.size wd).alloc (Nat.le_refl _) (.cells #[.int .i64 lo1, .int .i64 va1, .slice A n c1, .int .i64 lo2, .int .i64 va2, .slice B m c2] 92)
  have HB1 := Lib.hid (HBD.out.alloc HBD.out.size (.cells #[.int .i64 lo1, .int .i64 va1, .slice A n c1, .int .i64 lo2, .int .i64 va2, .slice B m c2] 92))
  refine (HCK.out _ _ _ (Reads.lit wd #[.int .i64 lo1, .int .i64 va1, .slice A n c1, .int .i64 lo2, .int .i64 va2, .slice B m c2] 92 2 3 _ e3.out rfl) (HA.out.go HB1.out) (HB.out.go HB1.out)).mono ?_
  rintro e w1 ⟨rfl, hb⟩
  have HB2 := Lib.hid (HB1.out.trans (hb.mono HB1.out.size))
  have B41 := Lib.hid ((B4.out.go AL).go hb)
  clear hb AL HB1 B4 HCK HBD e3
  have c44 := B41.out.cell
  have f44 := B41.out.frozen
  go_wp2_with fail
  have E6 := Lib.hid (((B41.out.set_ 0 (.int .i64 0)).set_ 1 (.int .i64 0)).set_ 2 (.slice none 0 0))
  have k7 := E6.out.cell
  refine bodyPost_ret (v := .tuple #[.agg #[.int .i64 0, .int .i64 0, .slice none 0 0], .int .i64 u]) (by simp [results, Try.results37, go_sem, k7]) rfl ⟨rfl, ?_⟩
  exact (((HB2.out.setCell (p := ⟨w.heap.size + 1 + 1, 0, none⟩) (by show w.heap.size ≤ w.heap.size + 1 + 1; omega) _).setCell (p := ⟨w.heap.size + 1 + 1, 1, none⟩) (by show w.heap.size ≤ w.heap.size + 1 + 1; omega) _).setCell (p := ⟨w.heap.size + 1 + 1, 2, none⟩) (by show w.heap.size ≤ w.heap.size + 1 + 1; omega) _)
end Go.Proofs.Ytchafkocobbndaa
