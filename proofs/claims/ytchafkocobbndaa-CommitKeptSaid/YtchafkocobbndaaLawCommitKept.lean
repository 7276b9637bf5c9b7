/- The law CommitKept: for all generators, demands and schedules the call returns true, and old memory is left as it is. No condition. -/
import Derived.Test.YtchafkocobbndaaBestEx
import Derived.Test.YtchafkocobbndaaCost
namespace Go.Proofs.Ytchafkocobbndaa
open Go.RowKit
theorem cost_ex (AL A B C D : Option Addr) (w : World) (h : Unis w A 1 [aloneU AL]) (hq : Reads w w.heap.size 1 B 1 (ints [12])) (hg : Grid w C 1 [(D, 1, [12])]) :
    Calls Try.prog 14 #[.slice A 1 1, .slice B 1 1, .slice C 1 1] w fun e w' => e = .returned (.tuple #[.int .i64 75, .int .i64 0]) ∧ Below w.heap.size w w' := by
  refine (ccost_any A B C 1 1 1 1 1 1 [aloneU AL] [12] [(D, 1, [12])] w (Nat.le_refl _) h hq hg).mono ?_
  rintro e w' ⟨cost, er, rfl, hcp, hb⟩
  obtain ⟨rfl, rfl⟩ := Pl.cost_ex hcp
  exact ⟨rfl, hb⟩
set_option maxHeartbeats 6400000 in
set_option maxRecDepth 100000 in
theorem commitKept_walk (A : Option Addr) (n c : Nat) (l : List MU) (B : Option Addr) (m d : Nat) (ds : List Int) (C : Option Addr) (q e : Nat) (S : List MRow) (w : World) (hcap : n ≤ c) (h : Unis w A n l) (hq : Reads w w.heap.size 1 B m (ints ds)) (hg : Grid w C q S) :
    Calls Try.prog 5 #[.slice A n c, .slice B m d, .slice C q e] w fun e w' => e = .returned (.bool true) ∧ Below w.heap.size w w' := by
  have HST := Lib.hid (fun w h hq => cbest_any A B n c m d l ds w hcap h hq)
  have HCC := Lib.hid (fun (C : Option Addr) (q e : Nat) (S : List MRow) w h hq hg => ccost_any A B C n c m d q e l ds S w hcap h hq hg)
  unfold BestSaid2 at HST
  unfold CcSaid at HCC
  have HEX := Lib.hid best_ex
  have HEC := Lib.hid cost_ex
  have H := Lib.hid h
  have HQ := Lib.hid hq
  have HG := Lib.hid hg
  clear h hq hg
  have HAL := Lib.hid alone_any
  unfold vUn aloneU at HAL
  go_enter Try.func5, Try.ntmps5
  go_wp2_with fail
  refine (HAL.out _).mono ?_
  rintro e1 w1 ⟨AL, rfl, hin, hb⟩
  have HIN : Hid (UnIn w1 (aloneU AL)) := hin
  have HB1 := Lib.hid hb
  clear hin hb
  go_wp2_with fail
  have HU1 := Lib.hid (Unis.lit HIN.out 35 _ rfl)
  have A1 := Lib.hid (HB1.out.alloc HB1.out.size (.cells (ucells (aloneU AL)).toArray 35))
  have hcel : (ucells (aloneU AL)).toArray = #[.string ⟨#[65]⟩, .int .i64 0, .int .i64 20, .int .i64 20, .int .i64 20, .int .i64 1, .int .i64 1, .int .i64 9, .string ⟨#[65]⟩, .slice AL 2 2, .bool false, .int .i64 5, .int .i64 0] := rfl
  rw [hcel] at HU1 A1
  have hs1 : (w1.alloc (.cells #[.string ⟨#[65]⟩, .int .i64 0, .int .i64 20, .int .i64 20, .int .i64 20, .int .i64 1, .int .i64 1, .int .i64 9, .string ⟨#[65]⟩, .slice AL 2 2, .bool false, .int .i64 5, .int .i64 0] 35)).heap.size = w1.heap.size + 1 := by simp
  clear hcel
  generalize w1.alloc (.cells #[.string ⟨#[65]⟩, .int .i64 0, .int .i64 20, .int .i64 20, .int .i64 20, .int .i64 1, .int .i64 1, .int .i64 9, .string ⟨#[65]⟩, .slice AL 2 2, .bool false, .int .i64 5, .int .i64 0] 35) = w2 at *
  have A2 := Lib.hid (A1.out.alloc A1.out.size (.cells #[.int .i64 12, .int .i64 0] 3))
  have RD2 := Lib.hid (Reads.lit w2 #[.int .i64 12, .int .i64 0] 3 2 1 (w1.heap.size + 1) hs1.symm rfl)
  have HU2 := Lib.hid (HU1.out.go ((Below.refl w2.heap.size w2).alloc (Nat.le_refl _) (.cells #[.int .i64 12, .int .i64 0] 3)))
  generalize w2.alloc (.cells #[.int .i64 12, .int .i64 0] 3) = w3 at *
  refine (HEX.out AL _ _ w3 HU2.out RD2.out).mono ?_
  rintro e1 w5 ⟨vX, rfl, hb⟩
  have HB5 := Lib.hid (A2.out.trans (hb.mono A2.out.size))
  clear hb HEX A1 A2 HU1 HU2 RD2 hs1 HIN HB1
  generalize w1.heap.size = g1 at *
  go_wp2_with fail
  refine (HAL.out _).mono ?_
  rintro e1 w1 ⟨AM, rfl, hin, hb⟩
  have HIN : Hid (UnIn w1 (aloneU AM)) := hin
  have HB1 := Lib.hid (HB5.out.trans (hb.mono HB5.out.size))
  clear hin hb HAL HB5
  go_wp2_with fail
  have HU1 := Lib.hid (Unis.lit HIN.out 35 _ rfl)
  have A1 := Lib.hid (HB1.out.alloc HB1.out.size (.cells (ucells (aloneU AM)).toArray 35))
  have hcel : (ucells (aloneU AM)).toArray = #[.string ⟨#[65]⟩, .int .i64 0, .int .i64 20, .int .i64 20, .int .i64 20, .int .i64 1, .int .i64 1, .int .i64 9, .string ⟨#[65]⟩, .slice AM 2 2, .bool false, .int .i64 5, .int .i64 0] := rfl
  rw [hcel] at HU1 A1
  have hs1 : (w1.alloc (.cells #[.string ⟨#[65]⟩, .int .i64 0, .int .i64 20, .int .i64 20, .int .i64 20, .int .i64 1, .int .i64 1, .int .i64 9, .string ⟨#[65]⟩, .slice AM 2 2, .bool false, .int .i64 5, .int .i64 0] 35)).heap.size = w1.heap.size + 1 := by simp
  clear hcel
  generalize w1.alloc (.cells #[.string ⟨#[65]⟩, .int .i64 0, .int .i64 20, .int .i64 20, .int .i64 20, .int .i64 1, .int .i64 1, .int .i64 9, .string ⟨#[65]⟩, .slice AM 2 2, .bool false, .int .i64 5, .int .i64 0] 35) = w2 at *
  have A2 := Lib.hid (A1.out.alloc A1.out.size (.cells #[.int .i64 12] 3))
  have RD2 := Lib.hid (Reads.lit w2 #[.int .i64 12] 3 1 1 (w1.heap.size + 1) hs1.symm rfl)
  have HU2 := Lib.hid (HU1.out.go ((Below.refl w2.heap.size w2).alloc (Nat.le_refl _) (.cells #[.int .i64 12] 3)))
  have hs2 : (w2.alloc (.cells #[.int .i64 12] 3)).heap.size = w1.heap.size + 1 + 1 := by simp [hs1]
  generalize w2.alloc (.cells #[.int .i64 12] 3) = w3 at *
  have A3 := Lib.hid (A2.out.alloc A2.out.size (.cells #[.int .i64 12] 3))
  have RP3 := Lib.hid (Reads.lit w3 #[.int .i64 12] 3 1 1 (w1.heap.size + 1 + 1) hs2.symm rfl)
  have AL3 := (Below.refl w3.heap.size w3).alloc (Nat.le_refl _) (.cells #[.int .i64 12] 3)
  have HU3 := Lib.hid (HU2.out.go AL3)
  have RD3 := Lib.hid (RD2.out.go AL3)
  have hs3 : (w3.alloc (.cells #[.int .i64 12] 3)).heap.size = w1.heap.size + 1 + 1 + 1 := by simp [hs2]
  generalize w3.alloc (.cells #[.int .i64 12] 3) = w4 at *
  have A4 := Lib.hid (A3.out.alloc A3.out.size (.cells #[.slice (some ⟨w1.heap.size + 1 + 1, 0, none⟩) 1 1] 23))
  have AL4 := (Below.refl w4.heap.size w4).alloc (Nat.le_refl _) (.cells #[.slice (some ⟨w1.heap.size + 1 + 1, 0, none⟩) 1 1] 23)
  have HU4 := Lib.hid (HU3.out.go AL4)
  have RD4 := Lib.hid (RD3.out.go AL4)
  have RP4 := Lib.hid (RP3.out.go AL4)
  have GR4 : Hid (Grid (w4.alloc (.cells #[.slice (some ⟨w1.heap.size + 1 + 1, 0, none⟩) 1 1] 23)) (some ⟨w1.heap.size + 1 + 1 + 1, 0, none⟩) 1 [(some ⟨w1.heap.size + 1 + 1, 0, none⟩, 1, [12])]) := by
    refine ⟨Reads.lit w4 #[.slice (some ⟨w1.heap.size + 1 + 1, 0, none⟩) 1 1] 23 1 1 (w1.heap.size + 1 + 1 + 1) hs3.symm rfl, fun r hr => ?_⟩
    rw [List.mem_singleton.1 hr]
    exact RP4.out
  generalize w4.alloc (.cells #[.slice (some ⟨w1.heap.size + 1 + 1, 0, none⟩) 1 1] 23) = w6 at *
  refine (HEC.out AM _ _ _ _ w6 HU4.out RD4.out GR4.out).mono ?_
  rintro e1 w7 ⟨rfl, hb⟩
  have HB7 := Lib.hid (A4.out.trans (hb.mono A4.out.size))
  clear hb HEC A1 A2 A3 A4 AL3 AL4 HU1 HU2 HU3 HU4 RD2 RD3 RD4 RP3 RP4 GR4 hs1 hs2 hs3 HIN HB1
  go_wp2_with fail
  refine (HST.out w7 (H.out.go HB7.out) (HQ.out.go HB7.out)).mono ?_
  rintro e1 w8 ⟨AR, cR, R, nn, er, rfl, hbp, hown, hrow, hb⟩
  have HBP := Lib.hid hbp
  have HGR := Lib.hid (Grid.of_own hown hrow)
  have HB8 := Lib.hid (HB7.out.trans (hb.mono HB7.out.size))
  clear hb hown hrow hbp HST HB7
  go_wp2_with fail
  refine (HCC.out C q e S w8 (H.out.go HB8.out) (HQ.out.go HB8.out) (HG.out.go HB8.out)).mono ?_
  rintro e1 w9 ⟨co, eo, rfl, hcp, hb⟩
  have HCP := Lib.hid hcp
  have HGR9 := Lib.hid (HGR.out.go hb)
  have HB9 := Lib.hid (HB8.out.trans (hb.mono HB8.out.size))
  obtain ⟨k1, k2⟩ := Pl.kept_law (S := grs S) HBP.out
  have K1 := Lib.hid k1
  have K2 := Lib.hid k2
  clear hb hcp k1 k2 HGR HB8
  by_cases he : er = 0
  · subst he
    obtain ⟨a1, a2, a3⟩ := K2.out rfl
    have A1 := Lib.hid a1
    have A2 := Lib.hid a2
    have A3 := Lib.hid a3
    clear a1 a2 a3 K1 K2
    go_wp2_with fail
    refine (HCC.out AR R.length cR R w9 (H.out.go HB9.out) (HQ.out.go HB9.out) HGR9.out).mono ?_
    rintro e1 w10 ⟨cr, er2, rfl, hcp2, hb⟩
    have HB10 := Lib.hid (HB9.out.trans (hb.mono HB9.out.size))
    obtain rfl : er2 = 0 := hcp2.2 A1.out
    obtain rfl : cr = nn := by rw [(hcp2.1 rfl).2]; exact A2.out
    clear hb hcp2
    by_cases heo : eo = 0
    · subst heo
      obtain ⟨b1, b2⟩ := HCP.out.1 rfl
      have hle : cr ≤ co := by rw [b2]; exact A3.out b1
      clear b1 b2
      go_wp2_with fail
      go_ret
      exact ⟨rfl, HB10.out⟩
    · have heo2 : (eo != 0) = true := by simpa using heo
      go_wp2_with fail
      go_ret
      exact ⟨rfl, HB10.out⟩
  · obtain ⟨a1, a2, a3⟩ := K1.out he
    have hR : R = [] := by simpa using a1
    subst hR
    subst a2
    have heo : eo ≠ 0 := fun h0 => a3 (HCP.out.1 h0).1
    have heo2 : (eo != 0) = true := by simpa using heo
    have he2 : (er != 0) = true := by simpa using he
    clear a1 a3 K1 K2
    go_wp2_with fail
    go_ret
    exact ⟨rfl, HB9.out⟩
end Go.Proofs.Ytchafkocobbndaa
