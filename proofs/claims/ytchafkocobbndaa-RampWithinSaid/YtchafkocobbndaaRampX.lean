/- The laws of ramp.Nearest, plain. No program. ramp.Feasible: it returns what its plain function gives, and leaves old memory as it is. No condition. The closure sum of the law RampKept, and the laws' helper near. Condition: what the sort of pieces says. -/
import Derived.Test.YtchafkocobbndaaPRampC
import Derived.Test.YtchafkocobbndaaRampA
import Derived.Test.YtchafkocobbndaaNear
import Derived.Test.YtchafkocobbndaaEqInt
namespace Go.Proofs.Ytchafkocobbndaa.Pl
theorem rNear_bad {beg up down : Int} {ls : List (Int × Int)} {ts : List Int} (h : (rNear beg up down ls ts).2.2 ≠ 0) : (rNear beg up down ls ts).1 = [] ∧ (rNear beg up down ls ts).2.1 = 0 := by
  unfold rNear at h ⊢
  split at h
  · rename_i h1; rw [if_pos h1]; exact ⟨rfl, rfl⟩
  · rename_i h1
    rw [if_neg h1]
    split at h
    · rename_i h2; rw [if_pos h2]; exact ⟨rfl, rfl⟩
    · rename_i h2
      rw [if_neg h2]
      split at h
      · rename_i h3; rw [if_pos h3]; exact ⟨rfl, rfl⟩
      · rename_i h3
        rw [if_neg h3]
        split at h
        · rename_i h4; rw [if_pos h4]; exact ⟨rfl, rfl⟩
        · exact absurd rfl h
theorem rFeas_true {beg up down : Int} {ls : List (Int × Int)} {ps : List Int} (h : rFeas beg up down ls ps = (true, 0)) : rCheckP ls beg up down = 0 ∧ ps.length = ls.length ∧ feasP beg up down ls ps ls.length := by
  unfold rFeas at h
  split at h
  · cases h
  · rename_i h1
    split at h
    · cases h
    · rename_i h2
      injection h with h3 _
      exact ⟨by simpa using h1, by simpa using h2, (feasB_iff _).1 h3⟩
theorem feas_bd {beg up down : Int} {ls : List (Int × Int)} {ts ps : List Int} {n : Nat} (h : ROk beg up down ls ts n) (hf : feasP beg up down ls ps n) (i : Nat) (hi : i < n) : 0 ≤ ps.getD i 0 ∧ ps.getD i 0 ≤ 100000 := by
  obtain ⟨a, b, _⟩ := hf i hi
  obtain ⟨c, d⟩ := h.hl i hi
  omega
theorem rPow_len {beg up down : Int} {ls : List (Int × Int)} {ts : List Int} {n : Nat} : (rPow beg up down ls ts n).length = n := by unfold rPow; simp
structure NearOk (beg up down : Int) (ls : List (Int × Int)) (ts : List Int) : Prop where
  ok : ROk beg up down ls ts ls.length
  len : ts.length = ls.length
  plen : (rNear beg up down ls ts).1.length = ls.length
  pbd : ∀ i, i < ls.length → 0 ≤ (rNear beg up down ls ts).1.getD i 0 ∧ (rNear beg up down ls ts).1.getD i 0 ≤ 100000
  feas : rFeas beg up down ls (rNear beg up down ls ts).1 = (true, 0)
  dist : distP ts (rNear beg up down ls ts).1 ls.length = (rNear beg up down ls ts).2.1
  best : ∀ ps, rFeas beg up down ls ps = (true, 0) → (rNear beg up down ls ts).2.1 ≤ distP ts ps ls.length
theorem rNear_good {beg up down : Int} {ls : List (Int × Int)} {ts : List Int} (h : (rNear beg up down ls ts).2.2 = 0) : NearOk beg up down ls ts := by
  have h0 := h
  unfold rNear at h
  split at h
  · rename_i h1; exact absurd h h1
  · rename_i h1
    split at h
    · cases h
    · rename_i h2
      split at h
      · cases h
      · rename_i h3
        split at h
        · cases h
        · rename_i h4
          have e : rNear beg up down ls ts = (rPow beg up down ls ts ls.length, if ls.length = 0 then 0 else (cLeast (rF beg up down ls ts ls.length).1.1 (rF beg up down ls ts ls.length).1.2.1 (rF beg up down ls ts ls.length).1.2.2).2.1, 0) := by
            unfold rNear; rw [if_neg h1, if_neg h2, if_neg h3, if_neg h4]
          have k1 : rCheckP ls beg up down = 0 := by simpa using h1
          have k2 : ts.length = ls.length := by simpa using h2
          have k4 : (rF beg up down ls ts ls.length).2 = 0 := by simpa using h4
          have ok := rOk_of k1 k2 (by simpa using h3)
          obtain ⟨f1, _⟩ := rPow_ok ok k4 ls.length (Nat.le_refl _)
          have hd : distP ts (rPow beg up down ls ts ls.length) ls.length = (rNear beg up down ls ts).2.1 ∧ ∀ ps, feasP beg up down ls ps ls.length → (rNear beg up down ls ts).2.1 ≤ distP ts ps ls.length := by
            rw [e]
            by_cases hn : ls.length = 0
            · simp only [hn, if_true]
              exact ⟨rfl, fun ps _ => Int.le_refl _⟩
            · simp only [hn, if_false]
              obtain ⟨_, v, e1, e2, e3⟩ := ramp_kept ok (by omega) k4
              rw [e1]
              exact ⟨e2, e3⟩
          refine ⟨ok, k2, by rw [e, rPow_len], fun i hi => ?_, ?_, ?_, fun ps hp => ?_⟩
          · rw [e]; exact feas_bd ok f1 i hi
          · rw [e]
            unfold rFeas
            rw [if_neg (by simpa using k1), if_neg (by rw [rPow_len]; simp), (feasB_iff _).2 f1]
          · rw [e]; rw [e] at hd; exact hd.1
          · exact hd.2 ps (rFeas_true hp).2.2
theorem distP_bd {ts ps : List Int} {n : Nat} (k : Nat) (hk : k ≤ n) (h1 : ∀ i, i < n → 0 ≤ ts.getD i 0 ∧ ts.getD i 0 ≤ 100000) (h2 : ∀ i, i < n → 0 ≤ ps.getD i 0 ∧ ps.getD i 0 ≤ 100000) : 0 ≤ distP ts ps k ∧ distP ts ps k ≤ 100000 * (k : Int) := by
  induction k with
  | zero => exact ⟨by simp [distP, sumN], by simp [distP, sumN]⟩
  | succ k ih =>
    obtain ⟨a, b⟩ := ih (by omega)
    have e : distP ts ps (k + 1) = distP ts ps k + max (ps.getD k 0 - ts.getD k 0) (ts.getD k 0 - ps.getD k 0) := rfl
    have := h1 k (by omega)
    have := h2 k (by omega)
    rw [e]
    push_cast
    omega
theorem near_ex0 : (rNear 0 10 10 [(0, 40), (0, 40)] [30, 15]).2.2 = 0 := by
  have h1 : rCheckP [(0, 40), (0, 40)] 0 10 10 = 0 := by decide
  have h3 : has (rOut · 100000) [30, 15] = false := by decide
  have ok := rOk_of (ts := [30, 15]) h1 rfl h3
  have hf : feasP 0 10 10 [(0, 40), (0, 40)] [10, 15] 2 := (feasB_iff 2).1 (by decide)
  have h4 := (ramp_above ok 2 (Nat.le_refl _) hf).1
  unfold rNear
  rw [if_neg (by rw [h1]; simp), if_neg (by simp), if_neg (by rw [h3]; decide), if_neg (by simpa using h4)]
theorem list_two {l : List Int} (h : l.length = 2) : ∃ a b, l = [a, b] := by
  match l, h with
  | [a, b], _ => exact ⟨a, b, rfl⟩
theorem near_ex : rNear 0 10 10 [(0, 40), (0, 40)] [30, 15] = ([10, 15], 20, 0) := by
  have h0 := near_ex0
  have g := rNear_good h0
  have hp := g.plen
  have hd := g.dist
  have hf := g.feas
  have hb := g.best [10, 15] (by decide)
  generalize rNear 0 10 10 [(0, 40), (0, 40)] [30, 15] = R at *
  obtain ⟨p, d, e⟩ := R
  simp only at *
  obtain ⟨a, b, rfl⟩ := list_two hp
  obtain ⟨_, _, hf3⟩ := rFeas_true hf
  obtain ⟨f1, f2, f3, f4⟩ := hf3 0 (by decide)
  have e1 : distP [30, 15] [a, b] [((0 : Int), (40 : Int)), (0, 40)].length = 0 + max (a - 30) (30 - a) + max (b - 15) (15 - b) := rfl
  have e2 : distP [30, 15] [10, 15] [((0 : Int), (40 : Int)), (0, 40)].length = 20 := by decide
  have e3 : [a, b].getD 0 0 - lastP 0 [a, b] 0 = a - 0 := rfl
  rw [e3] at f4
  rw [e1] at hd
  rw [e2] at hb
  have ha : a = 10 := by omega
  have hbb : b = 15 := by omega
  have hdd : d = 20 := by omega
  rw [ha, hbb, hdd, h0]
theorem feas_ex : rFeas 0 5 5 [(0, 9)] [5] = (true, 0) := by decide +kernel
end Go.Proofs.Ytchafkocobbndaa.Pl
namespace Go.Proofs.Ytchafkocobbndaa
open Go.RowKit
def FeasSaid (x : Bool × Int) (w : World) (e : Ending) (w' : World) : Prop := e = .returned (.tuple #[.bool x.1, .int .i64 x.2]) ∧ Below w.heap.size w w'
set_option maxHeartbeats 6400000 in
set_option maxRecDepth 100000 in
theorem rFeas_any (A B : Option Addr) (n m c d : Nat) (ls : List (Int × Int)) (ps : List Int) (beg up down : Int) (w : World) (hr : Reads w w.heap.size 2 A n (pairs ls)) (hq : Reads w w.heap.size 1 B m (ints ps)) :
    Calls Try.prog 16 #[.slice A n c, .int .i64 beg, .int .i64 up, .int .i64 down, .slice B m d] w (FeasSaid (Pl.rFeas beg up down ls ps) w) := by
  have HR := Lib.hid hr
  have HQ := Lib.hid hq
  have HL := Lib.hid hr.pair_len
  have HM := Lib.hid hq.int_len
  have HC := Lib.hid (fun w h => rCheckP_any A n c ls beg up down w h)
  clear hr hq
  by_cases h0 : Pl.rCheckP ls beg up down = 0
  · obtain ⟨hn24, hlim, ⟨b0, b1⟩, ⟨u0, u1⟩, ⟨d0, d1⟩⟩ := Pl.rCheckP_ok h0
    have HLIM := Lib.hid hlim
    rw [h0] at HC
    by_cases hmn : m = n
    · subst hmn
      have hm24 : m ≤ 24 := by rw [← HL.out]; exact hn24
      have HX : Hid (Pl.rFeas beg up down ls ps = (Pl.feasB beg up down ls ps m, 0)) := by show _ = _; unfold Pl.rFeas; rw [if_neg (by simpa using h0), if_neg (by rw [HL.out, HM.out]; simp), HL.out]
      clear h0 hlim hn24
      unfold FeasSaid
      generalize Pl.rFeas beg up down ls ps = R at *
      go_enter Try.func16, Try.ntmps16
      go_wp2_with fail
      refine (HC.out _ HR.out).mono ?_
      rintro e w1 ⟨rfl, hb⟩
      have HB1 := Lib.hid hb
      clear hb HC
      go_wp2_with fail
      go_loopw [13, 32] (fun la i wr => ∃ k : Nat, k ≤ m ∧ i = .int .i64 k ∧ la = .int .i64 (Pl.lastP beg ps k) ∧ Hid (Pl.feasB beg up down ls ps k = true) ∧ Hid (Below w.heap.size w wr)) (fun _ i _ => m - (intOf i).toNat)
      case atStart => exact ⟨0, Nat.zero_le _, rfl, rfl, rfl, HB1⟩
      case round =>
        obtain ⟨k, hk, rfl, rfl, HF, HB⟩ := hrel
        by_cases hlt : k < m
        · obtain ⟨b, o, rfl, hl, c1, c2⟩ := (HR.out.go HB.out).pair_at hlt
          obtain ⟨b', o', rfl, hl', c3⟩ := (HQ.out.go HB.out).int_at hlt
          have hpk : ps.getD k 0 = ps[k] := by rw [List.getD_eq_getElem?_getD, List.getElem?_eq_getElem hl']; rfl
          have hlk : ls.getD k (0, 0) = ls[k] := by rw [List.getD_eq_getElem?_getD, List.getElem?_eq_getElem hl]; rfl
          obtain ⟨m0, m1, m2⟩ := HLIM.out _ (List.getElem_mem hl)
          have hlast : -100000 ≤ Pl.lastP beg ps k ∧ Pl.lastP beg ps k ≤ 100000 := by
            cases k with
            | zero => exact ⟨by show -100000 ≤ beg; omega, by show beg ≤ 100000; omega⟩
            | succ j =>
              have hf := (Pl.feasB_iff (j + 1)).1 HF.out j (by omega)
              have hlj : j < ls.length := by rw [HL.out]; omega
              have e : ls.getD j (0, 0) = ls[j] := by rw [List.getD_eq_getElem?_getD, List.getElem?_eq_getElem hlj]; rfl
              have hm2 := HLIM.out _ (List.getElem_mem hlj)
              rw [e] at hf
              have el : Pl.lastP beg ps (j + 1) = ps.getD j 0 := rfl
              rw [el]
              omega
          obtain ⟨q0, q1⟩ := hlast
          have HAT : Hid (Pl.feasAt beg up down ls ps k ↔ (ls[k].1 ≤ ps[k] ∧ ps[k] ≤ ls[k].2 ∧ -down ≤ ps[k] - Pl.lastP beg ps k ∧ ps[k] - Pl.lastP beg ps k ≤ up)) := by show _ ↔ _; unfold Pl.feasAt; rw [hpk, hlk]
          have HNX : Hid (Pl.lastP beg ps (k + 1) = ps[k]) := hpk
          have k0 : (0 : Int) ≤ (k : Int) := by omega
          have k1 : (k : Int) < (m : Int) := by omega
          clear hpk hlk
          generalize Pl.lastP beg ps k = la at *
          generalize ps[k] = p at *
          generalize ls[k] = lm at *
          obtain ⟨lw, hh⟩ := lm
          simp only at c1 c2 m0 m1 m2 HAT
          by_cases t1 : p < lw
          · have HNO := Lib.hid (Pl.feasB_no hlt (fun h => by have := HAT.out.1 h; omega))
            clear HAT HNX
            go_wp2_with fail
            go_ret2
            exact ⟨by rw [HX.out, HNO.out]; rfl, HB.out⟩
          · by_cases t2 : hh < p
            · have HNO := Lib.hid (Pl.feasB_no hlt (fun h => by have := HAT.out.1 h; omega))
              clear HAT HNX
              go_wp2_with fail
              go_ret2
              exact ⟨by rw [HX.out, HNO.out]; rfl, HB.out⟩
            · by_cases t3 : la + up < p
              · have HNO := Lib.hid (Pl.feasB_no hlt (fun h => by have := HAT.out.1 h; omega))
                clear HAT HNX
                go_wp2_with fail
                go_ret2
                exact ⟨by rw [HX.out, HNO.out]; rfl, HB.out⟩
              · by_cases t4 : p < la - down
                · have HNO := Lib.hid (Pl.feasB_no hlt (fun h => by have := HAT.out.1 h; omega))
                  clear HAT HNX
                  go_wp2_with fail
                  go_ret2
                  exact ⟨by rw [HX.out, HNO.out]; rfl, HB.out⟩
                · have HYES : Hid (Pl.feasB beg up down ls ps (k + 1) = true) := by show _ = _; rw [Pl.feasB, HF.out, Bool.true_and, decide_eq_true_iff]; exact HAT.out.2 ⟨by omega, by omega, by omega, by omega⟩
                  clear HAT
                  go_wp2_with fail
                  go_roundw
                  case rel => exact ⟨k + 1, by omega, by go_num, vint HNX.out.symm, HYES, HB⟩
                  case measure => simp [intOf]; omega
        · have hkm : k = m := by omega
          subst hkm
          go_wp2_with fail
          go_ret2
          exact ⟨by rw [HX.out, HF.out]; rfl, HB.out⟩
    · have HX : Hid (Pl.rFeas beg up down ls ps = (false, 3)) := by show _ = _; unfold Pl.rFeas; rw [if_neg (by simpa using h0), if_pos (by rw [HL.out, HM.out]; exact hmn)]
      have hmn2 : ((m : Int) != (n : Int)) = true := by simp; omega
      clear h0 hlim hn24 hmn
      unfold FeasSaid
      generalize Pl.rFeas beg up down ls ps = R at *
      go_enter Try.func16, Try.ntmps16
      go_wp2_with fail
      refine (HC.out _ HR.out).mono ?_
      rintro e w1 ⟨rfl, hb⟩
      have HB1 := Lib.hid hb
      clear hb HC
      go_wp2_with fail
      go_ret2
      exact ⟨by rw [HX.out]; rfl, HB1.out⟩
  · have HX : Hid (Pl.rFeas beg up down ls ps = (false, Pl.rCheckP ls beg up down)) := by show _ = _; unfold Pl.rFeas; rw [if_pos h0]
    have h2 : (Pl.rCheckP ls beg up down != 0) = true := by simpa using h0
    clear h0
    unfold FeasSaid
    generalize Pl.rFeas beg up down ls ps = R at *
    generalize Pl.rCheckP ls beg up down = u at *
    go_enter Try.func16, Try.ntmps16
    go_wp2_with fail
    refine (HC.out _ HR.out).mono ?_
    rintro e w1 ⟨rfl, hb⟩
    have HB1 := Lib.hid hb
    clear hb HC
    go_wp2_with fail
    go_ret2
    exact ⟨by rw [HX.out]; rfl, HB1.out⟩
end Go.Proofs.Ytchafkocobbndaa
namespace Go.Proofs.Ytchafkocobbndaa
open Go.RowKit
set_option maxHeartbeats 3200000 in
set_option maxRecDepth 100000 in
theorem rsum_any (bo : Nat) (B Q : Option Addr) (m d c : Nat) (ts qs : List Int) (w : World) (hc : w.cell? ⟨bo, 0, none⟩ = some (.slice B m d)) (ht : Reads w w.heap.size 1 B m (ints ts)) (hq : Reads w w.heap.size 1 Q m (ints qs)) (hm : m ≤ 24)
    (h1 : ∀ i, i < m → 0 ≤ ts.getD i 0 ∧ ts.getD i 0 ≤ 100000) (h2 : ∀ i, i < m → 0 ≤ qs.getD i 0 ∧ qs.getD i 0 ≤ 100000) :
    Calls Try.prog 19 #[.slice Q m c, .pointer (some ⟨bo, 0, none⟩)] w fun e w' => e = .returned (.int .i64 (Pl.distP ts qs m)) ∧ Below w.heap.size w w' := by
  have HT := Lib.hid ht
  have HQ := Lib.hid hq
  have H1 := Lib.hid h1
  have H2 := Lib.hid h2
  have HD := Lib.hid (fun k hk => Pl.distP_bd (ts := ts) (ps := qs) (n := m) k hk h1 h2)
  have HC := Lib.hid hc
  have lt := cell_lt hc
  have HMX : Hid (∀ a b : Int, (if a < b then b else a) = max a b) := ite_max
  clear ht hq h1 h2 hc
  go_enter Try.func19, Try.ntmps19
  go_wp2_with fail
  go_loopw [4, 9] (fun s i wr => ∃ k : Nat, k ≤ m ∧ i = .int .i64 k ∧ s = .int .i64 (Pl.distP ts qs k) ∧ Hid (Below w.heap.size w wr)) (fun _ i _ => m - (intOf i).toNat)
  case atStart => exact ⟨0, Nat.zero_le _, rfl, rfl, Below.refl _ _⟩
  case round =>
    obtain ⟨k, hk, rfl, rfl, HB⟩ := hrel
    by_cases hlt : k < m
    · obtain ⟨b, o, rfl, hl, hcq⟩ := (HQ.out.go HB.out).int_at hlt
      obtain ⟨b5, o5, rfl, hl5, hct⟩ := (HT.out.go HB.out).int_at hlt
      have hcc := (HB.out.cell (p := ⟨bo, 0, none⟩) lt).trans HC.out
      have hqd : qs.getD k 0 = qs[k] := by rw [List.getD_eq_getElem?_getD, List.getElem?_eq_getElem hl]; rfl
      have htd : ts.getD k 0 = ts[k] := by rw [List.getD_eq_getElem?_getD, List.getElem?_eq_getElem hl5]; rfl
      obtain ⟨x0, x1⟩ := H1.out k hlt
      obtain ⟨y0, y1⟩ := H2.out k hlt
      obtain ⟨d0, d1⟩ := HD.out k hk
      have HE : Hid (Pl.distP ts qs (k + 1) = Pl.distP ts qs k + max (qs.getD k 0 - ts.getD k 0) (ts.getD k 0 - qs.getD k 0)) := rfl
      rw [hqd, htd] at HE
      rw [htd] at x0 x1
      rw [hqd] at y0 y1
      clear hqd htd
      generalize Pl.distP ts qs k = dk at *
      generalize ts[k] = tk at *
      generalize qs[k] = qk at *
      have w1 : IntKind.i64.wrap (qk - tk) = qk - tk := IntWalk.i64_in _ (by omega)
      have w2 : IntKind.i64.wrap (tk - qk) = tk - qk := IntWalk.i64_in _ (by omega)
      have w3 : IntKind.i64.wrap (dk + max (qk - tk) (tk - qk)) = dk + max (qk - tk) (tk - qk) := IntWalk.i64_in _ (by omega)
      have k0 : (0 : Int) ≤ (k : Int) := by omega
      have k1 : (k : Int) < (m : Int) := by omega
      have imax := HMX.out
      go_wp2_with fail
      have q1 := Wd.cell hcc
      have q2 := Wd.cell hct
      clear hcc hct hcq
      refine wp_region_wd (by kernel_rfl) (by kernel_rfl) ?_
      repeat (go_big_quiet_step (fail))
      refine wpQuiet_nil ?_
      rintro _ ⟨w6, rfl⟩
      have HB := Lib.hid (HB.out.trans (w6.ok.mono HB.out.size))
      clear q1 q2
      generalize w6.val = w7 at *
      go_wp2_with fail
      go_roundw
      case rel => exact ⟨k + 1, by omega, by go_num, vint HE.out.symm, HB⟩
      case measure => simp [intOf]; omega
    · have : k = m := by omega
      subst this
      go_wp2_with fail
      go_ret
      exact ⟨rfl, HB.out⟩
theorem near_call (hsort : SortPOk) (A B : Option Addr) (w : World) (hr : Reads w w.heap.size 2 A 2 (pairs [(0, 40), (0, 40)])) (hq : Reads w w.heap.size 1 B 2 (ints [30, 15])) :
    Calls Try.prog 18 #[.slice A 2 2, .int .i64 0, .int .i64 10, .int .i64 10, .slice B 2 2] w fun e w' => ∃ A c, e = .returned (.tuple #[.slice A 2 c, .int .i64 20, .int .i64 0]) ∧ Reads w' w'.heap.size 1 A 2 (ints [10, 15]) ∧ Below w.heap.size w w' := by
  have h1 := rNear_any hsort A B 2 2 2 2 [(0, 40), (0, 40)] [30, 15] 0 10 10 w hr hq
  rw [Pl.near_ex] at h1
  refine h1.mono ?_
  rintro e w' ⟨A, c, rfl, ho, hb⟩
  exact ⟨A, c, rfl, Reads.of_own ho, hb⟩
set_option maxHeartbeats 1600000 in
set_option maxRecDepth 100000 in
theorem near_any (hsort : SortPOk) (w : World) : Calls Try.prog 17 #[] w fun e w' => e = .returned (.bool true) ∧ Below w.heap.size w w' := by
  have HN := Lib.hid (fun A B w h1 h2 => near_call hsort A B w h1 h2)
  have HEQ := Lib.hid (fun (A B : Option Addr) (c : Nat) (w : World) h1 h2 => eqint_any A B 2 2 c 2 [10, 15] [10, 15] w (by decide) h1 h2 rfl)
  have A1 := Lib.hid ((Below.refl w.heap.size w).alloc (Nat.le_refl _) (.cells #[.int .i64 0, .int .i64 40, .int .i64 0, .int .i64 40] 56))
  have R1 := Lib.hid (Reads.lit w #[.int .i64 0, .int .i64 40, .int .i64 0, .int .i64 40] 56 2 2 w.heap.size rfl rfl)
  have S1 : Hid ((w.alloc (.cells #[.int .i64 0, .int .i64 40, .int .i64 0, .int .i64 40] 56)).heap.size = w.heap.size + 1) := by show _ = _; simp
  go_enter Try.func17, Try.ntmps17
  go_wp2_with fail
  generalize w.alloc (.cells #[.int .i64 0, .int .i64 40, .int .i64 0, .int .i64 40] 56) = wa at *
  have A2 := (Below.refl wa.heap.size wa).alloc (Nat.le_refl _) (.cells #[.int .i64 30, .int .i64 15] 3)
  have R2 := Lib.hid (Reads.lit wa #[.int .i64 30, .int .i64 15] 3 2 1 (w.heap.size + 1) S1.out.symm rfl)
  have R12 := Lib.hid (R1.out.go A2)
  have A12 := Lib.hid (A1.out.trans (A2.mono A1.out.size))
  generalize wa.alloc (.cells #[.int .i64 30, .int .i64 15] 3) = wb at *
  refine (HN.out _ _ wb R12.out R2.out).mono ?_
  rintro e w1 ⟨A, c, rfl, hr, hb⟩
  have HB1 := Lib.hid (A12.out.trans (hb.mono A12.out.size))
  have RX := Lib.hid hr
  clear hr hb R12 R2 A12 A2 R1 A1 HN
  go_wp2_with fail
  have HB2 := Lib.hid (HB1.out.alloc HB1.out.size (.cells #[.int .i64 10, .int .i64 15] 3))
  have RX2 := Lib.hid (RX.out.go ((Below.refl w1.heap.size w1).alloc (Nat.le_refl _) (.cells #[.int .i64 10, .int .i64 15] 3)))
  have RY2 := Lib.hid (Reads.lit w1 #[.int .i64 10, .int .i64 15] 3 2 1 w1.heap.size rfl rfl)
  generalize w1.alloc (.cells #[.int .i64 10, .int .i64 15] 3) = w2 at *
  refine (HEQ.out _ _ _ w2 RX2.out RY2.out).mono ?_
  rintro e w3 ⟨rfl, hb⟩
  have HB3 := Lib.hid (HB2.out.trans (hb.mono HB2.out.size))
  clear hb
  go_wp2_with fail
  go_ret
  exact ⟨rfl, HB3.out⟩
end Go.Proofs.Ytchafkocobbndaa
