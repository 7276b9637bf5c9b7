/- The walk of slices.symMerge with one element on the left at gridhall/commit.block: what it leaves in memory. No condition. -/
import Derived.Test.YtchafkocobbndaaSrtC
namespace Go.Proofs.Ytchafkocobbndaa.Srt
open Go.RowKit Go.Sort
def SymSaidC (base g n cap : Nat) (cf : (Int × Int × Int) → (Int × Int × Int) → Int) (d : Array (Int × Int × Int)) (a b : Nat) (w : World) (e : Ending) (w' : World) : Prop := e = .returned (.tuple #[]) ∧ ∃ d', Row encC 3 base 139 g n cap w' d' ∧ PermIn a b d d' ∧ SortedIn (ltOf cf) a b d' ∧ Kp g w w'
set_option maxHeartbeats 3200000 in
set_option maxRecDepth 100000 in
theorem symAC (base g n cap : Nat) (F : FuncId) (cb : Array Value) (cf : (Int × Int × Int) → (Int × Int × Int) → Int) (Q : (Int × Int × Int) → Prop) (w0 : World) (eg : ∀ args w, Sem.run Try.prog (callFunc F args) w = .ok (.enter F args) w) (hc : CmpOk F cb valC cf Q g w0) (hS : SWO (ltOf cf)) (hn : n ≤ 1000000)
    (a m b : Nat) (d : Array (Int × Int × Int)) (w : World) (h0 : Kp g w0 w) (h : Row encC 3 base 139 g n cap w d) (hQ : ∀ i, i < n → Q d[i]!) (h1 : a < m) (h2 : m < b) (h3 : b ≤ n) (hs1 : SortedIn (ltOf cf) a m d) (hs2 : SortedIn (ltOf cf) m b d) (hone : m = a + 1) :
    Calls Try.prog 94 #[.slice (some ⟨g, 0, none⟩) n cap, .int .i64 a, .int .i64 m, .int .i64 b, .func (.func F) #[] cb] w (SymSaidC base g n cap cf d a b w) := by
  have HC : Hid (∀ wt x0 x1 x2 y0 y1 y2, Kp g w0 wt → Q (x0, x1, x2) → Q (y0, y1, y2) → Calls Try.prog F (#[.agg #[.int .i64 x0, .int .i64 x1, .int .i64 x2], .agg #[.int .i64 y0, .int .i64 y1, .int .i64 y2]] ++ cb) wt fun e w' => e = .returned (.int .i64 (cf (x0, x1, x2) (y0, y1, y2))) ∧ Below wt.heap.size wt w') := fun wt x0 x1 x2 y0 y1 y2 q1 q2 q3 => hc wt (x0, x1, x2) (y0, y1, y2) q1 q2 q3
  have H0 := Lib.hid h0
  have HQ := Lib.hid hQ
  have S1 := Lib.hid hs1
  have S2 := Lib.hid hs2
  have HONE := Lib.hid hone
  have HZ := Lib.hid h.size
  have t1 : ((m : Int) - (a : Int) == 1) = true := by rw [beq_iff_eq]; omega
  clear hc h0 hQ hs1 hs2 hone
  go_enter Try.func94, Try.ntmps94
  go_wp2_with fail
  go_loopw [10, 11] (fun vi vj wr => ∃ (i j : Nat), vi = .int .i64 i ∧ vj = .int .i64 j ∧ m ≤ i ∧ i ≤ j ∧ j ≤ b ∧ Row encC 3 base 139 g n cap wr d ∧ Kp g w wr ∧ Hid (i = m ∨ ltOf cf d[i - 1]! d[a]! = true) ∧ Hid (j = b ∨ ltOf cf d[j]! d[a]! = false)) (fun vi vj _ => (intOf vj).toNat - (intOf vi).toNat)
  case atStart => exact ⟨m, b, rfl, rfl, Nat.le_refl _, by omega, Nat.le_refl _, h, Kp.refl _ _, .inl rfl, .inl rfl⟩
  case round =>
    obtain ⟨i, j, rfl, rfl, hmi, hij, hjb, hrow, hkp, HI, HJ⟩ := hrel
    have HR := Lib.hid hrow
    have HK := Lib.hid hkp
    clear hrow hkp
    by_cases hlt : i < j
    · obtain ⟨hh, hhe⟩ : ∃ hh : Nat, ((i : Int) + (j : Int)) / 2 = (hh : Int) := ⟨(i + j) / 2, by omega⟩
      have u1 : i ≤ hh := by omega
      have u2 : hh < j := by omega
      have u3 : (hh : Int) < (n : Int) := by omega
      have u4 : (a : Int) < (n : Int) := by omega
      have u5 : (0 : Int) ≤ (hh : Int) := by omega
      have HHE := Lib.hid hhe
      clear hhe
      obtain ⟨⟨x0, x1, x2⟩, hx⟩ : ∃ x, d[hh]! = x := ⟨_, rfl⟩
      obtain ⟨⟨y0, y1, y2⟩, hy⟩ : ∃ x, d[a]! = x := ⟨_, rfl⟩
      have HX := Lib.hid hx
      have HY := Lib.hid hy
      have qx : Hid (Q (x0, x1, x2)) := by show Q _; rw [← hx]; exact HQ.out _ (by omega)
      have qy : Hid (Q (y0, y1, y2)) := by show Q _; rw [← hy]; exact HQ.out _ (by omega)
      clear hx hy
      go_wp2_with fail
      rw [HHE.out]
      have rcur := Lib.hid HR.out.drew
      have kcur := Lib.hid HK.out.drew
      by_cases hlv : cf (x0, x1, x2) (y0, y1, y2) < 0
      · have LV : Hid (ltOf cf d[hh]! d[a]! = true) := by show _ = _; rw [HX.out, HY.out]; exact decide_eq_true hlv
        have nd1 : decide (cf (x0, x1, x2) (y0, y1, y2) < 0) = true := decide_eq_true hlv
        have nd2 : (!decide (cf (x0, x1, x2) (y0, y1, y2) < 0)) = false := by rw [nd1]; rfl
        go_region_held3 (fun w' => w'.cell? ⟨g, hh * 3, none⟩ = some (.int .i64 x0) ∧ w'.cell? ⟨g, hh * 3 + 1, none⟩ = some (.int .i64 x1) ∧ w'.cell? ⟨g, hh * 3 + 2, none⟩ = some (.int .i64 x2) ∧ w'.cell? ⟨g, a * 3, none⟩ = some (.int .i64 y0) ∧ w'.cell? ⟨g, a * 3 + 1, none⟩ = some (.int .i64 y1) ∧ w'.cell? ⟨g, a * 3 + 2, none⟩ = some (.int .i64 y2))
          (exact ⟨(by have := rcur.out.cell (hh) 0 (by omega) (.int .i64 x0) (by rw [HX.out]; rfl); simpa using this), (by have := rcur.out.cell (hh) 1 (by omega) (.int .i64 x1) (by rw [HX.out]; rfl); simpa using this), (by have := rcur.out.cell (hh) 2 (by omega) (.int .i64 x2) (by rw [HX.out]; rfl); simpa using this), (by have := rcur.out.cell (a) 0 (by omega) (.int .i64 y0) (by rw [HY.out]; rfl); simpa using this), (by have := rcur.out.cell (a) 1 (by omega) (.int .i64 y1) (by rw [HY.out]; rfl); simpa using this), (by have := rcur.out.cell (a) 2 (by omega) (.int .i64 y2) (by rw [HY.out]; rfl); simpa using this)⟩)
          (first
            | (refine (HC.out _ x0 x1 x2 y0 y1 y2 (H0.out.trans kcur.out) qx.out qy.out).mono ?_; rintro e wz ⟨rfl, hbz⟩; have rcur := Lib.hid (rcur.out.go hbz); have kcur := Lib.hid (kcur.out.below hbz); clear hbz))
        all_goals go_wp2_with fail
        all_goals
          go_roundw
          case rel => exact ⟨hh + 1, j, by go_num, rfl, by omega, by omega, by omega, rcur.out, kcur.out, .inr LV.out, HJ⟩
          case measure => simp [intOf]; omega
      · have LV : Hid (ltOf cf d[hh]! d[a]! = false) := by show _ = _; rw [HX.out, HY.out]; exact decide_eq_false (by omega)
        have nd1 : decide (cf (x0, x1, x2) (y0, y1, y2) < 0) = false := decide_eq_false hlv
        have nd2 : (!decide (cf (x0, x1, x2) (y0, y1, y2) < 0)) = true := by rw [nd1]; rfl
        go_region_held3 (fun w' => w'.cell? ⟨g, hh * 3, none⟩ = some (.int .i64 x0) ∧ w'.cell? ⟨g, hh * 3 + 1, none⟩ = some (.int .i64 x1) ∧ w'.cell? ⟨g, hh * 3 + 2, none⟩ = some (.int .i64 x2) ∧ w'.cell? ⟨g, a * 3, none⟩ = some (.int .i64 y0) ∧ w'.cell? ⟨g, a * 3 + 1, none⟩ = some (.int .i64 y1) ∧ w'.cell? ⟨g, a * 3 + 2, none⟩ = some (.int .i64 y2))
          (exact ⟨(by have := rcur.out.cell (hh) 0 (by omega) (.int .i64 x0) (by rw [HX.out]; rfl); simpa using this), (by have := rcur.out.cell (hh) 1 (by omega) (.int .i64 x1) (by rw [HX.out]; rfl); simpa using this), (by have := rcur.out.cell (hh) 2 (by omega) (.int .i64 x2) (by rw [HX.out]; rfl); simpa using this), (by have := rcur.out.cell (a) 0 (by omega) (.int .i64 y0) (by rw [HY.out]; rfl); simpa using this), (by have := rcur.out.cell (a) 1 (by omega) (.int .i64 y1) (by rw [HY.out]; rfl); simpa using this), (by have := rcur.out.cell (a) 2 (by omega) (.int .i64 y2) (by rw [HY.out]; rfl); simpa using this)⟩)
          (first
            | (refine (HC.out _ x0 x1 x2 y0 y1 y2 (H0.out.trans kcur.out) qx.out qy.out).mono ?_; rintro e wz ⟨rfl, hbz⟩; have rcur := Lib.hid (rcur.out.go hbz); have kcur := Lib.hid (kcur.out.below hbz); clear hbz))
        all_goals go_wp2_with fail
        all_goals
          go_roundw
          case rel => exact ⟨i, hh, rfl, rfl, by omega, by omega, by omega, rcur.out, kcur.out, HI, .inr LV.out⟩
          case measure => simp [intOf]; omega
    · have hji : j = i := by omega
      subst hji
      obtain ⟨wo, rfl⟩ : ∃ wo : World, wo = wr := ⟨_, rfl⟩
      go_wp2_with fail
      go_loopw [13] (fun vk wr => ∃ kk : Nat, vk = .int .i64 kk ∧ a ≤ kk ∧ kk ≤ j - 1 ∧ Row encC 3 base 139 g n cap wr (shiftA d a (kk - a)) ∧ Kp g w wr) (fun vk _ => j - (intOf vk).toNat)
      case atStart => exact ⟨a, rfl, Nat.le_refl _, by omega, by rw [Nat.sub_self]; exact HR.out, HK.out⟩
      case round =>
        obtain ⟨kk, rfl, hak, hki, hrow, hkp⟩ := hrel
        have HRk := Lib.hid hrow
        have HKk := Lib.hid hkp
        clear hrow hkp
        by_cases hl2 : kk < j - 1
        · generalize hdk : shiftA d a (kk - a) = dk at *
          have HDK := Lib.hid hdk
          clear hdk
          obtain ⟨⟨x0, x1, x2⟩, hx⟩ : ∃ x, dk[kk]! = x := ⟨_, rfl⟩
          obtain ⟨⟨y0, y1, y2⟩, hy⟩ : ∃ x, dk[kk + 1]! = x := ⟨_, rfl⟩
          have HX := Lib.hid hx
          have HY := Lib.hid hy
          clear hx hy
          have cx0 := (show wr.cell? ⟨g, kk * 3, none⟩ = some (.int .i64 x0) from by have := HRk.out.cell (kk) 0 (by omega) (.int .i64 x0) (by rw [HX.out]; rfl); simpa using this)
          have cx1 := (show wr.cell? ⟨g, kk * 3 + 1, none⟩ = some (.int .i64 x1) from by have := HRk.out.cell (kk) 1 (by omega) (.int .i64 x1) (by rw [HX.out]; rfl); simpa using this)
          have cx2 := (show wr.cell? ⟨g, kk * 3 + 2, none⟩ = some (.int .i64 x2) from by have := HRk.out.cell (kk) 2 (by omega) (.int .i64 x2) (by rw [HX.out]; rfl); simpa using this)
          have cy0 := (show wr.cell? ⟨g, (kk + 1) * 3, none⟩ = some (.int .i64 y0) from by have := HRk.out.cell (kk + 1) 0 (by omega) (.int .i64 y0) (by rw [HY.out]; rfl); simpa using this)
          have cy1 := (show wr.cell? ⟨g, (kk + 1) * 3 + 1, none⟩ = some (.int .i64 y1) from by have := HRk.out.cell (kk + 1) 1 (by omega) (.int .i64 y1) (by rw [HY.out]; rfl); simpa using this)
          have cy2 := (show wr.cell? ⟨g, (kk + 1) * 3 + 2, none⟩ = some (.int .i64 y2) from by have := HRk.out.cell (kk + 1) 2 (by omega) (.int .i64 y2) (by rw [HY.out]; rfl); simpa using this)
          have fz := HRk.out.frozen
          have u1 : (kk : Int) < (j : Int) - 1 := by omega
          have u2 : IntKind.i64.wrap ((kk : Int) + 1) = (kk : Int) + 1 := IntWalk.i64_in _ (by omega)
          have u3 : ((kk : Int) + 1).toNat = kk + 1 := by omega
          have u4 : (kk : Int) + 1 < (n : Int) := by omega
          have u5 : (0 : Int) ≤ (kk : Int) + 1 := by omega
          have u6 : (kk : Int) < (n : Int) := by omega
          go_wp2_with fail
          go_region
          go_wp2_with fail
          have t := HRk.out.swp_ kk (kk + 1) (by omega) (by omega) HX.out HY.out
          have t2 := (HKk.out.wset ((kk) * 3) (encC (y0, y1, y2))).wset ((kk + 1) * 3) (encC (x0, x1, x2))
          skip
          have T1 := Lib.hid t
          have T2 := Lib.hid t2
          have T3 : Hid (shiftA d a (kk + 1 - a) = swp dk kk (kk + 1)) := by
            show _ = _
            rw [show kk + 1 - a = (kk - a) + 1 from by omega, shiftA, HDK.out, show a + (kk - a) = kk from by omega]
          clear t t2
          go_roundw
          case rel => exact ⟨kk + 1, by go_num, by omega, by omega, by rw [T3.out]; exact T1.out.drew, T2.out.drew⟩
          case measure => simp [intOf]; omega
        · have : kk = j - 1 := by omega
          subst this
          have u1 : ¬ (((j - 1 : Nat) : Int) < (j : Int) - 1) := by omega
          have hfin := mergeA hS (a := a) (b := b) (i := j) (d := d) (by rw [← HONE.out]; exact S2.out) (by have := HONE.out; omega) hjb (by rw [HZ.out]; exact h3) (by rw [← HONE.out]; exact HI.out) HJ.out
          have HFIN := Lib.hid hfin
          clear hfin
          go_wp2_with fail
          go_end0
          exact ⟨rfl, _, HRk.out, HFIN.out.1, HFIN.out.2, HKk.out⟩
end Go.Proofs.Ytchafkocobbndaa.Srt
