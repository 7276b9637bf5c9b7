/- The walks of slices.SortStableFunc's functions at gridhall/commit.block: what they leave in memory. No condition. -/
import Derived.Test.YtchafkocobbndaaSrt
import Derived.Outline
namespace Go.Proofs.Ytchafkocobbndaa.Srt
open Go.RowKit Go.Sort
def encC (x : Int × Int × Int) : List Value := [.int .i64 x.1, .int .i64 x.2.1, .int .i64 x.2.2]
def valC (x : Int × Int × Int) : Value := .agg #[.int .i64 x.1, .int .i64 x.2.1, .int .i64 x.2.2]
theorem encC_len (x : Int × Int × Int) : (encC x).length = 3 := rfl
set_option maxHeartbeats 1600000 in
set_option maxRecDepth 100000 in
theorem swapRangeC (base g n cap a b m : Nat) (d : Array (Int × Int × Int)) (fv : Value) (w : World) (h : Row encC 3 base 139 g n cap w d) (h1 : a + m ≤ b) (h2 : b + m ≤ n) (hn : n ≤ 1000000) :
    Calls Try.prog 102 #[.slice (some ⟨g, 0, none⟩) n cap, .int .i64 a, .int .i64 b, .int .i64 m, fv] w fun e w' => e = .returned (.tuple #[]) ∧ Row encC 3 base 139 g n cap w' (swapR d a b m) ∧ Kp g w w' := by
  go_enter Try.func102, Try.ntmps102
  go_wp2_with fail
  go_loopw [10] (fun i wr => ∃ k : Nat, k ≤ m ∧ i = .int .i64 k ∧ Row encC 3 base 139 g n cap wr (swapR d a b k) ∧ Kp g w wr) (fun i _ => m - (intOf i).toNat)
  case atStart => exact ⟨0, Nat.zero_le _, rfl, h, Kp.refl _ _⟩
  case round =>
    obtain ⟨k, hk, rfl, hrow, hkp⟩ := hrel
    have HR := Lib.hid hrow
    have HK := Lib.hid hkp
    clear hrow hkp
    by_cases hlt : k < m
    · generalize hdk : swapR d a b k = dk at *
      have HDK := Lib.hid hdk
      clear hdk
      obtain ⟨⟨x0, x1, x2⟩, hx⟩ : ∃ x, dk[a + k]! = x := ⟨_, rfl⟩
      obtain ⟨⟨y0, y1, y2⟩, hy⟩ : ∃ x, dk[b + k]! = x := ⟨_, rfl⟩
      have cx0 : wr.cell? ⟨g, (a + k) * 3, none⟩ = some (.int .i64 x0) := by have := HR.out.cell (a + k) 0 (by omega) (.int .i64 x0) (by rw [hx]; rfl); simpa using this
      have cx1 : wr.cell? ⟨g, (a + k) * 3 + 1, none⟩ = some (.int .i64 x1) := by have := HR.out.cell (a + k) 1 (by omega) (.int .i64 x1) (by rw [hx]; rfl); simpa using this
      have cx2 : wr.cell? ⟨g, (a + k) * 3 + 2, none⟩ = some (.int .i64 x2) := by have := HR.out.cell (a + k) 2 (by omega) (.int .i64 x2) (by rw [hx]; rfl); simpa using this
      have cy0 : wr.cell? ⟨g, (b + k) * 3, none⟩ = some (.int .i64 y0) := by have := HR.out.cell (b + k) 0 (by omega) (.int .i64 y0) (by rw [hy]; rfl); simpa using this
      have cy1 : wr.cell? ⟨g, (b + k) * 3 + 1, none⟩ = some (.int .i64 y1) := by have := HR.out.cell (b + k) 1 (by omega) (.int .i64 y1) (by rw [hy]; rfl); simpa using this
      have cy2 : wr.cell? ⟨g, (b + k) * 3 + 2, none⟩ = some (.int .i64 y2) := by have := HR.out.cell (b + k) 2 (by omega) (.int .i64 y2) (by rw [hy]; rfl); simpa using this
      have fz := HR.out.frozen
      have HX := Lib.hid hx
      have HY := Lib.hid hy
      clear hx hy
      have s1 : IntKind.i64.wrap ((a : Int) + (k : Int)) = (a : Int) + (k : Int) := IntWalk.i64_in _ (by omega)
      have s2 : IntKind.i64.wrap ((b : Int) + (k : Int)) = (b : Int) + (k : Int) := IntWalk.i64_in _ (by omega)
      have s3 : ((a : Int) + (k : Int)).toNat = a + k := by omega
      have s4 : ((b : Int) + (k : Int)).toNat = b + k := by omega
      have s5 : (a : Int) + (k : Int) < (n : Int) := by omega
      have s6 : (b : Int) + (k : Int) < (n : Int) := by omega
      have s7 : (0 : Int) ≤ (a : Int) + (k : Int) := by omega
      have s8 : (0 : Int) ≤ (b : Int) + (k : Int) := by omega
      go_wp2_with fail
      go_region
      go_wp2_with fail
      have t := HR.out.swp_ (a + k) (b + k) (by omega) (by omega) HX.out HY.out
      have t2 := (HK.out.wset ((a + k) * 3) (encC (y0, y1, y2))).wset ((b + k) * 3) (encC (x0, x1, x2))
      skip
      have T1 := Lib.hid t
      have T2 := Lib.hid t2
      clear t t2
      go_roundw
      case rel => exact ⟨k + 1, by omega, by go_num, by rw [swapR, HDK.out]; exact T1.out.drew, T2.out.drew⟩
      case measure => simp [intOf]; omega
    · have : k = m := by omega
      subst this
      go_wp2_with fail
      go_end0
      exact ⟨rfl, HR.out, HK.out⟩
set_option maxHeartbeats 3200000 in
set_option maxRecDepth 100000 in
theorem insertionC (base g n cap a b : Nat) (F : FuncId) (cb : Array Value) (cf : (Int × Int × Int) → (Int × Int × Int) → Int) (Q : (Int × Int × Int) → Prop) (w0 : World) (eg : ∀ args w, Sem.run Try.prog (callFunc F args) w = .ok (.enter F args) w) (hc : CmpOk F cb valC cf Q g w0)
    (d : Array (Int × Int × Int)) (w : World) (h0 : Kp g w0 w) (h : Row encC 3 base 139 g n cap w d) (hQ : ∀ i, i < n → Q d[i]!) (hab : a ≤ b) (hb : b ≤ n) (hn : n ≤ 1000000) :
    Calls Try.prog 93 #[.slice (some ⟨g, 0, none⟩) n cap, .int .i64 a, .int .i64 b, .func (.func F) #[] cb] w fun e w' => e = .returned (.tuple #[]) ∧ Row encC 3 base 139 g n cap w' (insertionSort (ltOf cf) d a b) ∧ Kp g w w' := by
  have HC : Hid (∀ wt x0 x1 x2 y0 y1 y2, Kp g w0 wt → Q (x0, x1, x2) → Q (y0, y1, y2) → Calls Try.prog F (#[.agg #[.int .i64 x0, .int .i64 x1, .int .i64 x2], .agg #[.int .i64 y0, .int .i64 y1, .int .i64 y2]] ++ cb) wt fun e w' => e = .returned (.int .i64 (cf (x0, x1, x2) (y0, y1, y2))) ∧ Below wt.heap.size wt w') := fun wt x0 x1 x2 y0 y1 y2 q1 q2 q3 => hc wt (x0, x1, x2) (y0, y1, y2) q1 q2 q3
  have H0 := Lib.hid h0
  have HQ := Lib.hid hQ
  clear hc h0 hQ
  go_enter Try.func93, Try.ntmps93
  go_wp2_with fail
  go_loopw [8] (fun vi wr => ∃ (i : Nat) (dk : Array (Int × Int × Int)), vi = .int .i64 i ∧ a < i ∧ i ≤ b + 1 ∧ Row encC 3 base 139 g n cap wr dk ∧ Kp g w wr ∧ Hid (∀ i, i < n → Q dk[i]!) ∧ Hid (insOuter (ltOf cf) a b i dk = insOuter (ltOf cf) a b (a + 1) d)) (fun vi _ => b + 1 - (intOf vi).toNat)
  case atStart => exact ⟨a + 1, d, by go_num, by omega, by omega, h, Kp.refl _ _, HQ, rfl⟩
  case round =>
    obtain ⟨i, dk, rfl, hai, hib, hrow, hkp, HQk, HO⟩ := hrel
    have HR := Lib.hid hrow
    have HK := Lib.hid hkp
    clear hrow hkp
    by_cases hlt : i < b
    · obtain ⟨wo, rfl⟩ : ∃ wo : World, wo = wr := ⟨_, rfl⟩
      go_wp2_with fail
      go_loopw [9] (fun vj wr => ∃ (j : Nat) (dj : Array (Int × Int × Int)), vj = .int .i64 j ∧ a ≤ j ∧ j ≤ i ∧ Row encC 3 base 139 g n cap wr dj ∧ Kp g w wr ∧ Hid (∀ i, i < n → Q dj[i]!) ∧ Hid (insInner (ltOf cf) a j dj = insInner (ltOf cf) a i dk)) (fun vj _ => (intOf vj).toNat)
      case atStart => exact ⟨i, dk, rfl, by omega, Nat.le_refl _, HR.out, HK.out, HQk, rfl⟩
      case round =>
        obtain ⟨j, dj, rfl, haj, hji, hrow, hkp, HQj, HI⟩ := hrel
        have HRj := Lib.hid hrow
        have HKj := Lib.hid hkp
        clear hrow hkp
        have OUT : Hid ((j ≤ a ∨ ltOf cf dj[j]! dj[j - 1]! = false) → insOuter (ltOf cf) a b (i + 1) dj = insOuter (ltOf cf) a b (a + 1) d) := fun hs => by
          rw [← HO.out, insOuter_go_ _ _ _ _ _ hlt, ← HI.out, insInner_stop_ _ _ _ _ hs]
        by_cases hja : a < j
        · obtain ⟨jp, rfl⟩ : ∃ jp, j = jp + 1 := ⟨j - 1, by omega⟩
          obtain ⟨⟨x0, x1, x2⟩, hx⟩ : ∃ x, dj[jp + 1]! = x := ⟨_, rfl⟩
          obtain ⟨⟨y0, y1, y2⟩, hy⟩ : ∃ x, dj[jp]! = x := ⟨_, rfl⟩
          have HX := Lib.hid hx
          have HY := Lib.hid hy
          have qx : Hid (Q (x0, x1, x2)) := by show Q _; rw [← hx]; exact HQj.out _ (by omega)
          have qy : Hid (Q (y0, y1, y2)) := by show Q _; rw [← hy]; exact HQj.out _ (by omega)
          clear hx hy
          have j1 : IntKind.i64.wrap (jp : Int) = (jp : Int) := IntWalk.i64_in _ (by omega)
          have j2 : (jp : Int) + 1 < (n : Int) := by omega
          have j3 : (jp : Int) < (n : Int) := by omega
          have j4 : (a : Int) < (jp : Int) + 1 := by omega
          have j5 : (0 : Int) ≤ (jp : Int) + 1 := by omega
          have j6 : ((jp : Int) + 1).toNat = jp + 1 := by omega
          have rcur := Lib.hid HRj.out.drew
          have kcur := Lib.hid HKj.out.drew
          by_cases hlv : cf (x0, x1, x2) (y0, y1, y2) < 0
          · go_wp2_with fail
            go_region_held3 (fun w' => w'.cell? ⟨g, (jp + 1) * 3, none⟩ = some (.int .i64 x0) ∧ w'.cell? ⟨g, (jp + 1) * 3 + 1, none⟩ = some (.int .i64 x1) ∧ w'.cell? ⟨g, (jp + 1) * 3 + 2, none⟩ = some (.int .i64 x2) ∧ w'.cell? ⟨g, jp * 3, none⟩ = some (.int .i64 y0) ∧ w'.cell? ⟨g, jp * 3 + 1, none⟩ = some (.int .i64 y1) ∧ w'.cell? ⟨g, jp * 3 + 2, none⟩ = some (.int .i64 y2))
              (exact ⟨(by have := rcur.out.cell (jp + 1) 0 (by omega) (.int .i64 x0) (by rw [HX.out]; rfl); simpa using this), (by have := rcur.out.cell (jp + 1) 1 (by omega) (.int .i64 x1) (by rw [HX.out]; rfl); simpa using this), (by have := rcur.out.cell (jp + 1) 2 (by omega) (.int .i64 x2) (by rw [HX.out]; rfl); simpa using this), (by have := rcur.out.cell (jp) 0 (by omega) (.int .i64 y0) (by rw [HY.out]; rfl); simpa using this), (by have := rcur.out.cell (jp) 1 (by omega) (.int .i64 y1) (by rw [HY.out]; rfl); simpa using this), (by have := rcur.out.cell (jp) 2 (by omega) (.int .i64 y2) (by rw [HY.out]; rfl); simpa using this)⟩)
              (first
                | (refine (HC.out _ x0 x1 x2 y0 y1 y2 (H0.out.trans kcur.out) qx.out qy.out).mono ?_; rintro e wz ⟨rfl, hbz⟩; have rcur := Lib.hid (rcur.out.go hbz); have kcur := Lib.hid (kcur.out.below hbz); clear hbz))
            go_wp2_with fail
            have cx0 := (show wz.cell? ⟨g, (jp + 1) * 3, none⟩ = some (.int .i64 x0) from (by have := rcur.out.cell (jp + 1) 0 (by omega) (.int .i64 x0) (by rw [HX.out]; rfl); simpa using this))
            have cx1 := (show wz.cell? ⟨g, (jp + 1) * 3 + 1, none⟩ = some (.int .i64 x1) from (by have := rcur.out.cell (jp + 1) 1 (by omega) (.int .i64 x1) (by rw [HX.out]; rfl); simpa using this))
            have cx2 := (show wz.cell? ⟨g, (jp + 1) * 3 + 2, none⟩ = some (.int .i64 x2) from (by have := rcur.out.cell (jp + 1) 2 (by omega) (.int .i64 x2) (by rw [HX.out]; rfl); simpa using this))
            have cy0 := (show wz.cell? ⟨g, jp * 3, none⟩ = some (.int .i64 y0) from (by have := rcur.out.cell (jp) 0 (by omega) (.int .i64 y0) (by rw [HY.out]; rfl); simpa using this))
            have cy1 := (show wz.cell? ⟨g, jp * 3 + 1, none⟩ = some (.int .i64 y1) from (by have := rcur.out.cell (jp) 1 (by omega) (.int .i64 y1) (by rw [HY.out]; rfl); simpa using this))
            have cy2 := (show wz.cell? ⟨g, jp * 3 + 2, none⟩ = some (.int .i64 y2) from (by have := rcur.out.cell (jp) 2 (by omega) (.int .i64 y2) (by rw [HY.out]; rfl); simpa using this))
            have fz := rcur.out.frozen
            go_region
            go_wp2_with fail
            have t := rcur.out.swp_ (jp + 1) jp (by omega) (by omega) HX.out HY.out
            have t2 := (kcur.out.wset ((jp + 1) * 3) (encC (y0, y1, y2))).wset ((jp) * 3) (encC (x0, x1, x2))
            skip
            have T1 := Lib.hid t
            have T2 := Lib.hid t2
            have T3 : Hid (∀ i, i < n → Q (swp dj (jp + 1) jp)[i]!) := Qswp HRj.out.size (by omega) (by omega) HQj.out
            have T4 : Hid (insInner (ltOf cf) a jp (swp dj (jp + 1) jp) = insInner (ltOf cf) a i dk) := by
              show _ = _
              rw [← HI.out, insInner_go_ _ _ _ _ hja (by rw [HX.out, HY.out]; exact decide_eq_true hlv)]
            clear t t2
            go_roundw
            case rel => exact ⟨jp, swp dj (jp + 1) jp, by first | rfl | go_num | (congr 1; omega), by omega, by omega, T1.out.drew, T2.out.drew, T3, T4⟩
            case measure => simp [intOf]
          · go_wp2_with fail
            go_region_held3 (fun w' => w'.cell? ⟨g, (jp + 1) * 3, none⟩ = some (.int .i64 x0) ∧ w'.cell? ⟨g, (jp + 1) * 3 + 1, none⟩ = some (.int .i64 x1) ∧ w'.cell? ⟨g, (jp + 1) * 3 + 2, none⟩ = some (.int .i64 x2) ∧ w'.cell? ⟨g, jp * 3, none⟩ = some (.int .i64 y0) ∧ w'.cell? ⟨g, jp * 3 + 1, none⟩ = some (.int .i64 y1) ∧ w'.cell? ⟨g, jp * 3 + 2, none⟩ = some (.int .i64 y2))
              (exact ⟨(by have := rcur.out.cell (jp + 1) 0 (by omega) (.int .i64 x0) (by rw [HX.out]; rfl); simpa using this), (by have := rcur.out.cell (jp + 1) 1 (by omega) (.int .i64 x1) (by rw [HX.out]; rfl); simpa using this), (by have := rcur.out.cell (jp + 1) 2 (by omega) (.int .i64 x2) (by rw [HX.out]; rfl); simpa using this), (by have := rcur.out.cell (jp) 0 (by omega) (.int .i64 y0) (by rw [HY.out]; rfl); simpa using this), (by have := rcur.out.cell (jp) 1 (by omega) (.int .i64 y1) (by rw [HY.out]; rfl); simpa using this), (by have := rcur.out.cell (jp) 2 (by omega) (.int .i64 y2) (by rw [HY.out]; rfl); simpa using this)⟩)
              (first
                | (refine (HC.out _ x0 x1 x2 y0 y1 y2 (H0.out.trans kcur.out) qx.out qy.out).mono ?_; rintro e wz ⟨rfl, hbz⟩; have rcur := Lib.hid (rcur.out.go hbz); have kcur := Lib.hid (kcur.out.below hbz); clear hbz))
            go_wp2_with fail
            have T4 : Hid (insOuter (ltOf cf) a b (i + 1) dj = insOuter (ltOf cf) a b (a + 1) d) := OUT.out (.inr (by simp only [Nat.add_sub_cancel]; rw [HX.out, HY.out]; exact decide_eq_false (by omega)))
            go_roundw
            case rel => exact ⟨i + 1, dj, by go_num, by omega, by omega, rcur.out, kcur.out, HQj, T4⟩
            case measure => simp [intOf]; omega
        · have hd : decide ((a : Int) < (j : Int)) = false := decide_eq_false (by omega)
          have T4 : Hid (insOuter (ltOf cf) a b (i + 1) dj = insOuter (ltOf cf) a b (a + 1) d) := OUT.out (.inl (by omega))
          go_wp2_with fail
          go_quiet (fail)
          go_wp2_with fail
          go_roundw
          case rel => exact ⟨i + 1, dj, by go_num, by omega, by omega, HRj.out.drewN _, HKj.out.drewN _, HQj, T4⟩
          case measure => simp [intOf]; omega
    · go_wp2_with fail
      go_end0
      exact ⟨rfl, by unfold insertionSort; rw [← HO.out, insOuter_stop_ _ _ _ _ _ hlt]; exact HR.out, HK.out⟩
def RotSaidC (base g n cap : Nat) (d : Array (Int × Int × Int)) (a m b : Nat) (w : World) (e : Ending) (w' : World) : Prop := e = .returned (.tuple #[]) ∧ ∃ d', Row encC 3 base 139 g n cap w' d' ∧ Rot d a m b d' ∧ Kp g w w'
set_option maxHeartbeats 1600000 in
set_option maxRecDepth 100000 in
theorem rotateC (base g n cap a m b : Nat) (d : Array (Int × Int × Int)) (fv : Value) (w : World) (h : Row encC 3 base 139 g n cap w d) (h1 : a < m) (h2 : m < b) (h3 : b ≤ n) (hn : n ≤ 1000000) :
    Calls Try.prog 100 #[.slice (some ⟨g, 0, none⟩) n cap, .int .i64 a, .int .i64 m, .int .i64 b, fv] w (RotSaidC base g n cap d a m b w) := by
  go_enter Try.func100, Try.ntmps100
  go_wp2_with fail
  go_loopw [10, 11] (fun vi vj wr => ∃ (i j : Nat) (dk : Array (Int × Int × Int)), vi = .int .i64 i ∧ vj = .int .i64 j ∧ 0 < i ∧ 0 < j ∧ i ≤ m ∧ m + j ≤ n ∧ Row encC 3 base 139 g n cap wr dk ∧ Kp g w wr ∧ Hid (∀ d', Rot dk (m - i) m (m + j) d' → Rot d a m b d')) (fun vi vj _ => (intOf vi).toNat + (intOf vj).toNat)
  case atStart =>
    refine ⟨m - a, b - m, d, vint (by omega), vint (by omega), by omega, by omega, by omega, by omega, h, Kp.refl _ _, ?_⟩
    show ∀ _, _
    rw [show m - (m - a) = a from by omega, show m + (b - m) = b from by omega]
    exact fun d' h => h
  case round =>
    obtain ⟨i, j, dk, rfl, rfl, hi, hj, him, hjn, hrow, hkp, HO⟩ := hrel
    have HR := Lib.hid hrow
    have HK := Lib.hid hkp
    clear hrow hkp
    have E1 : Hid ((m : Int) - (i : Int) = ((m - i : Nat) : Int)) := by show _ = _; omega
    rcases Nat.lt_trichotomy i j with hlt | heq | hgt
    · have t1 : ((i : Int) != (j : Int)) = true := by rw [bne_iff_ne]; omega
      have t2 : decide ((j : Int) < (i : Int)) = false := decide_eq_false (by omega)
      have t3 : ¬ (j : Int) < (i : Int) := by omega
      have E2 : Hid ((m : Int) + (j : Int) - (i : Int) = ((m + j - i : Nat) : Int)) := by show _ = _; omega
      go_wp2_with fail
      rw [E1.out, E2.out]
      refine (swapRangeC base g n cap _ _ i dk fv _ HR.out (by omega) (by omega) hn).mono ?_
      rintro e w1 ⟨rfl, hrow, hkp⟩
      have HR1 := Lib.hid hrow
      have HK1 := Lib.hid (HK.out.trans hkp)
      clear hrow hkp
      have HN : Hid (∀ d', Rot (swapR dk (m - i) (m + j - i) i) (m - i) m (m + (j - i)) d' → Rot d a m b d') := fun d' h => HO.out d' (Rot.right hlt him (by rw [HR.out.size]; exact hjn) h)
      go_wp2_with fail
      go_roundw
      case rel => exact ⟨i, j - i, swapR dk (m - i) (m + j - i) i, rfl, vint (by omega), by omega, by omega, by omega, by omega, HR1.out, HK1.out, HN⟩
      case measure => simp [intOf]; omega
    · subst heq
      have t1 : ((i : Int) != (i : Int)) = false := by simp
      go_wp2_with fail
      rw [E1.out]
      refine (swapRangeC base g n cap _ _ i dk fv _ HR.out (by omega) (by omega) hn).mono ?_
      rintro e w1 ⟨rfl, hrow, hkp⟩
      have HR1 := Lib.hid hrow
      have HK1 := Lib.hid (HK.out.trans hkp)
      clear hrow hkp
      go_wp2_with fail
      go_end0
      exact ⟨rfl, _, HR1.out, HO.out _ (Rot.last him (by rw [HR.out.size]; exact hjn)), HK1.out⟩
    · have t1 : ((i : Int) != (j : Int)) = true := by rw [bne_iff_ne]; omega
      have t2 : (j : Int) < (i : Int) := by omega
      go_wp2_with fail
      rw [E1.out]
      refine (swapRangeC base g n cap _ _ j dk fv _ HR.out (by omega) (by omega) hn).mono ?_
      rintro e w1 ⟨rfl, hrow, hkp⟩
      have HR1 := Lib.hid hrow
      have HK1 := Lib.hid (HK.out.trans hkp)
      clear hrow hkp
      have HN : Hid (∀ d', Rot (swapR dk (m - i) m j) (m - (i - j)) m (m + j) d' → Rot d a m b d') := fun d' h => HO.out d' (Rot.left hgt him (by rw [HR.out.size]; exact hjn) h)
      go_wp2_with fail
      go_roundw
      case rel => exact ⟨i - j, j, swapR dk (m - i) m j, vint (by omega), rfl, by omega, by omega, by omega, by omega, HR1.out, HK1.out, HN⟩
      case measure => simp [intOf]; omega
end Go.Proofs.Ytchafkocobbndaa.Srt
