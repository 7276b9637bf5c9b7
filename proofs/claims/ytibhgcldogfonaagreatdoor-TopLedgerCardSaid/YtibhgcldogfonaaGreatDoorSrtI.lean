/- The walks of slices.SortStableFunc's functions at int: what they leave in memory. No condition. The walk of slices.symMerge with one element on the left at int: what it leaves in memory. No condition. The walk of slices.symMerge with one element on the right at int: what it leaves in memory. No condition. -/
import Derived.Test.YtibhgcldogfonaaGreatDoorSrt
import Derived.Outline
namespace Go.Proofs.YtibhgcldogfonaaGreatDoor.Srt
open Go.RowKit Go.Sort
def encI (x : Int) : List Value := [.int .i64 x]
def valI (x : Int) : Value := .int .i64 x
theorem encI_len (x : Int) : (encI x).length = 1 := rfl
set_option maxHeartbeats 1600000 in
set_option maxRecDepth 100000 in
theorem swapRangeI (base g n cap a b m : Nat) (d : Array (Int)) (fv : Value) (w : World) (h : Row encI 1 base 3 g n cap w d) (h1 : a + m ≤ b) (h2 : b + m ≤ n) (hn : n ≤ 1000000) :
    Calls Tryz.prog 95 #[.slice (some ⟨g, 0, none⟩) n cap, .int .i64 a, .int .i64 b, .int .i64 m, fv] w fun e w' => e = .returned (.tuple #[]) ∧ Row encI 1 base 3 g n cap w' (swapR d a b m) ∧ Kp g w w' := by
  go_enter Tryz.func95, Tryz.ntmps95
  go_wp2_with fail
  go_loopw [10] (fun i wr => ∃ k : Nat, k ≤ m ∧ i = .int .i64 k ∧ Row encI 1 base 3 g n cap wr (swapR d a b k) ∧ Kp g w wr) (fun i _ => m - (intOf i).toNat)
  case atStart => exact ⟨0, Nat.zero_le _, rfl, h, Kp.refl _ _⟩
  case round =>
    obtain ⟨k, hk, rfl, hrow, hkp⟩ := hrel
    have HR := Lib.hid hrow
    have HK := Lib.hid hkp
    clear hrow hkp
    by_cases hlt : k < m
    · generalize hdk : swapR d a b k = dk at *
      have HDK := Lib.hid hdk
      clear hdk
      obtain ⟨x0, hx⟩ : ∃ x, dk[a + k]! = x := ⟨_, rfl⟩
      obtain ⟨y0, hy⟩ : ∃ x, dk[b + k]! = x := ⟨_, rfl⟩
      have cx0 : wr.cell? ⟨g, a + k, none⟩ = some (.int .i64 x0) := by have := HR.out.cell (a + k) 0 (by omega) (.int .i64 x0) (by rw [hx]; rfl); simpa using this
      have cy0 : wr.cell? ⟨g, b + k, none⟩ = some (.int .i64 y0) := by have := HR.out.cell (b + k) 0 (by omega) (.int .i64 y0) (by rw [hy]; rfl); simpa using this
      have fz := HR.out.frozen
      have HX := Lib.hid hx
      have HY := Lib.hid hy
      clear hx hy
      have s1 : IntKind.i64.wrap ((a : Int) + (k : Int)) = (a : Int) + (k : Int) := IntWalk.i64_in _ (by omega)
      have s2 : IntKind.i64.wrap ((b : Int) + (k : Int)) = (b : Int) + (k : Int) := IntWalk.i64_in _ (by omega)
      have s3 : ((a : Int) + (k : Int)).toNat = a + k := by omega
      have s4 : ((b : Int) + (k : Int)).toNat = b + k := by omega
      have s5 : (a : Int) + (k : Int) < (n : Int) := by omega
      have s6 : (b : Int) + (k : Int) < (n : Int) := by omega
      have s7 : (0 : Int) ≤ (a : Int) + (k : Int) := by omega
      have s8 : (0 : Int) ≤ (b : Int) + (k : Int) := by omega
      go_wp2_with fail
      go_region
      go_wp2_with fail
      have t := HR.out.swp_ (a + k) (b + k) (by omega) (by omega) HX.out HY.out
      have t2 := (HK.out.wset ((a + k) * 1) (encI y0)).wset ((b + k) * 1) (encI x0)
      simp only [Nat.mul_one] at t t2
      have T1 := Lib.hid t
      have T2 := Lib.hid t2
      clear t t2
      go_roundw
      case rel => exact ⟨k + 1, by omega, by go_num, by rw [swapR, HDK.out]; exact T1.out.drew, T2.out.drew⟩
      case measure => simp [intOf]; omega
    · have : k = m := by omega
      subst this
      go_wp2_with fail
      go_end0
      exact ⟨rfl, HR.out, HK.out⟩
set_option maxHeartbeats 3200000 in
set_option maxRecDepth 100000 in
theorem insertionI (base g n cap a b : Nat) (F : FuncId) (cb : Array Value) (cf : (Int) → (Int) → Int) (Q : (Int) → Prop) (w0 : World) (eg : ∀ args w, Sem.run Tryz.prog (callFunc F args) w = .ok (.enter F args) w) (hc : CmpOk F cb valI cf Q g w0)
    (d : Array (Int)) (w : World) (h0 : Kp g w0 w) (h : Row encI 1 base 3 g n cap w d) (hQ : ∀ i, i < n → Q d[i]!) (hab : a ≤ b) (hb : b ≤ n) (hn : n ≤ 1000000) :
    Calls Tryz.prog 55 #[.slice (some ⟨g, 0, none⟩) n cap, .int .i64 a, .int .i64 b, .func (.func F) #[] cb] w fun e w' => e = .returned (.tuple #[]) ∧ Row encI 1 base 3 g n cap w' (insertionSort (ltOf cf) d a b) ∧ Kp g w w' := by
  have HC : Hid (∀ wt x0 y0, Kp g w0 wt → Q x0 → Q y0 → Calls Tryz.prog F (#[.int .i64 x0, .int .i64 y0] ++ cb) wt fun e w' => e = .returned (.int .i64 (cf x0 y0)) ∧ Below wt.heap.size wt w') := fun wt x0 y0 q1 q2 q3 => hc wt x0 y0 q1 q2 q3
  have H0 := Lib.hid h0
  have HQ := Lib.hid hQ
  clear hc h0 hQ
  go_enter Tryz.func55, Tryz.ntmps55
  go_wp2_with fail
  go_loopw [8] (fun vi wr => ∃ (i : Nat) (dk : Array (Int)), vi = .int .i64 i ∧ a < i ∧ i ≤ b + 1 ∧ Row encI 1 base 3 g n cap wr dk ∧ Kp g w wr ∧ Hid (∀ i, i < n → Q dk[i]!) ∧ Hid (insOuter (ltOf cf) a b i dk = insOuter (ltOf cf) a b (a + 1) d)) (fun vi _ => b + 1 - (intOf vi).toNat)
  case atStart => exact ⟨a + 1, d, by go_num, by omega, by omega, h, Kp.refl _ _, HQ, rfl⟩
  case round =>
    obtain ⟨i, dk, rfl, hai, hib, hrow, hkp, HQk, HO⟩ := hrel
    have HR := Lib.hid hrow
    have HK := Lib.hid hkp
    clear hrow hkp
    by_cases hlt : i < b
    · obtain ⟨wo, rfl⟩ : ∃ wo : World, wo = wr := ⟨_, rfl⟩
      go_wp2_with fail
      go_loopw [9] (fun vj wr => ∃ (j : Nat) (dj : Array (Int)), vj = .int .i64 j ∧ a ≤ j ∧ j ≤ i ∧ Row encI 1 base 3 g n cap wr dj ∧ Kp g w wr ∧ Hid (∀ i, i < n → Q dj[i]!) ∧ Hid (insInner (ltOf cf) a j dj = insInner (ltOf cf) a i dk)) (fun vj _ => (intOf vj).toNat)
      case atStart => exact ⟨i, dk, rfl, by omega, Nat.le_refl _, HR.out, HK.out, HQk, rfl⟩
      case round =>
        obtain ⟨j, dj, rfl, haj, hji, hrow, hkp, HQj, HI⟩ := hrel
        have HRj := Lib.hid hrow
        have HKj := Lib.hid hkp
        clear hrow hkp
        have OUT : Hid ((j ≤ a ∨ ltOf cf dj[j]! dj[j - 1]! = false) → insOuter (ltOf cf) a b (i + 1) dj = insOuter (ltOf cf) a b (a + 1) d) := fun hs => by
          rw [← HO.out, insOuter_go_ _ _ _ _ _ hlt, ← HI.out, insInner_stop_ _ _ _ _ hs]
        by_cases hja : a < j
        · obtain ⟨jp, rfl⟩ : ∃ jp, j = jp + 1 := ⟨j - 1, by omega⟩
          obtain ⟨x0, hx⟩ : ∃ x, dj[jp + 1]! = x := ⟨_, rfl⟩
          obtain ⟨y0, hy⟩ : ∃ x, dj[jp]! = x := ⟨_, rfl⟩
          have HX := Lib.hid hx
          have HY := Lib.hid hy
          have qx : Hid (Q x0) := by show Q _; rw [← hx]; exact HQj.out _ (by omega)
          have qy : Hid (Q y0) := by show Q _; rw [← hy]; exact HQj.out _ (by omega)
          clear hx hy
          have j1 : IntKind.i64.wrap (jp : Int) = (jp : Int) := IntWalk.i64_in _ (by omega)
          have j2 : (jp : Int) + 1 < (n : Int) := by omega
          have j3 : (jp : Int) < (n : Int) := by omega
          have j4 : (a : Int) < (jp : Int) + 1 := by omega
          have j5 : (0 : Int) ≤ (jp : Int) + 1 := by omega
          have j6 : ((jp : Int) + 1).toNat = jp + 1 := by omega
          have rcur := Lib.hid HRj.out.drew
          have kcur := Lib.hid HKj.out.drew
          by_cases hlv : cf x0 y0 < 0
          · go_wp2_with fail
            go_region_held3 (fun w' => w'.cell? ⟨g, jp + 1, none⟩ = some (.int .i64 x0) ∧ w'.cell? ⟨g, jp, none⟩ = some (.int .i64 y0))
              (exact ⟨(by have := rcur.out.cell (jp + 1) 0 (by omega) (.int .i64 x0) (by rw [HX.out]; rfl); simpa using this), (by have := rcur.out.cell (jp) 0 (by omega) (.int .i64 y0) (by rw [HY.out]; rfl); simpa using this)⟩)
              (first
                | (refine (HC.out _ x0 y0 (H0.out.trans kcur.out) qx.out qy.out).mono ?_; rintro e wz ⟨rfl, hbz⟩; have rcur := Lib.hid (rcur.out.go hbz); have kcur := Lib.hid (kcur.out.below hbz); clear hbz))
            go_wp2_with fail
            have cx0 := (show wz.cell? ⟨g, jp + 1, none⟩ = some (.int .i64 x0) from (by have := rcur.out.cell (jp + 1) 0 (by omega) (.int .i64 x0) (by rw [HX.out]; rfl); simpa using this))
            have cy0 := (show wz.cell? ⟨g, jp, none⟩ = some (.int .i64 y0) from (by have := rcur.out.cell (jp) 0 (by omega) (.int .i64 y0) (by rw [HY.out]; rfl); simpa using this))
            have fz := rcur.out.frozen
            go_region
            go_wp2_with fail
            have t := rcur.out.swp_ (jp + 1) jp (by omega) (by omega) HX.out HY.out
            have t2 := (kcur.out.wset ((jp + 1) * 1) (encI y0)).wset ((jp) * 1) (encI x0)
            simp only [Nat.mul_one] at t t2
            have T1 := Lib.hid t
            have T2 := Lib.hid t2
            have T3 : Hid (∀ i, i < n → Q (swp dj (jp + 1) jp)[i]!) := Qswp HRj.out.size (by omega) (by omega) HQj.out
            have T4 : Hid (insInner (ltOf cf) a jp (swp dj (jp + 1) jp) = insInner (ltOf cf) a i dk) := by
              show _ = _
              rw [← HI.out, insInner_go_ _ _ _ _ hja (by rw [HX.out, HY.out]; exact decide_eq_true hlv)]
            clear t t2
            go_roundw
            case rel => exact ⟨jp, swp dj (jp + 1) jp, by first | rfl | go_num | (congr 1; omega), by omega, by omega, T1.out.drew, T2.out.drew, T3, T4⟩
            case measure => simp [intOf]
          · go_wp2_with fail
            go_region_held3 (fun w' => w'.cell? ⟨g, jp + 1, none⟩ = some (.int .i64 x0) ∧ w'.cell? ⟨g, jp, none⟩ = some (.int .i64 y0))
              (exact ⟨(by have := rcur.out.cell (jp + 1) 0 (by omega) (.int .i64 x0) (by rw [HX.out]; rfl); simpa using this), (by have := rcur.out.cell (jp) 0 (by omega) (.int .i64 y0) (by rw [HY.out]; rfl); simpa using this)⟩)
              (first
                | (refine (HC.out _ x0 y0 (H0.out.trans kcur.out) qx.out qy.out).mono ?_; rintro e wz ⟨rfl, hbz⟩; have rcur := Lib.hid (rcur.out.go hbz); have kcur := Lib.hid (kcur.out.below hbz); clear hbz))
            go_wp2_with fail
            have T4 : Hid (insOuter (ltOf cf) a b (i + 1) dj = insOuter (ltOf cf) a b (a + 1) d) := OUT.out (.inr (by simp only [Nat.add_sub_cancel]; rw [HX.out, HY.out]; exact decide_eq_false (by omega)))
            go_roundw
            case rel => exact ⟨i + 1, dj, by go_num, by omega, by omega, rcur.out, kcur.out, HQj, T4⟩
            case measure => simp [intOf]; omega
        · have hd : decide ((a : Int) < (j : Int)) = false := decide_eq_false (by omega)
          have T4 : Hid (insOuter (ltOf cf) a b (i + 1) dj = insOuter (ltOf cf) a b (a + 1) d) := OUT.out (.inl (by omega))
          go_wp2_with fail
          go_quiet (fail)
          go_wp2_with fail
          go_roundw
          case rel => exact ⟨i + 1, dj, by go_num, by omega, by omega, HRj.out.drewN _, HKj.out.drewN _, HQj, T4⟩
          case measure => simp [intOf]; omega
    · go_wp2_with fail
      go_end0
      exact ⟨rfl, by unfold insertionSort; rw [← HO.out, insOuter_stop_ _ _ _ _ _ hlt]; exact HR.out, HK.out⟩
def RotSaidI (base g n cap : Nat) (d : Array (Int)) (a m b : Nat) (w : World) (e : Ending) (w' : World) : Prop := e = .returned (.tuple #[]) ∧ ∃ d', Row encI 1 base 3 g n cap w' d' ∧ Rot d a m b d' ∧ Kp g w w'
set_option maxHeartbeats 1600000 in
set_option maxRecDepth 100000 in
theorem rotateI (base g n cap a m b : Nat) (d : Array (Int)) (fv : Value) (w : World) (h : Row encI 1 base 3 g n cap w d) (h1 : a < m) (h2 : m < b) (h3 : b ≤ n) (hn : n ≤ 1000000) :
    Calls Tryz.prog 69 #[.slice (some ⟨g, 0, none⟩) n cap, .int .i64 a, .int .i64 m, .int .i64 b, fv] w (RotSaidI base g n cap d a m b w) := by
  go_enter Tryz.func69, Tryz.ntmps69
  go_wp2_with fail
  go_loopw [10, 11] (fun vi vj wr => ∃ (i j : Nat) (dk : Array (Int)), vi = .int .i64 i ∧ vj = .int .i64 j ∧ 0 < i ∧ 0 < j ∧ i ≤ m ∧ m + j ≤ n ∧ Row encI 1 base 3 g n cap wr dk ∧ Kp g w wr ∧ Hid (∀ d', Rot dk (m - i) m (m + j) d' → Rot d a m b d')) (fun vi vj _ => (intOf vi).toNat + (intOf vj).toNat)
  case atStart =>
    refine ⟨m - a, b - m, d, vint (by omega), vint (by omega), by omega, by omega, by omega, by omega, h, Kp.refl _ _, ?_⟩
    show ∀ _, _
    rw [show m - (m - a) = a from by omega, show m + (b - m) = b from by omega]
    exact fun d' h => h
  case round =>
    obtain ⟨i, j, dk, rfl, rfl, hi, hj, him, hjn, hrow, hkp, HO⟩ := hrel
    have HR := Lib.hid hrow
    have HK := Lib.hid hkp
    clear hrow hkp
    have E1 : Hid ((m : Int) - (i : Int) = ((m - i : Nat) : Int)) := by show _ = _; omega
    rcases Nat.lt_trichotomy i j with hlt | heq | hgt
    · have t1 : ((i : Int) != (j : Int)) = true := by rw [bne_iff_ne]; omega
      have t2 : decide ((j : Int) < (i : Int)) = false := decide_eq_false (by omega)
      have t3 : ¬ (j : Int) < (i : Int) := by omega
      have E2 : Hid ((m : Int) + (j : Int) - (i : Int) = ((m + j - i : Nat) : Int)) := by show _ = _; omega
      go_wp2_with fail
      rw [E1.out, E2.out]
      refine (swapRangeI base g n cap _ _ i dk fv _ HR.out (by omega) (by omega) hn).mono ?_
      rintro e w1 ⟨rfl, hrow, hkp⟩
      have HR1 := Lib.hid hrow
      have HK1 := Lib.hid (HK.out.trans hkp)
      clear hrow hkp
      have HN : Hid (∀ d', Rot (swapR dk (m - i) (m + j - i) i) (m - i) m (m + (j - i)) d' → Rot d a m b d') := fun d' h => HO.out d' (Rot.right hlt him (by rw [HR.out.size]; exact hjn) h)
      go_wp2_with fail
      go_roundw
      case rel => exact ⟨i, j - i, swapR dk (m - i) (m + j - i) i, rfl, vint (by omega), by omega, by omega, by omega, by omega, HR1.out, HK1.out, HN⟩
      case measure => simp [intOf]; omega
    · subst heq
      have t1 : ((i : Int) != (i : Int)) = false := by simp
      go_wp2_with fail
      rw [E1.out]
      refine (swapRangeI base g n cap _ _ i dk fv _ HR.out (by omega) (by omega) hn).mono ?_
      rintro e w1 ⟨rfl, hrow, hkp⟩
      have HR1 := Lib.hid hrow
      have HK1 := Lib.hid (HK.out.trans hkp)
      clear hrow hkp
      go_wp2_with fail
      go_end0
      exact ⟨rfl, _, HR1.out, HO.out _ (Rot.last him (by rw [HR.out.size]; exact hjn)), HK1.out⟩
    · have t1 : ((i : Int) != (j : Int)) = true := by rw [bne_iff_ne]; omega
      have t2 : (j : Int) < (i : Int) := by omega
      go_wp2_with fail
      rw [E1.out]
      refine (swapRangeI base g n cap _ _ j dk fv _ HR.out (by omega) (by omega) hn).mono ?_
      rintro e w1 ⟨rfl, hrow, hkp⟩
      have HR1 := Lib.hid hrow
      have HK1 := Lib.hid (HK.out.trans hkp)
      clear hrow hkp
      have HN : Hid (∀ d', Rot (swapR dk (m - i) m j) (m - (i - j)) m (m + j) d' → Rot d a m b d') := fun d' h => HO.out d' (Rot.left hgt him (by rw [HR.out.size]; exact hjn) h)
      go_wp2_with fail
      go_roundw
      case rel => exact ⟨i - j, j, swapR dk (m - i) m j, vint (by omega), rfl, by omega, by omega, by omega, by omega, HR1.out, HK1.out, HN⟩
      case measure => simp [intOf]; omega
end Go.Proofs.YtibhgcldogfonaaGreatDoor.Srt
namespace Go.Proofs.YtibhgcldogfonaaGreatDoor.Srt
open Go.RowKit Go.Sort
def SymSaidI (base g n cap : Nat) (cf : (Int) → (Int) → Int) (d : Array (Int)) (a b : Nat) (w : World) (e : Ending) (w' : World) : Prop := e = .returned (.tuple #[]) ∧ ∃ d', Row encI 1 base 3 g n cap w' d' ∧ PermIn a b d d' ∧ SortedIn (ltOf cf) a b d' ∧ Kp g w w'
set_option maxHeartbeats 3200000 in
set_option maxRecDepth 100000 in
theorem symAI (base g n cap : Nat) (F : FuncId) (cb : Array Value) (cf : (Int) → (Int) → Int) (Q : (Int) → Prop) (w0 : World) (eg : ∀ args w, Sem.run Tryz.prog (callFunc F args) w = .ok (.enter F args) w) (hc : CmpOk F cb valI cf Q g w0) (hS : SWO (ltOf cf)) (hn : n ≤ 1000000)
    (a m b : Nat) (d : Array (Int)) (w : World) (h0 : Kp g w0 w) (h : Row encI 1 base 3 g n cap w d) (hQ : ∀ i, i < n → Q d[i]!) (h1 : a < m) (h2 : m < b) (h3 : b ≤ n) (hs1 : SortedIn (ltOf cf) a m d) (hs2 : SortedIn (ltOf cf) m b d) (hone : m = a + 1) :
    Calls Tryz.prog 56 #[.slice (some ⟨g, 0, none⟩) n cap, .int .i64 a, .int .i64 m, .int .i64 b, .func (.func F) #[] cb] w (SymSaidI base g n cap cf d a b w) := by
  have HC : Hid (∀ wt x0 y0, Kp g w0 wt → Q x0 → Q y0 → Calls Tryz.prog F (#[.int .i64 x0, .int .i64 y0] ++ cb) wt fun e w' => e = .returned (.int .i64 (cf x0 y0)) ∧ Below wt.heap.size wt w') := fun wt x0 y0 q1 q2 q3 => hc wt x0 y0 q1 q2 q3
  have H0 := Lib.hid h0
  have HQ := Lib.hid hQ
  have S1 := Lib.hid hs1
  have S2 := Lib.hid hs2
  have HONE := Lib.hid hone
  have HZ := Lib.hid h.size
  have t1 : ((m : Int) - (a : Int) == 1) = true := by rw [beq_iff_eq]; omega
  clear hc h0 hQ hs1 hs2 hone
  go_enter Tryz.func56, Tryz.ntmps56
  go_wp2_with fail
  go_loopw [10, 11] (fun vi vj wr => ∃ (i j : Nat), vi = .int .i64 i ∧ vj = .int .i64 j ∧ m ≤ i ∧ i ≤ j ∧ j ≤ b ∧ Row encI 1 base 3 g n cap wr d ∧ Kp g w wr ∧ Hid (i = m ∨ ltOf cf d[i - 1]! d[a]! = true) ∧ Hid (j = b ∨ ltOf cf d[j]! d[a]! = false)) (fun vi vj _ => (intOf vj).toNat - (intOf vi).toNat)
  case atStart => exact ⟨m, b, rfl, rfl, Nat.le_refl _, by omega, Nat.le_refl _, h, Kp.refl _ _, .inl rfl, .inl rfl⟩
  case round =>
    obtain ⟨i, j, rfl, rfl, hmi, hij, hjb, hrow, hkp, HI, HJ⟩ := hrel
    have HR := Lib.hid hrow
    have HK := Lib.hid hkp
    clear hrow hkp
    by_cases hlt : i < j
    · obtain ⟨hh, hhe⟩ : ∃ hh : Nat, ((i : Int) + (j : Int)) / 2 = (hh : Int) := ⟨(i + j) / 2, by omega⟩
      have u1 : i ≤ hh := by omega
      have u2 : hh < j := by omega
      have u3 : (hh : Int) < (n : Int) := by omega
      have u4 : (a : Int) < (n : Int) := by omega
      have u5 : (0 : Int) ≤ (hh : Int) := by omega
      have HHE := Lib.hid hhe
      clear hhe
      obtain ⟨x0, hx⟩ : ∃ x, d[hh]! = x := ⟨_, rfl⟩
      obtain ⟨y0, hy⟩ : ∃ x, d[a]! = x := ⟨_, rfl⟩
      have HX := Lib.hid hx
      have HY := Lib.hid hy
      have qx : Hid (Q x0) := by show Q _; rw [← hx]; exact HQ.out _ (by omega)
      have qy : Hid (Q y0) := by show Q _; rw [← hy]; exact HQ.out _ (by omega)
      clear hx hy
      go_wp2_with fail
      rw [HHE.out]
      have rcur := Lib.hid HR.out.drew
      have kcur := Lib.hid HK.out.drew
      by_cases hlv : cf x0 y0 < 0
      · have LV : Hid (ltOf cf d[hh]! d[a]! = true) := by show _ = _; rw [HX.out, HY.out]; exact decide_eq_true hlv
        have nd1 : decide (cf x0 y0 < 0) = true := decide_eq_true hlv
        have nd2 : (!decide (cf x0 y0 < 0)) = false := by rw [nd1]; rfl
        go_region_held3 (fun w' => w'.cell? ⟨g, hh, none⟩ = some (.int .i64 x0) ∧ w'.cell? ⟨g, a, none⟩ = some (.int .i64 y0))
          (exact ⟨(by have := rcur.out.cell (hh) 0 (by omega) (.int .i64 x0) (by rw [HX.out]; rfl); simpa using this), (by have := rcur.out.cell (a) 0 (by omega) (.int .i64 y0) (by rw [HY.out]; rfl); simpa using this)⟩)
          (first
            | (refine (HC.out _ x0 y0 (H0.out.trans kcur.out) qx.out qy.out).mono ?_; rintro e wz ⟨rfl, hbz⟩; have rcur := Lib.hid (rcur.out.go hbz); have kcur := Lib.hid (kcur.out.below hbz); clear hbz))
        all_goals go_wp2_with fail
        all_goals
          go_roundw
          case rel => exact ⟨hh + 1, j, by go_num, rfl, by omega, by omega, by omega, rcur.out, kcur.out, .inr LV.out, HJ⟩
          case measure => simp [intOf]; omega
      · have LV : Hid (ltOf cf d[hh]! d[a]! = false) := by show _ = _; rw [HX.out, HY.out]; exact decide_eq_false (by omega)
        have nd1 : decide (cf x0 y0 < 0) = false := decide_eq_false hlv
        have nd2 : (!decide (cf x0 y0 < 0)) = true := by rw [nd1]; rfl
        go_region_held3 (fun w' => w'.cell? ⟨g, hh, none⟩ = some (.int .i64 x0) ∧ w'.cell? ⟨g, a, none⟩ = some (.int .i64 y0))
          (exact ⟨(by have := rcur.out.cell (hh) 0 (by omega) (.int .i64 x0) (by rw [HX.out]; rfl); simpa using this), (by have := rcur.out.cell (a) 0 (by omega) (.int .i64 y0) (by rw [HY.out]; rfl); simpa using this)⟩)
          (first
            | (refine (HC.out _ x0 y0 (H0.out.trans kcur.out) qx.out qy.out).mono ?_; rintro e wz ⟨rfl, hbz⟩; have rcur := Lib.hid (rcur.out.go hbz); have kcur := Lib.hid (kcur.out.below hbz); clear hbz))
        all_goals go_wp2_with fail
        all_goals
          go_roundw
          case rel => exact ⟨i, hh, rfl, rfl, by omega, by omega, by omega, rcur.out, kcur.out, HI, .inr LV.out⟩
          case measure => simp [intOf]; omega
    · have hji : j = i := by omega
      subst hji
      obtain ⟨wo, rfl⟩ : ∃ wo : World, wo = wr := ⟨_, rfl⟩
      go_wp2_with fail
      go_loopw [13] (fun vk wr => ∃ kk : Nat, vk = .int .i64 kk ∧ a ≤ kk ∧ kk ≤ j - 1 ∧ Row encI 1 base 3 g n cap wr (shiftA d a (kk - a)) ∧ Kp g w wr) (fun vk _ => j - (intOf vk).toNat)
      case atStart => exact ⟨a, rfl, Nat.le_refl _, by omega, by rw [Nat.sub_self]; exact HR.out, HK.out⟩
      case round =>
        obtain ⟨kk, rfl, hak, hki, hrow, hkp⟩ := hrel
        have HRk := Lib.hid hrow
        have HKk := Lib.hid hkp
        clear hrow hkp
        by_cases hl2 : kk < j - 1
        · generalize hdk : shiftA d a (kk - a) = dk at *
          have HDK := Lib.hid hdk
          clear hdk
          obtain ⟨x0, hx⟩ : ∃ x, dk[kk]! = x := ⟨_, rfl⟩
          obtain ⟨y0, hy⟩ : ∃ x, dk[kk + 1]! = x := ⟨_, rfl⟩
          have HX := Lib.hid hx
          have HY := Lib.hid hy
          clear hx hy
          have cx0 := (show wr.cell? ⟨g, kk, none⟩ = some (.int .i64 x0) from by have := HRk.out.cell (kk) 0 (by omega) (.int .i64 x0) (by rw [HX.out]; rfl); simpa using this)
          have cy0 := (show wr.cell? ⟨g, kk + 1, none⟩ = some (.int .i64 y0) from by have := HRk.out.cell (kk + 1) 0 (by omega) (.int .i64 y0) (by rw [HY.out]; rfl); simpa using this)
          have fz := HRk.out.frozen
          have u1 : (kk : Int) < (j : Int) - 1 := by omega
          have u2 : IntKind.i64.wrap ((kk : Int) + 1) = (kk : Int) + 1 := IntWalk.i64_in _ (by omega)
          have u3 : ((kk : Int) + 1).toNat = kk + 1 := by omega
          have u4 : (kk : Int) + 1 < (n : Int) := by omega
          have u5 : (0 : Int) ≤ (kk : Int) + 1 := by omega
          have u6 : (kk : Int) < (n : Int) := by omega
          go_wp2_with fail
          go_region
          go_wp2_with fail
          have t := HRk.out.swp_ kk (kk + 1) (by omega) (by omega) HX.out HY.out
          have t2 := (HKk.out.wset ((kk) * 1) (encI y0)).wset ((kk + 1) * 1) (encI x0)
          simp only [Nat.mul_one] at t t2
          have T1 := Lib.hid t
          have T2 := Lib.hid t2
          have T3 : Hid (shiftA d a (kk + 1 - a) = swp dk kk (kk + 1)) := by
            show _ = _
            rw [show kk + 1 - a = (kk - a) + 1 from by omega, shiftA, HDK.out, show a + (kk - a) = kk from by omega]
          clear t t2
          go_roundw
          case rel => exact ⟨kk + 1, by go_num, by omega, by omega, by rw [T3.out]; exact T1.out.drew, T2.out.drew⟩
          case measure => simp [intOf]; omega
        · have : kk = j - 1 := by omega
          subst this
          have u1 : ¬ (((j - 1 : Nat) : Int) < (j : Int) - 1) := by omega
          have hfin := mergeA hS (a := a) (b := b) (i := j) (d := d) (by rw [← HONE.out]; exact S2.out) (by have := HONE.out; omega) hjb (by rw [HZ.out]; exact h3) (by rw [← HONE.out]; exact HI.out) HJ.out
          have HFIN := Lib.hid hfin
          clear hfin
          go_wp2_with fail
          go_end0
          exact ⟨rfl, _, HRk.out, HFIN.out.1, HFIN.out.2, HKk.out⟩
end Go.Proofs.YtibhgcldogfonaaGreatDoor.Srt
namespace Go.Proofs.YtibhgcldogfonaaGreatDoor.Srt
open Go.RowKit Go.Sort
set_option maxHeartbeats 3200000 in
set_option maxRecDepth 100000 in
theorem symBI (base g n cap : Nat) (F : FuncId) (cb : Array Value) (cf : (Int) → (Int) → Int) (Q : (Int) → Prop) (w0 : World) (eg : ∀ args w, Sem.run Tryz.prog (callFunc F args) w = .ok (.enter F args) w) (hc : CmpOk F cb valI cf Q g w0) (hS : SWO (ltOf cf)) (hn : n ≤ 1000000)
    (a m b : Nat) (d : Array (Int)) (w : World) (h0 : Kp g w0 w) (h : Row encI 1 base 3 g n cap w d) (hQ : ∀ i, i < n → Q d[i]!) (h1 : a < m) (h2 : m < b) (h3 : b ≤ n) (hs1 : SortedIn (ltOf cf) a m d) (hs2 : SortedIn (ltOf cf) m b d) (hne : m ≠ a + 1) (hone : b = m + 1) :
    Calls Tryz.prog 56 #[.slice (some ⟨g, 0, none⟩) n cap, .int .i64 a, .int .i64 m, .int .i64 b, .func (.func F) #[] cb] w (SymSaidI base g n cap cf d a b w) := by
  have HC : Hid (∀ wt x0 y0, Kp g w0 wt → Q x0 → Q y0 → Calls Tryz.prog F (#[.int .i64 x0, .int .i64 y0] ++ cb) wt fun e w' => e = .returned (.int .i64 (cf x0 y0)) ∧ Below wt.heap.size wt w') := fun wt x0 y0 q1 q2 q3 => hc wt x0 y0 q1 q2 q3
  have H0 := Lib.hid h0
  have HQ := Lib.hid hQ
  have S1 := Lib.hid hs1
  have S2 := Lib.hid hs2
  have HONE := Lib.hid hone
  have HZ := Lib.hid h.size
  have t1 : ((m : Int) - (a : Int) == 1) = false := by rw [beq_eq_false_iff_ne]; omega
  have t2 : ((b : Int) - (m : Int) == 1) = true := by rw [beq_iff_eq]; omega
  clear hc h0 hQ hs1 hs2 hone
  go_enter Tryz.func56, Tryz.ntmps56
  go_wp2_with fail
  go_loopw [14, 15] (fun vi vj wr => ∃ (i j : Nat), vi = .int .i64 i ∧ vj = .int .i64 j ∧ a ≤ i ∧ i ≤ j ∧ j ≤ m ∧ Row encI 1 base 3 g n cap wr d ∧ Kp g w wr ∧ Hid (i = a ∨ ltOf cf d[m]! d[i - 1]! = false) ∧ Hid (j = m ∨ ltOf cf d[m]! d[j]! = true)) (fun vi vj _ => (intOf vj).toNat - (intOf vi).toNat)
  case atStart => exact ⟨a, m, rfl, rfl, Nat.le_refl _, by omega, Nat.le_refl _, h, Kp.refl _ _, .inl rfl, .inl rfl⟩
  case round =>
    obtain ⟨i, j, rfl, rfl, hmi, hij, hjb, hrow, hkp, HI, HJ⟩ := hrel
    have HR := Lib.hid hrow
    have HK := Lib.hid hkp
    clear hrow hkp
    by_cases hlt : i < j
    · obtain ⟨hh, hhe⟩ : ∃ hh : Nat, ((i : Int) + (j : Int)) / 2 = (hh : Int) := ⟨(i + j) / 2, by omega⟩
      have u1 : i ≤ hh := by omega
      have u2 : hh < j := by omega
      have u3 : (hh : Int) < (n : Int) := by omega
      have u4 : (m : Int) < (n : Int) := by omega
      have u5 : (0 : Int) ≤ (hh : Int) := by omega
      have HHE := Lib.hid hhe
      clear hhe
      obtain ⟨x0, hx⟩ : ∃ x, d[m]! = x := ⟨_, rfl⟩
      obtain ⟨y0, hy⟩ : ∃ x, d[hh]! = x := ⟨_, rfl⟩
      have HX := Lib.hid hx
      have HY := Lib.hid hy
      have qx : Hid (Q x0) := by show Q _; rw [← hx]; exact HQ.out _ (by omega)
      have qy : Hid (Q y0) := by show Q _; rw [← hy]; exact HQ.out _ (by omega)
      clear hx hy
      go_wp2_with fail
      rw [HHE.out]
      have rcur := Lib.hid HR.out.drew
      have kcur := Lib.hid HK.out.drew
      by_cases hlv : cf x0 y0 < 0
      · have LV : Hid (ltOf cf d[m]! d[hh]! = true) := by show _ = _; rw [HX.out, HY.out]; exact decide_eq_true hlv
        have nd1 : decide (cf x0 y0 < 0) = true := decide_eq_true hlv
        have nd2 : (!decide (cf x0 y0 < 0)) = false := by rw [nd1]; rfl
        go_region_held3 (fun w' => w'.cell? ⟨g, m, none⟩ = some (.int .i64 x0) ∧ w'.cell? ⟨g, hh, none⟩ = some (.int .i64 y0))
          (exact ⟨(by have := rcur.out.cell (m) 0 (by omega) (.int .i64 x0) (by rw [HX.out]; rfl); simpa using this), (by have := rcur.out.cell (hh) 0 (by omega) (.int .i64 y0) (by rw [HY.out]; rfl); simpa using this)⟩)
          (first
            | (refine (HC.out _ x0 y0 (H0.out.trans kcur.out) qx.out qy.out).mono ?_; rintro e wz ⟨rfl, hbz⟩; have rcur := Lib.hid (rcur.out.go hbz); have kcur := Lib.hid (kcur.out.below hbz); clear hbz))
        all_goals go_wp2_with fail
        all_goals
          go_roundw
          case rel => exact ⟨i, hh, rfl, rfl, by omega, by omega, by omega, rcur.out, kcur.out, HI, .inr LV.out⟩
          case measure => simp [intOf]; omega
      · have LV : Hid (ltOf cf d[m]! d[hh]! = false) := by show _ = _; rw [HX.out, HY.out]; exact decide_eq_false (by omega)
        have nd1 : decide (cf x0 y0 < 0) = false := decide_eq_false hlv
        have nd2 : (!decide (cf x0 y0 < 0)) = true := by rw [nd1]; rfl
        go_region_held3 (fun w' => w'.cell? ⟨g, m, none⟩ = some (.int .i64 x0) ∧ w'.cell? ⟨g, hh, none⟩ = some (.int .i64 y0))
          (exact ⟨(by have := rcur.out.cell (m) 0 (by omega) (.int .i64 x0) (by rw [HX.out]; rfl); simpa using this), (by have := rcur.out.cell (hh) 0 (by omega) (.int .i64 y0) (by rw [HY.out]; rfl); simpa using this)⟩)
          (first
            | (refine (HC.out _ x0 y0 (H0.out.trans kcur.out) qx.out qy.out).mono ?_; rintro e wz ⟨rfl, hbz⟩; have rcur := Lib.hid (rcur.out.go hbz); have kcur := Lib.hid (kcur.out.below hbz); clear hbz))
        all_goals go_wp2_with fail
        all_goals
          go_roundw
          case rel => exact ⟨hh + 1, j, by go_num, rfl, by omega, by omega, by omega, rcur.out, kcur.out, .inr LV.out, HJ⟩
          case measure => simp [intOf]; omega
    · have hji : j = i := by omega
      subst hji
      obtain ⟨wo, rfl⟩ : ∃ wo : World, wo = wr := ⟨_, rfl⟩
      go_wp2_with fail
      go_loopw [17] (fun vk wr => ∃ kk : Nat, vk = .int .i64 kk ∧ j ≤ kk ∧ kk ≤ m ∧ Row encI 1 base 3 g n cap wr (shiftB d m (m - kk)) ∧ Kp g w wr) (fun vk _ => (intOf vk).toNat)
      case atStart => exact ⟨m, rfl, hjb, Nat.le_refl _, by rw [Nat.sub_self]; exact HR.out, HK.out⟩
      case round =>
        obtain ⟨kk, rfl, hjk, hkm, hrow, hkp⟩ := hrel
        have HRk := Lib.hid hrow
        have HKk := Lib.hid hkp
        clear hrow hkp
        by_cases hl2 : j < kk
        · obtain ⟨kp, rfl⟩ : ∃ kp, kk = kp + 1 := ⟨kk - 1, by omega⟩
          generalize hdk : shiftB d m (m - (kp + 1)) = dk at *
          have HDK := Lib.hid hdk
          clear hdk
          obtain ⟨x0, hx⟩ : ∃ x, dk[kp + 1]! = x := ⟨_, rfl⟩
          obtain ⟨y0, hy⟩ : ∃ x, dk[kp]! = x := ⟨_, rfl⟩
          have HX := Lib.hid hx
          have HY := Lib.hid hy
          clear hx hy
          have cx0 := (show wr.cell? ⟨g, kp + 1, none⟩ = some (.int .i64 x0) from by have := HRk.out.cell (kp + 1) 0 (by omega) (.int .i64 x0) (by rw [HX.out]; rfl); simpa using this)
          have cy0 := (show wr.cell? ⟨g, kp, none⟩ = some (.int .i64 y0) from by have := HRk.out.cell (kp) 0 (by omega) (.int .i64 y0) (by rw [HY.out]; rfl); simpa using this)
          have fz := HRk.out.frozen
          have u1 : (j : Int) < (kp : Int) + 1 := by omega
          have u2 : IntKind.i64.wrap (kp : Int) = (kp : Int) := IntWalk.i64_in _ (by omega)
          have u3 : ((kp : Int) + 1).toNat = kp + 1 := by omega
          have u4 : (kp : Int) + 1 < (n : Int) := by omega
          have u5 : (0 : Int) ≤ (kp : Int) + 1 := by omega
          have u6 : (kp : Int) < (n : Int) := by omega
          go_wp2_with fail
          go_region
          go_wp2_with fail
          have t := HRk.out.swp_ (kp + 1) kp (by omega) (by omega) HX.out HY.out
          have t2 := (HKk.out.wset ((kp + 1) * 1) (encI y0)).wset ((kp) * 1) (encI x0)
          simp only [Nat.mul_one] at t t2
          have T1 := Lib.hid t
          have T2 := Lib.hid t2
          have T3 : Hid (shiftB d m (m - kp) = swp dk (kp + 1) kp) := by
            show _ = _
            rw [show m - kp = (m - (kp + 1)) + 1 from by omega, shiftB, HDK.out, show m - (m - (kp + 1)) = kp + 1 from by omega, Nat.add_sub_cancel]
          clear t t2
          go_roundw
          case rel => exact ⟨kp, by first | rfl | go_num | (congr 1; omega), by omega, by omega, by rw [T3.out]; exact T1.out.drew, T2.out.drew⟩
          case measure => simp [intOf]
        · have : kk = j := by omega
          subst this
          have hfin := mergeB hS (a := a) (m := m) (i := kk) (d := d) S1.out hmi hjb (by rw [HZ.out, ← HONE.out]; exact h3) HI.out HJ.out
          rw [← HONE.out] at hfin
          have HFIN := Lib.hid hfin
          clear hfin
          go_wp2_with fail
          go_end0
          exact ⟨rfl, _, HRk.out, HFIN.out.1, HFIN.out.2, HKk.out⟩
end Go.Proofs.YtibhgcldogfonaaGreatDoor.Srt
