/- The walk of slices.SortStableFunc at gridhall/commit.block: what it leaves in memory. No condition. -/
import Derived.Test.YtchafkocobbndaaSrtDC
namespace Go.Proofs.Ytchafkocobbndaa.Srt
open Go.RowKit Go.Sort
/-- symMerge at all lengths -/
theorem symC (base g n cap : Nat) (F : FuncId) (cb : Array Value) (cf : (Int × Int × Int) → (Int × Int × Int) → Int) (Q : (Int × Int × Int) → Prop) (w0 : World) (eg : ∀ args w, Sem.run Try.prog (callFunc F args) w = .ok (.enter F args) w) (hc : CmpOk F cb valC cf Q g w0) (hS : SWO (ltOf cf)) (hn : n ≤ 1000000) (N : Nat) :
    ∀ (a m b : Nat) (d : Array (Int × Int × Int)) (w : World), b - a ≤ N → Kp g w0 w → Row encC 3 base 139 g n cap w d → (∀ i, i < n → Q d[i]!) → a < m → m < b → b ≤ n → SortedIn (ltOf cf) a m d → SortedIn (ltOf cf) m b d →
      Calls Try.prog 94 #[.slice (some ⟨g, 0, none⟩) n cap, .int .i64 a, .int .i64 m, .int .i64 b, .func (.func F) #[] cb] w (SymSaidC base g n cap cf d a b w) := by
  induction N with
  | zero => intro a m b d w h1 _ _ _ h2 h3; exfalso; omega
  | succ N ih =>
    intro a m b d w hN h0 h hQ h1 h2 h3 hs1 hs2
    by_cases e1 : m = a + 1
    · exact symAC base g n cap F cb cf Q w0 eg hc hS hn a m b d w h0 h hQ h1 h2 h3 hs1 hs2 e1
    · by_cases e2 : b = m + 1
      · exact symBC base g n cap F cb cf Q w0 eg hc hS hn a m b d w h0 h hQ h1 h2 h3 hs1 hs2 e1 e2
      · exact symCC base g n cap F cb cf Q w0 eg hc hS hn N ih a m b d w h0 h hQ h1 h2 h3 hs1 hs2 hN e1 e2
/-- a sorted permutation; below 20 entries it is what the plain insertion sort gives -/
def StblSaidC (base g n cap : Nat) (cf : (Int × Int × Int) → (Int × Int × Int) → Int) (d : Array (Int × Int × Int)) (w : World) (e : Ending) (w' : World) : Prop := e = .returned (.tuple #[]) ∧ ∃ d', Row encC 3 base 139 g n cap w' d' ∧ PermIn 0 n d d' ∧ SortedIn (ltOf cf) 0 n d' ∧ (n < 20 → d' = insertionSort (ltOf cf) d 0 n) ∧ Kp g w w'
set_option maxHeartbeats 3200000 in
set_option maxRecDepth 100000 in
theorem stableC (base g n cap : Nat) (F : FuncId) (cb : Array Value) (cf : (Int × Int × Int) → (Int × Int × Int) → Int) (Q : (Int × Int × Int) → Prop) (w0 : World) (eg : ∀ args w, Sem.run Try.prog (callFunc F args) w = .ok (.enter F args) w) (hc : CmpOk F cb valC cf Q g w0) (hS : SWO (ltOf cf)) (hn : n ≤ 1000000)
    (d : Array (Int × Int × Int)) (w : World) (h0 : Kp g w0 w) (h : Row encC 3 base 139 g n cap w d) (hQ : ∀ i, i < n → Q d[i]!) :
    Calls Try.prog 82 #[.slice (some ⟨g, 0, none⟩) n cap, .int .i64 n, .func (.func F) #[] cb] w (StblSaidC base g n cap cf d w) := by
  have HIN := Lib.hid (fun a b d w h0 h hQ hab hb => insertionC base g n cap a b F cb cf Q w0 eg hc d w h0 h hQ hab hb hn)
  have HSY := Lib.hid (fun a m b d w h0 h hQ h1 h2 h3 s1 s2 => symC base g n cap F cb cf Q w0 eg hc hS hn (b - a) a m b d w (Nat.le_refl _) h0 h hQ h1 h2 h3 s1 s2)
  have HPI := Lib.hid (fun (d : Array (Int × Int × Int)) a b h1 h2 => insertionSort_holds (lt := ltOf cf) hS d a b h1 h2)
  have H0 := Lib.hid h0
  have HQ := Lib.hid hQ
  clear hc h0 hQ eg
  go_enter Try.func82, Try.ntmps82
  go_wp2_with fail
  go_loopw [7, 8] (fun va vb wr => ∃ (a b t0 : Nat) (dk : Array (Int × Int × Int)), va = .int .i64 a ∧ vb = .int .i64 b ∧ b ≤ a + 20 ∧ a + 20 ≤ b ∧ a ≤ n ∧ Hid (a = t0 * 20) ∧ Row encC 3 base 139 g n cap wr dk ∧ Kp g w wr ∧ Hid (∀ i, i < n → Q dk[i]!) ∧ Hid (PermIn 0 n d dk) ∧ Hid (Blocks (ltOf cf) 20 a dk) ∧ Hid (n < 20 → a = 0 ∧ dk = d)) (fun va _ _ => n - (intOf va).toNat)
  case atStart => exact ⟨0, 20, 0, d, rfl, rfl, by omega, by omega, Nat.zero_le _, rfl, h, Kp.refl _ _, HQ, permIn_refl _ _ _, blocks_zero _ _, fun _ => ⟨rfl, rfl⟩⟩
  case round =>
    obtain ⟨a, b, t0, dk, rfl, rfl, b1, b2, han, HT, hrow, hkp, HQk, HP, HBL, HX⟩ := hrel
    have HR := Lib.hid hrow
    have HK := Lib.hid hkp
    clear hrow hkp
    by_cases hlt : b ≤ n
    · have hlt2 : (b : Int) ≤ (n : Int) := by omega
      go_wp2_with fail
      refine (HIN.out a b dk _ (H0.out.trans HK.out) HR.out HQk.out (by omega) hlt).mono ?_
      rintro e w1 ⟨rfl, hrow, hkp⟩
      have HI := Lib.hid (HPI.out dk a b (by omega) (by rw [HR.out.size]; exact hlt))
      generalize insertionSort (ltOf cf) dk a b = d1 at *
      have HR1 := Lib.hid hrow
      have HK1 := Lib.hid (HK.out.trans hkp)
      have HQ1 : Hid (∀ i, i < n → Q d1[i]!) := Qperm HR.out.size HI.out.1 hlt HQk.out
      have HP1 : Hid (PermIn 0 n d d1) := permIn_trans _ _ _ _ _ HP.out (permIn_mono _ _ _ _ _ _ (Nat.zero_le _) hlt (by rw [HR.out.size]; exact Nat.le_refl _) HI.out.1)
      have HBL1 : Hid (Blocks (ltOf cf) 20 b d1) := blocks_next HBL.out HT.out HI.out.1 HI.out.2 b1
      have HT1 : Hid (b = (t0 + 1) * 20) := by show _ = _; have := HT.out; omega
      clear hrow hkp
      go_wp2_with fail
      go_roundw
      case rel => exact ⟨b, b + 20, t0 + 1, d1, rfl, by go_num, by omega, by omega, hlt, HT1, HR1.out, HK1.out, HQ1, HP1, HBL1, fun hh => absurd hh (by omega)⟩
      case measure => simp [intOf]; omega
    · have hlt2 : ¬ (b : Int) ≤ (n : Int) := by omega
      go_wp2_with fail
      refine (HIN.out a n dk _ (H0.out.trans HK.out) HR.out HQk.out han (Nat.le_refl _)).mono ?_
      rintro e w1 ⟨rfl, hrow, hkp⟩
      have HI := Lib.hid (HPI.out dk a n han (by rw [HR.out.size]; exact Nat.le_refl _))
      have HX1 : Hid (n < 20 → insertionSort (ltOf cf) dk a n = insertionSort (ltOf cf) d 0 n) := fun hh => by
        obtain ⟨h1, h2⟩ := HX.out hh
        rw [h1, h2]
      generalize insertionSort (ltOf cf) dk a n = d1 at *
      have HR1 := Lib.hid hrow
      have HK1 := Lib.hid (HK.out.trans hkp)
      have HQ1 : Hid (∀ i, i < n → Q d1[i]!) := Qperm HR.out.size HI.out.1 (Nat.le_refl _) HQk.out
      have HP1 : Hid (PermIn 0 n d d1) := permIn_trans _ _ _ _ _ HP.out (permIn_mono _ _ _ _ _ _ (Nat.zero_le _) (Nat.le_refl _) (by rw [HR.out.size]; exact Nat.le_refl _) HI.out.1)
      have HBL1 : Hid (Blocks (ltOf cf) 20 n d1) := blocks_next HBL.out HT.out HI.out.1 HI.out.2 (by omega)
      clear hrow hkp HBL HP HQk HI HT HX hlt hlt2 b1 b2 han HR HK
      obtain ⟨wo, rfl⟩ : ∃ wo : World, wo = w1 := ⟨_, rfl⟩
      go_wp2_with fail
      go_loopw [6] (fun vs wr => ∃ (bs : Nat) (dk : Array (Int × Int × Int)), vs = .int .i64 bs ∧ 0 < bs ∧ 20 ≤ bs ∧ bs ≤ 2000020 ∧ Row encC 3 base 139 g n cap wr dk ∧ Kp g w wr ∧ Hid (∀ i, i < n → Q dk[i]!) ∧ Hid (PermIn 0 n d dk) ∧ Hid (Blocks (ltOf cf) bs n dk) ∧ Hid (n < 20 → dk = insertionSort (ltOf cf) d 0 n)) (fun vs _ => n - (intOf vs).toNat)
      case atStart => exact ⟨20, d1, rfl, by omega, by omega, by omega, HR1.out, HK1.out, HQ1, HP1, HBL1, HX1⟩
      case round =>
        clear HR1 HK1 HQ1 HP1 HBL1 HX1
        obtain ⟨bs, dk, rfl, hbs0, hbs20, hbs1, hrow, hkp, HQk, HP, HBL, HX⟩ := hrel
        have HR := Lib.hid hrow
        have HK := Lib.hid hkp
        clear hrow hkp
        by_cases hlt : bs < n
        · obtain ⟨wo2, rfl⟩ : ∃ wo2 : World, wo2 = wr := ⟨_, rfl⟩
          go_wp2_with fail
          go_loopw [7, 8] (fun va vb wr => ∃ (a b t0 : Nat) (dk : Array (Int × Int × Int)), va = .int .i64 a ∧ vb = .int .i64 b ∧ b ≤ a + 2 * bs ∧ a + 2 * bs ≤ b ∧ a ≤ n ∧ Hid (a = t0 * (2 * bs)) ∧ Row encC 3 base 139 g n cap wr dk ∧ Kp g w wr ∧ Hid (∀ i, i < n → Q dk[i]!) ∧ Hid (PermIn 0 n d dk) ∧ Hid (Mix (ltOf cf) bs a n dk)) (fun va _ _ => n - (intOf va).toNat)
          case atStart => exact ⟨0, 2 * bs, 0, dk, rfl, vint (by omega), by omega, by omega, Nat.zero_le _, by show _ = _; omega, HR.out, HK.out, HQk, HP, mix_zero HBL.out⟩
          case round =>
            clear HR HK HQk HP HBL HX
            obtain ⟨a, b, t0, dk, rfl, rfl, b1, b2, han, HT, hrow, hkp, HQk, HP, HM⟩ := hrel
            have HR := Lib.hid hrow
            have HK := Lib.hid hkp
            clear hrow hkp
            obtain ⟨mm, hmm⟩ : ∃ mm : Nat, (a : Int) + (bs : Int) = (mm : Int) := ⟨a + bs, by omega⟩
            have m1 : mm ≤ a + bs := by omega
            have m2 : a + bs ≤ mm := by omega
            have HMM : Hid (a + bs = mm) := by show _ = _; omega
            have HBB : Hid (a + 2 * bs = b) := by show _ = _; omega
            by_cases hl2 : b ≤ n
            · have hl3 : (b : Int) ≤ (n : Int) := by omega
              have sl := Lib.hid (HM.out.left_ HT.out mm m1 (by omega))
              have sr : Hid (SortedIn (ltOf cf) mm b dk) := by show SortedIn _ _ _ _; rw [← HMM.out]; exact HM.out.right_ HT.out b b1 hl2
              go_wp2_with fail
              refine (HSY.out a mm b dk _ (H0.out.trans HK.out) HR.out HQk.out (by omega) (by omega) hl2 sl.out sr.out).mono ?_
              rintro e w2 ⟨rfl, d2, hrow, hp, hs, hkp⟩
              have HR1 := Lib.hid hrow
              have HK1 := Lib.hid (HK.out.trans hkp)
              have HQ1 : Hid (∀ i, i < n → Q d2[i]!) := Qperm HR.out.size hp hl2 HQk.out
              have HP1 : Hid (PermIn 0 n d d2) := permIn_trans _ _ _ _ _ HP.out (permIn_mono _ _ _ _ _ _ (Nat.zero_le _) hl2 (by rw [HR.out.size]; exact Nat.le_refl _) hp)
              have HM1 : Hid (Mix (ltOf cf) bs b n d2) := by
                show Mix _ _ _ _ _
                rw [← HBB.out] at hp hs ⊢
                exact HM.out.next HT.out hp hs
              have HT1 : Hid (b = (t0 + 1) * (2 * bs)) := by show _ = _; rw [Nat.add_mul, ← HT.out, Nat.one_mul]; exact HBB.out.symm
              clear hrow hkp hp hs
              go_wp2_with fail
              go_roundw
              case rel => exact ⟨b, b + 2 * bs, t0 + 1, d2, rfl, vint (by omega), by omega, by omega, hl2, HT1, HR1.out, HK1.out, HQ1, HP1, HM1⟩
              case measure => simp [intOf]; omega
            · have hl3 : ¬ (b : Int) ≤ (n : Int) := by omega
              by_cases hm : mm < n
              · have hm2 : (mm : Int) < (n : Int) := by omega
                have sl := Lib.hid (HM.out.left_ HT.out mm m1 (by omega))
                have sr : Hid (SortedIn (ltOf cf) mm n dk) := by show SortedIn _ _ _ _; rw [← HMM.out]; exact HM.out.right_ HT.out n (by omega) (Nat.le_refl _)
                go_wp2_with fail
                refine (HSY.out a mm n dk _ (H0.out.trans HK.out) HR.out HQk.out (by omega) hm (Nat.le_refl _) sl.out sr.out).mono ?_
                rintro e w2 ⟨rfl, d2, hrow, hp, hs, hkp⟩
                have HR1 := Lib.hid hrow
                have HK1 := Lib.hid (HK.out.trans hkp)
                have HQ1 : Hid (∀ i, i < n → Q d2[i]!) := Qperm HR.out.size hp (Nat.le_refl _) HQk.out
                have HP1 : Hid (PermIn 0 n d d2) := permIn_trans _ _ _ _ _ HP.out (permIn_mono _ _ _ _ _ _ (Nat.zero_le _) (Nat.le_refl _) (by rw [HR.out.size]; exact Nat.le_refl _) hp)
                have HB1 : Hid (Blocks (ltOf cf) (2 * bs) n d2) := HM.out.last HT.out (by omega) hp hs
                clear hrow hkp hp hs
                go_wp2_with fail
                go_roundw
                case rel => exact ⟨2 * bs, d2, vint (by omega), by omega, by omega, by omega, HR1.out, HK1.out, HQ1, HP1, HB1, fun hh => absurd hh (by omega)⟩
                case measure => simp [intOf]; omega
              · have hm2 : ¬ (mm : Int) < (n : Int) := by omega
                have HB1 : Hid (Blocks (ltOf cf) (2 * bs) n dk) := HM.out.last HT.out (by omega) (permIn_refl _ _ _) (HM.out.left_ HT.out n (by omega) (Nat.le_refl _))
                go_wp2_with fail
                go_roundw
                case rel => exact ⟨2 * bs, dk, vint (by omega), by omega, by omega, by omega, HR.out, HK.out, HQk, HP, HB1, fun hh => absurd hh (by omega)⟩
                case measure => simp [intOf]; omega
        · have hl3 : ¬ (bs : Int) < (n : Int) := by omega
          go_wp2_with fail
          go_end0
          exact ⟨rfl, dk, HR.out, HP.out, blocks_all HBL.out (by omega), HX.out, HK.out⟩
/-- slices.SortStableFunc on a row that the call owns -/
theorem sortC (base g n cap : Nat) (F : FuncId) (cb : Array Value) (cf : (Int × Int × Int) → (Int × Int × Int) → Int) (Q : (Int × Int × Int) → Prop) (w0 : World) (eg : ∀ args w, Sem.run Try.prog (callFunc F args) w = .ok (.enter F args) w) (hc : CmpOk F cb valC cf Q g w0) (hS : SWO (ltOf cf)) (hn : n ≤ 1000000)
    (d : Array (Int × Int × Int)) (w : World) (h0 : Kp g w0 w) (h : Row encC 3 base 139 g n cap w d) (hQ : ∀ i, i < n → Q d[i]!) :
    Calls Try.prog 75 #[.slice (some ⟨g, 0, none⟩) n cap, .func (.func F) #[] cb] w (StblSaidC base g n cap cf d w) := by
  have HC := Lib.hid (stableC base g n cap F cb cf Q w0 eg hc hS hn d w h0 h hQ)
  clear eg hc
  unfold StblSaidC at *
  go_enter Try.func75, Try.ntmps75
  go_wp2_with fail
  refine HC.out.mono ?_
  rintro e w1 ⟨rfl, hx⟩
  have HX := Lib.hid hx
  clear hx
  go_wp2_with fail
  go_end0
  exact ⟨rfl, HX.out⟩
end Go.Proofs.Ytchafkocobbndaa.Srt
