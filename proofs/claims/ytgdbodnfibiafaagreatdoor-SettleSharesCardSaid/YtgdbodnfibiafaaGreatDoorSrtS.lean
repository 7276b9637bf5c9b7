/- Plain laws for a stable sort: what came first is compared as the right one; nothing of the program stands here. The walks of slices.SortStableFunc's functions at int, where only a later one is compared with an earlier one: insertion, rotation, symMerge with one element on one side. No condition. The walk of slices.SortStableFunc at int: a sorted permutation by an order in which equal ones stay as they stood. No condition. -/
import Derived.Test.YtgdbodnfibiafaaGreatDoorPSort
import Derived.Test.YtgdbodnfibiafaaGreatDoorSrt
import Derived.Outline
namespace Go.Proofs.YtgdbodnfibiafaaGreatDoor.Srt
open Go.Sort
variable {α : Type} [Inhabited α] {O : α → α → Prop}
/-- what stands ahead of T came ahead of what stands behind it -/
def CrossAt (O : α → α → Prop) (T n : Nat) (d : Array α) : Prop := ∀ p q, p < T → T ≤ q → q < n → O d[p]! d[q]!
theorem CrossAt.perm {T n a b : Nat} {d d1 : Array α} (h : CrossAt O T n d) (hp : PermIn a b d d1) (hb : b ≤ n) (hz : d.size = n) (ht : T ≤ a ∨ b ≤ T) : CrossAt O T n d1 := by
  intro p q p1 q1 q2
  rcases ht with ht | ht
  · rw [hp.2.1 p (.inl (by omega))]
    by_cases hq : a ≤ q ∧ q < b
    · exact permIn_all d d1 a b (fun x => O d[p]! x) (by omega) hp (fun i i1 _ => h p i p1 (by omega) (by omega)) q hq.1 hq.2
    · rw [hp.2.1 q (by omega)]; exact h p q p1 q1 q2
  · rw [hp.2.1 q (.inr (by omega))]
    by_cases hq : a ≤ p ∧ p < b
    · exact permIn_all d d1 a b (fun x => O x d[q]!) (by omega) hp (fun i _ i2 => h i q (by omega) q1 q2) p hq.1 hq.2
    · rw [hp.2.1 p (by omega)]; exact h p q p1 q1 q2
/-- the insertion's order: whatever stands behind i came behind all ahead of it -/
def OutO (O : α → α → Prop) (a b i : Nat) (d : Array α) : Prop := ∀ p q, a ≤ p → p < q → i ≤ q → q < b → O d[p]! d[q]!
def InO (O : α → α → Prop) (a j : Nat) (d : Array α) : Prop := ∀ p, a ≤ p → p < j → O d[p]! d[j]!
theorem OutO.next {a b i : Nat} {d : Array α} (h : OutO O a b i d) : OutO O a b (i + 1) d := fun p q p1 p2 q1 q2 => h p q p1 p2 (by omega) q2
theorem OutO.first {a b i : Nat} {d : Array α} (h : OutO O a b i d) (hi : i < b) : InO O a i d := fun p p1 p2 => h p i p1 p2 (Nat.le_refl _) hi
theorem InO.swp {a j n : Nat} {d : Array α} (h : InO O a (j + 1) d) (hz : d.size = n) (hj : j + 1 < n) : InO O a j (swp d (j + 1) j) := by
  intro p p1 p2
  have g := fun p => swp_get d (i := j + 1) (j := j) (by omega) (by omega) p
  rw [g, g]
  have := h p p1 (by omega)
  (repeat' split) <;> first | exact this | (exfalso; omega)
theorem OutO.swp {a b i j n : Nat} {d : Array α} (h : OutO O a b (i + 1) d) (hz : d.size = n) (hj : j + 1 ≤ i) (ha : a ≤ j) (hb : b ≤ n) : OutO O a b (i + 1) (swp d (j + 1) j) := by
  intro p q p1 p2 q1 q2
  have g := fun p => swp_get d (i := j + 1) (j := j) (by omega) (by omega) p
  rw [g, g]
  have h1 := h p q p1 p2 q1 q2
  have h2 := h j q ha (by omega) q1 q2
  have h3 := h (j + 1) q (by omega) (by omega) q1 q2
  (repeat' split) <;> first | exact h1 | exact h2 | exact h3 | (exfalso; omega)
/-- of two sorted halves: the left one came first -/
def CrossO (O : α → α → Prop) (a m b : Nat) (d : Array α) : Prop := ∀ p q, a ≤ p → p < m → m ≤ q → q < b → O d[p]! d[q]!
theorem CrossO.left_ {a m b s mid e : Nat} {d d1 : Array α} (h : CrossO O a m b d) (hr : Rot d s m e d1) (hsm : s ≤ m) (hme : m ≤ e) (heb : e ≤ b) (hmid : mid + m = s + e) : CrossO O a s mid d1 := by
  intro p q p1 p2 q1 q2
  rw [hr.get p, hr.get q]
  rw [if_neg (by omega), if_neg (by omega), if_pos (by omega)]
  exact h _ _ p1 (by omega) (by omega) (by omega)
theorem CrossO.right_ {a m b s mid e : Nat} {d d1 d2 : Array α} (h : CrossO O a m b d) (hr : Rot d s m e d1) (has : a ≤ s) (hme : m ≤ e) (hmid : mid + m = s + e) (hp : PermIn a mid d1 d2) : CrossO O mid e b d2 := by
  intro p q p1 p2 q1 q2
  rw [hp.2.1 p (.inr p1), hp.2.1 q (.inr (by omega)), hr.get p, hr.get q]
  rw [if_neg (by omega), if_pos (by omega), if_neg (by omega), if_neg (by omega)]
  exact h _ _ (by omega) (by omega) (by omega) (by omega)
section
variable {a b n s t0 m : Nat} {d d1 : Array α}
theorem cross20 (h : ∀ t, CrossAt O (t * s) n d) (hp : PermIn a b d d1) (hb : b ≤ n) (hz : d.size = n) (ha : a = t0 * s) (hb2 : b ≤ a + s) : ∀ t, CrossAt O (t * s) n d1 := fun t => (h t).perm hp hb hz (by
  rcases Nat.lt_or_ge t0 t with c | c
  · have e : (t0 + 1) * s ≤ t * s := Nat.mul_le_mul_right s c
    rw [Nat.add_mul] at e
    exact .inr (by omega)
  · have e : t * s ≤ t0 * s := Nat.mul_le_mul_right s c
    exact .inl (by omega))
theorem crossT (h : ∀ T, a ≤ T → CrossAt O T n d) (hp : PermIn a b d d1) (hb : b ≤ n) (hz : d.size = n) (hab : a ≤ b) : ∀ T, b ≤ T → CrossAt O T n d1 := fun T hT => (h T (by omega)).perm hp hb hz (.inr hT)
theorem crossS (h : ∀ t, a ≤ t * s → CrossAt O (t * s) n d) (hp : PermIn a b d d1) (hb : b ≤ n) (hz : d.size = n) (hab : a ≤ b) : ∀ t, b ≤ t * s → CrossAt O (t * s) n d1 := fun t hT => (h t (by omega)).perm hp hb hz (.inr hT)
theorem cross2 (h : ∀ t, CrossAt O (t * s) n d) : ∀ t, CrossAt O (t * (2 * s)) n d := fun t => by
  have := h (t * 2)
  rwa [Nat.mul_assoc] at this
theorem cross_mid (h : ∀ t, a ≤ t * s → CrossAt O (t * s) n d) (ha : a = t0 * (2 * s)) (hm : a + s = m) (hb : b ≤ n) : CrossO O a m b d := by
  have e : a = (t0 * 2) * s := by rw [ha, Nat.mul_assoc]
  have e2 : (t0 * 2 + 1) * s = m := by rw [Nat.add_mul, ← e]; omega
  intro p q _ p2 q1 q2
  have := h (t0 * 2 + 1) (by omega)
  rw [e2] at this
  exact this p q p2 q1 (by omega)
theorem outO_of (h : ∀ T, a ≤ T → CrossAt O T n d) (hb : b ≤ n) : OutO O a b (a + 1) d := fun p q p1 p2 _ q2 => h q (by omega) p q p2 (Nat.le_refl _) (by omega)
end
end Go.Proofs.YtgdbodnfibiafaaGreatDoor.Srt
namespace Go.Proofs.YtgdbodnfibiafaaGreatDoor.Srt
open Go.RowKit Go.Sort
/-- what is asked of a comparison of a later with an earlier one -/
def CmpOkS (F : FuncId) (cb : Array Value) (val : Int → Value) (cf : Int → Int → Int) (Q : Int → Prop) (O : Int → Int → Prop) (g : Nat) (w0 : World) : Prop :=
  ∀ wt x y, Kp g w0 wt → Q x → Q y → O y x → Calls Tryz.prog F (#[val x, val y] ++ cb) wt fun e w' => e = .returned (.int .i64 (cf x y)) ∧ Below wt.heap.size wt w'
def encS (x : Int) : List Value := [.int .i64 x]
def valS (x : Int) : Value := .int .i64 x
theorem encS_len (x : Int) : (encS x).length = 1 := rfl
set_option maxHeartbeats 1600000 in
set_option maxRecDepth 100000 in
theorem swapRangeS (base g n cap a b m : Nat) (d : Array (Int)) (fv : Value) (w : World) (h : Row encS 1 base 3 g n cap w d) (h1 : a + m ≤ b) (h2 : b + m ≤ n) (hn : n ≤ 1000000) :
    Calls Tryz.prog 98 #[.slice (some ⟨g, 0, none⟩) n cap, .int .i64 a, .int .i64 b, .int .i64 m, fv] w fun e w' => e = .returned (.tuple #[]) ∧ Row encS 1 base 3 g n cap w' (swapR d a b m) ∧ Kp g w w' := by
  go_enter Tryz.func98, Tryz.ntmps98
  go_wp2_with fail
  go_loopw [10] (fun i wr => ∃ k : Nat, k ≤ m ∧ i = .int .i64 k ∧ Row encS 1 base 3 g n cap wr (swapR d a b k) ∧ Kp g w wr) (fun i _ => m - (intOf i).toNat)
  case atStart => exact ⟨0, Nat.zero_le _, rfl, h, Kp.refl _ _⟩
  case round =>
    obtain ⟨k, hk, rfl, hrow, hkp⟩ := hrel
    have HR := Lib.hid hrow
    have HK := Lib.hid hkp
    clear hrow hkp
    by_cases hlt : k < m
    · generalize hdk : swapR d a b k = dk at *
      have HDK := Lib.hid hdk
      clear hdk
      obtain ⟨x0, hx⟩ : ∃ x, dk[a + k]! = x := ⟨_, rfl⟩
      obtain ⟨y0, hy⟩ : ∃ x, dk[b + k]! = x := ⟨_, rfl⟩
      have cx0 : wr.cell? ⟨g, a + k, none⟩ = some (.int .i64 x0) := by have := HR.out.cell (a + k) 0 (by omega) (.int .i64 x0) (by rw [hx]; rfl); simpa using this
      have cy0 : wr.cell? ⟨g, b + k, none⟩ = some (.int .i64 y0) := by have := HR.out.cell (b + k) 0 (by omega) (.int .i64 y0) (by rw [hy]; rfl); simpa using this
      have fz := HR.out.frozen
      have HX := Lib.hid hx
      have HY := Lib.hid hy
      clear hx hy
      have s1 : IntKind.i64.wrap ((a : Int) + (k : Int)) = (a : Int) + (k : Int) := IntWalk.i64_in _ (by omega)
      have s2 : IntKind.i64.wrap ((b : Int) + (k : Int)) = (b : Int) + (k : Int) := IntWalk.i64_in _ (by omega)
      have s3 : ((a : Int) + (k : Int)).toNat = a + k := by omega
      have s4 : ((b : Int) + (k : Int)).toNat = b + k := by omega
      have s5 : (a : Int) + (k : Int) < (n : Int) := by omega
      have s6 : (b : Int) + (k : Int) < (n : Int) := by omega
      have s7 : (0 : Int) ≤ (a : Int) + (k : Int) := by omega
      have s8 : (0 : Int) ≤ (b : Int) + (k : Int) := by omega
      go_wp2_with fail
      go_region
      go_wp2_with fail
      have t := HR.out.swp_ (a + k) (b + k) (by omega) (by omega) HX.out HY.out
      have t2 := (HK.out.wset ((a + k) * 1) (encS y0)).wset ((b + k) * 1) (encS x0)
      simp only [Nat.mul_one] at t t2
      have T1 := Lib.hid t
      have T2 := Lib.hid t2
      clear t t2
      go_roundw
      case rel => exact ⟨k + 1, by omega, by go_num, by rw [swapR, HDK.out]; exact T1.out.drew, T2.out.drew⟩
      case measure => simp [intOf]; omega
    · have : k = m := by omega
      subst this
      go_wp2_with fail
      go_end0
      exact ⟨rfl, HR.out, HK.out⟩
set_option maxHeartbeats 3200000 in
set_option maxRecDepth 100000 in
theorem insertionS (base g n cap a b : Nat) (F : FuncId) (cb : Array Value) (cf : (Int) → (Int) → Int) (Q : (Int) → Prop) (O : (Int) → (Int) → Prop) (w0 : World) (eg : ∀ args w, Sem.run Tryz.prog (callFunc F args) w = .ok (.enter F args) w) (hc : CmpOkS F cb valS cf Q O g w0)
    (d : Array (Int)) (w : World) (h0 : Kp g w0 w) (h : Row encS 1 base 3 g n cap w d) (hQ : ∀ i, i < n → Q d[i]!) (hab : a ≤ b) (hb : b ≤ n) (hn : n ≤ 1000000) (hO : OutO O a b (a + 1) d) :
    Calls Tryz.prog 72 #[.slice (some ⟨g, 0, none⟩) n cap, .int .i64 a, .int .i64 b, .func (.func F) #[] cb] w fun e w' => e = .returned (.tuple #[]) ∧ Row encS 1 base 3 g n cap w' (insertionSort (ltOf cf) d a b) ∧ Kp g w w' := by
  have HC : Hid (∀ wt x0 y0, Kp g w0 wt → Q x0 → Q y0 → O y0 x0 → Calls Tryz.prog F (#[.int .i64 x0, .int .i64 y0] ++ cb) wt fun e w' => e = .returned (.int .i64 (cf x0 y0)) ∧ Below wt.heap.size wt w') := fun wt x0 y0 q1 q2 q3 q4 => hc wt x0 y0 q1 q2 q3 q4
  have H0 := Lib.hid h0
  have HQ := Lib.hid hQ
  have HOS := Lib.hid hO
  clear hc h0 hQ hO
  go_enter Tryz.func72, Tryz.ntmps72
  go_wp2_with fail
  go_loopw [8] (fun vi wr => ∃ (i : Nat) (dk : Array (Int)), vi = .int .i64 i ∧ a < i ∧ i ≤ b + 1 ∧ Row encS 1 base 3 g n cap wr dk ∧ Kp g w wr ∧ Hid (∀ i, i < n → Q dk[i]!) ∧ Hid (insOuter (ltOf cf) a b i dk = insOuter (ltOf cf) a b (a + 1) d) ∧ Hid (OutO O a b i dk)) (fun vi _ => b + 1 - (intOf vi).toNat)
  case atStart => exact ⟨a + 1, d, by go_num, by omega, by omega, h, Kp.refl _ _, HQ, rfl, HOS⟩
  case round =>
    obtain ⟨i, dk, rfl, hai, hib, hrow, hkp, HQk, HO, HOK⟩ := hrel
    have HR := Lib.hid hrow
    have HK := Lib.hid hkp
    clear hrow hkp
    by_cases hlt : i < b
    · obtain ⟨wo, rfl⟩ : ∃ wo : World, wo = wr := ⟨_, rfl⟩
      go_wp2_with fail
      go_loopw [9] (fun vj wr => ∃ (j : Nat) (dj : Array (Int)), vj = .int .i64 j ∧ a ≤ j ∧ j ≤ i ∧ Row encS 1 base 3 g n cap wr dj ∧ Kp g w wr ∧ Hid (∀ i, i < n → Q dj[i]!) ∧ Hid (insInner (ltOf cf) a j dj = insInner (ltOf cf) a i dk) ∧ Hid (InO O a j dj) ∧ Hid (OutO O a b (i + 1) dj)) (fun vj _ => (intOf vj).toNat)
      case atStart => exact ⟨i, dk, rfl, by omega, Nat.le_refl _, HR.out, HK.out, HQk, rfl, Lib.hid (HOK.out.first hlt), Lib.hid HOK.out.next⟩
      case round =>
        obtain ⟨j, dj, rfl, haj, hji, hrow, hkp, HQj, HI, HIO, HOO⟩ := hrel
        have HRj := Lib.hid hrow
        have HKj := Lib.hid hkp
        clear hrow hkp
        have OUT : Hid ((j ≤ a ∨ ltOf cf dj[j]! dj[j - 1]! = false) → insOuter (ltOf cf) a b (i + 1) dj = insOuter (ltOf cf) a b (a + 1) d) := fun hs => by
          rw [← HO.out, insOuter_go_ _ _ _ _ _ hlt, ← HI.out, insInner_stop_ _ _ _ _ hs]
        by_cases hja : a < j
        · obtain ⟨jp, rfl⟩ : ∃ jp, j = jp + 1 := ⟨j - 1, by omega⟩
          obtain ⟨x0, hx⟩ : ∃ x, dj[jp + 1]! = x := ⟨_, rfl⟩
          obtain ⟨y0, hy⟩ : ∃ x, dj[jp]! = x := ⟨_, rfl⟩
          have HX := Lib.hid hx
          have HY := Lib.hid hy
          have qx : Hid (Q x0) := by show Q _; rw [← hx]; exact HQj.out _ (by omega)
          have qy : Hid (Q y0) := by show Q _; rw [← hy]; exact HQj.out _ (by omega)
          have oxy : Hid (O y0 x0) := by show O _ _; rw [← hx, ← hy]; exact HIO.out jp (by omega) (by omega)
          clear hx hy
          have j1 : IntKind.i64.wrap (jp : Int) = (jp : Int) := IntWalk.i64_in _ (by omega)
          have j2 : (jp : Int) + 1 < (n : Int) := by omega
          have j3 : (jp : Int) < (n : Int) := by omega
          have j4 : (a : Int) < (jp : Int) + 1 := by omega
          have j5 : (0 : Int) ≤ (jp : Int) + 1 := by omega
          have j6 : ((jp : Int) + 1).toNat = jp + 1 := by omega
          have rcur := Lib.hid HRj.out.drew
          have kcur := Lib.hid HKj.out.drew
          by_cases hlv : cf x0 y0 < 0
          · go_wp2_with fail
            go_region_held3 (fun w' => w'.cell? ⟨g, jp + 1, none⟩ = some (.int .i64 x0) ∧ w'.cell? ⟨g, jp, none⟩ = some (.int .i64 y0))
              (exact ⟨(by have := rcur.out.cell (jp + 1) 0 (by omega) (.int .i64 x0) (by rw [HX.out]; rfl); simpa using this), (by have := rcur.out.cell (jp) 0 (by omega) (.int .i64 y0) (by rw [HY.out]; rfl); simpa using this)⟩)
              (first
                | (refine (HC.out _ x0 y0 (H0.out.trans kcur.out) qx.out qy.out oxy.out).mono ?_; rintro e wz ⟨rfl, hbz⟩; have rcur := Lib.hid (rcur.out.go hbz); have kcur := Lib.hid (kcur.out.below hbz); clear hbz))
            go_wp2_with fail
            have cx0 := (show wz.cell? ⟨g, jp + 1, none⟩ = some (.int .i64 x0) from (by have := rcur.out.cell (jp + 1) 0 (by omega) (.int .i64 x0) (by rw [HX.out]; rfl); simpa using this))
            have cy0 := (show wz.cell? ⟨g, jp, none⟩ = some (.int .i64 y0) from (by have := rcur.out.cell (jp) 0 (by omega) (.int .i64 y0) (by rw [HY.out]; rfl); simpa using this))
            have fz := rcur.out.frozen
            go_region
            go_wp2_with fail
            have t := rcur.out.swp_ (jp + 1) jp (by omega) (by omega) HX.out HY.out
            have t2 := (kcur.out.wset ((jp + 1) * 1) (encS y0)).wset ((jp) * 1) (encS x0)
            simp only [Nat.mul_one] at t t2
            have T1 := Lib.hid t
            have T2 := Lib.hid t2
            have T3 : Hid (∀ i, i < n → Q (swp dj (jp + 1) jp)[i]!) := Qswp HRj.out.size (by omega) (by omega) HQj.out
            have T4 : Hid (insInner (ltOf cf) a jp (swp dj (jp + 1) jp) = insInner (ltOf cf) a i dk) := by
              show _ = _
              rw [← HI.out, insInner_go_ _ _ _ _ hja (by rw [HX.out, HY.out]; exact decide_eq_true hlv)]
            have T5 : Hid (InO O a jp (swp dj (jp + 1) jp)) := HIO.out.swp HRj.out.size (by omega)
            have T6 : Hid (OutO O a b (i + 1) (swp dj (jp + 1) jp)) := HOO.out.swp HRj.out.size (by omega) (by omega) hb
            clear t t2
            go_roundw
            case rel => exact ⟨jp, swp dj (jp + 1) jp, by first | rfl | go_num | (congr 1; omega), by omega, by omega, T1.out.drew, T2.out.drew, T3, T4, T5, T6⟩
            case measure => simp [intOf]
          · go_wp2_with fail
            go_region_held3 (fun w' => w'.cell? ⟨g, jp + 1, none⟩ = some (.int .i64 x0) ∧ w'.cell? ⟨g, jp, none⟩ = some (.int .i64 y0))
              (exact ⟨(by have := rcur.out.cell (jp + 1) 0 (by omega) (.int .i64 x0) (by rw [HX.out]; rfl); simpa using this), (by have := rcur.out.cell (jp) 0 (by omega) (.int .i64 y0) (by rw [HY.out]; rfl); simpa using this)⟩)
              (first
                | (refine (HC.out _ x0 y0 (H0.out.trans kcur.out) qx.out qy.out oxy.out).mono ?_; rintro e wz ⟨rfl, hbz⟩; have rcur := Lib.hid (rcur.out.go hbz); have kcur := Lib.hid (kcur.out.below hbz); clear hbz))
            go_wp2_with fail
            have T4 : Hid (insOuter (ltOf cf) a b (i + 1) dj = insOuter (ltOf cf) a b (a + 1) d) := OUT.out (.inr (by simp only [Nat.add_sub_cancel]; rw [HX.out, HY.out]; exact decide_eq_false (by omega)))
            go_roundw
            case rel => exact ⟨i + 1, dj, by go_num, by omega, by omega, rcur.out, kcur.out, HQj, T4, HOO⟩
            case measure => simp [intOf]; omega
        · have hd : decide ((a : Int) < (j : Int)) = false := decide_eq_false (by omega)
          have T4 : Hid (insOuter (ltOf cf) a b (i + 1) dj = insOuter (ltOf cf) a b (a + 1) d) := OUT.out (.inl (by omega))
          go_wp2_with fail
          go_quiet (fail)
          go_wp2_with fail
          go_roundw
          case rel => exact ⟨i + 1, dj, by go_num, by omega, by omega, HRj.out.drewN _, HKj.out.drewN _, HQj, T4, HOO⟩
          case measure => simp [intOf]; omega
    · go_wp2_with fail
      go_end0
      exact ⟨rfl, by unfold insertionSort; rw [← HO.out, insOuter_stop_ _ _ _ _ _ hlt]; exact HR.out, HK.out⟩
def RotSaidI (base g n cap : Nat) (d : Array (Int)) (a m b : Nat) (w : World) (e : Ending) (w' : World) : Prop := e = .returned (.tuple #[]) ∧ ∃ d', Row encS 1 base 3 g n cap w' d' ∧ Rot d a m b d' ∧ Kp g w w'
set_option maxHeartbeats 1600000 in
set_option maxRecDepth 100000 in
theorem rotateS (base g n cap a m b : Nat) (d : Array (Int)) (fv : Value) (w : World) (h : Row encS 1 base 3 g n cap w d) (h1 : a < m) (h2 : m < b) (h3 : b ≤ n) (hn : n ≤ 1000000) :
    Calls Tryz.prog 84 #[.slice (some ⟨g, 0, none⟩) n cap, .int .i64 a, .int .i64 m, .int .i64 b, fv] w (RotSaidI base g n cap d a m b w) := by
  go_enter Tryz.func84, Tryz.ntmps84
  go_wp2_with fail
  go_loopw [10, 11] (fun vi vj wr => ∃ (i j : Nat) (dk : Array (Int)), vi = .int .i64 i ∧ vj = .int .i64 j ∧ 0 < i ∧ 0 < j ∧ i ≤ m ∧ m + j ≤ n ∧ Row encS 1 base 3 g n cap wr dk ∧ Kp g w wr ∧ Hid (∀ d', Rot dk (m - i) m (m + j) d' → Rot d a m b d')) (fun vi vj _ => (intOf vi).toNat + (intOf vj).toNat)
  case atStart =>
    refine ⟨m - a, b - m, d, vint (by omega), vint (by omega), by omega, by omega, by omega, by omega, h, Kp.refl _ _, ?_⟩
    show ∀ _, _
    rw [show m - (m - a) = a from by omega, show m + (b - m) = b from by omega]
    exact fun d' h => h
  case round =>
    obtain ⟨i, j, dk, rfl, rfl, hi, hj, him, hjn, hrow, hkp, HO⟩ := hrel
    have HR := Lib.hid hrow
    have HK := Lib.hid hkp
    clear hrow hkp
    have E1 : Hid ((m : Int) - (i : Int) = ((m - i : Nat) : Int)) := by show _ = _; omega
    rcases Nat.lt_trichotomy i j with hlt | heq | hgt
    · have t1 : ((i : Int) != (j : Int)) = true := by rw [bne_iff_ne]; omega
      have t2 : decide ((j : Int) < (i : Int)) = false := decide_eq_false (by omega)
      have t3 : ¬ (j : Int) < (i : Int) := by omega
      have E2 : Hid ((m : Int) + (j : Int) - (i : Int) = ((m + j - i : Nat) : Int)) := by show _ = _; omega
      go_wp2_with fail
      rw [E1.out, E2.out]
      refine (swapRangeS base g n cap _ _ i dk fv _ HR.out (by omega) (by omega) hn).mono ?_
      rintro e w1 ⟨rfl, hrow, hkp⟩
      have HR1 := Lib.hid hrow
      have HK1 := Lib.hid (HK.out.trans hkp)
      clear hrow hkp
      have HN : Hid (∀ d', Rot (swapR dk (m - i) (m + j - i) i) (m - i) m (m + (j - i)) d' → Rot d a m b d') := fun d' h => HO.out d' (Rot.right hlt him (by rw [HR.out.size]; exact hjn) h)
      go_wp2_with fail
      go_roundw
      case rel => exact ⟨i, j - i, swapR dk (m - i) (m + j - i) i, rfl, vint (by omega), by omega, by omega, by omega, by omega, HR1.out, HK1.out, HN⟩
      case measure => simp [intOf]; omega
    · subst heq
      have t1 : ((i : Int) != (i : Int)) = false := by simp
      go_wp2_with fail
      rw [E1.out]
      refine (swapRangeS base g n cap _ _ i dk fv _ HR.out (by omega) (by omega) hn).mono ?_
      rintro e w1 ⟨rfl, hrow, hkp⟩
      have HR1 := Lib.hid hrow
      have HK1 := Lib.hid (HK.out.trans hkp)
      clear hrow hkp
      go_wp2_with fail
      go_end0
      exact ⟨rfl, _, HR1.out, HO.out _ (Rot.last him (by rw [HR.out.size]; exact hjn)), HK1.out⟩
    · have t1 : ((i : Int) != (j : Int)) = true := by rw [bne_iff_ne]; omega
      have t2 : (j : Int) < (i : Int) := by omega
      go_wp2_with fail
      rw [E1.out]
      refine (swapRangeS base g n cap _ _ j dk fv _ HR.out (by omega) (by omega) hn).mono ?_
      rintro e w1 ⟨rfl, hrow, hkp⟩
      have HR1 := Lib.hid hrow
      have HK1 := Lib.hid (HK.out.trans hkp)
      clear hrow hkp
      have HN : Hid (∀ d', Rot (swapR dk (m - i) m j) (m - (i - j)) m (m + j) d' → Rot d a m b d') := fun d' h => HO.out d' (Rot.left hgt him (by rw [HR.out.size]; exact hjn) h)
      go_wp2_with fail
      go_roundw
      case rel => exact ⟨i - j, j, swapR dk (m - i) m j, vint (by omega), rfl, by omega, by omega, by omega, by omega, HR1.out, HK1.out, HN⟩
      case measure => simp [intOf]; omega
def SymSaidS (base g n cap : Nat) (cf : (Int) → (Int) → Int) (d : Array (Int)) (a b : Nat) (w : World) (e : Ending) (w' : World) : Prop := e = .returned (.tuple #[]) ∧ ∃ d', Row encS 1 base 3 g n cap w' d' ∧ PermIn a b d d' ∧ SortedIn (ltOf cf) a b d' ∧ Kp g w w'
set_option maxHeartbeats 3200000 in
set_option maxRecDepth 100000 in
theorem symAS (base g n cap : Nat) (F : FuncId) (cb : Array Value) (cf : (Int) → (Int) → Int) (Q : (Int) → Prop) (O : (Int) → (Int) → Prop) (w0 : World) (eg : ∀ args w, Sem.run Tryz.prog (callFunc F args) w = .ok (.enter F args) w) (hc : CmpOkS F cb valS cf Q O g w0) (hS : SWO (ltOf cf)) (hn : n ≤ 1000000)
    (a m b : Nat) (d : Array (Int)) (w : World) (h0 : Kp g w0 w) (h : Row encS 1 base 3 g n cap w d) (hQ : ∀ i, i < n → Q d[i]!) (h1 : a < m) (h2 : m < b) (h3 : b ≤ n) (hs1 : SortedIn (ltOf cf) a m d) (hs2 : SortedIn (ltOf cf) m b d) (hX : CrossO O a m b d) (hone : m = a + 1) :
    Calls Tryz.prog 73 #[.slice (some ⟨g, 0, none⟩) n cap, .int .i64 a, .int .i64 m, .int .i64 b, .func (.func F) #[] cb] w (SymSaidS base g n cap cf d a b w) := by
  have HC : Hid (∀ wt x0 y0, Kp g w0 wt → Q x0 → Q y0 → O y0 x0 → Calls Tryz.prog F (#[.int .i64 x0, .int .i64 y0] ++ cb) wt fun e w' => e = .returned (.int .i64 (cf x0 y0)) ∧ Below wt.heap.size wt w') := fun wt x0 y0 q1 q2 q3 q4 => hc wt x0 y0 q1 q2 q3 q4
  have H0 := Lib.hid h0
  have HQ := Lib.hid hQ
  have S1 := Lib.hid hs1
  have S2 := Lib.hid hs2
  have X1 := Lib.hid hX
  have HONE := Lib.hid hone
  have HZ := Lib.hid h.size
  have t1 : ((m : Int) - (a : Int) == 1) = true := by rw [beq_iff_eq]; omega
  clear hc h0 hQ hX hs1 hs2 hone
  go_enter Tryz.func73, Tryz.ntmps73
  go_wp2_with fail
  go_loopw [10, 11] (fun vi vj wr => ∃ (i j : Nat), vi = .int .i64 i ∧ vj = .int .i64 j ∧ m ≤ i ∧ i ≤ j ∧ j ≤ b ∧ Row encS 1 base 3 g n cap wr d ∧ Kp g w wr ∧ Hid (i = m ∨ ltOf cf d[i - 1]! d[a]! = true) ∧ Hid (j = b ∨ ltOf cf d[j]! d[a]! = false)) (fun vi vj _ => (intOf vj).toNat - (intOf vi).toNat)
  case atStart => exact ⟨m, b, rfl, rfl, Nat.le_refl _, by omega, Nat.le_refl _, h, Kp.refl _ _, .inl rfl, .inl rfl⟩
  case round =>
    obtain ⟨i, j, rfl, rfl, hmi, hij, hjb, hrow, hkp, HI, HJ⟩ := hrel
    have HR := Lib.hid hrow
    have HK := Lib.hid hkp
    clear hrow hkp
    by_cases hlt : i < j
    · obtain ⟨hh, hhe⟩ : ∃ hh : Nat, ((i : Int) + (j : Int)) / 2 = (hh : Int) := ⟨(i + j) / 2, by omega⟩
      have u1 : i ≤ hh := by omega
      have u2 : hh < j := by omega
      have u3 : (hh : Int) < (n : Int) := by omega
      have u4 : (a : Int) < (n : Int) := by omega
      have u5 : (0 : Int) ≤ (hh : Int) := by omega
      have HHE := Lib.hid hhe
      clear hhe
      obtain ⟨x0, hx⟩ : ∃ x, d[hh]! = x := ⟨_, rfl⟩
      obtain ⟨y0, hy⟩ : ∃ x, d[a]! = x := ⟨_, rfl⟩
      have HX := Lib.hid hx
      have HY := Lib.hid hy
      have qx : Hid (Q x0) := by show Q _; rw [← hx]; exact HQ.out _ (by omega)
      have qy : Hid (Q y0) := by show Q _; rw [← hy]; exact HQ.out _ (by omega)
      have oxy : Hid (O y0 x0) := by show O _ _; rw [← hx, ← hy]; exact X1.out a hh (by omega) (by omega) (by omega) (by omega)
      clear hx hy
      go_wp2_with fail
      rw [HHE.out]
      have rcur := Lib.hid HR.out.drew
      have kcur := Lib.hid HK.out.drew
      by_cases hlv : cf x0 y0 < 0
      · have LV : Hid (ltOf cf d[hh]! d[a]! = true) := by show _ = _; rw [HX.out, HY.out]; exact decide_eq_true hlv
        have nd1 : decide (cf x0 y0 < 0) = true := decide_eq_true hlv
        have nd2 : (!decide (cf x0 y0 < 0)) = false := by rw [nd1]; rfl
        go_region_held3 (fun w' => w'.cell? ⟨g, hh, none⟩ = some (.int .i64 x0) ∧ w'.cell? ⟨g, a, none⟩ = some (.int .i64 y0))
          (exact ⟨(by have := rcur.out.cell (hh) 0 (by omega) (.int .i64 x0) (by rw [HX.out]; rfl); simpa using this), (by have := rcur.out.cell (a) 0 (by omega) (.int .i64 y0) (by rw [HY.out]; rfl); simpa using this)⟩)
          (first
            | (refine (HC.out _ x0 y0 (H0.out.trans kcur.out) qx.out qy.out oxy.out).mono ?_; rintro e wz ⟨rfl, hbz⟩; have rcur := Lib.hid (rcur.out.go hbz); have kcur := Lib.hid (kcur.out.below hbz); clear hbz))
        all_goals go_wp2_with fail
        all_goals
          go_roundw
          case rel => exact ⟨hh + 1, j, by go_num, rfl, by omega, by omega, by omega, rcur.out, kcur.out, .inr LV.out, HJ⟩
          case measure => simp [intOf]; omega
      · have LV : Hid (ltOf cf d[hh]! d[a]! = false) := by show _ = _; rw [HX.out, HY.out]; exact decide_eq_false (by omega)
        have nd1 : decide (cf x0 y0 < 0) = false := decide_eq_false hlv
        have nd2 : (!decide (cf x0 y0 < 0)) = true := by rw [nd1]; rfl
        go_region_held3 (fun w' => w'.cell? ⟨g, hh, none⟩ = some (.int .i64 x0) ∧ w'.cell? ⟨g, a, none⟩ = some (.int .i64 y0))
          (exact ⟨(by have := rcur.out.cell (hh) 0 (by omega) (.int .i64 x0) (by rw [HX.out]; rfl); simpa using this), (by have := rcur.out.cell (a) 0 (by omega) (.int .i64 y0) (by rw [HY.out]; rfl); simpa using this)⟩)
          (first
            | (refine (HC.out _ x0 y0 (H0.out.trans kcur.out) qx.out qy.out oxy.out).mono ?_; rintro e wz ⟨rfl, hbz⟩; have rcur := Lib.hid (rcur.out.go hbz); have kcur := Lib.hid (kcur.out.below hbz); clear hbz))
        all_goals go_wp2_with fail
        all_goals
          go_roundw
          case rel => exact ⟨i, hh, rfl, rfl, by omega, by omega, by omega, rcur.out, kcur.out, HI, .inr LV.out⟩
          case measure => simp [intOf]; omega
    · have hji : j = i := by omega
      subst hji
      obtain ⟨wo, rfl⟩ : ∃ wo : World, wo = wr := ⟨_, rfl⟩
      go_wp2_with fail
      go_loopw [13] (fun vk wr => ∃ kk : Nat, vk = .int .i64 kk ∧ a ≤ kk ∧ kk ≤ j - 1 ∧ Row encS 1 base 3 g n cap wr (shiftA d a (kk - a)) ∧ Kp g w wr) (fun vk _ => j - (intOf vk).toNat)
      case atStart => exact ⟨a, rfl, Nat.le_refl _, by omega, by rw [Nat.sub_self]; exact HR.out, HK.out⟩
      case round =>
        obtain ⟨kk, rfl, hak, hki, hrow, hkp⟩ := hrel
        have HRk := Lib.hid hrow
        have HKk := Lib.hid hkp
        clear hrow hkp
        by_cases hl2 : kk < j - 1
        · generalize hdk : shiftA d a (kk - a) = dk at *
          have HDK := Lib.hid hdk
          clear hdk
          obtain ⟨x0, hx⟩ : ∃ x, dk[kk]! = x := ⟨_, rfl⟩
          obtain ⟨y0, hy⟩ : ∃ x, dk[kk + 1]! = x := ⟨_, rfl⟩
          have HX := Lib.hid hx
          have HY := Lib.hid hy
          clear hx hy
          have cx0 := (show wr.cell? ⟨g, kk, none⟩ = some (.int .i64 x0) from by have := HRk.out.cell (kk) 0 (by omega) (.int .i64 x0) (by rw [HX.out]; rfl); simpa using this)
          have cy0 := (show wr.cell? ⟨g, kk + 1, none⟩ = some (.int .i64 y0) from by have := HRk.out.cell (kk + 1) 0 (by omega) (.int .i64 y0) (by rw [HY.out]; rfl); simpa using this)
          have fz := HRk.out.frozen
          have u1 : (kk : Int) < (j : Int) - 1 := by omega
          have u2 : IntKind.i64.wrap ((kk : Int) + 1) = (kk : Int) + 1 := IntWalk.i64_in _ (by omega)
          have u3 : ((kk : Int) + 1).toNat = kk + 1 := by omega
          have u4 : (kk : Int) + 1 < (n : Int) := by omega
          have u5 : (0 : Int) ≤ (kk : Int) + 1 := by omega
          have u6 : (kk : Int) < (n : Int) := by omega
          go_wp2_with fail
          go_region
          go_wp2_with fail
          have t := HRk.out.swp_ kk (kk + 1) (by omega) (by omega) HX.out HY.out
          have t2 := (HKk.out.wset ((kk) * 1) (encS y0)).wset ((kk + 1) * 1) (encS x0)
          simp only [Nat.mul_one] at t t2
          have T1 := Lib.hid t
          have T2 := Lib.hid t2
          have T3 : Hid (shiftA d a (kk + 1 - a) = swp dk kk (kk + 1)) := by
            show _ = _
            rw [show kk + 1 - a = (kk - a) + 1 from by omega, shiftA, HDK.out, show a + (kk - a) = kk from by omega]
          clear t t2
          go_roundw
          case rel => exact ⟨kk + 1, by go_num, by omega, by omega, by rw [T3.out]; exact T1.out.drew, T2.out.drew⟩
          case measure => simp [intOf]; omega
        · have : kk = j - 1 := by omega
          subst this
          have u1 : ¬ (((j - 1 : Nat) : Int) < (j : Int) - 1) := by omega
          have hfin := mergeA hS (a := a) (b := b) (i := j) (d := d) (by rw [← HONE.out]; exact S2.out) (by have := HONE.out; omega) hjb (by rw [HZ.out]; exact h3) (by rw [← HONE.out]; exact HI.out) HJ.out
          have HFIN := Lib.hid hfin
          clear hfin
          go_wp2_with fail
          go_end0
          exact ⟨rfl, _, HRk.out, HFIN.out.1, HFIN.out.2, HKk.out⟩
set_option maxHeartbeats 3200000 in
set_option maxRecDepth 100000 in
theorem symBS (base g n cap : Nat) (F : FuncId) (cb : Array Value) (cf : (Int) → (Int) → Int) (Q : (Int) → Prop) (O : (Int) → (Int) → Prop) (w0 : World) (eg : ∀ args w, Sem.run Tryz.prog (callFunc F args) w = .ok (.enter F args) w) (hc : CmpOkS F cb valS cf Q O g w0) (hS : SWO (ltOf cf)) (hn : n ≤ 1000000)
    (a m b : Nat) (d : Array (Int)) (w : World) (h0 : Kp g w0 w) (h : Row encS 1 base 3 g n cap w d) (hQ : ∀ i, i < n → Q d[i]!) (h1 : a < m) (h2 : m < b) (h3 : b ≤ n) (hs1 : SortedIn (ltOf cf) a m d) (hs2 : SortedIn (ltOf cf) m b d) (hX : CrossO O a m b d) (hne : m ≠ a + 1) (hone : b = m + 1) :
    Calls Tryz.prog 73 #[.slice (some ⟨g, 0, none⟩) n cap, .int .i64 a, .int .i64 m, .int .i64 b, .func (.func F) #[] cb] w (SymSaidS base g n cap cf d a b w) := by
  have HC : Hid (∀ wt x0 y0, Kp g w0 wt → Q x0 → Q y0 → O y0 x0 → Calls Tryz.prog F (#[.int .i64 x0, .int .i64 y0] ++ cb) wt fun e w' => e = .returned (.int .i64 (cf x0 y0)) ∧ Below wt.heap.size wt w') := fun wt x0 y0 q1 q2 q3 q4 => hc wt x0 y0 q1 q2 q3 q4
  have H0 := Lib.hid h0
  have HQ := Lib.hid hQ
  have S1 := Lib.hid hs1
  have S2 := Lib.hid hs2
  have X1 := Lib.hid hX
  have HONE := Lib.hid hone
  have HZ := Lib.hid h.size
  have t1 : ((m : Int) - (a : Int) == 1) = false := by rw [beq_eq_false_iff_ne]; omega
  have t2 : ((b : Int) - (m : Int) == 1) = true := by rw [beq_iff_eq]; omega
  clear hc h0 hQ hX hs1 hs2 hone
  go_enter Tryz.func73, Tryz.ntmps73
  go_wp2_with fail
  go_loopw [14, 15] (fun vi vj wr => ∃ (i j : Nat), vi = .int .i64 i ∧ vj = .int .i64 j ∧ a ≤ i ∧ i ≤ j ∧ j ≤ m ∧ Row encS 1 base 3 g n cap wr d ∧ Kp g w wr ∧ Hid (i = a ∨ ltOf cf d[m]! d[i - 1]! = false) ∧ Hid (j = m ∨ ltOf cf d[m]! d[j]! = true)) (fun vi vj _ => (intOf vj).toNat - (intOf vi).toNat)
  case atStart => exact ⟨a, m, rfl, rfl, Nat.le_refl _, by omega, Nat.le_refl _, h, Kp.refl _ _, .inl rfl, .inl rfl⟩
  case round =>
    obtain ⟨i, j, rfl, rfl, hmi, hij, hjb, hrow, hkp, HI, HJ⟩ := hrel
    have HR := Lib.hid hrow
    have HK := Lib.hid hkp
    clear hrow hkp
    by_cases hlt : i < j
    · obtain ⟨hh, hhe⟩ : ∃ hh : Nat, ((i : Int) + (j : Int)) / 2 = (hh : Int) := ⟨(i + j) / 2, by omega⟩
      have u1 : i ≤ hh := by omega
      have u2 : hh < j := by omega
      have u3 : (hh : Int) < (n : Int) := by omega
      have u4 : (m : Int) < (n : Int) := by omega
      have u5 : (0 : Int) ≤ (hh : Int) := by omega
      have HHE := Lib.hid hhe
      clear hhe
      obtain ⟨x0, hx⟩ : ∃ x, d[m]! = x := ⟨_, rfl⟩
      obtain ⟨y0, hy⟩ : ∃ x, d[hh]! = x := ⟨_, rfl⟩
      have HX := Lib.hid hx
      have HY := Lib.hid hy
      have qx : Hid (Q x0) := by show Q _; rw [← hx]; exact HQ.out _ (by omega)
      have qy : Hid (Q y0) := by show Q _; rw [← hy]; exact HQ.out _ (by omega)
      have oxy : Hid (O y0 x0) := by show O _ _; rw [← hx, ← hy]; exact X1.out hh m (by omega) (by omega) (by omega) (by omega)
      clear hx hy
      go_wp2_with fail
      rw [HHE.out]
      have rcur := Lib.hid HR.out.drew
      have kcur := Lib.hid HK.out.drew
      by_cases hlv : cf x0 y0 < 0
      · have LV : Hid (ltOf cf d[m]! d[hh]! = true) := by show _ = _; rw [HX.out, HY.out]; exact decide_eq_true hlv
        have nd1 : decide (cf x0 y0 < 0) = true := decide_eq_true hlv
        have nd2 : (!decide (cf x0 y0 < 0)) = false := by rw [nd1]; rfl
        go_region_held3 (fun w' => w'.cell? ⟨g, m, none⟩ = some (.int .i64 x0) ∧ w'.cell? ⟨g, hh, none⟩ = some (.int .i64 y0))
          (exact ⟨(by have := rcur.out.cell (m) 0 (by omega) (.int .i64 x0) (by rw [HX.out]; rfl); simpa using this), (by have := rcur.out.cell (hh) 0 (by omega) (.int .i64 y0) (by rw [HY.out]; rfl); simpa using this)⟩)
          (first
            | (refine (HC.out _ x0 y0 (H0.out.trans kcur.out) qx.out qy.out oxy.out).mono ?_; rintro e wz ⟨rfl, hbz⟩; have rcur := Lib.hid (rcur.out.go hbz); have kcur := Lib.hid (kcur.out.below hbz); clear hbz))
        all_goals go_wp2_with fail
        all_goals
          go_roundw
          case rel => exact ⟨i, hh, rfl, rfl, by omega, by omega, by omega, rcur.out, kcur.out, HI, .inr LV.out⟩
          case measure => simp [intOf]; omega
      · have LV : Hid (ltOf cf d[m]! d[hh]! = false) := by show _ = _; rw [HX.out, HY.out]; exact decide_eq_false (by omega)
        have nd1 : decide (cf x0 y0 < 0) = false := decide_eq_false hlv
        have nd2 : (!decide (cf x0 y0 < 0)) = true := by rw [nd1]; rfl
        go_region_held3 (fun w' => w'.cell? ⟨g, m, none⟩ = some (.int .i64 x0) ∧ w'.cell? ⟨g, hh, none⟩ = some (.int .i64 y0))
          (exact ⟨(by have := rcur.out.cell (m) 0 (by omega) (.int .i64 x0) (by rw [HX.out]; rfl); simpa using this), (by have := rcur.out.cell (hh) 0 (by omega) (.int .i64 y0) (by rw [HY.out]; rfl); simpa using this)⟩)
          (first
            | (refine (HC.out _ x0 y0 (H0.out.trans kcur.out) qx.out qy.out oxy.out).mono ?_; rintro e wz ⟨rfl, hbz⟩; have rcur := Lib.hid (rcur.out.go hbz); have kcur := Lib.hid (kcur.out.below hbz); clear hbz))
        all_goals go_wp2_with fail
        all_goals
          go_roundw
          case rel => exact ⟨hh + 1, j, by go_num, rfl, by omega, by omega, by omega, rcur.out, kcur.out, .inr LV.out, HJ⟩
          case measure => simp [intOf]; omega
    · have hji : j = i := by omega
      subst hji
      obtain ⟨wo, rfl⟩ : ∃ wo : World, wo = wr := ⟨_, rfl⟩
      go_wp2_with fail
      go_loopw [17] (fun vk wr => ∃ kk : Nat, vk = .int .i64 kk ∧ j ≤ kk ∧ kk ≤ m ∧ Row encS 1 base 3 g n cap wr (shiftB d m (m - kk)) ∧ Kp g w wr) (fun vk _ => (intOf vk).toNat)
      case atStart => exact ⟨m, rfl, hjb, Nat.le_refl _, by rw [Nat.sub_self]; exact HR.out, HK.out⟩
      case round =>
        obtain ⟨kk, rfl, hjk, hkm, hrow, hkp⟩ := hrel
        have HRk := Lib.hid hrow
        have HKk := Lib.hid hkp
        clear hrow hkp
        by_cases hl2 : j < kk
        · obtain ⟨kp, rfl⟩ : ∃ kp, kk = kp + 1 := ⟨kk - 1, by omega⟩
          generalize hdk : shiftB d m (m - (kp + 1)) = dk at *
          have HDK := Lib.hid hdk
          clear hdk
          obtain ⟨x0, hx⟩ : ∃ x, dk[kp + 1]! = x := ⟨_, rfl⟩
          obtain ⟨y0, hy⟩ : ∃ x, dk[kp]! = x := ⟨_, rfl⟩
          have HX := Lib.hid hx
          have HY := Lib.hid hy
          clear hx hy
          have cx0 := (show wr.cell? ⟨g, kp + 1, none⟩ = some (.int .i64 x0) from by have := HRk.out.cell (kp + 1) 0 (by omega) (.int .i64 x0) (by rw [HX.out]; rfl); simpa using this)
          have cy0 := (show wr.cell? ⟨g, kp, none⟩ = some (.int .i64 y0) from by have := HRk.out.cell (kp) 0 (by omega) (.int .i64 y0) (by rw [HY.out]; rfl); simpa using this)
          have fz := HRk.out.frozen
          have u1 : (j : Int) < (kp : Int) + 1 := by omega
          have u2 : IntKind.i64.wrap (kp : Int) = (kp : Int) := IntWalk.i64_in _ (by omega)
          have u3 : ((kp : Int) + 1).toNat = kp + 1 := by omega
          have u4 : (kp : Int) + 1 < (n : Int) := by omega
          have u5 : (0 : Int) ≤ (kp : Int) + 1 := by omega
          have u6 : (kp : Int) < (n : Int) := by omega
          go_wp2_with fail
          go_region
          go_wp2_with fail
          have t := HRk.out.swp_ (kp + 1) kp (by omega) (by omega) HX.out HY.out
          have t2 := (HKk.out.wset ((kp + 1) * 1) (encS y0)).wset ((kp) * 1) (encS x0)
          simp only [Nat.mul_one] at t t2
          have T1 := Lib.hid t
          have T2 := Lib.hid t2
          have T3 : Hid (shiftB d m (m - kp) = swp dk (kp + 1) kp) := by
            show _ = _
            rw [show m - kp = (m - (kp + 1)) + 1 from by omega, shiftB, HDK.out, show m - (m - (kp + 1)) = kp + 1 from by omega, Nat.add_sub_cancel]
          clear t t2
          go_roundw
          case rel => exact ⟨kp, by first | rfl | go_num | (congr 1; omega), by omega, by omega, by rw [T3.out]; exact T1.out.drew, T2.out.drew⟩
          case measure => simp [intOf]
        · have : kk = j := by omega
          subst this
          have hfin := mergeB hS (a := a) (m := m) (i := kk) (d := d) S1.out hmi hjb (by rw [HZ.out, ← HONE.out]; exact h3) HI.out HJ.out
          rw [← HONE.out] at hfin
          have HFIN := Lib.hid hfin
          clear hfin
          go_wp2_with fail
          go_end0
          exact ⟨rfl, _, HRk.out, HFIN.out.1, HFIN.out.2, HKk.out⟩
end Go.Proofs.YtgdbodnfibiafaaGreatDoor.Srt
namespace Go.Proofs.YtgdbodnfibiafaaGreatDoor.Srt
open Go.RowKit Go.Sort
set_option maxHeartbeats 6400000 in
set_option maxRecDepth 100000 in
theorem symCS (base g n cap : Nat) (F : FuncId) (cb : Array Value) (cf : (Int) → (Int) → Int) (Q : (Int) → Prop) (O : (Int) → (Int) → Prop) (w0 : World) (eg : ∀ args w, Sem.run Tryz.prog (callFunc F args) w = .ok (.enter F args) w) (hc : CmpOkS F cb valS cf Q O g w0) (hS : SWO (ltOf cf)) (hn : n ≤ 1000000) (N : Nat)
    (HIH : Hid (∀ (a m b : Nat) (d : Array (Int)) (w : World), b - a ≤ N → Kp g w0 w → Row encS 1 base 3 g n cap w d → (∀ i, i < n → Q d[i]!) → a < m → m < b → b ≤ n → SortedIn (ltOf cf) a m d → SortedIn (ltOf cf) m b d → CrossO O a m b d →
      Calls Tryz.prog 73 #[.slice (some ⟨g, 0, none⟩) n cap, .int .i64 a, .int .i64 m, .int .i64 b, .func (.func F) #[] cb] w (SymSaidS base g n cap cf d a b w)))
    (a m b : Nat) (d : Array (Int)) (w : World) (h0 : Kp g w0 w) (h : Row encS 1 base 3 g n cap w d) (hQ : ∀ i, i < n → Q d[i]!) (h1 : a < m) (h2 : m < b) (h3 : b ≤ n) (hs1 : SortedIn (ltOf cf) a m d) (hs2 : SortedIn (ltOf cf) m b d) (hX : CrossO O a m b d) (hN : b - a ≤ N + 1) (hne : m ≠ a + 1) (hne2 : b ≠ m + 1) :
    Calls Tryz.prog 73 #[.slice (some ⟨g, 0, none⟩) n cap, .int .i64 a, .int .i64 m, .int .i64 b, .func (.func F) #[] cb] w (SymSaidS base g n cap cf d a b w) := by
  have HC : Hid (∀ wt x0 y0, Kp g w0 wt → Q x0 → Q y0 → O y0 x0 → Calls Tryz.prog F (#[.int .i64 x0, .int .i64 y0] ++ cb) wt fun e w' => e = .returned (.int .i64 (cf x0 y0)) ∧ Below wt.heap.size wt w') := fun wt x0 y0 q1 q2 q3 q4 => hc wt x0 y0 q1 q2 q3 q4
  have H0 := Lib.hid h0
  have HQ := Lib.hid hQ
  have S1 := Lib.hid hs1
  have S2 := Lib.hid hs2
  have X1 := Lib.hid hX
  have HZ := Lib.hid h.size
  have t1 : ((m : Int) - (a : Int) == 1) = false := by rw [beq_eq_false_iff_ne]; omega
  have t2 : ((b : Int) - (m : Int) == 1) = false := by rw [beq_eq_false_iff_ne]; omega
  clear hc h0 hQ hX hs1 hs2
  obtain ⟨mid, hmid⟩ : ∃ mid : Nat, ((a : Int) + (b : Int)) / 2 = (mid : Int) := ⟨(a + b) / 2, by omega⟩
  have m1 : a < mid := by omega
  have m2 : mid < b := by omega
  have m3 : 2 * mid ≤ a + b := by omega
  have m4 : a + b ≤ 2 * mid + 1 := by omega
  obtain ⟨pp, hpp⟩ : ∃ pp : Nat, (mid : Int) + (m : Int) - 1 = (pp : Int) := ⟨mid + m - 1, by omega⟩
  have p1 : pp + 1 = mid + m := by omega
  obtain ⟨s0, r0, hs0, hr0, G1, G2, hcase⟩ : ∃ s0 r0 : Nat, s0 ≤ r0 ∧ r0 ≤ mid + m ∧ Hid (∀ c, s0 ≤ c → c < r0 → pp - c < b ∧ c < b ∧ c ≤ pp) ∧
      Hid (∀ s, s0 ≤ s → s ≤ r0 → a ≤ s ∧ s ≤ m ∧ s ≤ mid ∧ m ≤ mid + m - s ∧ mid + m - s ≤ b ∧ (s = s0 → s = a ∨ mid + m - s = b) ∧ (s = r0 → s = m ∨ mid + m - s = m)) ∧
      (mid < m ∧ s0 = mid + m - b ∧ r0 = mid ∨ m ≤ mid ∧ s0 = a ∧ r0 = m) := by
    by_cases hm : mid < m
    · exact ⟨mid + m - b, mid, by omega, by omega, fun c _ _ => by omega, fun s _ _ => by omega, .inl ⟨hm, rfl, rfl⟩⟩
    · exact ⟨a, m, by omega, by omega, fun c _ _ => by omega, fun s _ _ => by omega, .inr ⟨by omega, rfl, rfl⟩⟩
  have HROW := Lib.hid h
  have L0 : Hid ((mid : Int) + (m : Int) - (b : Int) = (s0 : Int) ∨ s0 = a) := by show _ ∨ _; omega
  clear h
  rcases hcase with ⟨k1, k2, k3⟩ | ⟨k1, k2, k3⟩
  · have k5 : (mid : Int) < (m : Int) := by omega
    have k6 : (mid : Int) + (m : Int) - (b : Int) = (s0 : Int) := by omega
    have k7 : mid + m ≤ s0 + b := by omega
    obtain rfl : mid = r0 := k3.symm
    clear k2 L0
    go_enter Tryz.func73, Tryz.ntmps73
    go_wp2_with fail
    clear k5 k6
    go_loopw [20, 21] (fun vi vj wr => ∃ (i j : Nat), vi = .int .i64 i ∧ vj = .int .i64 j ∧ s0 ≤ i ∧ i ≤ j ∧ j ≤ mid ∧ Row encS 1 base 3 g n cap wr d ∧ Kp g w wr ∧ Hid (i = s0 ∨ ltOf cf d[mid + m - i]! d[i - 1]! = false) ∧ Hid (j = mid ∨ ltOf cf d[mid + m - j - 1]! d[j]! = true)) (fun vi vj _ => (intOf vj).toNat - (intOf vi).toNat)
    case atStart => exact ⟨s0, mid, rfl, rfl, Nat.le_refl _, by omega, Nat.le_refl _, HROW.out, Kp.refl _ _, .inl rfl, .inl rfl⟩
    case round =>
      obtain ⟨i, j, rfl, rfl, hmi, hij, hjb, hrow, hkp, HI, HJ⟩ := hrel
      have HR := Lib.hid hrow
      have HK := Lib.hid hkp
      clear hrow hkp
      by_cases hlt : i < j
      · obtain ⟨hh, hhe⟩ : ∃ hh : Nat, ((i : Int) + (j : Int)) / 2 = (hh : Int) := ⟨(i + j) / 2, by omega⟩
        have u1 : i ≤ hh := by omega
        have u2 : hh < j := by omega
        obtain ⟨v1, v2, v3⟩ := G1.out hh (by omega) (by omega)
        obtain ⟨pc, hpc⟩ : ∃ pc : Nat, (pp : Int) - (hh : Int) = (pc : Int) := ⟨pp - hh, by omega⟩
        have v4 : pc + hh = pp := by omega
        have v5 : pc < b := by omega
        have u3 : (hh : Int) < (n : Int) := by omega
        have u4 : (pc : Int) < (n : Int) := by omega
        have u5 : (0 : Int) ≤ (hh : Int) := by omega
        have u6 : (0 : Int) ≤ (pc : Int) := by omega
        have u7 : IntKind.i64.wrap (pc : Int) = (pc : Int) := IntWalk.i64_in _ (by omega)
        have OX : Hid (O d[hh]! d[pc]!) := X1.out hh pc (by omega) (by omega) (by omega) (by omega)
        have HPP := Lib.hid p1
        have HV4 := Lib.hid v4
        clear p1 v4
        obtain ⟨x0, hx⟩ : ∃ x, d[pc]! = x := ⟨_, rfl⟩
        obtain ⟨y0, hy⟩ : ∃ x, d[hh]! = x := ⟨_, rfl⟩
        have HX := Lib.hid hx
        have HY := Lib.hid hy
        have qx : Hid (Q x0) := by show Q _; rw [← hx]; exact HQ.out _ (by omega)
        have qy : Hid (Q y0) := by show Q _; rw [← hy]; exact HQ.out _ (by omega)
        have oxy : Hid (O y0 x0) := by show O _ _; rw [← hx, ← hy]; exact OX.out
        clear hx hy
        go_wp2_with fail
        have rcur := Lib.hid HR.out.drew
        have kcur := Lib.hid HK.out.drew
        by_cases hlv : cf x0 y0 < 0
        · have LV : Hid (ltOf cf d[pc]! d[hh]! = true) := by show _ = _; rw [HX.out, HY.out]; exact decide_eq_true hlv
          have nd1 : decide (cf x0 y0 < 0) = true := decide_eq_true hlv
          have nd2 : (!decide (cf x0 y0 < 0)) = false := by rw [nd1]; rfl
          go_region_held3 (fun w' => w'.cell? ⟨g, pc, none⟩ = some (.int .i64 x0) ∧ w'.cell? ⟨g, hh, none⟩ = some (.int .i64 y0))
            (exact ⟨(by have := rcur.out.cell (pc) 0 (by omega) (.int .i64 x0) (by rw [HX.out]; rfl); simpa using this), (by have := rcur.out.cell (hh) 0 (by omega) (.int .i64 y0) (by rw [HY.out]; rfl); simpa using this)⟩)
            (first
              | (refine (HC.out _ x0 y0 (H0.out.trans kcur.out) qx.out qy.out oxy.out).mono ?_; rintro e wz ⟨rfl, hbz⟩; have rcur := Lib.hid (rcur.out.go hbz); have kcur := Lib.hid (kcur.out.below hbz); clear hbz))
          all_goals go_wp2_with fail
          all_goals
            go_roundw
            case rel => exact ⟨i, hh, rfl, rfl, by omega, by omega, by omega, rcur.out, kcur.out, HI, .inr (by rw [show mid + m - hh - 1 = pc from by have := HPP.out; have := HV4.out; omega]; exact LV.out)⟩
            case measure => simp [intOf]; omega
        · have LV : Hid (ltOf cf d[pc]! d[hh]! = false) := by show _ = _; rw [HX.out, HY.out]; exact decide_eq_false (by omega)
          have nd1 : decide (cf x0 y0 < 0) = false := decide_eq_false hlv
          have nd2 : (!decide (cf x0 y0 < 0)) = true := by rw [nd1]; rfl
          go_region_held3 (fun w' => w'.cell? ⟨g, pc, none⟩ = some (.int .i64 x0) ∧ w'.cell? ⟨g, hh, none⟩ = some (.int .i64 y0))
            (exact ⟨(by have := rcur.out.cell (pc) 0 (by omega) (.int .i64 x0) (by rw [HX.out]; rfl); simpa using this), (by have := rcur.out.cell (hh) 0 (by omega) (.int .i64 y0) (by rw [HY.out]; rfl); simpa using this)⟩)
            (first
              | (refine (HC.out _ x0 y0 (H0.out.trans kcur.out) qx.out qy.out oxy.out).mono ?_; rintro e wz ⟨rfl, hbz⟩; have rcur := Lib.hid (rcur.out.go hbz); have kcur := Lib.hid (kcur.out.below hbz); clear hbz))
          all_goals go_wp2_with fail
          all_goals
            go_roundw
            case rel => exact ⟨hh + 1, j, by go_num, rfl, by omega, by omega, by omega, rcur.out, kcur.out, .inr (by rw [show mid + m - (hh + 1) = pc from by have := HPP.out; have := HV4.out; omega, Nat.add_sub_cancel]; exact LV.out), HJ⟩
            case measure => simp [intOf]; omega
      · have hji : j = i := by omega
        subst hji
        obtain ⟨q1, q2, q3, q4, q5, q6, q7⟩ := G2.out j hmi hjb
        obtain ⟨s, hs⟩ : ∃ s, s = j := ⟨_, rfl⟩
        obtain rfl : s = j := hs
        obtain ⟨e, he⟩ : ∃ e : Nat, (mid : Int) + (m : Int) - (s : Int) = (e : Int) := ⟨mid + m - s, by omega⟩
        have e1 : mid + m - s = e := by omega
        rw [e1] at q4 q5 q6 q7
        have HI2 : Hid (s = s0 ∨ ltOf cf d[e]! d[s - 1]! = false) := by show _ ∨ _; rw [← e1]; exact HI.out
        have HJ2 : Hid (s = mid ∨ ltOf cf d[e - 1]! d[s]! = true) := by show _ ∨ _; rw [← e1]; exact HJ.out
        have e2 : mid + m = s + e := by omega
        clear HI HJ e1
        have HI := HI2
        have HJ := HJ2
        have Q6 := Lib.hid q6
        have Q7 := Lib.hid q7
        have E2 := Lib.hid e2
        have hcs : (s < m ∧ m < e ∧ (a < s ∧ s < mid ∨ s ≤ a) ∧ (mid < e ∧ e < b ∨ b ≤ e)) ∨ (m ≤ s ∧ e ≤ mid ∧ (s < mid ∨ mid ≤ s)) ∨ (e ≤ m ∧ mid ≤ s ∧ s < m) := by omega
        have e3 : mid + m ≤ s + e := by omega
        have e4 : s + e ≤ mid + m := by omega
        clear q6 q7 G1 G2 HI2 HJ2 e2 p1
        rcases hcs with ⟨x1, x2, x3, x4⟩ | ⟨x1, x2, x3⟩ | ⟨x1, x2, x3⟩
        · rcases x3 with ⟨x3, x5⟩ | x3
          · rcases x4 with ⟨x4, x6⟩ | x4
            · have f1 : (s : Int) < (m : Int) := by omega
              have f2 : (m : Int) < (e : Int) := by omega
              have f3 : (a : Int) < (s : Int) := by omega
              have f4 : (s : Int) < (mid : Int) := by omega
              have f5 : (mid : Int) < (e : Int) := by omega
              have f6 : (e : Int) < (b : Int) := by omega
              go_wp2_with fail
              refine (rotateS base g n cap s m e d _ _ HR.out (by omega) (by omega) (by omega) hn).mono ?_
              rintro _ w1 ⟨rfl, d1, hrow1, hrot, hkp1⟩
              have HR1 := Lib.hid hrow1
              have HK1 := Lib.hid (HK.out.trans hkp1)
              have HROT := Lib.hid hrot
              clear hrow1 hkp1 hrot
              have HM := Lib.hid (mid_of hS (b := b) S1.out S2.out q1 q2 q4 q5 E2.out q3 HI.out HJ.out Q6.out Q7.out HROT.out)
              have HQ1 : Hid (∀ i, i < n → Q d1[i]!) := Qperm HZ.out HROT.out.perm (by omega) HQ.out
              have HZ1 := Lib.hid HR1.out.size
              go_wp2_with fail
              refine (HIH.out a s mid d1 _ (by omega) (H0.out.trans HK1.out) HR1.out HQ1.out (by omega) (by omega) (by omega) HM.out.s1 HM.out.s2 (X1.out.left_ HROT.out q2 q4 q5 E2.out)).mono ?_
              rintro _ w2 ⟨rfl, d2, hrow2, hp2, hs2', hkp2⟩
              have HR2 := Lib.hid hrow2
              have HK2 := Lib.hid (HK1.out.trans hkp2)
              have HP2 := Lib.hid hp2
              have HS2 := Lib.hid hs2'
              clear hrow2 hkp2 hp2 hs2'
              have HQ2 : Hid (∀ i, i < n → Q d2[i]!) := Qperm HZ1.out HP2.out (by omega) HQ1.out
              have HZ2 := Lib.hid HR2.out.size
              have HM2 := Lib.hid (HM.out.right_ (by omega) HP2.out)
              go_wp2_with fail
              refine (HIH.out mid e b d2 _ (by omega) (H0.out.trans HK2.out) HR2.out HQ2.out (by omega) (by omega) (by omega) HM2.out.1 HM2.out.2 (X1.out.right_ HROT.out q1 q4 E2.out HP2.out)).mono ?_
              rintro _ w3 ⟨rfl, d3, hrow3, hp3, hs3, hkp3⟩
              have HR3 := Lib.hid hrow3
              have HK3 := Lib.hid (HK2.out.trans hkp3)
              have HP3 := Lib.hid hp3
              have HS3 := Lib.hid hs3
              clear hrow3 hkp3 hp3 hs3
              go_wp2_with fail
              go_end0
              refine ⟨rfl, d3, HR3.out, ?_, HM.out.whole (by rw [HZ1.out]; exact h3) (by omega) HP2.out HS2.out HP3.out HS3.out, HK3.out⟩
              exact permIn_trans _ _ _ _ _ (permIn_mono _ _ _ _ _ _ q1 q5 (by rw [HZ.out]; exact h3) HROT.out.perm) (permIn_trans _ _ _ _ _ (permIn_mono _ _ _ _ _ _ (Nat.le_refl _) (by omega) (by rw [HZ1.out]; exact h3) HP2.out) (permIn_mono _ _ _ _ _ _ (by omega) (Nat.le_refl _) (by rw [HZ2.out]; exact h3) HP3.out))
            · have f1 : (s : Int) < (m : Int) := by omega
              have f2 : (m : Int) < (e : Int) := by omega
              have f3 : (a : Int) < (s : Int) := by omega
              have f4 : (s : Int) < (mid : Int) := by omega
              have f5 : (mid : Int) < (e : Int) := by omega
              have f6 : decide ((e : Int) < (b : Int)) = false := decide_eq_false (by omega)
              go_wp2_with fail
              refine (rotateS base g n cap s m e d _ _ HR.out (by omega) (by omega) (by omega) hn).mono ?_
              rintro _ w1 ⟨rfl, d1, hrow1, hrot, hkp1⟩
              have HR1 := Lib.hid hrow1
              have HK1 := Lib.hid (HK.out.trans hkp1)
              have HROT := Lib.hid hrot
              clear hrow1 hkp1 hrot
              have HM := Lib.hid (mid_of hS (b := b) S1.out S2.out q1 q2 q4 q5 E2.out q3 HI.out HJ.out Q6.out Q7.out HROT.out)
              have HQ1 : Hid (∀ i, i < n → Q d1[i]!) := Qperm HZ.out HROT.out.perm (by omega) HQ.out
              have HZ1 := Lib.hid HR1.out.size
              go_wp2_with fail
              refine (HIH.out a s mid d1 _ (by omega) (H0.out.trans HK1.out) HR1.out HQ1.out (by omega) (by omega) (by omega) HM.out.s1 HM.out.s2 (X1.out.left_ HROT.out q2 q4 q5 E2.out)).mono ?_
              rintro _ w2 ⟨rfl, d2, hrow2, hp2, hs2', hkp2⟩
              have HR2 := Lib.hid hrow2
              have HK2 := Lib.hid (HK1.out.trans hkp2)
              have HP2 := Lib.hid hp2
              have HS2 := Lib.hid hs2'
              clear hrow2 hkp2 hp2 hs2'
              have HQ2 : Hid (∀ i, i < n → Q d2[i]!) := Qperm HZ1.out HP2.out (by omega) HQ1.out
              have HZ2 := Lib.hid HR2.out.size
              have HM2 := Lib.hid (HM.out.right_ (by omega) HP2.out)
              go_wp2_with fail
              obtain ⟨d3, hd3⟩ : ∃ d3, d3 = d2 := ⟨_, rfl⟩
              have HD3 := Lib.hid hd3
              clear hd3
              have HR3 : Hid (Row encS 1 base 3 g n cap w2 d3) := by show Row _ _ _ _ _ _ _ _ _; rw [HD3.out]; exact HR2.out
              have HK3 := HK2
              have HP3 : Hid (PermIn mid b d2 d3) := by show PermIn _ _ _ _; rw [HD3.out]; exact permIn_refl _ _ _
              have HS3 : Hid (SortedIn (ltOf cf) mid b d3) := by show SortedIn _ _ _ _; rw [HD3.out]; exact sorted_join HM2.out.1 HM2.out.2 (by omega)
              go_end0
              refine ⟨rfl, d3, HR3.out, ?_, HM.out.whole (by rw [HZ1.out]; exact h3) (by omega) HP2.out HS2.out HP3.out HS3.out, HK3.out⟩
              exact permIn_trans _ _ _ _ _ (permIn_mono _ _ _ _ _ _ q1 q5 (by rw [HZ.out]; exact h3) HROT.out.perm) (permIn_trans _ _ _ _ _ (permIn_mono _ _ _ _ _ _ (Nat.le_refl _) (by omega) (by rw [HZ1.out]; exact h3) HP2.out) (permIn_mono _ _ _ _ _ _ (by omega) (Nat.le_refl _) (by rw [HZ2.out]; exact h3) HP3.out))
          · rcases x4 with ⟨x4, x6⟩ | x4
            · exfalso; omega
            · have f1 : (s : Int) < (m : Int) := by omega
              have f2 : (m : Int) < (e : Int) := by omega
              have f3 : decide ((a : Int) < (s : Int)) = false := decide_eq_false (by omega)
              have f5 : (mid : Int) < (e : Int) := by omega
              have f6 : decide ((e : Int) < (b : Int)) = false := decide_eq_false (by omega)
              go_wp2_with fail
              refine (rotateS base g n cap s m e d _ _ HR.out (by omega) (by omega) (by omega) hn).mono ?_
              rintro _ w1 ⟨rfl, d1, hrow1, hrot, hkp1⟩
              have HR1 := Lib.hid hrow1
              have HK1 := Lib.hid (HK.out.trans hkp1)
              have HROT := Lib.hid hrot
              clear hrow1 hkp1 hrot
              have HM := Lib.hid (mid_of hS (b := b) S1.out S2.out q1 q2 q4 q5 E2.out q3 HI.out HJ.out Q6.out Q7.out HROT.out)
              have HQ1 : Hid (∀ i, i < n → Q d1[i]!) := Qperm HZ.out HROT.out.perm (by omega) HQ.out
              have HZ1 := Lib.hid HR1.out.size
              obtain ⟨d2, hd2⟩ : ∃ d2, d2 = d1 := ⟨_, rfl⟩
              have HD2 := Lib.hid hd2
              clear hd2
              have HR2 : Hid (Row encS 1 base 3 g n cap w1 d2) := by show Row _ _ _ _ _ _ _ _ _; rw [HD2.out]; exact HR1.out
              have HK2 := HK1
              have HP2 : Hid (PermIn a mid d1 d2) := by show PermIn _ _ _ _; rw [HD2.out]; exact permIn_refl _ _ _
              have HS2 : Hid (SortedIn (ltOf cf) a mid d2) := by show SortedIn _ _ _ _; rw [HD2.out]; exact sorted_join HM.out.s1 HM.out.s2 (by omega)
              have HQ2 : Hid (∀ i, i < n → Q d2[i]!) := Qperm HZ1.out HP2.out (by omega) HQ1.out
              have HZ2 := Lib.hid HR2.out.size
              have HM2 := Lib.hid (HM.out.right_ (by omega) HP2.out)
              go_wp2_with fail
              obtain ⟨d3, hd3⟩ : ∃ d3, d3 = d2 := ⟨_, rfl⟩
              have HD3 := Lib.hid hd3
              clear hd3
              have HR3 : Hid (Row encS 1 base 3 g n cap w1 d3) := by show Row _ _ _ _ _ _ _ _ _; rw [HD3.out]; exact HR2.out
              have HK3 := HK2
              have HP3 : Hid (PermIn mid b d2 d3) := by show PermIn _ _ _ _; rw [HD3.out]; exact permIn_refl _ _ _
              have HS3 : Hid (SortedIn (ltOf cf) mid b d3) := by show SortedIn _ _ _ _; rw [HD3.out]; exact sorted_join HM2.out.1 HM2.out.2 (by omega)
              go_end0
              refine ⟨rfl, d3, HR3.out, ?_, HM.out.whole (by rw [HZ1.out]; exact h3) (by omega) HP2.out HS2.out HP3.out HS3.out, HK3.out⟩
              exact permIn_trans _ _ _ _ _ (permIn_mono _ _ _ _ _ _ q1 q5 (by rw [HZ.out]; exact h3) HROT.out.perm) (permIn_trans _ _ _ _ _ (permIn_mono _ _ _ _ _ _ (Nat.le_refl _) (by omega) (by rw [HZ1.out]; exact h3) HP2.out) (permIn_mono _ _ _ _ _ _ (by omega) (Nat.le_refl _) (by rw [HZ2.out]; exact h3) HP3.out))
        · rcases x3 with x3 | x3
          · exfalso; omega
          · exfalso; omega
        · have f1 : (s : Int) < (m : Int) := by omega
          have f2 : decide ((m : Int) < (e : Int)) = false := decide_eq_false (by omega)
          have f3 : (a : Int) < (s : Int) := by omega
          have f4 : decide ((s : Int) < (mid : Int)) = false := decide_eq_false (by omega)
          have f5 : (mid : Int) < (e : Int) := by omega
          have f6 : (e : Int) < (b : Int) := by omega
          go_wp2_with fail
          obtain ⟨d1, hd1⟩ : ∃ d1, d1 = d := ⟨_, rfl⟩
          have HD1 := Lib.hid hd1
          clear hd1
          have HROT : Hid (Rot d s m e d1) := by show Rot _ _ _ _ _; rw [HD1.out]; exact Rot.none_ (by omega) (by omega) (by omega)
          have HR1 : Hid (Row encS 1 base 3 g n cap wr d1) := by show Row _ _ _ _ _ _ _ _ _; rw [HD1.out]; exact HR.out
          have HK1 := HK
          have HM := Lib.hid (mid_of hS (b := b) S1.out S2.out q1 q2 q4 q5 E2.out q3 HI.out HJ.out Q6.out Q7.out HROT.out)
          have HQ1 : Hid (∀ i, i < n → Q d1[i]!) := Qperm HZ.out HROT.out.perm (by omega) HQ.out
          have HZ1 := Lib.hid HR1.out.size
          obtain ⟨d2, hd2⟩ : ∃ d2, d2 = d1 := ⟨_, rfl⟩
          have HD2 := Lib.hid hd2
          clear hd2
          have HR2 : Hid (Row encS 1 base 3 g n cap wr d2) := by show Row _ _ _ _ _ _ _ _ _; rw [HD2.out]; exact HR1.out
          have HK2 := HK1
          have HP2 : Hid (PermIn a mid d1 d2) := by show PermIn _ _ _ _; rw [HD2.out]; exact permIn_refl _ _ _
          have HS2 : Hid (SortedIn (ltOf cf) a mid d2) := by show SortedIn _ _ _ _; rw [HD2.out]; exact sorted_join HM.out.s1 HM.out.s2 (by omega)
          have HQ2 : Hid (∀ i, i < n → Q d2[i]!) := Qperm HZ1.out HP2.out (by omega) HQ1.out
          have HZ2 := Lib.hid HR2.out.size
          have HM2 := Lib.hid (HM.out.right_ (by omega) HP2.out)
          refine (HIH.out mid e b d2 _ (by omega) (H0.out.trans HK2.out) HR2.out HQ2.out (by omega) (by omega) (by omega) HM2.out.1 HM2.out.2 (X1.out.right_ HROT.out q1 q4 E2.out HP2.out)).mono ?_
          rintro _ w3 ⟨rfl, d3, hrow3, hp3, hs3, hkp3⟩
          have HR3 := Lib.hid hrow3
          have HK3 := Lib.hid (HK2.out.trans hkp3)
          have HP3 := Lib.hid hp3
          have HS3 := Lib.hid hs3
          clear hrow3 hkp3 hp3 hs3
          go_wp2_with fail
          go_end0
          refine ⟨rfl, d3, HR3.out, ?_, HM.out.whole (by rw [HZ1.out]; exact h3) (by omega) HP2.out HS2.out HP3.out HS3.out, HK3.out⟩
          exact permIn_trans _ _ _ _ _ (permIn_mono _ _ _ _ _ _ q1 q5 (by rw [HZ.out]; exact h3) HROT.out.perm) (permIn_trans _ _ _ _ _ (permIn_mono _ _ _ _ _ _ (Nat.le_refl _) (by omega) (by rw [HZ1.out]; exact h3) HP2.out) (permIn_mono _ _ _ _ _ _ (by omega) (Nat.le_refl _) (by rw [HZ2.out]; exact h3) HP3.out))
  · have k5 : decide ((mid : Int) < (m : Int)) = false := decide_eq_false (by omega)
    obtain rfl : a = s0 := k2.symm
    obtain rfl : m = r0 := k3.symm
    clear L0
    go_enter Tryz.func73, Tryz.ntmps73
    go_wp2_with fail
    clear k5
    go_loopw [20, 21] (fun vi vj wr => ∃ (i j : Nat), vi = .int .i64 i ∧ vj = .int .i64 j ∧ a ≤ i ∧ i ≤ j ∧ j ≤ m ∧ Row encS 1 base 3 g n cap wr d ∧ Kp g w wr ∧ Hid (i = a ∨ ltOf cf d[mid + m - i]! d[i - 1]! = false) ∧ Hid (j = m ∨ ltOf cf d[mid + m - j - 1]! d[j]! = true)) (fun vi vj _ => (intOf vj).toNat - (intOf vi).toNat)
    case atStart => exact ⟨a, m, rfl, rfl, Nat.le_refl _, by omega, Nat.le_refl _, HROW.out, Kp.refl _ _, .inl rfl, .inl rfl⟩
    case round =>
      obtain ⟨i, j, rfl, rfl, hmi, hij, hjb, hrow, hkp, HI, HJ⟩ := hrel
      have HR := Lib.hid hrow
      have HK := Lib.hid hkp
      clear hrow hkp
      by_cases hlt : i < j
      · obtain ⟨hh, hhe⟩ : ∃ hh : Nat, ((i : Int) + (j : Int)) / 2 = (hh : Int) := ⟨(i + j) / 2, by omega⟩
        have u1 : i ≤ hh := by omega
        have u2 : hh < j := by omega
        obtain ⟨v1, v2, v3⟩ := G1.out hh (by omega) (by omega)
        obtain ⟨pc, hpc⟩ : ∃ pc : Nat, (pp : Int) - (hh : Int) = (pc : Int) := ⟨pp - hh, by omega⟩
        have v4 : pc + hh = pp := by omega
        have v5 : pc < b := by omega
        have u3 : (hh : Int) < (n : Int) := by omega
        have u4 : (pc : Int) < (n : Int) := by omega
        have u5 : (0 : Int) ≤ (hh : Int) := by omega
        have u6 : (0 : Int) ≤ (pc : Int) := by omega
        have u7 : IntKind.i64.wrap (pc : Int) = (pc : Int) := IntWalk.i64_in _ (by omega)
        have OX : Hid (O d[hh]! d[pc]!) := X1.out hh pc (by omega) (by omega) (by omega) (by omega)
        have HPP := Lib.hid p1
        have HV4 := Lib.hid v4
        clear p1 v4
        obtain ⟨x0, hx⟩ : ∃ x, d[pc]! = x := ⟨_, rfl⟩
        obtain ⟨y0, hy⟩ : ∃ x, d[hh]! = x := ⟨_, rfl⟩
        have HX := Lib.hid hx
        have HY := Lib.hid hy
        have qx : Hid (Q x0) := by show Q _; rw [← hx]; exact HQ.out _ (by omega)
        have qy : Hid (Q y0) := by show Q _; rw [← hy]; exact HQ.out _ (by omega)
        have oxy : Hid (O y0 x0) := by show O _ _; rw [← hx, ← hy]; exact OX.out
        clear hx hy
        go_wp2_with fail
        have rcur := Lib.hid HR.out.drew
        have kcur := Lib.hid HK.out.drew
        by_cases hlv : cf x0 y0 < 0
        · have LV : Hid (ltOf cf d[pc]! d[hh]! = true) := by show _ = _; rw [HX.out, HY.out]; exact decide_eq_true hlv
          have nd1 : decide (cf x0 y0 < 0) = true := decide_eq_true hlv
          have nd2 : (!decide (cf x0 y0 < 0)) = false := by rw [nd1]; rfl
          go_region_held3 (fun w' => w'.cell? ⟨g, pc, none⟩ = some (.int .i64 x0) ∧ w'.cell? ⟨g, hh, none⟩ = some (.int .i64 y0))
            (exact ⟨(by have := rcur.out.cell (pc) 0 (by omega) (.int .i64 x0) (by rw [HX.out]; rfl); simpa using this), (by have := rcur.out.cell (hh) 0 (by omega) (.int .i64 y0) (by rw [HY.out]; rfl); simpa using this)⟩)
            (first
              | (refine (HC.out _ x0 y0 (H0.out.trans kcur.out) qx.out qy.out oxy.out).mono ?_; rintro e wz ⟨rfl, hbz⟩; have rcur := Lib.hid (rcur.out.go hbz); have kcur := Lib.hid (kcur.out.below hbz); clear hbz))
          all_goals go_wp2_with fail
          all_goals
            go_roundw
            case rel => exact ⟨i, hh, rfl, rfl, by omega, by omega, by omega, rcur.out, kcur.out, HI, .inr (by rw [show mid + m - hh - 1 = pc from by have := HPP.out; have := HV4.out; omega]; exact LV.out)⟩
            case measure => simp [intOf]; omega
        · have LV : Hid (ltOf cf d[pc]! d[hh]! = false) := by show _ = _; rw [HX.out, HY.out]; exact decide_eq_false (by omega)
          have nd1 : decide (cf x0 y0 < 0) = false := decide_eq_false hlv
          have nd2 : (!decide (cf x0 y0 < 0)) = true := by rw [nd1]; rfl
          go_region_held3 (fun w' => w'.cell? ⟨g, pc, none⟩ = some (.int .i64 x0) ∧ w'.cell? ⟨g, hh, none⟩ = some (.int .i64 y0))
            (exact ⟨(by have := rcur.out.cell (pc) 0 (by omega) (.int .i64 x0) (by rw [HX.out]; rfl); simpa using this), (by have := rcur.out.cell (hh) 0 (by omega) (.int .i64 y0) (by rw [HY.out]; rfl); simpa using this)⟩)
            (first
              | (refine (HC.out _ x0 y0 (H0.out.trans kcur.out) qx.out qy.out oxy.out).mono ?_; rintro e wz ⟨rfl, hbz⟩; have rcur := Lib.hid (rcur.out.go hbz); have kcur := Lib.hid (kcur.out.below hbz); clear hbz))
          all_goals go_wp2_with fail
          all_goals
            go_roundw
            case rel => exact ⟨hh + 1, j, by go_num, rfl, by omega, by omega, by omega, rcur.out, kcur.out, .inr (by rw [show mid + m - (hh + 1) = pc from by have := HPP.out; have := HV4.out; omega, Nat.add_sub_cancel]; exact LV.out), HJ⟩
            case measure => simp [intOf]; omega
      · have hji : j = i := by omega
        subst hji
        obtain ⟨q1, q2, q3, q4, q5, q6, q7⟩ := G2.out j hmi hjb
        obtain ⟨s, hs⟩ : ∃ s, s = j := ⟨_, rfl⟩
        obtain rfl : s = j := hs
        obtain ⟨e, he⟩ : ∃ e : Nat, (mid : Int) + (m : Int) - (s : Int) = (e : Int) := ⟨mid + m - s, by omega⟩
        have e1 : mid + m - s = e := by omega
        rw [e1] at q4 q5 q6 q7
        have HI2 : Hid (s = a ∨ ltOf cf d[e]! d[s - 1]! = false) := by show _ ∨ _; rw [← e1]; exact HI.out
        have HJ2 : Hid (s = m ∨ ltOf cf d[e - 1]! d[s]! = true) := by show _ ∨ _; rw [← e1]; exact HJ.out
        have e2 : mid + m = s + e := by omega
        clear HI HJ e1
        have HI := HI2
        have HJ := HJ2
        have Q6 := Lib.hid q6
        have Q7 := Lib.hid q7
        have E2 := Lib.hid e2
        have hcs : (s < m ∧ m < e ∧ (a < s ∧ s < mid ∨ s ≤ a) ∧ (mid < e ∧ e < b ∨ b ≤ e)) ∨ (m ≤ s ∧ e ≤ mid ∧ (s < mid ∨ mid ≤ s)) ∨ (e ≤ m ∧ mid ≤ s ∧ s < m) := by omega
        have e3 : mid + m ≤ s + e := by omega
        have e4 : s + e ≤ mid + m := by omega
        clear q6 q7 G1 G2 HI2 HJ2 e2 p1
        rcases hcs with ⟨x1, x2, x3, x4⟩ | ⟨x1, x2, x3⟩ | ⟨x1, x2, x3⟩
        · rcases x3 with ⟨x3, x5⟩ | x3
          · rcases x4 with ⟨x4, x6⟩ | x4
            · have f1 : (s : Int) < (m : Int) := by omega
              have f2 : (m : Int) < (e : Int) := by omega
              have f3 : (a : Int) < (s : Int) := by omega
              have f4 : (s : Int) < (mid : Int) := by omega
              have f5 : (mid : Int) < (e : Int) := by omega
              have f6 : (e : Int) < (b : Int) := by omega
              go_wp2_with fail
              refine (rotateS base g n cap s m e d _ _ HR.out (by omega) (by omega) (by omega) hn).mono ?_
              rintro _ w1 ⟨rfl, d1, hrow1, hrot, hkp1⟩
              have HR1 := Lib.hid hrow1
              have HK1 := Lib.hid (HK.out.trans hkp1)
              have HROT := Lib.hid hrot
              clear hrow1 hkp1 hrot
              have HM := Lib.hid (mid_of hS (b := b) S1.out S2.out q1 q2 q4 q5 E2.out q3 HI.out HJ.out Q6.out Q7.out HROT.out)
              have HQ1 : Hid (∀ i, i < n → Q d1[i]!) := Qperm HZ.out HROT.out.perm (by omega) HQ.out
              have HZ1 := Lib.hid HR1.out.size
              go_wp2_with fail
              refine (HIH.out a s mid d1 _ (by omega) (H0.out.trans HK1.out) HR1.out HQ1.out (by omega) (by omega) (by omega) HM.out.s1 HM.out.s2 (X1.out.left_ HROT.out q2 q4 q5 E2.out)).mono ?_
              rintro _ w2 ⟨rfl, d2, hrow2, hp2, hs2', hkp2⟩
              have HR2 := Lib.hid hrow2
              have HK2 := Lib.hid (HK1.out.trans hkp2)
              have HP2 := Lib.hid hp2
              have HS2 := Lib.hid hs2'
              clear hrow2 hkp2 hp2 hs2'
              have HQ2 : Hid (∀ i, i < n → Q d2[i]!) := Qperm HZ1.out HP2.out (by omega) HQ1.out
              have HZ2 := Lib.hid HR2.out.size
              have HM2 := Lib.hid (HM.out.right_ (by omega) HP2.out)
              go_wp2_with fail
              refine (HIH.out mid e b d2 _ (by omega) (H0.out.trans HK2.out) HR2.out HQ2.out (by omega) (by omega) (by omega) HM2.out.1 HM2.out.2 (X1.out.right_ HROT.out q1 q4 E2.out HP2.out)).mono ?_
              rintro _ w3 ⟨rfl, d3, hrow3, hp3, hs3, hkp3⟩
              have HR3 := Lib.hid hrow3
              have HK3 := Lib.hid (HK2.out.trans hkp3)
              have HP3 := Lib.hid hp3
              have HS3 := Lib.hid hs3
              clear hrow3 hkp3 hp3 hs3
              go_wp2_with fail
              go_end0
              refine ⟨rfl, d3, HR3.out, ?_, HM.out.whole (by rw [HZ1.out]; exact h3) (by omega) HP2.out HS2.out HP3.out HS3.out, HK3.out⟩
              exact permIn_trans _ _ _ _ _ (permIn_mono _ _ _ _ _ _ q1 q5 (by rw [HZ.out]; exact h3) HROT.out.perm) (permIn_trans _ _ _ _ _ (permIn_mono _ _ _ _ _ _ (Nat.le_refl _) (by omega) (by rw [HZ1.out]; exact h3) HP2.out) (permIn_mono _ _ _ _ _ _ (by omega) (Nat.le_refl _) (by rw [HZ2.out]; exact h3) HP3.out))
            · exfalso; omega
          · rcases x4 with ⟨x4, x6⟩ | x4
            · have f1 : (s : Int) < (m : Int) := by omega
              have f2 : (m : Int) < (e : Int) := by omega
              have f3 : decide ((a : Int) < (s : Int)) = false := decide_eq_false (by omega)
              have f5 : (mid : Int) < (e : Int) := by omega
              have f6 : (e : Int) < (b : Int) := by omega
              go_wp2_with fail
              refine (rotateS base g n cap s m e d _ _ HR.out (by omega) (by omega) (by omega) hn).mono ?_
              rintro _ w1 ⟨rfl, d1, hrow1, hrot, hkp1⟩
              have HR1 := Lib.hid hrow1
              have HK1 := Lib.hid (HK.out.trans hkp1)
              have HROT := Lib.hid hrot
              clear hrow1 hkp1 hrot
              have HM := Lib.hid (mid_of hS (b := b) S1.out S2.out q1 q2 q4 q5 E2.out q3 HI.out HJ.out Q6.out Q7.out HROT.out)
              have HQ1 : Hid (∀ i, i < n → Q d1[i]!) := Qperm HZ.out HROT.out.perm (by omega) HQ.out
              have HZ1 := Lib.hid HR1.out.size
              obtain ⟨d2, hd2⟩ : ∃ d2, d2 = d1 := ⟨_, rfl⟩
              have HD2 := Lib.hid hd2
              clear hd2
              have HR2 : Hid (Row encS 1 base 3 g n cap w1 d2) := by show Row _ _ _ _ _ _ _ _ _; rw [HD2.out]; exact HR1.out
              have HK2 := HK1
              have HP2 : Hid (PermIn a mid d1 d2) := by show PermIn _ _ _ _; rw [HD2.out]; exact permIn_refl _ _ _
              have HS2 : Hid (SortedIn (ltOf cf) a mid d2) := by show SortedIn _ _ _ _; rw [HD2.out]; exact sorted_join HM.out.s1 HM.out.s2 (by omega)
              have HQ2 : Hid (∀ i, i < n → Q d2[i]!) := Qperm HZ1.out HP2.out (by omega) HQ1.out
              have HZ2 := Lib.hid HR2.out.size
              have HM2 := Lib.hid (HM.out.right_ (by omega) HP2.out)
              go_wp2_with fail
              refine (HIH.out mid e b d2 _ (by omega) (H0.out.trans HK2.out) HR2.out HQ2.out (by omega) (by omega) (by omega) HM2.out.1 HM2.out.2 (X1.out.right_ HROT.out q1 q4 E2.out HP2.out)).mono ?_
              rintro _ w3 ⟨rfl, d3, hrow3, hp3, hs3, hkp3⟩
              have HR3 := Lib.hid hrow3
              have HK3 := Lib.hid (HK2.out.trans hkp3)
              have HP3 := Lib.hid hp3
              have HS3 := Lib.hid hs3
              clear hrow3 hkp3 hp3 hs3
              go_wp2_with fail
              go_end0
              refine ⟨rfl, d3, HR3.out, ?_, HM.out.whole (by rw [HZ1.out]; exact h3) (by omega) HP2.out HS2.out HP3.out HS3.out, HK3.out⟩
              exact permIn_trans _ _ _ _ _ (permIn_mono _ _ _ _ _ _ q1 q5 (by rw [HZ.out]; exact h3) HROT.out.perm) (permIn_trans _ _ _ _ _ (permIn_mono _ _ _ _ _ _ (Nat.le_refl _) (by omega) (by rw [HZ1.out]; exact h3) HP2.out) (permIn_mono _ _ _ _ _ _ (by omega) (Nat.le_refl _) (by rw [HZ2.out]; exact h3) HP3.out))
            · have f1 : (s : Int) < (m : Int) := by omega
              have f2 : (m : Int) < (e : Int) := by omega
              have f3 : decide ((a : Int) < (s : Int)) = false := decide_eq_false (by omega)
              have f5 : (mid : Int) < (e : Int) := by omega
              have f6 : decide ((e : Int) < (b : Int)) = false := decide_eq_false (by omega)
              go_wp2_with fail
              refine (rotateS base g n cap s m e d _ _ HR.out (by omega) (by omega) (by omega) hn).mono ?_
              rintro _ w1 ⟨rfl, d1, hrow1, hrot, hkp1⟩
              have HR1 := Lib.hid hrow1
              have HK1 := Lib.hid (HK.out.trans hkp1)
              have HROT := Lib.hid hrot
              clear hrow1 hkp1 hrot
              have HM := Lib.hid (mid_of hS (b := b) S1.out S2.out q1 q2 q4 q5 E2.out q3 HI.out HJ.out Q6.out Q7.out HROT.out)
              have HQ1 : Hid (∀ i, i < n → Q d1[i]!) := Qperm HZ.out HROT.out.perm (by omega) HQ.out
              have HZ1 := Lib.hid HR1.out.size
              obtain ⟨d2, hd2⟩ : ∃ d2, d2 = d1 := ⟨_, rfl⟩
              have HD2 := Lib.hid hd2
              clear hd2
              have HR2 : Hid (Row encS 1 base 3 g n cap w1 d2) := by show Row _ _ _ _ _ _ _ _ _; rw [HD2.out]; exact HR1.out
              have HK2 := HK1
              have HP2 : Hid (PermIn a mid d1 d2) := by show PermIn _ _ _ _; rw [HD2.out]; exact permIn_refl _ _ _
              have HS2 : Hid (SortedIn (ltOf cf) a mid d2) := by show SortedIn _ _ _ _; rw [HD2.out]; exact sorted_join HM.out.s1 HM.out.s2 (by omega)
              have HQ2 : Hid (∀ i, i < n → Q d2[i]!) := Qperm HZ1.out HP2.out (by omega) HQ1.out
              have HZ2 := Lib.hid HR2.out.size
              have HM2 := Lib.hid (HM.out.right_ (by omega) HP2.out)
              go_wp2_with fail
              obtain ⟨d3, hd3⟩ : ∃ d3, d3 = d2 := ⟨_, rfl⟩
              have HD3 := Lib.hid hd3
              clear hd3
              have HR3 : Hid (Row encS 1 base 3 g n cap w1 d3) := by show Row _ _ _ _ _ _ _ _ _; rw [HD3.out]; exact HR2.out
              have HK3 := HK2
              have HP3 : Hid (PermIn mid b d2 d3) := by show PermIn _ _ _ _; rw [HD3.out]; exact permIn_refl _ _ _
              have HS3 : Hid (SortedIn (ltOf cf) mid b d3) := by show SortedIn _ _ _ _; rw [HD3.out]; exact sorted_join HM2.out.1 HM2.out.2 (by omega)
              go_end0
              refine ⟨rfl, d3, HR3.out, ?_, HM.out.whole (by rw [HZ1.out]; exact h3) (by omega) HP2.out HS2.out HP3.out HS3.out, HK3.out⟩
              exact permIn_trans _ _ _ _ _ (permIn_mono _ _ _ _ _ _ q1 q5 (by rw [HZ.out]; exact h3) HROT.out.perm) (permIn_trans _ _ _ _ _ (permIn_mono _ _ _ _ _ _ (Nat.le_refl _) (by omega) (by rw [HZ1.out]; exact h3) HP2.out) (permIn_mono _ _ _ _ _ _ (by omega) (Nat.le_refl _) (by rw [HZ2.out]; exact h3) HP3.out))
        · rcases x3 with x3 | x3
          · have f1 : decide ((s : Int) < (m : Int)) = false := decide_eq_false (by omega)
            have f3 : (a : Int) < (s : Int) := by omega
            have f4 : (s : Int) < (mid : Int) := by omega
            have f5 : decide ((mid : Int) < (e : Int)) = false := decide_eq_false (by omega)
            go_wp2_with fail
            obtain ⟨d1, hd1⟩ : ∃ d1, d1 = d := ⟨_, rfl⟩
            have HD1 := Lib.hid hd1
            clear hd1
            have HROT : Hid (Rot d s m e d1) := by show Rot _ _ _ _ _; rw [HD1.out]; exact Rot.none_ (by omega) (by omega) (by omega)
            have HR1 : Hid (Row encS 1 base 3 g n cap wr d1) := by show Row _ _ _ _ _ _ _ _ _; rw [HD1.out]; exact HR.out
            have HK1 := HK
            have HM := Lib.hid (mid_of hS (b := b) S1.out S2.out q1 q2 q4 q5 E2.out q3 HI.out HJ.out Q6.out Q7.out HROT.out)
            have HQ1 : Hid (∀ i, i < n → Q d1[i]!) := Qperm HZ.out HROT.out.perm (by omega) HQ.out
            have HZ1 := Lib.hid HR1.out.size
            refine (HIH.out a s mid d1 _ (by omega) (H0.out.trans HK1.out) HR1.out HQ1.out (by omega) (by omega) (by omega) HM.out.s1 HM.out.s2 (X1.out.left_ HROT.out q2 q4 q5 E2.out)).mono ?_
            rintro _ w2 ⟨rfl, d2, hrow2, hp2, hs2', hkp2⟩
            have HR2 := Lib.hid hrow2
            have HK2 := Lib.hid (HK1.out.trans hkp2)
            have HP2 := Lib.hid hp2
            have HS2 := Lib.hid hs2'
            clear hrow2 hkp2 hp2 hs2'
            have HQ2 : Hid (∀ i, i < n → Q d2[i]!) := Qperm HZ1.out HP2.out (by omega) HQ1.out
            have HZ2 := Lib.hid HR2.out.size
            have HM2 := Lib.hid (HM.out.right_ (by omega) HP2.out)
            go_wp2_with fail
            obtain ⟨d3, hd3⟩ : ∃ d3, d3 = d2 := ⟨_, rfl⟩
            have HD3 := Lib.hid hd3
            clear hd3
            have HR3 : Hid (Row encS 1 base 3 g n cap w2 d3) := by show Row _ _ _ _ _ _ _ _ _; rw [HD3.out]; exact HR2.out
            have HK3 := HK2
            have HP3 : Hid (PermIn mid b d2 d3) := by show PermIn _ _ _ _; rw [HD3.out]; exact permIn_refl _ _ _
            have HS3 : Hid (SortedIn (ltOf cf) mid b d3) := by show SortedIn _ _ _ _; rw [HD3.out]; exact sorted_join HM2.out.1 HM2.out.2 (by omega)
            go_end0
            refine ⟨rfl, d3, HR3.out, ?_, HM.out.whole (by rw [HZ1.out]; exact h3) (by omega) HP2.out HS2.out HP3.out HS3.out, HK3.out⟩
            exact permIn_trans _ _ _ _ _ (permIn_mono _ _ _ _ _ _ q1 q5 (by rw [HZ.out]; exact h3) HROT.out.perm) (permIn_trans _ _ _ _ _ (permIn_mono _ _ _ _ _ _ (Nat.le_refl _) (by omega) (by rw [HZ1.out]; exact h3) HP2.out) (permIn_mono _ _ _ _ _ _ (by omega) (Nat.le_refl _) (by rw [HZ2.out]; exact h3) HP3.out))
          · have f1 : decide ((s : Int) < (m : Int)) = false := decide_eq_false (by omega)
            have f3 : (a : Int) < (s : Int) := by omega
            have f4 : decide ((s : Int) < (mid : Int)) = false := decide_eq_false (by omega)
            have f5 : decide ((mid : Int) < (e : Int)) = false := decide_eq_false (by omega)
            go_wp2_with fail
            obtain ⟨d1, hd1⟩ : ∃ d1, d1 = d := ⟨_, rfl⟩
            have HD1 := Lib.hid hd1
            clear hd1
            have HROT : Hid (Rot d s m e d1) := by show Rot _ _ _ _ _; rw [HD1.out]; exact Rot.none_ (by omega) (by omega) (by omega)
            have HR1 : Hid (Row encS 1 base 3 g n cap wr d1) := by show Row _ _ _ _ _ _ _ _ _; rw [HD1.out]; exact HR.out
            have HK1 := HK
            have HM := Lib.hid (mid_of hS (b := b) S1.out S2.out q1 q2 q4 q5 E2.out q3 HI.out HJ.out Q6.out Q7.out HROT.out)
            have HQ1 : Hid (∀ i, i < n → Q d1[i]!) := Qperm HZ.out HROT.out.perm (by omega) HQ.out
            have HZ1 := Lib.hid HR1.out.size
            obtain ⟨d2, hd2⟩ : ∃ d2, d2 = d1 := ⟨_, rfl⟩
            have HD2 := Lib.hid hd2
            clear hd2
            have HR2 : Hid (Row encS 1 base 3 g n cap wr d2) := by show Row _ _ _ _ _ _ _ _ _; rw [HD2.out]; exact HR1.out
            have HK2 := HK1
            have HP2 : Hid (PermIn a mid d1 d2) := by show PermIn _ _ _ _; rw [HD2.out]; exact permIn_refl _ _ _
            have HS2 : Hid (SortedIn (ltOf cf) a mid d2) := by show SortedIn _ _ _ _; rw [HD2.out]; exact sorted_join HM.out.s1 HM.out.s2 (by omega)
            have HQ2 : Hid (∀ i, i < n → Q d2[i]!) := Qperm HZ1.out HP2.out (by omega) HQ1.out
            have HZ2 := Lib.hid HR2.out.size
            have HM2 := Lib.hid (HM.out.right_ (by omega) HP2.out)
            obtain ⟨d3, hd3⟩ : ∃ d3, d3 = d2 := ⟨_, rfl⟩
            have HD3 := Lib.hid hd3
            clear hd3
            have HR3 : Hid (Row encS 1 base 3 g n cap wr d3) := by show Row _ _ _ _ _ _ _ _ _; rw [HD3.out]; exact HR2.out
            have HK3 := HK2
            have HP3 : Hid (PermIn mid b d2 d3) := by show PermIn _ _ _ _; rw [HD3.out]; exact permIn_refl _ _ _
            have HS3 : Hid (SortedIn (ltOf cf) mid b d3) := by show SortedIn _ _ _ _; rw [HD3.out]; exact sorted_join HM2.out.1 HM2.out.2 (by omega)
            go_end0
            refine ⟨rfl, d3, HR3.out, ?_, HM.out.whole (by rw [HZ1.out]; exact h3) (by omega) HP2.out HS2.out HP3.out HS3.out, HK3.out⟩
            exact permIn_trans _ _ _ _ _ (permIn_mono _ _ _ _ _ _ q1 q5 (by rw [HZ.out]; exact h3) HROT.out.perm) (permIn_trans _ _ _ _ _ (permIn_mono _ _ _ _ _ _ (Nat.le_refl _) (by omega) (by rw [HZ1.out]; exact h3) HP2.out) (permIn_mono _ _ _ _ _ _ (by omega) (Nat.le_refl _) (by rw [HZ2.out]; exact h3) HP3.out))
        · exfalso; omega
/-- symMerge at all lengths -/
theorem symS (base g n cap : Nat) (F : FuncId) (cb : Array Value) (cf : (Int) → (Int) → Int) (Q : (Int) → Prop) (O : (Int) → (Int) → Prop) (w0 : World) (eg : ∀ args w, Sem.run Tryz.prog (callFunc F args) w = .ok (.enter F args) w) (hc : CmpOkS F cb valS cf Q O g w0) (hS : SWO (ltOf cf)) (hn : n ≤ 1000000) (N : Nat) :
    ∀ (a m b : Nat) (d : Array (Int)) (w : World), b - a ≤ N → Kp g w0 w → Row encS 1 base 3 g n cap w d → (∀ i, i < n → Q d[i]!) → a < m → m < b → b ≤ n → SortedIn (ltOf cf) a m d → SortedIn (ltOf cf) m b d → CrossO O a m b d →
      Calls Tryz.prog 73 #[.slice (some ⟨g, 0, none⟩) n cap, .int .i64 a, .int .i64 m, .int .i64 b, .func (.func F) #[] cb] w (SymSaidS base g n cap cf d a b w) := by
  induction N with
  | zero => intro a m b d w h1 _ _ _ h2 h3 _ _ _; exfalso; omega
  | succ N ih =>
    intro a m b d w hN h0 h hQ h1 h2 h3 hs1 hs2 hX
    by_cases e1 : m = a + 1
    · exact symAS base g n cap F cb cf Q O w0 eg hc hS hn a m b d w h0 h hQ h1 h2 h3 hs1 hs2 hX e1
    · by_cases e2 : b = m + 1
      · exact symBS base g n cap F cb cf Q O w0 eg hc hS hn a m b d w h0 h hQ h1 h2 h3 hs1 hs2 hX e1 e2
      · exact symCS base g n cap F cb cf Q O w0 eg hc hS hn N ih a m b d w h0 h hQ h1 h2 h3 hs1 hs2 hX hN e1 e2
/-- a sorted permutation; below 20 entries it is what the plain insertion sort gives -/
def StblSaidS (base g n cap : Nat) (cf : (Int) → (Int) → Int) (d : Array (Int)) (w : World) (e : Ending) (w' : World) : Prop := e = .returned (.tuple #[]) ∧ ∃ d', Row encS 1 base 3 g n cap w' d' ∧ PermIn 0 n d d' ∧ SortedIn (ltOf cf) 0 n d' ∧ (n < 20 → d' = insertionSort (ltOf cf) d 0 n) ∧ Kp g w w'
set_option maxHeartbeats 3200000 in
set_option maxRecDepth 100000 in
theorem stableS (base g n cap : Nat) (F : FuncId) (cb : Array Value) (cf : (Int) → (Int) → Int) (Q : (Int) → Prop) (O : (Int) → (Int) → Prop) (w0 : World) (eg : ∀ args w, Sem.run Tryz.prog (callFunc F args) w = .ok (.enter F args) w) (hc : CmpOkS F cb valS cf Q O g w0) (hS : SWO (ltOf cf)) (hn : n ≤ 1000000)
    (d : Array (Int)) (w : World) (h0 : Kp g w0 w) (h : Row encS 1 base 3 g n cap w d) (hQ : ∀ i, i < n → Q d[i]!) (hO : ∀ T, CrossAt O T n d) :
    Calls Tryz.prog 57 #[.slice (some ⟨g, 0, none⟩) n cap, .int .i64 n, .func (.func F) #[] cb] w (StblSaidS base g n cap cf d w) := by
  have HIN := Lib.hid (fun a b d w h0 h hQ hab hb hO => insertionS base g n cap a b F cb cf Q O w0 eg hc d w h0 h hQ hab hb hn hO)
  have HSY := Lib.hid (fun a m b d w h0 h hQ h1 h2 h3 s1 s2 hX => symS base g n cap F cb cf Q O w0 eg hc hS hn (b - a) a m b d w (Nat.le_refl _) h0 h hQ h1 h2 h3 s1 s2 hX)
  have HPI := Lib.hid (fun (d : Array (Int)) a b h1 h2 => insertionSort_holds (lt := ltOf cf) hS d a b h1 h2)
  have H0 := Lib.hid h0
  have HQ := Lib.hid hQ
  have HO0 := Lib.hid hO
  clear hc h0 hQ eg hO
  go_enter Tryz.func57, Tryz.ntmps57
  go_wp2_with fail
  go_loopw [7, 8] (fun va vb wr => ∃ (a b t0 : Nat) (dk : Array (Int)), va = .int .i64 a ∧ vb = .int .i64 b ∧ b ≤ a + 20 ∧ a + 20 ≤ b ∧ a ≤ n ∧ Hid (a = t0 * 20) ∧ Row encS 1 base 3 g n cap wr dk ∧ Kp g w wr ∧ Hid (∀ i, i < n → Q dk[i]!) ∧ Hid (PermIn 0 n d dk) ∧ Hid (Blocks (ltOf cf) 20 a dk) ∧ Hid (n < 20 → a = 0 ∧ dk = d) ∧ Hid (∀ T, a ≤ T → CrossAt O T n dk) ∧ Hid (∀ t, CrossAt O (t * 20) n dk)) (fun va _ _ => n - (intOf va).toNat)
  case atStart => exact ⟨0, 20, 0, d, rfl, rfl, by omega, by omega, Nat.zero_le _, rfl, h, Kp.refl _ _, HQ, permIn_refl _ _ _, blocks_zero _ _, fun _ => ⟨rfl, rfl⟩, Lib.hid fun T _ => HO0.out T, Lib.hid fun t => HO0.out _⟩
  case round =>
    obtain ⟨a, b, t0, dk, rfl, rfl, b1, b2, han, HT, hrow, hkp, HQk, HP, HBL, HX, C1, C2⟩ := hrel
    have HR := Lib.hid hrow
    have HK := Lib.hid hkp
    clear hrow hkp
    by_cases hlt : b ≤ n
    · have hlt2 : (b : Int) ≤ (n : Int) := by omega
      go_wp2_with fail
      refine (HIN.out a b dk _ (H0.out.trans HK.out) HR.out HQk.out (by omega) hlt (outO_of C1.out hlt)).mono ?_
      rintro e w1 ⟨rfl, hrow, hkp⟩
      have HI := Lib.hid (HPI.out dk a b (by omega) (by rw [HR.out.size]; exact hlt))
      generalize insertionSort (ltOf cf) dk a b = d1 at *
      have HR1 := Lib.hid hrow
      have HK1 := Lib.hid (HK.out.trans hkp)
      have HQ1 : Hid (∀ i, i < n → Q d1[i]!) := Qperm HR.out.size HI.out.1 hlt HQk.out
      have HP1 : Hid (PermIn 0 n d d1) := permIn_trans _ _ _ _ _ HP.out (permIn_mono _ _ _ _ _ _ (Nat.zero_le _) hlt (by rw [HR.out.size]; exact Nat.le_refl _) HI.out.1)
      have HBL1 : Hid (Blocks (ltOf cf) 20 b d1) := blocks_next HBL.out HT.out HI.out.1 HI.out.2 b1
      have HT1 : Hid (b = (t0 + 1) * 20) := by show _ = _; have := HT.out; omega
      have C1' := Lib.hid (crossT C1.out HI.out.1 hlt HR.out.size (by omega))
      have C2' := Lib.hid (cross20 C2.out HI.out.1 hlt HR.out.size HT.out b1)
      clear hrow hkp
      go_wp2_with fail
      go_roundw
      case rel => exact ⟨b, b + 20, t0 + 1, d1, rfl, by go_num, by omega, by omega, hlt, HT1, HR1.out, HK1.out, HQ1, HP1, HBL1, fun hh => absurd hh (by omega), C1', C2'⟩
      case measure => simp [intOf]; omega
    · have hlt2 : ¬ (b : Int) ≤ (n : Int) := by omega
      go_wp2_with fail
      refine (HIN.out a n dk _ (H0.out.trans HK.out) HR.out HQk.out han (Nat.le_refl _) (outO_of C1.out (Nat.le_refl _))).mono ?_
      rintro e w1 ⟨rfl, hrow, hkp⟩
      have HI := Lib.hid (HPI.out dk a n han (by rw [HR.out.size]; exact Nat.le_refl _))
      have HX1 : Hid (n < 20 → insertionSort (ltOf cf) dk a n = insertionSort (ltOf cf) d 0 n) := fun hh => by
        obtain ⟨h1, h2⟩ := HX.out hh
        rw [h1, h2]
      generalize insertionSort (ltOf cf) dk a n = d1 at *
      have HR1 := Lib.hid hrow
      have HK1 := Lib.hid (HK.out.trans hkp)
      have HQ1 : Hid (∀ i, i < n → Q d1[i]!) := Qperm HR.out.size HI.out.1 (Nat.le_refl _) HQk.out
      have HP1 : Hid (PermIn 0 n d d1) := permIn_trans _ _ _ _ _ HP.out (permIn_mono _ _ _ _ _ _ (Nat.zero_le _) (Nat.le_refl _) (by rw [HR.out.size]; exact Nat.le_refl _) HI.out.1)
      have HBL1 : Hid (Blocks (ltOf cf) 20 n d1) := blocks_next HBL.out HT.out HI.out.1 HI.out.2 (by omega)
      have C2' := Lib.hid (cross20 C2.out HI.out.1 (Nat.le_refl _) HR.out.size HT.out (by omega))
      clear hrow hkp HBL HP HQk HI HT HX hlt hlt2 b1 b2 han HR HK C1 C2
      obtain ⟨wo, rfl⟩ : ∃ wo : World, wo = w1 := ⟨_, rfl⟩
      go_wp2_with fail
      go_loopw [6] (fun vs wr => ∃ (bs : Nat) (dk : Array (Int)), vs = .int .i64 bs ∧ 0 < bs ∧ 20 ≤ bs ∧ bs ≤ 2000020 ∧ Row encS 1 base 3 g n cap wr dk ∧ Kp g w wr ∧ Hid (∀ i, i < n → Q dk[i]!) ∧ Hid (PermIn 0 n d dk) ∧ Hid (Blocks (ltOf cf) bs n dk) ∧ Hid (n < 20 → dk = insertionSort (ltOf cf) d 0 n) ∧ Hid (∀ t, CrossAt O (t * bs) n dk)) (fun vs _ => n - (intOf vs).toNat)
      case atStart => exact ⟨20, d1, rfl, by omega, by omega, by omega, HR1.out, HK1.out, HQ1, HP1, HBL1, HX1, C2'⟩
      case round =>
        clear HR1 HK1 HQ1 HP1 HBL1 HX1 C2'
        obtain ⟨bs, dk, rfl, hbs0, hbs20, hbs1, hrow, hkp, HQk, HP, HBL, HX, C2⟩ := hrel
        have HR := Lib.hid hrow
        have HK := Lib.hid hkp
        clear hrow hkp
        by_cases hlt : bs < n
        · obtain ⟨wo2, rfl⟩ : ∃ wo2 : World, wo2 = wr := ⟨_, rfl⟩
          go_wp2_with fail
          go_loopw [7, 8] (fun va vb wr => ∃ (a b t0 : Nat) (dk : Array (Int)), va = .int .i64 a ∧ vb = .int .i64 b ∧ b ≤ a + 2 * bs ∧ a + 2 * bs ≤ b ∧ a ≤ n ∧ Hid (a = t0 * (2 * bs)) ∧ Row encS 1 base 3 g n cap wr dk ∧ Kp g w wr ∧ Hid (∀ i, i < n → Q dk[i]!) ∧ Hid (PermIn 0 n d dk) ∧ Hid (Mix (ltOf cf) bs a n dk) ∧ Hid (∀ t, CrossAt O (t * (2 * bs)) n dk) ∧ Hid (∀ t, a ≤ t * bs → CrossAt O (t * bs) n dk)) (fun va _ _ => n - (intOf va).toNat)
          case atStart => exact ⟨0, 2 * bs, 0, dk, rfl, vint (by omega), by omega, by omega, Nat.zero_le _, by show _ = _; omega, HR.out, HK.out, HQk, HP, mix_zero HBL.out, Lib.hid (cross2 C2.out), Lib.hid fun t _ => C2.out t⟩
          case round =>
            clear HR HK HQk HP HBL HX C2
            obtain ⟨a, b, t0, dk, rfl, rfl, b1, b2, han, HT, hrow, hkp, HQk, HP, HM, D1, D2⟩ := hrel
            have HR := Lib.hid hrow
            have HK := Lib.hid hkp
            clear hrow hkp
            obtain ⟨mm, hmm⟩ : ∃ mm : Nat, (a : Int) + (bs : Int) = (mm : Int) := ⟨a + bs, by omega⟩
            have m1 : mm ≤ a + bs := by omega
            have m2 : a + bs ≤ mm := by omega
            have HMM : Hid (a + bs = mm) := by show _ = _; omega
            have HBB : Hid (a + 2 * bs = b) := by show _ = _; omega
            by_cases hl2 : b ≤ n
            · have hl3 : (b : Int) ≤ (n : Int) := by omega
              have sl := Lib.hid (HM.out.left_ HT.out mm m1 (by omega))
              have sr : Hid (SortedIn (ltOf cf) mm b dk) := by show SortedIn _ _ _ _; rw [← HMM.out]; exact HM.out.right_ HT.out b b1 hl2
              go_wp2_with fail
              refine (HSY.out a mm b dk _ (H0.out.trans HK.out) HR.out HQk.out (by omega) (by omega) hl2 sl.out sr.out (cross_mid D2.out HT.out HMM.out hl2)).mono ?_
              rintro e w2 ⟨rfl, d2, hrow, hp, hs, hkp⟩
              have HR1 := Lib.hid hrow
              have HK1 := Lib.hid (HK.out.trans hkp)
              have HQ1 : Hid (∀ i, i < n → Q d2[i]!) := Qperm HR.out.size hp hl2 HQk.out
              have HP1 : Hid (PermIn 0 n d d2) := permIn_trans _ _ _ _ _ HP.out (permIn_mono _ _ _ _ _ _ (Nat.zero_le _) hl2 (by rw [HR.out.size]; exact Nat.le_refl _) hp)
              have D1' := Lib.hid (cross20 D1.out hp hl2 HR.out.size HT.out b1)
              have D2' := Lib.hid (crossS D2.out hp hl2 HR.out.size (by omega))
              have HM1 : Hid (Mix (ltOf cf) bs b n d2) := by
                show Mix _ _ _ _ _
                rw [← HBB.out] at hp hs ⊢
                exact HM.out.next HT.out hp hs
              have HT1 : Hid (b = (t0 + 1) * (2 * bs)) := by show _ = _; rw [Nat.add_mul, ← HT.out, Nat.one_mul]; exact HBB.out.symm
              clear hrow hkp hp hs
              go_wp2_with fail
              go_roundw
              case rel => exact ⟨b, b + 2 * bs, t0 + 1, d2, rfl, vint (by omega), by omega, by omega, hl2, HT1, HR1.out, HK1.out, HQ1, HP1, HM1, D1', D2'⟩
              case measure => simp [intOf]; omega
            · have hl3 : ¬ (b : Int) ≤ (n : Int) := by omega
              by_cases hm : mm < n
              · have hm2 : (mm : Int) < (n : Int) := by omega
                have sl := Lib.hid (HM.out.left_ HT.out mm m1 (by omega))
                have sr : Hid (SortedIn (ltOf cf) mm n dk) := by show SortedIn _ _ _ _; rw [← HMM.out]; exact HM.out.right_ HT.out n (by omega) (Nat.le_refl _)
                go_wp2_with fail
                refine (HSY.out a mm n dk _ (H0.out.trans HK.out) HR.out HQk.out (by omega) hm (Nat.le_refl _) sl.out sr.out (cross_mid D2.out HT.out HMM.out (Nat.le_refl _))).mono ?_
                rintro e w2 ⟨rfl, d2, hrow, hp, hs, hkp⟩
                have HR1 := Lib.hid hrow
                have HK1 := Lib.hid (HK.out.trans hkp)
                have HQ1 : Hid (∀ i, i < n → Q d2[i]!) := Qperm HR.out.size hp (Nat.le_refl _) HQk.out
                have HP1 : Hid (PermIn 0 n d d2) := permIn_trans _ _ _ _ _ HP.out (permIn_mono _ _ _ _ _ _ (Nat.zero_le _) (Nat.le_refl _) (by rw [HR.out.size]; exact Nat.le_refl _) hp)
                have D1' := Lib.hid (cross20 D1.out hp (Nat.le_refl _) HR.out.size HT.out (by omega))
                have HB1 : Hid (Blocks (ltOf cf) (2 * bs) n d2) := HM.out.last HT.out (by omega) hp hs
                clear hrow hkp hp hs
                go_wp2_with fail
                go_roundw
                case rel => exact ⟨2 * bs, d2, vint (by omega), by omega, by omega, by omega, HR1.out, HK1.out, HQ1, HP1, HB1, fun hh => absurd hh (by omega), D1'⟩
                case measure => simp [intOf]; omega
              · have hm2 : ¬ (mm : Int) < (n : Int) := by omega
                have HB1 : Hid (Blocks (ltOf cf) (2 * bs) n dk) := HM.out.last HT.out (by omega) (permIn_refl _ _ _) (HM.out.left_ HT.out n (by omega) (Nat.le_refl _))
                go_wp2_with fail
                go_roundw
                case rel => exact ⟨2 * bs, dk, vint (by omega), by omega, by omega, by omega, HR.out, HK.out, HQk, HP, HB1, fun hh => absurd hh (by omega), D1⟩
                case measure => simp [intOf]; omega
        · have hl3 : ¬ (bs : Int) < (n : Int) := by omega
          go_wp2_with fail
          go_end0
          exact ⟨rfl, dk, HR.out, HP.out, blocks_all HBL.out (by omega), HX.out, HK.out⟩
/-- slices.SortStableFunc on a row that the call owns -/
theorem sortS (base g n cap : Nat) (F : FuncId) (cb : Array Value) (cf : (Int) → (Int) → Int) (Q : (Int) → Prop) (O : (Int) → (Int) → Prop) (w0 : World) (eg : ∀ args w, Sem.run Tryz.prog (callFunc F args) w = .ok (.enter F args) w) (hc : CmpOkS F cb valS cf Q O g w0) (hS : SWO (ltOf cf)) (hn : n ≤ 1000000)
    (d : Array (Int)) (w : World) (h0 : Kp g w0 w) (h : Row encS 1 base 3 g n cap w d) (hQ : ∀ i, i < n → Q d[i]!) (hO : ∀ T, CrossAt O T n d) :
    Calls Tryz.prog 39 #[.slice (some ⟨g, 0, none⟩) n cap, .func (.func F) #[] cb] w (StblSaidS base g n cap cf d w) := by
  have HC := Lib.hid (stableS base g n cap F cb cf Q O w0 eg hc hS hn d w h0 h hQ hO)
  clear eg hc
  unfold StblSaidS at *
  go_enter Tryz.func39, Tryz.ntmps39
  go_wp2_with fail
  refine HC.out.mono ?_
  rintro e w1 ⟨rfl, hx⟩
  have HX := Lib.hid hx
  clear hx
  go_wp2_with fail
  go_end0
  exact ⟨rfl, HX.out⟩
end Go.Proofs.YtgdbodnfibiafaaGreatDoor.Srt
namespace Go.Proofs.YtgdbodnfibiafaaGreatDoor
open Go.RowKit
theorem flat_intsS (l : List Int) : l.flatMap Srt.encS = ints l := by
  unfold ints
  induction l with
  | nil => rfl
  | cons x l ih => rw [List.flatMap_cons, ih]; rfl
end Go.Proofs.YtgdbodnfibiafaaGreatDoor
