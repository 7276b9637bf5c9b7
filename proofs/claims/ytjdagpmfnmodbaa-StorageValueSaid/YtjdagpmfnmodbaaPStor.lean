/- Package storage, plain: the least costs of the levels, the best charges, runs; the laws StorageKept, StorageValue, StorageLarger. No program. -/
import Derived.Test.YtjdagpmfnmodbaaPRing
namespace Go.Proofs.Ytjdagpmfnmodbaa.Pl
/-- between two places the difference to a line of slope p falls up to the place of p and rises behind it -/
theorem line_down {st : List (Int × Int)} (h : ∀ q ∈ st, 1 ≤ q.1) (p x y : Int) (x0 : 0 ≤ x) (hxy : x ≤ y) (hy : y ≤ lowR (p + 1) st) : costR st y - p * y ≤ costR st x - p * x := by
  induction st generalizing x y with
  | nil => simp [lowR] at hy; have : x = y := by omega
           subst this; omega
  | cons q st ih =>
    have hq := h q (by simp)
    have ht : ∀ z ∈ st, 1 ≤ z.1 := fun z hz => h z (by simp [hz])
    rw [lowR] at hy
    by_cases e : p + 1 ≤ q.2
    · rw [if_pos e] at hy
      have : x = y := by omega
      subst this
      omega
    · rw [if_neg e] at hy
      have i := ih ht (x - min x q.1) (y - min y q.1) (by omega) (by omega) (by have := lowR_bd (s := p + 1) ht; omega)
      have m := Int.mul_nonneg (show 0 ≤ min y q.1 - min x q.1 by omega) (show 0 ≤ p - q.2 by omega)
      rw [costR, costR]
      have k : (min y q.1 - min x q.1) * (p - q.2) = p * min y q.1 - min y q.1 * q.2 - p * min x q.1 + min x q.1 * q.2 := by
        rw [Int.sub_mul, Int.mul_sub, Int.mul_sub, Int.mul_comm p, Int.mul_comm p]; omega
      rw [Int.mul_sub, Int.mul_sub] at i
      omega
theorem line_up {st : List (Int × Int)} (h : ∀ q ∈ st, 1 ≤ q.1) (hu : st.Pairwise (fun a b => a.2 < b.2)) (p x y : Int) (hx : lowR (p + 1) st ≤ x) (hxy : x ≤ y) : costR st x - p * x ≤ costR st y - p * y ∨ total st < y := by
  induction st generalizing x y with
  | nil =>
    simp [lowR, costR, total] at hx ⊢
    by_cases e : 0 < y
    · exact .inr e
    · have : x = y := by omega
      subst this
      left; omega
  | cons q st ih =>
    have hq := h q (by simp)
    have ht : ∀ z ∈ st, 1 ≤ z.1 := fun z hz => h z (by simp [hz])
    obtain ⟨u1, u2⟩ := List.pairwise_cons.1 hu
    by_cases hto : total (q :: st) < y
    · exact .inr hto
    left
    rw [total_cons] at hto
    rw [lowR] at hx
    have hb := lowR_bd (s := p + 1) ht
    by_cases e : p + 1 ≤ q.2
    · rw [if_pos e] at hx
      have z0 : lowR (p + 1) st = 0 := lowR_none fun z hz => by have := u1 z hz; omega
      rcases ih ht u2 (x - min x q.1) (y - min y q.1) (by omega) (by omega) with i | i
      · have m := Int.mul_nonneg (show 0 ≤ min y q.1 - min x q.1 by omega) (show 0 ≤ q.2 - p by omega)
        rw [costR, costR]
        have k : (min y q.1 - min x q.1) * (q.2 - p) = min y q.1 * q.2 - p * min y q.1 - min x q.1 * q.2 + p * min x q.1 := by
          rw [Int.sub_mul, Int.mul_sub, Int.mul_sub, Int.mul_comm p, Int.mul_comm p]; omega
        rw [Int.mul_sub, Int.mul_sub] at i
        omega
      · omega
    · rw [if_neg e] at hx
      rcases ih ht u2 (x - q.1) (y - q.1) (by omega) (by omega) with i | i
      · rw [costR, costR, show min x q.1 = q.1 by omega, show min y q.1 = q.1 by omega]
        rw [Int.mul_sub, Int.mul_sub] at i
        omega
      · omega
theorem cMade_err {lo va : Int} {L : List (Int × Int)} (h : (cMade lo va L).2 ≠ 0) : cMade lo va L = ((0, 0, []), 2) := by
  unfold cMade at h ⊢
  by_cases e : ccheck lo va (cjoin L) ≠ 0
  · rw [if_pos e]
  · rw [if_neg e] at h; exact absurd rfl h
theorem restrict_clamp (lo va : Int) (st : List (Int × Int)) (low hi : Int) : cRestrict lo va st low hi = cRestrict lo va st (max lo low) (min (chigh lo st) hi) := by
  unfold cRestrict
  rw [show max lo (max lo low) = max lo low by omega, show min (chigh lo st) (min (chigh lo st) hi) = min (chigh lo st) hi by omega]
/-- a part of a valid function, by its values -/
theorem restrict_good {lo va : Int} {st : List (Int × Int)} (h : ccheck lo va st = 0) {low hi : Int} (h1 : max lo low ≤ min (chigh lo st) hi) :
    ∃ R, cRestrict lo va st low hi = ((max lo low, cvat lo va st (max lo low), R), 0) ∧ ccheck (max lo low) (cvat lo va st (max lo low)) R = 0 ∧ chigh (max lo low) R = min (chigh lo st) hi ∧ ∀ x, max lo low ≤ x → x ≤ min (chigh lo st) hi → cvat (max lo low) (cvat lo va st (max lo low)) R x = cvat lo va st x := by
  have hg := (ccheck_ok h).1
  obtain ⟨e, hA⟩ := restrict_ok h (low := max lo low) (hi := min (chigh lo st) hi) (by omega) h1 (by omega)
  rw [← restrict_clamp] at e
  have hc : ccheck (max lo low) (cvat lo va st (max lo low)) (cutR lo (max lo low) (min (chigh lo st) hi) st) = 0 := by
    have := hA (max lo low)
    rw [if_neg (by omega)] at this
    unfold cAt at this
    by_cases k : ccheck (max lo low) (cvat lo va st (max lo low)) (cutR lo (max lo low) (min (chigh lo st) hi) st) = 0
    · exact k
    · rw [if_pos k] at this
      exact congrArg Prod.snd this
  have ht := cutR_total (x := lo) (low := max lo low) (hi := min (chigh lo st) hi) hg.long (by omega) (by unfold chigh; omega)
  have hh : chigh (max lo low) (cutR lo (max lo low) (min (chigh lo st) hi) st) = min (chigh lo st) hi := by
    rw [show chigh (max lo low) (cutR lo (max lo low) (min (chigh lo st) hi) st) = max lo low + total (cutR lo (max lo low) (min (chigh lo st) hi) st) from rfl, ht]
    omega
  refine ⟨_, e, hc, hh, fun x x0 x1 => ?_⟩
  have := hA x
  rw [if_neg (by omega)] at this
  unfold cAt at this
  rw [if_neg (by simpa using hc), hh, if_neg (by omega)] at this
  exact congrArg Prod.fst this
abbrev Cx := Int × Int × List (Int × Int)
def Cx.lo (f : Cx) : Int := f.1
def Cx.hi (f : Cx) : Int := chigh f.1 f.2.2
def Cx.V (f : Cx) (x : Int) : Int := cvat f.1 f.2.1 f.2.2 x
def Cx.ok (f : Cx) : Prop := ccheck f.1 f.2.1 f.2.2 = 0
/-- storage.line -/
def sline (lo hi p : Int) : List (Int × Int) := if lo < hi then [(hi - lo, p)] else []
theorem sline_total {lo hi : Int} (h : lo ≤ hi) (p : Int) : total (sline lo hi p) = hi - lo := by
  unfold sline
  by_cases e : lo < hi
  · rw [if_pos e]; simp [total]
  · rw [if_neg e]; simp [total]; omega
theorem sline_val {lo hi : Int} (p x : Int) (h0 : lo ≤ x) (h1 : x ≤ hi) : cvat lo (lo * p) (sline lo hi p) x = x * p := by
  unfold cvat sline
  by_cases e : lo < hi
  · rw [if_pos e, costR_one]; simp only; rw [show min (x - lo) (hi - lo) = x - lo by omega, Int.sub_mul]; omega
  · rw [if_neg e]
    have : x = lo := by omega
    subst this
    simp [costR]
theorem sline_ok {lo hi p : Int} (h : lo ≤ hi) (h0 : -100000 ≤ lo) (h1 : hi ≤ 100000) (p0 : -1000000 ≤ p) (p1 : p ≤ 1000000) : ccheck lo (lo * p) (sline lo hi p) = 0 := by
  have hm : ∀ x, -100000 ≤ x → x ≤ 100000 → -100000000000 ≤ x * p ∧ x * p ≤ 100000000000 := fun x a b => by
    have k1 := Int.mul_le_mul_of_nonneg_left p1 (show 0 ≤ x + 100000 by omega)
    have k2 := Int.mul_le_mul_of_nonneg_left p0 (show 0 ≤ x + 100000 by omega)
    have k3 := Int.mul_le_mul_of_nonneg_left p1 (show 0 ≤ 100000 - x by omega)
    have k4 := Int.mul_le_mul_of_nonneg_left p0 (show 0 ≤ 100000 - x by omega)
    rw [Int.add_mul, Int.add_mul] at k1 k2
    rw [Int.sub_mul, Int.sub_mul] at k3 k4
    omega
  have ml := hm lo h0 (by omega)
  have mh := hm hi (by omega) h1
  refine good_check (by omega) (by omega) (by unfold sline; split <;> simp) ⟨fun q hq => ?_, ?_, by rw [sline_total h]; omega, fun k => ?_⟩
  · unfold sline at hq
    split at hq
    · rw [List.mem_singleton] at hq; subst hq; simp only; omega
    · cases hq
  · unfold sline; split <;> simp
  · unfold sline
    split
    · cases k with
      | zero => simp [rise]; omega
      | succ k => rw [List.take_of_length_le (by simp)]; simp [rise]; rw [Int.sub_mul]; omega
    · simp [rise]; omega
/-- one period of storage.costs -/
def stStep (ch dis cap : Int) (f : Cx) (p : Int) : Cx × Int :=
  if (cConv f.1 f.2.1 f.2.2 (-dis) (-dis * p) (sline (-dis) ch p)).2 ≠ 0 then ((0, 0, []), (cConv f.1 f.2.1 f.2.2 (-dis) (-dis * p) (sline (-dis) ch p)).2)
  else cRestrict (cConv f.1 f.2.1 f.2.2 (-dis) (-dis * p) (sline (-dis) ch p)).1.1 (cConv f.1 f.2.1 f.2.2 (-dis) (-dis * p) (sline (-dis) ch p)).1.2.1 (cConv f.1 f.2.1 f.2.2 (-dis) (-dis * p) (sline (-dis) ch p)).1.2.2 0 cap
/-- limits of a valid storage -/
structure SOk (ch dis cap beg en : Int) : Prop where
  hch : 0 ≤ ch ∧ ch ≤ 100000
  hdis : 0 ≤ dis ∧ dis ≤ 100000
  hcap : 0 ≤ cap ∧ cap ≤ 100000
  hbeg : 0 ≤ beg ∧ beg ≤ cap
  hen : 0 ≤ en ∧ en ≤ cap
theorem stStep_good {ch dis cap p : Int} {f : Cx} (hc : 0 ≤ ch ∧ ch ≤ 100000) (hd : 0 ≤ dis ∧ dis ≤ 100000) (p0 : -1000000 ≤ p) (p1 : p ≤ 1000000) (hf : f.ok) (f0 : 0 ≤ f.lo) (f1 : f.lo ≤ f.hi) (f2 : f.hi ≤ cap) :
    ((stStep ch dis cap f p).2 = 2 ∧ (stStep ch dis cap f p).1 = (0, 0, [])) ∨ ∃ g : Cx, stStep ch dis cap f p = (g, 0) ∧ g.ok ∧ g.lo = max (f.lo - dis) 0 ∧ g.hi = min (f.hi + ch) cap ∧
      (∀ x c, f.lo ≤ x → x ≤ f.hi → -dis ≤ c → c ≤ ch → 0 ≤ x + c → x + c ≤ cap → g.V (x + c) ≤ f.V x + c * p) ∧
      (∀ z, g.lo ≤ z → z ≤ g.hi → ∃ x c, x + c = z ∧ f.lo ≤ x ∧ x ≤ f.hi ∧ -dis ≤ c ∧ c ≤ ch ∧ g.V z = f.V x + c * p) := by
  have hl := sline_ok (lo := -dis) (hi := ch) (p := p) (by omega) (by omega) (by omega) p0 p1
  have tl := sline_total (lo := -dis) (hi := ch) (by omega) p
  obtain ⟨lo, va, ps⟩ := f
  simp only [Cx.lo, Cx.hi, Cx.V, Cx.ok] at *
  unfold stStep
  simp only
  by_cases h0 : (cConv lo va ps (-dis) (-dis * p) (sline (-dis) ch p)).2 = 0
  · right
    obtain ⟨_, _, H, e, hc2, ht, hb⟩ := conv_ok h0
    rw [e]
    simp only [ne_eq, not_true_eq_false, if_false]
    have hh : chigh (lo + -dis) H = chigh lo ps + ch := by unfold chigh; omega
    have g1 := (ccheck_ok hf).1
    have g2 := (ccheck_ok hl).1
    have gH := (ccheck_ok hc2).1
    have e1 : chigh lo ps = lo + total ps := rfl
    obtain ⟨R, eR, cR, hR, vR⟩ := restrict_good hc2 (low := 0) (hi := cap) (by rw [hh]; omega)
    rw [hh] at hR vR
    refine ⟨_, eR, cR, by simp only; omega, hR, fun x c x0 x1 c0 c1 z0 z1 => ?_, fun z z0 z1 => ?_⟩
    · simp only
      rw [vR (x + c) (by omega) (by omega), ← sline_val (lo := -dis) (hi := ch) p c c0 c1]
      exact conv_le g1 g2 gH ht hb x0 (by omega) c0 (by omega)
    · simp only at z0 z1 ⊢
      rw [hR] at z1
      obtain ⟨x, y, s1, s2, s3, s4, s5, s6⟩ := conv_some g1 g2 gH ht hb (z := z) (by omega) (by omega)
      refine ⟨x, y, s1, s2, by omega, s4, by omega, ?_⟩
      rw [vR z (by omega) (by omega), s6, sline_val p y s4 (by omega)]
  · left
    rw [if_pos h0]
    refine ⟨?_, rfl⟩
    simp only
    have : cConv lo va ps (-dis) (-dis * p) (sline (-dis) ch p) = cMade (lo + -dis) (va + -dis * p) (psort (ps ++ sline (-dis) ch p)) := by
      unfold cConv
      rw [if_neg (by simpa using hf), if_neg (by simpa using hl)]
    rw [this] at h0 ⊢
    rw [cMade_err h0]
/-- the functions of storage.costs -/
def sK (ch dis cap beg : Int) (ps : List Int) : Nat → Cx × Int
  | 0 => ((beg, 0, []), 0)
  | k + 1 => if (sK ch dis cap beg ps k).2 ≠ 0 then sK ch dis cap beg ps k else stStep ch dis cap (sK ch dis cap beg ps k).1 (ps.getD k 0)
theorem sK_zero_ok {beg cap : Int} (h : 0 ≤ beg ∧ beg ≤ cap) (hc : cap ≤ 100000) : ccheck beg 0 [] = 0 :=
  good_check (by omega) (by omega) (by simp) ⟨by simp, List.Pairwise.nil, by simp [total]; omega, fun k => by simp [rise]⟩
theorem sK_stay {ch dis cap beg : Int} {ps : List Int} {k m : Nat} (h : k ≤ m) (he : (sK ch dis cap beg ps m).2 = 0) : (sK ch dis cap beg ps k).2 = 0 := by
  induction m with
  | zero => rw [show k = 0 by omega]; exact he
  | succ m ih =>
    by_cases e : k = m + 1
    · rw [e]; exact he
    · refine ih (by omega) ?_
      by_cases e2 : (sK ch dis cap beg ps m).2 = 0
      · exact e2
      · rw [sK, if_pos e2] at he; exact absurd he e2
theorem sK_stuck {ch dis cap beg : Int} {ps : List Int} {k m : Nat} (h : k ≤ m) (he : (sK ch dis cap beg ps k).2 ≠ 0) : sK ch dis cap beg ps m = sK ch dis cap beg ps k := by
  induction m with
  | zero => rw [show k = 0 by omega]
  | succ m ih =>
    by_cases e : k = m + 1
    · rw [e]
    · have i := ih (by omega)
      rw [sK, if_pos (by rw [i]; exact he), i]
theorem sK_good {ch dis cap beg en : Int} {ps : List Int} (hs : SOk ch dis cap beg en) (hp : ∀ p ∈ ps, -1000000 ≤ p ∧ p ≤ 1000000) (k : Nat) :
    ((sK ch dis cap beg ps k).2 = 2 ∧ (sK ch dis cap beg ps k).1 = (0, 0, [])) ∨ ((sK ch dis cap beg ps k).2 = 0 ∧ (sK ch dis cap beg ps k).1.ok ∧ 0 ≤ (sK ch dis cap beg ps k).1.lo ∧ (sK ch dis cap beg ps k).1.lo ≤ (sK ch dis cap beg ps k).1.hi ∧ (sK ch dis cap beg ps k).1.hi ≤ cap) := by
  induction k with
  | zero =>
    right
    refine ⟨rfl, sK_zero_ok hs.hbeg hs.hcap.2, hs.hbeg.1, ?_, ?_⟩
    · simp [sK, Cx.lo, Cx.hi, chigh, total]
    · simp [sK, Cx.hi, chigh, total]; exact hs.hbeg.2
  | succ k ih =>
    rcases ih with ⟨i, i2⟩ | ⟨i1, i2, i3, i4, i5⟩
    · left; rw [sK, if_pos (by omega)]; exact ⟨i, i2⟩
    · rw [sK, if_neg (by simpa using i1)]
      have hpk : -1000000 ≤ ps.getD k 0 ∧ ps.getD k 0 ≤ 1000000 := by
        rcases Nat.lt_or_ge k ps.length with hk | hk
        · rw [List.getD_eq_getElem?_getD, List.getElem?_eq_getElem hk]; exact hp _ (List.getElem_mem hk)
        · rw [List.getD_eq_getElem?_getD, List.getElem?_eq_none hk]; simp
      rcases stStep_good (p := ps.getD k 0) hs.hch hs.hdis hpk.1 hpk.2 i2 i3 i4 i5 with e | ⟨g, e, e1, e2, e3, _, _⟩
      · exact .inl e
      · right
        have := hs.hch
        have := hs.hdis
        rw [e]
        exact ⟨rfl, e1, by simp only; omega, by simp only; omega, by simp only; omega⟩
/-- what a step of the costs says -/
theorem sK_step {ch dis cap beg en : Int} {ps : List Int} (hs : SOk ch dis cap beg en) (hp : ∀ p ∈ ps, -1000000 ≤ p ∧ p ≤ 1000000) {k : Nat} (h : (sK ch dis cap beg ps (k + 1)).2 = 0) :
    (∀ x c, (sK ch dis cap beg ps k).1.lo ≤ x → x ≤ (sK ch dis cap beg ps k).1.hi → -dis ≤ c → c ≤ ch → 0 ≤ x + c → x + c ≤ cap → (sK ch dis cap beg ps (k + 1)).1.V (x + c) ≤ (sK ch dis cap beg ps k).1.V x + c * ps.getD k 0 ∧ (sK ch dis cap beg ps (k + 1)).1.lo ≤ x + c ∧ x + c ≤ (sK ch dis cap beg ps (k + 1)).1.hi) ∧
    (∀ z, (sK ch dis cap beg ps (k + 1)).1.lo ≤ z → z ≤ (sK ch dis cap beg ps (k + 1)).1.hi → ∃ x c, x + c = z ∧ (sK ch dis cap beg ps k).1.lo ≤ x ∧ x ≤ (sK ch dis cap beg ps k).1.hi ∧ -dis ≤ c ∧ c ≤ ch ∧ (sK ch dis cap beg ps (k + 1)).1.V z = (sK ch dis cap beg ps k).1.V x + c * ps.getD k 0) := by
  have h0 := sK_stay (Nat.le_succ k) h
  rcases sK_good hs hp k with ⟨i, _⟩ | ⟨i1, i2, i3, i4, i5⟩
  · omega
  · have hpk : -1000000 ≤ ps.getD k 0 ∧ ps.getD k 0 ≤ 1000000 := by
      rcases Nat.lt_or_ge k ps.length with hk | hk
      · rw [List.getD_eq_getElem?_getD, List.getElem?_eq_getElem hk]; exact hp _ (List.getElem_mem hk)
      · rw [List.getD_eq_getElem?_getD, List.getElem?_eq_none hk]; simp
    rw [sK, if_neg (by simpa using i1)] at h ⊢
    rcases stStep_good (p := ps.getD k 0) hs.hch hs.hdis hpk.1 hpk.2 i2 i3 i4 i5 with e | ⟨g, e, e1, e2, e3, e4, e5⟩
    · omega
    · rw [e]
      exact ⟨fun x c a b c0 c1 z0 z1 => ⟨e4 x c a b c0 c1 z0 z1, by simp only; omega, by simp only; omega⟩, e5⟩
/-- one period of storage.Run: the level, the cost, the error -/
def rK (ch dis cap beg : Int) (ps cs : List Int) : Nat → Int × Int × Int
  | 0 => (beg, 0, 0)
  | k + 1 => if (rK ch dis cap beg ps cs k).2.2 ≠ 0 then rK ch dis cap beg ps cs k else if cs.getD k 0 < -dis ∨ ch < cs.getD k 0 then (0, 0, 17)
    else if (rK ch dis cap beg ps cs k).1 + cs.getD k 0 < 0 ∨ cap < (rK ch dis cap beg ps cs k).1 + cs.getD k 0 then (0, 0, 4)
    else ((rK ch dis cap beg ps cs k).1 + cs.getD k 0, (rK ch dis cap beg ps cs k).2.1 + cs.getD k 0 * ps.getD k 0, 0)
theorem rK_inv {ch dis cap beg : Int} {ps cs : List Int} {k : Nat} (h : (rK ch dis cap beg ps cs (k + 1)).2.2 = 0) : (rK ch dis cap beg ps cs k).2.2 = 0 ∧ -dis ≤ cs.getD k 0 ∧ cs.getD k 0 ≤ ch ∧ 0 ≤ (rK ch dis cap beg ps cs k).1 + cs.getD k 0 ∧ (rK ch dis cap beg ps cs k).1 + cs.getD k 0 ≤ cap ∧
    rK ch dis cap beg ps cs (k + 1) = ((rK ch dis cap beg ps cs k).1 + cs.getD k 0, (rK ch dis cap beg ps cs k).2.1 + cs.getD k 0 * ps.getD k 0, 0) := by
  rw [rK] at h ⊢
  by_cases h0 : (rK ch dis cap beg ps cs k).2.2 = 0
  · rw [if_neg (by simpa using h0)] at h ⊢
    by_cases h1 : cs.getD k 0 < -dis ∨ ch < cs.getD k 0
    · rw [if_pos h1] at h; cases h
    · rw [if_neg h1] at h ⊢
      by_cases h2 : (rK ch dis cap beg ps cs k).1 + cs.getD k 0 < 0 ∨ cap < (rK ch dis cap beg ps cs k).1 + cs.getD k 0
      · rw [if_pos h2] at h; cases h
      · rw [if_neg h2] at h ⊢
        exact ⟨h0, by omega, by omega, by omega, by omega, rfl⟩
  · rw [if_pos h0] at h; exact absurd h h0
theorem rK_ok {ch dis cap beg : Int} {ps cs : List Int} {k : Nat} (h0 : (rK ch dis cap beg ps cs k).2.2 = 0) (h1 : -dis ≤ cs.getD k 0) (h2 : cs.getD k 0 ≤ ch) (h3 : 0 ≤ (rK ch dis cap beg ps cs k).1 + cs.getD k 0) (h4 : (rK ch dis cap beg ps cs k).1 + cs.getD k 0 ≤ cap) :
    rK ch dis cap beg ps cs (k + 1) = ((rK ch dis cap beg ps cs k).1 + cs.getD k 0, (rK ch dis cap beg ps cs k).2.1 + cs.getD k 0 * ps.getD k 0, 0) := by
  rw [rK, if_neg (by simpa using h0), if_neg (by omega), if_neg (by omega)]
theorem rK_stay {ch dis cap beg : Int} {ps cs : List Int} {k m : Nat} (h : k ≤ m) (he : (rK ch dis cap beg ps cs m).2.2 = 0) : (rK ch dis cap beg ps cs k).2.2 = 0 := by
  induction m with
  | zero => rw [show k = 0 by omega]; exact he
  | succ m ih =>
    by_cases e : k = m + 1
    · rw [e]; exact he
    · exact ih (by omega) (rK_inv he).1
/-- a run costs at least the value of its level -/
theorem run_above {ch dis cap beg en : Int} {ps cs : List Int} (hs : SOk ch dis cap beg en) (hp : ∀ p ∈ ps, -1000000 ≤ p ∧ p ≤ 1000000) (k : Nat) (h : (sK ch dis cap beg ps k).2 = 0) (hr : (rK ch dis cap beg ps cs k).2.2 = 0) :
    (sK ch dis cap beg ps k).1.lo ≤ (rK ch dis cap beg ps cs k).1 ∧ (rK ch dis cap beg ps cs k).1 ≤ (sK ch dis cap beg ps k).1.hi ∧ (sK ch dis cap beg ps k).1.V (rK ch dis cap beg ps cs k).1 ≤ (rK ch dis cap beg ps cs k).2.1 := by
  induction k with
  | zero => simp [sK, rK, Cx.lo, Cx.hi, Cx.V, chigh, total, cvat, costR]
  | succ k ih =>
    obtain ⟨r0, r1, r2, r3, r4, r5⟩ := rK_inv hr
    obtain ⟨i1, i2, i3⟩ := ih (sK_stay (Nat.le_succ k) h) r0
    obtain ⟨a, b, c⟩ := (sK_step hs hp h).1 _ _ i1 i2 r1 r2 r3 r4
    rw [r5]
    simp only
    exact ⟨b, c, by omega⟩
/-- the level before, as storage.Best takes it -/
def sprev (ch dis : Int) (f : Cx) (p level : Int) : Int := min (min (max (max (f.lo + lowR (p + 1) f.2.2) f.lo) (level - ch)) f.hi) (level + dis)
theorem sprev_best {ch dis p level x : Int} {f : Cx} (hf : f.ok) (h1 : f.lo ≤ x) (h2 : x ≤ f.hi) (h3 : -dis ≤ level - x) (h4 : level - x ≤ ch) :
    f.lo ≤ sprev ch dis f p level ∧ sprev ch dis f p level ≤ f.hi ∧ -dis ≤ level - sprev ch dis f p level ∧ level - sprev ch dis f p level ≤ ch ∧
      f.V (sprev ch dis f p level) + (level - sprev ch dis f p level) * p ≤ f.V x + (level - x) * p := by
  obtain ⟨lo, va, st⟩ := f
  simp only [Cx.lo, Cx.hi, Cx.V, Cx.ok] at *
  obtain ⟨g, _⟩ := ccheck_ok hf
  have e1 : chigh lo st = lo + total st := rfl
  have hb := lowR_bd (s := p + 1) g.long
  obtain ⟨y, hy⟩ : ∃ y, y = sprev ch dis (lo, va, st) p level := ⟨_, rfl⟩
  rw [← hy]
  simp only [sprev, Cx.lo, Cx.hi] at hy
  refine ⟨by omega, by omega, by omega, by omega, ?_⟩
  have key : costR st (y - lo) - p * (y - lo) ≤ costR st (x - lo) - p * (x - lo) := by
    by_cases hxy : x ≤ y
    · by_cases hY : y - lo ≤ lowR (p + 1) st
      · exact line_down g.long p (x - lo) (y - lo) (by omega) (by omega) hY
      · have : x = y := by omega
        rw [this]; omega
    · rcases line_up g.long g.up p (y - lo) (x - lo) (by omega) (by omega) with k | k
      · exact k
      · omega
  unfold cvat
  rw [Int.sub_mul, Int.sub_mul, Int.mul_comm y, Int.mul_comm x]
  rw [Int.mul_sub, Int.mul_sub] at key
  omega
/-- the levels of storage.Best, from the last one: j periods before the end -/
def sX (ch dis cap beg : Int) (ps : List Int) (T : Nat) (L : Int) : Nat → Int
  | 0 => L
  | j + 1 => sprev ch dis (sK ch dis cap beg ps (T - (j + 1))).1 (ps.getD (T - (j + 1)) 0) (sX ch dis cap beg ps T L j)
theorem sX_ok {ch dis cap beg en : Int} {ps : List Int} (hs : SOk ch dis cap beg en) (hp : ∀ p ∈ ps, -1000000 ≤ p ∧ p ≤ 1000000) {T : Nat} {L : Int} (h : (sK ch dis cap beg ps T).2 = 0) (h0 : (sK ch dis cap beg ps T).1.lo ≤ L) (h1 : L ≤ (sK ch dis cap beg ps T).1.hi) (j : Nat) (hj : j ≤ T) :
    (sK ch dis cap beg ps (T - j)).1.lo ≤ sX ch dis cap beg ps T L j ∧ sX ch dis cap beg ps T L j ≤ (sK ch dis cap beg ps (T - j)).1.hi ∧
    (∀ i, i < j → -dis ≤ sX ch dis cap beg ps T L i - sX ch dis cap beg ps T L (i + 1) ∧ sX ch dis cap beg ps T L i - sX ch dis cap beg ps T L (i + 1) ≤ ch ∧
      (sK ch dis cap beg ps (T - i)).1.V (sX ch dis cap beg ps T L i) = (sK ch dis cap beg ps (T - (i + 1))).1.V (sX ch dis cap beg ps T L (i + 1)) + (sX ch dis cap beg ps T L i - sX ch dis cap beg ps T L (i + 1)) * ps.getD (T - (i + 1)) 0) := by
  induction j with
  | zero => exact ⟨h0, h1, fun i hi => absurd hi (by omega)⟩
  | succ j ih =>
    obtain ⟨i1, i2, i3⟩ := ih (by omega)
    have e : T - j = T - (j + 1) + 1 := by omega
    have hk : (sK ch dis cap beg ps (T - (j + 1) + 1)).2 = 0 := sK_stay (by omega) h
    obtain ⟨s1, s2⟩ := sK_step hs hp hk
    rw [e] at i1 i2
    obtain ⟨x, c, e1, x0, x1, c0, c1, ev⟩ := s2 _ i1 i2
    have hok : (sK ch dis cap beg ps (T - (j + 1))).1.ok ∧ (sK ch dis cap beg ps (T - (j + 1) + 1)).1.hi ≤ cap ∧ 0 ≤ (sK ch dis cap beg ps (T - (j + 1) + 1)).1.lo := by
      have k0 := sK_stay (Nat.le_succ _) hk
      rcases sK_good hs hp (T - (j + 1)) with ⟨a, _⟩ | ⟨_, a, _⟩
      · omega
      · rcases sK_good hs hp (T - (j + 1) + 1) with ⟨b, _⟩ | ⟨_, _, b0, _, b⟩
        · omega
        · exact ⟨a, b, b0⟩
    obtain ⟨p1, p2, p3, p4, p5⟩ := sprev_best (ch := ch) (dis := dis) (p := ps.getD (T - (j + 1)) 0) (level := sX ch dis cap beg ps T L j) hok.1 x0 x1 (by omega) (by omega)
    have p6 := (s1 _ (sX ch dis cap beg ps T L j - sprev ch dis (sK ch dis cap beg ps (T - (j + 1))).1 (ps.getD (T - (j + 1)) 0) (sX ch dis cap beg ps T L j)) p1 p2 p3 p4 (by omega) (by omega)).1
    refine ⟨p1, p2, fun i hi => ?_⟩
    by_cases hij : i = j
    · subst hij
      refine ⟨p3, p4, ?_⟩
      rw [e, sX]
      rw [show sprev ch dis (sK ch dis cap beg ps (T - (i + 1))).1 (ps.getD (T - (i + 1)) 0) (sX ch dis cap beg ps T L i) + (sX ch dis cap beg ps T L i - sprev ch dis (sK ch dis cap beg ps (T - (i + 1))).1 (ps.getD (T - (i + 1)) 0) (sX ch dis cap beg ps T L i)) = sX ch dis cap beg ps T L i by omega] at p6
      rw [show sX ch dis cap beg ps T L i - x = c by omega] at p5
      omega
    · exact i3 i (by omega)
end Go.Proofs.Ytjdagpmfnmodbaa.Pl
