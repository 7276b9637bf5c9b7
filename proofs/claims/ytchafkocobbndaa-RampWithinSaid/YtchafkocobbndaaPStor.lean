/- Package storage, plain: the least costs of the levels, the best charges, runs; the laws StorageKept, StorageValue, StorageLarger. No program. storage.Check, Value, Best and Run, plain; the laws StorageKept, StorageValue, StorageLarger. No program. The examples of the laws of storage, and the loop of the law StorageValue, plain. No program. -/
import Derived.Test.YtchafkocobbndaaPRing
namespace Go.Proofs.Ytchafkocobbndaa.Pl
/-- between two places the difference to a line of slope p falls up to the place of p and rises behind it -/
theorem line_down {st : List (Int × Int)} (h : ∀ q ∈ st, 1 ≤ q.1) (p x y : Int) (x0 : 0 ≤ x) (hxy : x ≤ y) (hy : y ≤ lowR (p + 1) st) : costR st y - p * y ≤ costR st x - p * x := by
  induction st generalizing x y with
  | nil => simp [lowR] at hy; have : x = y := by omega
           subst this; omega
  | cons q st ih =>
    have hq := h q (by simp)
    have ht : ∀ z ∈ st, 1 ≤ z.1 := fun z hz => h z (by simp [hz])
    rw [lowR] at hy
    by_cases e : p + 1 ≤ q.2
    · rw [if_pos e] at hy
      have : x = y := by omega
      subst this
      omega
    · rw [if_neg e] at hy
      have i := ih ht (x - min x q.1) (y - min y q.1) (by omega) (by omega) (by have := lowR_bd (s := p + 1) ht; omega)
      have m := Int.mul_nonneg (show 0 ≤ min y q.1 - min x q.1 by omega) (show 0 ≤ p - q.2 by omega)
      rw [costR, costR]
      have k : (min y q.1 - min x q.1) * (p - q.2) = p * min y q.1 - min y q.1 * q.2 - p * min x q.1 + min x q.1 * q.2 := by
        rw [Int.sub_mul, Int.mul_sub, Int.mul_sub, Int.mul_comm p, Int.mul_comm p]; omega
      rw [Int.mul_sub, Int.mul_sub] at i
      omega
theorem line_up {st : List (Int × Int)} (h : ∀ q ∈ st, 1 ≤ q.1) (hu : st.Pairwise (fun a b => a.2 < b.2)) (p x y : Int) (hx : lowR (p + 1) st ≤ x) (hxy : x ≤ y) : costR st x - p * x ≤ costR st y - p * y ∨ total st < y := by
  induction st generalizing x y with
  | nil =>
    simp [lowR, costR, total] at hx ⊢
    by_cases e : 0 < y
    · exact .inr e
    · have : x = y := by omega
      subst this
      left; omega
  | cons q st ih =>
    have hq := h q (by simp)
    have ht : ∀ z ∈ st, 1 ≤ z.1 := fun z hz => h z (by simp [hz])
    obtain ⟨u1, u2⟩ := List.pairwise_cons.1 hu
    by_cases hto : total (q :: st) < y
    · exact .inr hto
    left
    rw [total_cons] at hto
    rw [lowR] at hx
    have hb := lowR_bd (s := p + 1) ht
    by_cases e : p + 1 ≤ q.2
    · rw [if_pos e] at hx
      have z0 : lowR (p + 1) st = 0 := lowR_none fun z hz => by have := u1 z hz; omega
      rcases ih ht u2 (x - min x q.1) (y - min y q.1) (by omega) (by omega) with i | i
      · have m := Int.mul_nonneg (show 0 ≤ min y q.1 - min x q.1 by omega) (show 0 ≤ q.2 - p by omega)
        rw [costR, costR]
        have k : (min y q.1 - min x q.1) * (q.2 - p) = min y q.1 * q.2 - p * min y q.1 - min x q.1 * q.2 + p * min x q.1 := by
          rw [Int.sub_mul, Int.mul_sub, Int.mul_sub, Int.mul_comm p, Int.mul_comm p]; omega
        rw [Int.mul_sub, Int.mul_sub] at i
        omega
      · omega
    · rw [if_neg e] at hx
      rcases ih ht u2 (x - q.1) (y - q.1) (by omega) (by omega) with i | i
      · rw [costR, costR, show min x q.1 = q.1 by omega, show min y q.1 = q.1 by omega]
        rw [Int.mul_sub, Int.mul_sub] at i
        omega
      · omega
theorem cMade_err {lo va : Int} {L : List (Int × Int)} (h : (cMade lo va L).2 ≠ 0) : cMade lo va L = ((0, 0, []), 2) := by
  unfold cMade at h ⊢
  by_cases e : ccheck lo va (cjoin L) ≠ 0
  · rw [if_pos e]
  · rw [if_neg e] at h; exact absurd rfl h
theorem restrict_clamp (lo va : Int) (st : List (Int × Int)) (low hi : Int) : cRestrict lo va st low hi = cRestrict lo va st (max lo low) (min (chigh lo st) hi) := by
  unfold cRestrict
  rw [show max lo (max lo low) = max lo low by omega, show min (chigh lo st) (min (chigh lo st) hi) = min (chigh lo st) hi by omega]
/-- a part of a valid function, by its values -/
theorem restrict_good {lo va : Int} {st : List (Int × Int)} (h : ccheck lo va st = 0) {low hi : Int} (h1 : max lo low ≤ min (chigh lo st) hi) :
    ∃ R, cRestrict lo va st low hi = ((max lo low, cvat lo va st (max lo low), R), 0) ∧ ccheck (max lo low) (cvat lo va st (max lo low)) R = 0 ∧ chigh (max lo low) R = min (chigh lo st) hi ∧ ∀ x, max lo low ≤ x → x ≤ min (chigh lo st) hi → cvat (max lo low) (cvat lo va st (max lo low)) R x = cvat lo va st x := by
  have hg := (ccheck_ok h).1
  obtain ⟨e, hA⟩ := restrict_ok h (low := max lo low) (hi := min (chigh lo st) hi) (by omega) h1 (by omega)
  rw [← restrict_clamp] at e
  have hc : ccheck (max lo low) (cvat lo va st (max lo low)) (cutR lo (max lo low) (min (chigh lo st) hi) st) = 0 := by
    have := hA (max lo low)
    rw [if_neg (by omega)] at this
    unfold cAt at this
    by_cases k : ccheck (max lo low) (cvat lo va st (max lo low)) (cutR lo (max lo low) (min (chigh lo st) hi) st) = 0
    · exact k
    · rw [if_pos k] at this
      exact congrArg Prod.snd this
  have ht := cutR_total (x := lo) (low := max lo low) (hi := min (chigh lo st) hi) hg.long (by omega) (by unfold chigh; omega)
  have hh : chigh (max lo low) (cutR lo (max lo low) (min (chigh lo st) hi) st) = min (chigh lo st) hi := by
    rw [show chigh (max lo low) (cutR lo (max lo low) (min (chigh lo st) hi) st) = max lo low + total (cutR lo (max lo low) (min (chigh lo st) hi) st) from rfl, ht]
    omega
  refine ⟨_, e, hc, hh, fun x x0 x1 => ?_⟩
  have := hA x
  rw [if_neg (by omega)] at this
  unfold cAt at this
  rw [if_neg (by simpa using hc), hh, if_neg (by omega)] at this
  exact congrArg Prod.fst this
abbrev Cx := Int × Int × List (Int × Int)
def Cx.lo (f : Cx) : Int := f.1
def Cx.hi (f : Cx) : Int := chigh f.1 f.2.2
def Cx.V (f : Cx) (x : Int) : Int := cvat f.1 f.2.1 f.2.2 x
def Cx.ok (f : Cx) : Prop := ccheck f.1 f.2.1 f.2.2 = 0
/-- storage.line -/
def sline (lo hi p : Int) : List (Int × Int) := if lo < hi then [(hi - lo, p)] else []
theorem sline_total {lo hi : Int} (h : lo ≤ hi) (p : Int) : total (sline lo hi p) = hi - lo := by
  unfold sline
  by_cases e : lo < hi
  · rw [if_pos e]; simp [total]
  · rw [if_neg e]; simp [total]; omega
theorem sline_val {lo hi : Int} (p x : Int) (h0 : lo ≤ x) (h1 : x ≤ hi) : cvat lo (lo * p) (sline lo hi p) x = x * p := by
  unfold cvat sline
  by_cases e : lo < hi
  · rw [if_pos e, costR_one]; simp only; rw [show min (x - lo) (hi - lo) = x - lo by omega, Int.sub_mul]; omega
  · rw [if_neg e]
    have : x = lo := by omega
    subst this
    simp [costR]
theorem sline_ok {lo hi p : Int} (h : lo ≤ hi) (h0 : -100000 ≤ lo) (h1 : hi ≤ 100000) (p0 : -1000000 ≤ p) (p1 : p ≤ 1000000) : ccheck lo (lo * p) (sline lo hi p) = 0 := by
  have hm : ∀ x, -100000 ≤ x → x ≤ 100000 → -100000000000 ≤ x * p ∧ x * p ≤ 100000000000 := fun x a b => by
    have k1 := Int.mul_le_mul_of_nonneg_left p1 (show 0 ≤ x + 100000 by omega)
    have k2 := Int.mul_le_mul_of_nonneg_left p0 (show 0 ≤ x + 100000 by omega)
    have k3 := Int.mul_le_mul_of_nonneg_left p1 (show 0 ≤ 100000 - x by omega)
    have k4 := Int.mul_le_mul_of_nonneg_left p0 (show 0 ≤ 100000 - x by omega)
    rw [Int.add_mul, Int.add_mul] at k1 k2
    rw [Int.sub_mul, Int.sub_mul] at k3 k4
    omega
  have ml := hm lo h0 (by omega)
  have mh := hm hi (by omega) h1
  refine good_check (by omega) (by omega) (by unfold sline; split <;> simp) ⟨fun q hq => ?_, ?_, by rw [sline_total h]; omega, fun k => ?_⟩
  · unfold sline at hq
    split at hq
    · rw [List.mem_singleton] at hq; subst hq; simp only; omega
    · cases hq
  · unfold sline; split <;> simp
  · unfold sline
    split
    · cases k with
      | zero => simp [rise]; omega
      | succ k => rw [List.take_of_length_le (by simp)]; simp [rise]; rw [Int.sub_mul]; omega
    · simp [rise]; omega
/-- one period of storage.costs -/
def stStep (ch dis cap : Int) (f : Cx) (p : Int) : Cx × Int :=
  if (cConv f.1 f.2.1 f.2.2 (-dis) (-dis * p) (sline (-dis) ch p)).2 ≠ 0 then ((0, 0, []), (cConv f.1 f.2.1 f.2.2 (-dis) (-dis * p) (sline (-dis) ch p)).2)
  else cRestrict (cConv f.1 f.2.1 f.2.2 (-dis) (-dis * p) (sline (-dis) ch p)).1.1 (cConv f.1 f.2.1 f.2.2 (-dis) (-dis * p) (sline (-dis) ch p)).1.2.1 (cConv f.1 f.2.1 f.2.2 (-dis) (-dis * p) (sline (-dis) ch p)).1.2.2 0 cap
/-- limits of a valid storage -/
structure SOk (ch dis cap beg en : Int) : Prop where
  hch : 0 ≤ ch ∧ ch ≤ 100000
  hdis : 0 ≤ dis ∧ dis ≤ 100000
  hcap : 0 ≤ cap ∧ cap ≤ 100000
  hbeg : 0 ≤ beg ∧ beg ≤ cap
  hen : 0 ≤ en ∧ en ≤ cap
theorem stStep_good {ch dis cap p : Int} {f : Cx} (hc : 0 ≤ ch ∧ ch ≤ 100000) (hd : 0 ≤ dis ∧ dis ≤ 100000) (p0 : -1000000 ≤ p) (p1 : p ≤ 1000000) (hf : f.ok) (f0 : 0 ≤ f.lo) (f1 : f.lo ≤ f.hi) (f2 : f.hi ≤ cap) :
    ((stStep ch dis cap f p).2 = 2 ∧ (stStep ch dis cap f p).1 = (0, 0, [])) ∨ ∃ g : Cx, stStep ch dis cap f p = (g, 0) ∧ g.ok ∧ g.lo = max (f.lo - dis) 0 ∧ g.hi = min (f.hi + ch) cap ∧
      (∀ x c, f.lo ≤ x → x ≤ f.hi → -dis ≤ c → c ≤ ch → 0 ≤ x + c → x + c ≤ cap → g.V (x + c) ≤ f.V x + c * p) ∧
      (∀ z, g.lo ≤ z → z ≤ g.hi → ∃ x c, x + c = z ∧ f.lo ≤ x ∧ x ≤ f.hi ∧ -dis ≤ c ∧ c ≤ ch ∧ g.V z = f.V x + c * p) := by
  have hl := sline_ok (lo := -dis) (hi := ch) (p := p) (by omega) (by omega) (by omega) p0 p1
  have tl := sline_total (lo := -dis) (hi := ch) (by omega) p
  obtain ⟨lo, va, ps⟩ := f
  simp only [Cx.lo, Cx.hi, Cx.V, Cx.ok] at *
  unfold stStep
  simp only
  by_cases h0 : (cConv lo va ps (-dis) (-dis * p) (sline (-dis) ch p)).2 = 0
  · right
    obtain ⟨_, _, H, e, hc2, ht, hb⟩ := conv_ok h0
    rw [e]
    simp only [ne_eq, not_true_eq_false, if_false]
    have hh : chigh (lo + -dis) H = chigh lo ps + ch := by unfold chigh; omega
    have g1 := (ccheck_ok hf).1
    have g2 := (ccheck_ok hl).1
    have gH := (ccheck_ok hc2).1
    have e1 : chigh lo ps = lo + total ps := rfl
    obtain ⟨R, eR, cR, hR, vR⟩ := restrict_good hc2 (low := 0) (hi := cap) (by rw [hh]; omega)
    rw [hh] at hR vR
    refine ⟨_, eR, cR, by simp only; omega, hR, fun x c x0 x1 c0 c1 z0 z1 => ?_, fun z z0 z1 => ?_⟩
    · simp only
      rw [vR (x + c) (by omega) (by omega), ← sline_val (lo := -dis) (hi := ch) p c c0 c1]
      exact conv_le g1 g2 gH ht hb x0 (by omega) c0 (by omega)
    · simp only at z0 z1 ⊢
      rw [hR] at z1
      obtain ⟨x, y, s1, s2, s3, s4, s5, s6⟩ := conv_some g1 g2 gH ht hb (z := z) (by omega) (by omega)
      refine ⟨x, y, s1, s2, by omega, s4, by omega, ?_⟩
      rw [vR z (by omega) (by omega), s6, sline_val p y s4 (by omega)]
  · left
    rw [if_pos h0]
    refine ⟨?_, rfl⟩
    simp only
    have : cConv lo va ps (-dis) (-dis * p) (sline (-dis) ch p) = cMade (lo + -dis) (va + -dis * p) (psort (ps ++ sline (-dis) ch p)) := by
      unfold cConv
      rw [if_neg (by simpa using hf), if_neg (by simpa using hl)]
    rw [this] at h0 ⊢
    rw [cMade_err h0]
/-- the functions of storage.costs -/
def sK (ch dis cap beg : Int) (ps : List Int) : Nat → Cx × Int
  | 0 => ((beg, 0, []), 0)
  | k + 1 => if (sK ch dis cap beg ps k).2 ≠ 0 then sK ch dis cap beg ps k else stStep ch dis cap (sK ch dis cap beg ps k).1 (ps.getD k 0)
theorem sK_zero_ok {beg cap : Int} (h : 0 ≤ beg ∧ beg ≤ cap) (hc : cap ≤ 100000) : ccheck beg 0 [] = 0 :=
  good_check (by omega) (by omega) (by simp) ⟨by simp, List.Pairwise.nil, by simp [total]; omega, fun k => by simp [rise]⟩
theorem sK_stay {ch dis cap beg : Int} {ps : List Int} {k m : Nat} (h : k ≤ m) (he : (sK ch dis cap beg ps m).2 = 0) : (sK ch dis cap beg ps k).2 = 0 := by
  induction m with
  | zero => rw [show k = 0 by omega]; exact he
  | succ m ih =>
    by_cases e : k = m + 1
    · rw [e]; exact he
    · refine ih (by omega) ?_
      by_cases e2 : (sK ch dis cap beg ps m).2 = 0
      · exact e2
      · rw [sK, if_pos e2] at he; exact absurd he e2
theorem sK_stuck {ch dis cap beg : Int} {ps : List Int} {k m : Nat} (h : k ≤ m) (he : (sK ch dis cap beg ps k).2 ≠ 0) : sK ch dis cap beg ps m = sK ch dis cap beg ps k := by
  induction m with
  | zero => rw [show k = 0 by omega]
  | succ m ih =>
    by_cases e : k = m + 1
    · rw [e]
    · have i := ih (by omega)
      rw [sK, if_pos (by rw [i]; exact he), i]
theorem sK_good {ch dis cap beg en : Int} {ps : List Int} (hs : SOk ch dis cap beg en) (hp : ∀ p ∈ ps, -1000000 ≤ p ∧ p ≤ 1000000) (k : Nat) :
    ((sK ch dis cap beg ps k).2 = 2 ∧ (sK ch dis cap beg ps k).1 = (0, 0, [])) ∨ ((sK ch dis cap beg ps k).2 = 0 ∧ (sK ch dis cap beg ps k).1.ok ∧ 0 ≤ (sK ch dis cap beg ps k).1.lo ∧ (sK ch dis cap beg ps k).1.lo ≤ (sK ch dis cap beg ps k).1.hi ∧ (sK ch dis cap beg ps k).1.hi ≤ cap) := by
  induction k with
  | zero =>
    right
    refine ⟨rfl, sK_zero_ok hs.hbeg hs.hcap.2, hs.hbeg.1, ?_, ?_⟩
    · simp [sK, Cx.lo, Cx.hi, chigh, total]
    · simp [sK, Cx.hi, chigh, total]; exact hs.hbeg.2
  | succ k ih =>
    rcases ih with ⟨i, i2⟩ | ⟨i1, i2, i3, i4, i5⟩
    · left; rw [sK, if_pos (by omega)]; exact ⟨i, i2⟩
    · rw [sK, if_neg (by simpa using i1)]
      have hpk : -1000000 ≤ ps.getD k 0 ∧ ps.getD k 0 ≤ 1000000 := by
        rcases Nat.lt_or_ge k ps.length with hk | hk
        · rw [List.getD_eq_getElem?_getD, List.getElem?_eq_getElem hk]; exact hp _ (List.getElem_mem hk)
        · rw [List.getD_eq_getElem?_getD, List.getElem?_eq_none hk]; simp
      rcases stStep_good (p := ps.getD k 0) hs.hch hs.hdis hpk.1 hpk.2 i2 i3 i4 i5 with e | ⟨g, e, e1, e2, e3, _, _⟩
      · exact .inl e
      · right
        have := hs.hch
        have := hs.hdis
        rw [e]
        exact ⟨rfl, e1, by simp only; omega, by simp only; omega, by simp only; omega⟩
/-- what a step of the costs says -/
theorem sK_step {ch dis cap beg en : Int} {ps : List Int} (hs : SOk ch dis cap beg en) (hp : ∀ p ∈ ps, -1000000 ≤ p ∧ p ≤ 1000000) {k : Nat} (h : (sK ch dis cap beg ps (k + 1)).2 = 0) :
    (∀ x c, (sK ch dis cap beg ps k).1.lo ≤ x → x ≤ (sK ch dis cap beg ps k).1.hi → -dis ≤ c → c ≤ ch → 0 ≤ x + c → x + c ≤ cap → (sK ch dis cap beg ps (k + 1)).1.V (x + c) ≤ (sK ch dis cap beg ps k).1.V x + c * ps.getD k 0 ∧ (sK ch dis cap beg ps (k + 1)).1.lo ≤ x + c ∧ x + c ≤ (sK ch dis cap beg ps (k + 1)).1.hi) ∧
    (∀ z, (sK ch dis cap beg ps (k + 1)).1.lo ≤ z → z ≤ (sK ch dis cap beg ps (k + 1)).1.hi → ∃ x c, x + c = z ∧ (sK ch dis cap beg ps k).1.lo ≤ x ∧ x ≤ (sK ch dis cap beg ps k).1.hi ∧ -dis ≤ c ∧ c ≤ ch ∧ (sK ch dis cap beg ps (k + 1)).1.V z = (sK ch dis cap beg ps k).1.V x + c * ps.getD k 0) := by
  have h0 := sK_stay (Nat.le_succ k) h
  rcases sK_good hs hp k with ⟨i, _⟩ | ⟨i1, i2, i3, i4, i5⟩
  · omega
  · have hpk : -1000000 ≤ ps.getD k 0 ∧ ps.getD k 0 ≤ 1000000 := by
      rcases Nat.lt_or_ge k ps.length with hk | hk
      · rw [List.getD_eq_getElem?_getD, List.getElem?_eq_getElem hk]; exact hp _ (List.getElem_mem hk)
      · rw [List.getD_eq_getElem?_getD, List.getElem?_eq_none hk]; simp
    rw [sK, if_neg (by simpa using i1)] at h ⊢
    rcases stStep_good (p := ps.getD k 0) hs.hch hs.hdis hpk.1 hpk.2 i2 i3 i4 i5 with e | ⟨g, e, e1, e2, e3, e4, e5⟩
    · omega
    · rw [e]
      exact ⟨fun x c a b c0 c1 z0 z1 => ⟨e4 x c a b c0 c1 z0 z1, by simp only; omega, by simp only; omega⟩, e5⟩
/-- one period of storage.Run: the level, the cost, the error -/
def rK (ch dis cap beg : Int) (ps cs : List Int) : Nat → Int × Int × Int
  | 0 => (beg, 0, 0)
  | k + 1 => if (rK ch dis cap beg ps cs k).2.2 ≠ 0 then rK ch dis cap beg ps cs k else if cs.getD k 0 < -dis ∨ ch < cs.getD k 0 then (0, 0, 17)
    else if (rK ch dis cap beg ps cs k).1 + cs.getD k 0 < 0 ∨ cap < (rK ch dis cap beg ps cs k).1 + cs.getD k 0 then (0, 0, 4)
    else ((rK ch dis cap beg ps cs k).1 + cs.getD k 0, (rK ch dis cap beg ps cs k).2.1 + cs.getD k 0 * ps.getD k 0, 0)
theorem rK_inv {ch dis cap beg : Int} {ps cs : List Int} {k : Nat} (h : (rK ch dis cap beg ps cs (k + 1)).2.2 = 0) : (rK ch dis cap beg ps cs k).2.2 = 0 ∧ -dis ≤ cs.getD k 0 ∧ cs.getD k 0 ≤ ch ∧ 0 ≤ (rK ch dis cap beg ps cs k).1 + cs.getD k 0 ∧ (rK ch dis cap beg ps cs k).1 + cs.getD k 0 ≤ cap ∧
    rK ch dis cap beg ps cs (k + 1) = ((rK ch dis cap beg ps cs k).1 + cs.getD k 0, (rK ch dis cap beg ps cs k).2.1 + cs.getD k 0 * ps.getD k 0, 0) := by
  rw [rK] at h ⊢
  by_cases h0 : (rK ch dis cap beg ps cs k).2.2 = 0
  · rw [if_neg (by simpa using h0)] at h ⊢
    by_cases h1 : cs.getD k 0 < -dis ∨ ch < cs.getD k 0
    · rw [if_pos h1] at h; cases h
    · rw [if_neg h1] at h ⊢
      by_cases h2 : (rK ch dis cap beg ps cs k).1 + cs.getD k 0 < 0 ∨ cap < (rK ch dis cap beg ps cs k).1 + cs.getD k 0
      · rw [if_pos h2] at h; cases h
      · rw [if_neg h2] at h ⊢
        exact ⟨h0, by omega, by omega, by omega, by omega, rfl⟩
  · rw [if_pos h0] at h; exact absurd h h0
theorem rK_ok {ch dis cap beg : Int} {ps cs : List Int} {k : Nat} (h0 : (rK ch dis cap beg ps cs k).2.2 = 0) (h1 : -dis ≤ cs.getD k 0) (h2 : cs.getD k 0 ≤ ch) (h3 : 0 ≤ (rK ch dis cap beg ps cs k).1 + cs.getD k 0) (h4 : (rK ch dis cap beg ps cs k).1 + cs.getD k 0 ≤ cap) :
    rK ch dis cap beg ps cs (k + 1) = ((rK ch dis cap beg ps cs k).1 + cs.getD k 0, (rK ch dis cap beg ps cs k).2.1 + cs.getD k 0 * ps.getD k 0, 0) := by
  rw [rK, if_neg (by simpa using h0), if_neg (by omega), if_neg (by omega)]
theorem rK_stay {ch dis cap beg : Int} {ps cs : List Int} {k m : Nat} (h : k ≤ m) (he : (rK ch dis cap beg ps cs m).2.2 = 0) : (rK ch dis cap beg ps cs k).2.2 = 0 := by
  induction m with
  | zero => rw [show k = 0 by omega]; exact he
  | succ m ih =>
    by_cases e : k = m + 1
    · rw [e]; exact he
    · exact ih (by omega) (rK_inv he).1
/-- a run costs at least the value of its level -/
theorem run_above {ch dis cap beg en : Int} {ps cs : List Int} (hs : SOk ch dis cap beg en) (hp : ∀ p ∈ ps, -1000000 ≤ p ∧ p ≤ 1000000) (k : Nat) (h : (sK ch dis cap beg ps k).2 = 0) (hr : (rK ch dis cap beg ps cs k).2.2 = 0) :
    (sK ch dis cap beg ps k).1.lo ≤ (rK ch dis cap beg ps cs k).1 ∧ (rK ch dis cap beg ps cs k).1 ≤ (sK ch dis cap beg ps k).1.hi ∧ (sK ch dis cap beg ps k).1.V (rK ch dis cap beg ps cs k).1 ≤ (rK ch dis cap beg ps cs k).2.1 := by
  induction k with
  | zero => simp [sK, rK, Cx.lo, Cx.hi, Cx.V, chigh, total, cvat, costR]
  | succ k ih =>
    obtain ⟨r0, r1, r2, r3, r4, r5⟩ := rK_inv hr
    obtain ⟨i1, i2, i3⟩ := ih (sK_stay (Nat.le_succ k) h) r0
    obtain ⟨a, b, c⟩ := (sK_step hs hp h).1 _ _ i1 i2 r1 r2 r3 r4
    rw [r5]
    simp only
    exact ⟨b, c, by omega⟩
/-- the level before, as storage.Best takes it -/
def sprev (ch dis : Int) (f : Cx) (p level : Int) : Int := min (min (max (max (f.lo + lowR (p + 1) f.2.2) f.lo) (level - ch)) f.hi) (level + dis)
theorem sprev_best {ch dis p level x : Int} {f : Cx} (hf : f.ok) (h1 : f.lo ≤ x) (h2 : x ≤ f.hi) (h3 : -dis ≤ level - x) (h4 : level - x ≤ ch) :
    f.lo ≤ sprev ch dis f p level ∧ sprev ch dis f p level ≤ f.hi ∧ -dis ≤ level - sprev ch dis f p level ∧ level - sprev ch dis f p level ≤ ch ∧
      f.V (sprev ch dis f p level) + (level - sprev ch dis f p level) * p ≤ f.V x + (level - x) * p := by
  obtain ⟨lo, va, st⟩ := f
  simp only [Cx.lo, Cx.hi, Cx.V, Cx.ok] at *
  obtain ⟨g, _⟩ := ccheck_ok hf
  have e1 : chigh lo st = lo + total st := rfl
  have hb := lowR_bd (s := p + 1) g.long
  obtain ⟨y, hy⟩ : ∃ y, y = sprev ch dis (lo, va, st) p level := ⟨_, rfl⟩
  rw [← hy]
  simp only [sprev, Cx.lo, Cx.hi] at hy
  refine ⟨by omega, by omega, by omega, by omega, ?_⟩
  have key : costR st (y - lo) - p * (y - lo) ≤ costR st (x - lo) - p * (x - lo) := by
    by_cases hxy : x ≤ y
    · by_cases hY : y - lo ≤ lowR (p + 1) st
      · exact line_down g.long p (x - lo) (y - lo) (by omega) (by omega) hY
      · have : x = y := by omega
        rw [this]; omega
    · rcases line_up g.long g.up p (y - lo) (x - lo) (by omega) (by omega) with k | k
      · exact k
      · omega
  unfold cvat
  rw [Int.sub_mul, Int.sub_mul, Int.mul_comm y, Int.mul_comm x]
  rw [Int.mul_sub, Int.mul_sub] at key
  omega
/-- the levels of storage.Best, from the last one: j periods before the end -/
def sX (ch dis cap beg : Int) (ps : List Int) (T : Nat) (L : Int) : Nat → Int
  | 0 => L
  | j + 1 => sprev ch dis (sK ch dis cap beg ps (T - (j + 1))).1 (ps.getD (T - (j + 1)) 0) (sX ch dis cap beg ps T L j)
theorem sX_ok {ch dis cap beg en : Int} {ps : List Int} (hs : SOk ch dis cap beg en) (hp : ∀ p ∈ ps, -1000000 ≤ p ∧ p ≤ 1000000) {T : Nat} {L : Int} (h : (sK ch dis cap beg ps T).2 = 0) (h0 : (sK ch dis cap beg ps T).1.lo ≤ L) (h1 : L ≤ (sK ch dis cap beg ps T).1.hi) (j : Nat) (hj : j ≤ T) :
    (sK ch dis cap beg ps (T - j)).1.lo ≤ sX ch dis cap beg ps T L j ∧ sX ch dis cap beg ps T L j ≤ (sK ch dis cap beg ps (T - j)).1.hi ∧
    (∀ i, i < j → -dis ≤ sX ch dis cap beg ps T L i - sX ch dis cap beg ps T L (i + 1) ∧ sX ch dis cap beg ps T L i - sX ch dis cap beg ps T L (i + 1) ≤ ch ∧
      (sK ch dis cap beg ps (T - i)).1.V (sX ch dis cap beg ps T L i) = (sK ch dis cap beg ps (T - (i + 1))).1.V (sX ch dis cap beg ps T L (i + 1)) + (sX ch dis cap beg ps T L i - sX ch dis cap beg ps T L (i + 1)) * ps.getD (T - (i + 1)) 0) := by
  induction j with
  | zero => exact ⟨h0, h1, fun i hi => absurd hi (by omega)⟩
  | succ j ih =>
    obtain ⟨i1, i2, i3⟩ := ih (by omega)
    have e : T - j = T - (j + 1) + 1 := by omega
    have hk : (sK ch dis cap beg ps (T - (j + 1) + 1)).2 = 0 := sK_stay (by omega) h
    obtain ⟨s1, s2⟩ := sK_step hs hp hk
    rw [e] at i1 i2
    obtain ⟨x, c, e1, x0, x1, c0, c1, ev⟩ := s2 _ i1 i2
    have hok : (sK ch dis cap beg ps (T - (j + 1))).1.ok ∧ (sK ch dis cap beg ps (T - (j + 1) + 1)).1.hi ≤ cap ∧ 0 ≤ (sK ch dis cap beg ps (T - (j + 1) + 1)).1.lo := by
      have k0 := sK_stay (Nat.le_succ _) hk
      rcases sK_good hs hp (T - (j + 1)) with ⟨a, _⟩ | ⟨_, a, _⟩
      · omega
      · rcases sK_good hs hp (T - (j + 1) + 1) with ⟨b, _⟩ | ⟨_, _, b0, _, b⟩
        · omega
        · exact ⟨a, b, b0⟩
    obtain ⟨p1, p2, p3, p4, p5⟩ := sprev_best (ch := ch) (dis := dis) (p := ps.getD (T - (j + 1)) 0) (level := sX ch dis cap beg ps T L j) hok.1 x0 x1 (by omega) (by omega)
    have p6 := (s1 _ (sX ch dis cap beg ps T L j - sprev ch dis (sK ch dis cap beg ps (T - (j + 1))).1 (ps.getD (T - (j + 1)) 0) (sX ch dis cap beg ps T L j)) p1 p2 p3 p4 (by omega) (by omega)).1
    refine ⟨p1, p2, fun i hi => ?_⟩
    by_cases hij : i = j
    · subst hij
      refine ⟨p3, p4, ?_⟩
      rw [e, sX]
      rw [show sprev ch dis (sK ch dis cap beg ps (T - (i + 1))).1 (ps.getD (T - (i + 1)) 0) (sX ch dis cap beg ps T L i) + (sX ch dis cap beg ps T L i - sprev ch dis (sK ch dis cap beg ps (T - (i + 1))).1 (ps.getD (T - (i + 1)) 0) (sX ch dis cap beg ps T L i)) = sX ch dis cap beg ps T L i by omega] at p6
      rw [show sX ch dis cap beg ps T L i - x = c by omega] at p5
      omega
    · exact i3 i (by omega)
end Go.Proofs.Ytchafkocobbndaa.Pl
namespace Go.Proofs.Ytchafkocobbndaa.Pl
def sout (n hi : Int) : Bool := decide (n < 0) || decide (hi < n)
theorem sout_false {n hi : Int} : sout n hi = false ↔ 0 ≤ n ∧ n ≤ hi := by unfold sout; simp
/-- storage.Check -/
def sCheck (ch dis cap beg en : Int) : Int := if (sout ch 100000 || sout dis 100000 || sout cap 100000 || sout beg cap || sout en cap) = true then 4 else 0
def badPr (p : Int) : Bool := decide (p < -1000000) || decide (1000000 < p)
/-- storage.check -/
def sCheckP (ch dis cap beg en : Int) (ps : List Int) : Int := if sCheck ch dis cap beg en ≠ 0 then sCheck ch dis cap beg en else if 24 < ps.length then 2 else if has badPr ps = true then 4 else 0
theorem sCheck_ok {ch dis cap beg en : Int} (h : sCheck ch dis cap beg en = 0) : SOk ch dis cap beg en := by
  unfold sCheck at h
  cases e : (sout ch 100000 || sout dis 100000 || sout cap 100000 || sout beg cap || sout en cap)
  · simp only [Bool.or_eq_false_iff, sout_false] at e
    obtain ⟨⟨⟨⟨e1, e2⟩, e3⟩, e4⟩, e5⟩ := e
    exact ⟨e1, e2, e3, e4, e5⟩
  · rw [e, if_pos rfl] at h; cases h
theorem sCheckP_ok {ch dis cap beg en : Int} {ps : List Int} (h : sCheckP ch dis cap beg en ps = 0) : SOk ch dis cap beg en ∧ ps.length ≤ 24 ∧ ∀ p ∈ ps, -1000000 ≤ p ∧ p ≤ 1000000 := by
  unfold sCheckP at h
  by_cases h1 : sCheck ch dis cap beg en = 0
  · rw [if_neg (by simpa using h1)] at h
    by_cases h2 : 24 < ps.length
    · rw [if_pos h2] at h; cases h
    · rw [if_neg h2] at h
      cases h3 : has badPr ps
      · refine ⟨sCheck_ok h1, by omega, fun p hp => ?_⟩
        unfold has at h3
        rw [List.any_eq_false] at h3
        have := h3 p hp
        unfold badPr at this
        simp at this
        omega
      · rw [h3, if_pos rfl] at h; cases h
  · rw [if_pos h1] at h; exact absurd h h1
section
variable (ch dis cap beg en : Int) (ps cs : List Int)
/-- storage.Value -/
def sValue : Cx × Int := if sCheckP ch dis cap beg en ps ≠ 0 then ((0, 0, []), sCheckP ch dis cap beg en ps) else sK ch dis cap beg ps ps.length
/-- the function of the permitted ends, and its least place -/
def sEnd : Cx × Int := cRestrict (sK ch dis cap beg ps ps.length).1.1 (sK ch dis cap beg ps ps.length).1.2.1 (sK ch dis cap beg ps ps.length).1.2.2 en cap
def sLast : Int := (cLeast (sEnd ch dis cap beg en ps).1.1 (sEnd ch dis cap beg en ps).1.2.1 (sEnd ch dis cap beg en ps).1.2.2).1
def sLevel (t : Nat) : Int := sX ch dis cap beg ps ps.length (sLast ch dis cap beg en ps) (ps.length - t)
def sCharges : List Int := (List.range ps.length).map fun t => sLevel ch dis cap beg en ps (t + 1) - sLevel ch dis cap beg en ps t
/-- storage.Best -/
def sBest : List Int × Int × Int := if sCheckP ch dis cap beg en ps ≠ 0 then ([], 0, sCheckP ch dis cap beg en ps) else if (sK ch dis cap beg ps ps.length).2 ≠ 0 then ([], 0, (sK ch dis cap beg ps ps.length).2)
  else if (sEnd ch dis cap beg en ps).2 ≠ 0 then ([], 0, 8)
  else (sCharges ch dis cap beg en ps, (cLeast (sEnd ch dis cap beg en ps).1.1 (sEnd ch dis cap beg en ps).1.2.1 (sEnd ch dis cap beg en ps).1.2.2).2.1, 0)
/-- storage.Run -/
def sRun : List Int × Int × Int := if sCheckP ch dis cap beg en ps ≠ 0 then ([], 0, sCheckP ch dis cap beg en ps) else if cs.length ≠ ps.length then ([], 0, 3)
  else if (rK ch dis cap beg ps cs ps.length).2.2 ≠ 0 then ([], 0, (rK ch dis cap beg ps cs ps.length).2.2) else if (rK ch dis cap beg ps cs ps.length).1 < en then ([], 0, 14)
  else ((List.range ps.length).map fun k => (rK ch dis cap beg ps cs (k + 1)).1, (rK ch dis cap beg ps cs ps.length).2.1, 0)
end
section
variable {ch dis cap beg en : Int} {ps cs : List Int}
theorem sRun_ok (h : (sRun ch dis cap beg en ps cs).2.2 = 0) : sCheckP ch dis cap beg en ps = 0 ∧ cs.length = ps.length ∧ (rK ch dis cap beg ps cs ps.length).2.2 = 0 ∧ en ≤ (rK ch dis cap beg ps cs ps.length).1 ∧
    sRun ch dis cap beg en ps cs = ((List.range ps.length).map fun k => (rK ch dis cap beg ps cs (k + 1)).1, (rK ch dis cap beg ps cs ps.length).2.1, 0) := by
  unfold sRun at h ⊢
  by_cases h1 : sCheckP ch dis cap beg en ps = 0
  · rw [if_neg (by simpa using h1)] at h ⊢
    by_cases h2 : cs.length = ps.length
    · rw [if_neg (by simpa using h2)] at h ⊢
      by_cases h3 : (rK ch dis cap beg ps cs ps.length).2.2 = 0
      · rw [if_neg (by simpa using h3)] at h ⊢
        by_cases h4 : (rK ch dis cap beg ps cs ps.length).1 < en
        · rw [if_pos h4] at h; cases h
        · rw [if_neg h4]
          exact ⟨h1, h2, h3, by omega, rfl⟩
      · rw [if_pos h3] at h; exact absurd h h3
    · rw [if_pos h2] at h; cases h
  · rw [if_pos h1] at h; exact absurd h h1
theorem sBest_ok (h : (sBest ch dis cap beg en ps).2.2 = 0) : sCheckP ch dis cap beg en ps = 0 ∧ (sK ch dis cap beg ps ps.length).2 = 0 ∧ (sEnd ch dis cap beg en ps).2 = 0 ∧
    sBest ch dis cap beg en ps = (sCharges ch dis cap beg en ps, (cLeast (sEnd ch dis cap beg en ps).1.1 (sEnd ch dis cap beg en ps).1.2.1 (sEnd ch dis cap beg en ps).1.2.2).2.1, 0) := by
  unfold sBest at h ⊢
  by_cases h1 : sCheckP ch dis cap beg en ps = 0
  · rw [if_neg (by simpa using h1)] at h ⊢
    by_cases h2 : (sK ch dis cap beg ps ps.length).2 = 0
    · rw [if_neg (by simpa using h2)] at h ⊢
      by_cases h3 : (sEnd ch dis cap beg en ps).2 = 0
      · rw [if_neg (by simpa using h3)]
        exact ⟨h1, h2, h3, rfl⟩
      · rw [if_pos h3] at h; cases h
    · rw [if_pos h2] at h; exact absurd h h2
  · rw [if_pos h1] at h; exact absurd h h1
/-- the permitted ends: where they are, and that there are some unless no level reaches the end -/
theorem sEnd_good (hc : sCheckP ch dis cap beg en ps = 0) (hk : (sK ch dis cap beg ps ps.length).2 = 0) :
    ((sEnd ch dis cap beg en ps).2 ≠ 0 ∧ (sK ch dis cap beg ps ps.length).1.hi < en) ∨
    ((sEnd ch dis cap beg en ps).2 = 0 ∧ (cLeast (sEnd ch dis cap beg en ps).1.1 (sEnd ch dis cap beg en ps).1.2.1 (sEnd ch dis cap beg en ps).1.2.2) = (sLast ch dis cap beg en ps, (sK ch dis cap beg ps ps.length).1.V (sLast ch dis cap beg en ps), 0) ∧
      ccheck (sEnd ch dis cap beg en ps).1.1 (sEnd ch dis cap beg en ps).1.2.1 (sEnd ch dis cap beg en ps).1.2.2 = 0 ∧
      (sK ch dis cap beg ps ps.length).1.lo ≤ sLast ch dis cap beg en ps ∧ sLast ch dis cap beg en ps ≤ (sK ch dis cap beg ps ps.length).1.hi ∧ en ≤ sLast ch dis cap beg en ps ∧
      ∀ x, (sK ch dis cap beg ps ps.length).1.lo ≤ x → x ≤ (sK ch dis cap beg ps ps.length).1.hi → en ≤ x → (sK ch dis cap beg ps ps.length).1.V (sLast ch dis cap beg en ps) ≤ (sK ch dis cap beg ps ps.length).1.V x) := by
  obtain ⟨hs, _, hp⟩ := sCheckP_ok hc
  have hen := hs.hen
  rcases sK_good hs hp ps.length with ⟨e, _⟩ | ⟨_, hok, f0, f1, f2⟩
  · omega
  unfold sLast sEnd
  generalize (sK ch dis cap beg ps ps.length).1 = f at *
  obtain ⟨lo, va, st⟩ := f
  simp only [Cx.lo, Cx.hi, Cx.V, Cx.ok] at *
  by_cases h0 : max lo en ≤ min (chigh lo st) cap
  · right
    obtain ⟨R, e, c, hh, hv⟩ := restrict_good hok h0
    rw [e]
    simp only
    have g := (ccheck_ok c).1
    have hb := lowR_bd (s := 0) g.long
    have e1 : chigh (max lo en) R = max lo en + total R := rfl
    have el : cLeast (max lo en) (cvat lo va st (max lo en)) R = (max lo en + lowR 0 R, cvat (max lo en) (cvat lo va st (max lo en)) R (max lo en + lowR 0 R), 0) := by unfold cLeast; rw [if_neg (by simpa using c)]
    rw [el]
    simp only
    refine ⟨trivial, by rw [hv _ (by omega) (by omega)], c, by omega, by omega, by omega, fun x x0 x1 x2 => ?_⟩
    rw [← hv _ (by omega) (by omega), ← hv x (by omega) (by omega)]
    have := (low_least g.long g.up (x - max lo en) (by omega)).1
    unfold cvat
    rw [show max lo en + lowR 0 R - max lo en = lowR 0 R by omega]
    omega
  · left
    unfold cRestrict
    rw [if_neg (by simpa using hok), if_pos (by omega)]
    exact ⟨by simp, by omega⟩
theorem sX_levels (hc : sCheckP ch dis cap beg en ps = 0) (hk : (sK ch dis cap beg ps ps.length).2 = 0) (he : (sEnd ch dis cap beg en ps).2 = 0) (t : Nat) (ht : t ≤ ps.length) :
    (sK ch dis cap beg ps t).1.lo ≤ sLevel ch dis cap beg en ps t ∧ sLevel ch dis cap beg en ps t ≤ (sK ch dis cap beg ps t).1.hi := by
  obtain ⟨hs, _, hp⟩ := sCheckP_ok hc
  rcases sEnd_good hc hk with ⟨a, _⟩ | ⟨_, _, _, h0, h1, _, _⟩
  · exact absurd he a
  · have := sX_ok hs hp hk h0 h1 (ps.length - t) (by omega)
    rw [show ps.length - (ps.length - t) = t by omega] at this
    exact ⟨this.1, this.2.1⟩
theorem charges_at {t : Nat} (ht : t < ps.length) : (sCharges ch dis cap beg en ps).getD t 0 = sLevel ch dis cap beg en ps (t + 1) - sLevel ch dis cap beg en ps t := by
  unfold sCharges
  rw [List.getD_eq_getElem?_getD, List.getElem?_map, List.getElem?_range ht]
  rfl
/-- the run of the best charges -/
theorem best_run (hc : sCheckP ch dis cap beg en ps = 0) (hk : (sK ch dis cap beg ps ps.length).2 = 0) (he : (sEnd ch dis cap beg en ps).2 = 0) (t : Nat) (ht : t ≤ ps.length) :
    rK ch dis cap beg ps (sCharges ch dis cap beg en ps) t = (sLevel ch dis cap beg en ps t, (sK ch dis cap beg ps t).1.V (sLevel ch dis cap beg en ps t), 0) := by
  obtain ⟨hs, _, hp⟩ := sCheckP_ok hc
  rcases sEnd_good hc hk with ⟨a, _⟩ | ⟨_, _, _, h0, h1, _, _⟩
  · exact absurd he a
  induction t with
  | zero =>
    have := sX_levels hc hk he 0 (by omega)
    simp [sK, Cx.lo, Cx.hi, chigh, total] at this
    have e : sLevel ch dis cap beg en ps 0 = beg := by omega
    rw [e]
    simp [rK, sK, Cx.V, cvat, costR]
  | succ t ih =>
    have i := ih (by omega)
    obtain ⟨_, _, hstep⟩ := sX_ok hs hp hk h0 h1 ps.length (Nat.le_refl _)
    obtain ⟨s1, s2, s3⟩ := hstep (ps.length - (t + 1)) (by omega)
    have hlv := sX_levels hc hk he (t + 1) ht
    have hb : 0 ≤ (sK ch dis cap beg ps (t + 1)).1.lo ∧ (sK ch dis cap beg ps (t + 1)).1.hi ≤ cap := by
      rcases sK_good hs hp (t + 1) with ⟨e, _⟩ | ⟨_, _, f0, _, f2⟩
      · have := sK_stay (k := t + 1) ht hk; omega
      · exact ⟨f0, f2⟩
    rw [show ps.length - (t + 1) + 1 = ps.length - t by omega] at s1 s2 s3
    rw [show ps.length - (ps.length - (t + 1)) = t + 1 by omega, show ps.length - (ps.length - t) = t by omega] at s3
    have e1 : sX ch dis cap beg ps ps.length (sLast ch dis cap beg en ps) (ps.length - (t + 1)) = sLevel ch dis cap beg en ps (t + 1) := rfl
    have e2 : sX ch dis cap beg ps ps.length (sLast ch dis cap beg en ps) (ps.length - t) = sLevel ch dis cap beg en ps t := rfl
    rw [e1, e2] at s1 s2 s3
    have hat := charges_at (ch := ch) (dis := dis) (cap := cap) (beg := beg) (en := en) (ps := ps) (t := t) (by omega)
    rw [rK_ok (by rw [i]) (by rw [hat]; exact s1) (by rw [hat]; exact s2) (by rw [i, hat]; simp only; omega) (by rw [i, hat]; simp only; omega), i, hat]
    simp only
    rw [s3]
    refine Prod.ext (by simp only; omega) (by rfl)
/-- StorageKept, plain -/
theorem storage_kept (h : (sBest ch dis cap beg en ps).2.2 = 0) :
    (sRun ch dis cap beg en ps (sBest ch dis cap beg en ps).1).2 = ((sBest ch dis cap beg en ps).2.1, 0) ∧ ((sRun ch dis cap beg en ps cs).2.2 = 0 → (sBest ch dis cap beg en ps).2.1 ≤ (sRun ch dis cap beg en ps cs).2.1) := by
  obtain ⟨hc, hk, he, e⟩ := sBest_ok h
  obtain ⟨hs, _, hp⟩ := sCheckP_ok hc
  rw [e]
  simp only
  rcases sEnd_good hc hk with ⟨a, _⟩ | ⟨_, el, _, h0, h1, h2, h3⟩
  · exact absurd he a
  rw [el]
  simp only
  have hlast : sLevel ch dis cap beg en ps ps.length = sLast ch dis cap beg en ps := by unfold sLevel; rw [Nat.sub_self]; rfl
  constructor
  · have hr := best_run hc hk he ps.length (Nat.le_refl _)
    unfold sRun
    rw [if_neg (by simpa using hc), if_neg (by simp [sCharges]), hr, hlast]
    simp only
    rw [if_neg (by simp), if_neg (by omega)]
  · intro hr
    obtain ⟨_, _, r0, r1, r2⟩ := sRun_ok hr
    obtain ⟨k1, k2, k3⟩ := run_above (cs := cs) hs hp ps.length hk r0
    rw [r2]
    simp only
    have := h3 _ k1 k2 r1
    omega
theorem storage_none (h : (sBest ch dis cap beg en ps).2.2 ≠ 0) : (sBest ch dis cap beg en ps).1 = [] ∧ (sBest ch dis cap beg en ps).2.1 = 0 ∧ ((sRun ch dis cap beg en ps cs).2.2 ≠ 0 ∨ (sBest ch dis cap beg en ps).2.2 = 2) := by
  by_cases hc : sCheckP ch dis cap beg en ps = 0
  · obtain ⟨hs, _, hp⟩ := sCheckP_ok hc
    rcases sK_good hs hp ps.length with ⟨e, _⟩ | ⟨hk, _⟩
    · have : sBest ch dis cap beg en ps = ([], 0, 2) := by unfold sBest; rw [if_neg (by simpa using hc), if_pos (by omega), e]
      rw [this]
      exact ⟨rfl, rfl, .inr rfl⟩
    · rcases sEnd_good hc hk with ⟨a, b⟩ | ⟨a, _⟩
      · have : sBest ch dis cap beg en ps = ([], 0, 8) := by unfold sBest; rw [if_neg (by simpa using hc), if_neg (by simpa using hk), if_pos a]
        rw [this]
        refine ⟨rfl, rfl, .inl fun hr => ?_⟩
        obtain ⟨_, _, r0, r1, _⟩ := sRun_ok hr
        have := run_above (cs := cs) hs hp ps.length hk r0
        omega
      · unfold sBest at h
        rw [if_neg (by simpa using hc), if_neg (by simpa using hk), if_neg (by simpa using a)] at h
        exact absurd rfl h
  · have : sBest ch dis cap beg en ps = ([], 0, sCheckP ch dis cap beg en ps) := by unfold sBest; rw [if_pos hc]
    rw [this]
    refine ⟨rfl, rfl, .inl ?_⟩
    unfold sRun
    rw [if_pos hc]
    exact hc
/-- StorageLarger, plain -/
theorem storage_larger {more : Int} (h0 : 0 ≤ more) (h : (sBest ch dis cap beg en ps).2.2 = 0) (h' : (sBest (ch + more) (dis + more) (cap + more) beg en ps).2.2 = 0) : (sBest (ch + more) (dis + more) (cap + more) beg en ps).2.1 ≤ (sBest ch dis cap beg en ps).2.1 := by
  have k := (storage_kept (cs := []) h).1
  have hr : (sRun ch dis cap beg en ps (sBest ch dis cap beg en ps).1).2.2 = 0 := by rw [k]
  obtain ⟨_, r0, r1, r2, r3⟩ := sRun_ok hr
  have hc' := (sBest_ok h').1
  have same : ∀ t, t ≤ ps.length → rK (ch + more) (dis + more) (cap + more) beg ps (sBest ch dis cap beg en ps).1 t = rK ch dis cap beg ps (sBest ch dis cap beg en ps).1 t := by
    intro t
    induction t with
    | zero => intro _; rfl
    | succ t ih =>
      intro ht
      have i := ih (by omega)
      obtain ⟨z0, z1, z2, z3, z4, z5⟩ := rK_inv (rK_stay ht r1)
      rw [z5, rK_ok (by rw [i]; exact z0) (by omega) (by omega) (by rw [i]; exact z3) (by rw [i]; omega), i]
  have hr' : (sRun (ch + more) (dis + more) (cap + more) beg en ps (sBest ch dis cap beg en ps).1).2 = ((sBest ch dis cap beg en ps).2.1, 0) := by
    rw [← k, r3]
    unfold sRun
    rw [if_neg (by simpa using hc'), if_neg (by simpa using r0), same _ (Nat.le_refl _), if_neg (by simpa using r1), if_neg (by omega)]
  have := (storage_kept (cs := (sBest ch dis cap beg en ps).1) h').2 (by rw [hr'])
  rw [hr'] at this
  exact this
theorem sValue_bad (h : (sValue ch dis cap beg en ps).2 ≠ 0) : (sValue ch dis cap beg en ps).1.2.2 = [] := by
  unfold sValue at h ⊢
  by_cases hc : sCheckP ch dis cap beg en ps = 0
  · obtain ⟨hs, _, hp⟩ := sCheckP_ok hc
    rw [if_neg (by simpa using hc)] at h ⊢
    rcases sK_good hs hp ps.length with ⟨_, e⟩ | ⟨e, _⟩
    · rw [e]
    · exact absurd e h
  · rw [if_pos hc]
/-- StorageValue, plain -/
theorem storage_value (h : (sValue ch dis cap beg en ps).2 = 0) (hr : (sRun ch dis cap beg en ps cs).2.2 = 0) (h0 : 0 < ps.length) :
    (sValue ch dis cap beg en ps).1.ok ∧ (sRun ch dis cap beg en ps cs).1.length = ps.length ∧ (sValue ch dis cap beg en ps).1.lo ≤ (sRun ch dis cap beg en ps cs).1.getD (ps.length - 1) 0 ∧ (sRun ch dis cap beg en ps cs).1.getD (ps.length - 1) 0 ≤ (sValue ch dis cap beg en ps).1.hi ∧
      (sValue ch dis cap beg en ps).1.V ((sRun ch dis cap beg en ps cs).1.getD (ps.length - 1) 0) ≤ (sRun ch dis cap beg en ps cs).2.1 := by
  obtain ⟨hc, _, r0, r1, r2⟩ := sRun_ok hr
  obtain ⟨hs, _, hp⟩ := sCheckP_ok hc
  have ev : sValue ch dis cap beg en ps = sK ch dis cap beg ps ps.length := by unfold sValue; rw [if_neg (by simpa using hc)]
  rw [ev] at h ⊢
  rcases sK_good hs hp ps.length with ⟨e, _⟩ | ⟨_, hok, _⟩
  · omega
  have el : (sRun ch dis cap beg en ps cs).1.getD (ps.length - 1) 0 = (rK ch dis cap beg ps cs ps.length).1 := by
    rw [r2]
    simp only
    rw [List.getD_eq_getElem?_getD, List.getElem?_map, List.getElem?_range (by omega)]
    show (rK ch dis cap beg ps cs (ps.length - 1 + 1)).1 = _
    rw [show ps.length - 1 + 1 = ps.length by omega]
  obtain ⟨k1, k2, k3⟩ := run_above (cs := cs) hs hp ps.length h r0
  rw [el]
  refine ⟨hok, by rw [r2]; simp, k1, k2, ?_⟩
  rw [r2]
  exact k3
end
/-- bounds of a run -/
theorem rK_bd {ch dis cap beg en : Int} {ps cs : List Int} (hs : SOk ch dis cap beg en) (hp : ∀ p ∈ ps, -1000000 ≤ p ∧ p ≤ 1000000) (k : Nat) : 0 ≤ (rK ch dis cap beg ps cs k).1 ∧ (rK ch dis cap beg ps cs k).1 ≤ 100000 ∧ -100000000000 * (k : Int) ≤ (rK ch dis cap beg ps cs k).2.1 ∧ (rK ch dis cap beg ps cs k).2.1 ≤ 100000000000 * (k : Int) := by
  have h1 := hs.hbeg
  have h2 := hs.hcap
  have h3 := hs.hch
  have h4 := hs.hdis
  induction k with
  | zero => simp [rK]; omega
  | succ k ih =>
    by_cases h0 : (rK ch dis cap beg ps cs (k + 1)).2.2 = 0
    · obtain ⟨r0, r1, r2, r3, r4, r5⟩ := rK_inv h0
      have hpk : -1000000 ≤ ps.getD k 0 ∧ ps.getD k 0 ≤ 1000000 := by
        rcases Nat.lt_or_ge k ps.length with hk | hk
        · rw [List.getD_eq_getElem?_getD, List.getElem?_eq_getElem hk]; exact hp _ (List.getElem_mem hk)
        · rw [List.getD_eq_getElem?_getD, List.getElem?_eq_none hk]; simp
      have hm : -100000000000 ≤ cs.getD k 0 * ps.getD k 0 ∧ cs.getD k 0 * ps.getD k 0 ≤ 100000000000 := by
        generalize cs.getD k 0 = c at *
        generalize ps.getD k 0 = p at *
        have k1 := Int.mul_le_mul_of_nonneg_left hpk.2 (show 0 ≤ c + 100000 by omega)
        have k2 := Int.mul_le_mul_of_nonneg_left hpk.1 (show 0 ≤ c + 100000 by omega)
        have k3 := Int.mul_le_mul_of_nonneg_left hpk.2 (show 0 ≤ 100000 - c by omega)
        have k4 := Int.mul_le_mul_of_nonneg_left hpk.1 (show 0 ≤ 100000 - c by omega)
        rw [Int.add_mul, Int.add_mul] at k1 k2
        rw [Int.sub_mul, Int.sub_mul] at k3 k4
        omega
      rw [r5]
      simp only
      omega
    · have e : rK ch dis cap beg ps cs (k + 1) = rK ch dis cap beg ps cs k ∨ (rK ch dis cap beg ps cs (k + 1)).1 = 0 ∧ (rK ch dis cap beg ps cs (k + 1)).2.1 = 0 := by
        rw [rK] at h0 ⊢
        by_cases a : (rK ch dis cap beg ps cs k).2.2 ≠ 0
        · rw [if_pos a]; exact .inl rfl
        · rw [if_neg a] at h0 ⊢
          split
          · exact .inr ⟨rfl, rfl⟩
          · split
            · exact .inr ⟨rfl, rfl⟩
            · rename_i x y; rw [if_neg x, if_neg y] at h0; exact absurd rfl h0
      rcases e with e | ⟨e1, e2⟩
      · rw [e]; omega
      · rw [e1, e2]; omega
theorem rK_stuck {ch dis cap beg : Int} {ps cs : List Int} {k m : Nat} (h : k ≤ m) (he : (rK ch dis cap beg ps cs k).2.2 ≠ 0) : rK ch dis cap beg ps cs m = rK ch dis cap beg ps cs k := by
  induction m with
  | zero => rw [show k = 0 by omega]
  | succ m ih =>
    by_cases e : k = m + 1
    · rw [e]
    · have i := ih (by omega)
      rw [rK, if_pos (by rw [i]; exact he), i]
/-- the levels of the first k periods -/
def rLevels (ch dis cap beg : Int) (ps cs : List Int) (k : Nat) : List Int := (List.range k).map fun j => (rK ch dis cap beg ps cs (j + 1)).1
theorem rLevels_succ (ch dis cap beg : Int) (ps cs : List Int) (k : Nat) : rLevels ch dis cap beg ps cs (k + 1) = rLevels ch dis cap beg ps cs k ++ [(rK ch dis cap beg ps cs (k + 1)).1] := by
  unfold rLevels
  rw [List.range_succ, List.map_append]
  rfl
theorem rLevels_len (ch dis cap beg : Int) (ps cs : List Int) (k : Nat) : (rLevels ch dis cap beg ps cs k).length = k := by simp [rLevels]
theorem sRun_err {ch dis cap beg en e : Int} {ps cs : List Int} {k : Nat} (hc : sCheckP ch dis cap beg en ps = 0) (hl : cs.length = ps.length) (hk : k ≤ ps.length) (he : (rK ch dis cap beg ps cs k).2.2 = e) (h0 : e ≠ 0) : sRun ch dis cap beg en ps cs = ([], 0, e) := by
  have : rK ch dis cap beg ps cs ps.length = rK ch dis cap beg ps cs k := rK_stuck hk (by rw [he]; exact h0)
  unfold sRun
  rw [if_neg (by simpa using hc), if_neg (by simpa using hl), this, he, if_pos h0]
theorem mulP_small {c p : Int} (c0 : -100000 ≤ c) (c1 : c ≤ 100000) (p0 : -1000000 ≤ p) (p1 : p ≤ 1000000) : -100000000000 ≤ c * p ∧ c * p ≤ 100000000000 := by
  have k1 := Int.mul_le_mul_of_nonneg_left p1 (show 0 ≤ c + 100000 by omega)
  have k2 := Int.mul_le_mul_of_nonneg_left p0 (show 0 ≤ c + 100000 by omega)
  have k3 := Int.mul_le_mul_of_nonneg_left p1 (show 0 ≤ 100000 - c by omega)
  have k4 := Int.mul_le_mul_of_nonneg_left p0 (show 0 ≤ 100000 - c by omega)
  rw [Int.add_mul, Int.add_mul] at k1 k2
  rw [Int.sub_mul, Int.sub_mul] at k3 k4
  omega
end Go.Proofs.Ytchafkocobbndaa.Pl
namespace Go.Proofs.Ytchafkocobbndaa.Pl
theorem cConv_is {lo1 va1 lo2 va2 : Int} {ps qs : List (Int × Int)} (L : List (Int × Int)) (h1 : ccheck lo1 va1 ps = 0) (h2 : ccheck lo2 va2 qs = 0) (hp : L.Perm (ps ++ qs)) (hs : Sorted2 L) : cConv lo1 va1 ps lo2 va2 qs = cMade (lo1 + lo2) (va1 + va2) L := (cConv_of h1 h2 hp hs).symm
theorem sValue_ex : sValue 2 0 5 0 0 [4] = ((0, 0, [(2, 4)]), 0) := by
  have e : cConv 0 0 [] (-0) (-0 * 4) (sline (-0) 2 4) = ((0, 0, [(2, 4)]), 0) := (cConv_is [(2, 4)] rfl rfl (List.Perm.refl _) (List.pairwise_singleton _ _)).trans rfl
  have s0 : sK 2 0 5 0 [4] 1 = ((0, 0, [(2, 4)]), 0) := by
    show stStep 2 0 5 (0, 0, []) 4 = _
    unfold stStep
    simp only
    rw [e]
    rfl
  show (if sCheckP 2 0 5 0 0 [4] ≠ 0 then _ else sK 2 0 5 0 [4] 1) = _
  rw [s0]
  rfl
theorem sRun_ex : sRun 1 0 1 0 0 [4] [1] = ([1], 4, 0) := by rfl
theorem sBest_ex : sBest 10 10 10 0 0 [2, 5] = ([10, -10], -30, 0) := by
  have e1 : cConv 0 0 [] (-10) (-10 * 2) (sline (-10) 10 2) = ((-10, -20, [(20, 2)]), 0) := (cConv_is [(20, 2)] rfl rfl (List.Perm.refl _) (List.pairwise_singleton _ _)).trans rfl
  have s1 : sK 10 10 10 0 [2, 5] 1 = ((0, 0, [(10, 2)]), 0) := by
    show stStep 10 10 10 (0, 0, []) 2 = _
    unfold stStep
    simp only
    rw [e1]
    rfl
  have e2 : cConv 0 0 [(10, 2)] (-10) (-10 * 5) (sline (-10) 10 5) = ((-10, -50, [(10, 2), (20, 5)]), 0) := (cConv_is [(10, 2), (20, 5)] rfl rfl (List.Perm.refl _) (by unfold Sorted2; simp)).trans rfl
  have s2 : sK 10 10 10 0 [2, 5] 2 = ((0, -30, [(10, 5)]), 0) := by
    show (if (sK 10 10 10 0 [2, 5] 1).2 ≠ 0 then _ else stStep 10 10 10 (sK 10 10 10 0 [2, 5] 1).1 5) = _
    rw [s1]
    show stStep 10 10 10 (0, 0, [(10, 2)]) 5 = _
    unfold stStep
    simp only
    rw [e2]
    rfl
  have s2' : sK 10 10 10 0 [2, 5] ([2, 5] : List Int).length = ((0, -30, [(10, 5)]), 0) := s2
  have hE : sEnd 10 10 10 0 0 [2, 5] = ((0, -30, [(10, 5)]), 0) := by unfold sEnd; rw [s2']; rfl
  have hL : sLast 10 10 10 0 0 [2, 5] = 0 := by unfold sLast; rw [hE]; rfl
  have l2 : sLevel 10 10 10 0 0 [2, 5] 2 = 0 := by unfold sLevel; rw [hL]; rfl
  have l1 : sLevel 10 10 10 0 0 [2, 5] 1 = 10 := by
    unfold sLevel
    rw [hL]
    show sprev 10 10 (sK 10 10 10 0 [2, 5] 1).1 5 0 = 10
    rw [s1]
    rfl
  have l0 : sLevel 10 10 10 0 0 [2, 5] 0 = 0 := by
    unfold sLevel
    rw [hL]
    show sprev 10 10 (0, 0, []) 2 (sprev 10 10 (sK 10 10 10 0 [2, 5] 1).1 5 0) = 0
    rw [s1]
    rfl
  have hC : sCharges 10 10 10 0 0 [2, 5] = [10, -10] := by
    show [sLevel 10 10 10 0 0 [2, 5] 1 - sLevel 10 10 10 0 0 [2, 5] 0, sLevel 10 10 10 0 0 [2, 5] 2 - sLevel 10 10 10 0 0 [2, 5] 1] = _
    rw [l0, l1, l2]
    rfl
  unfold sBest
  rw [s2', hE, hC]
  rfl
/-- what is left behind the pieces -/
theorem vacc_left {ps : List (Int × Int)} (h : ∀ p ∈ ps, 1 ≤ p.1) (va x : Int) (hx : 0 ≤ x) : (vacc va x ps).2 = x - min x (total ps) := by
  induction ps using snocInd with
  | h0 => simp [vacc, total]; omega
  | h1 ps p ih =>
    have hp := h p (by simp)
    have i := ih fun q hq => h q (by simp [hq])
    have t := total_pos fun q hq => h q (List.mem_append_left [p] hq)
    rw [vacc_snoc, total_snoc]
    simp only [cstep]
    rw [i]
    omega
theorem sLevel_step {ch dis cap beg en : Int} {ps : List Int} {j : Nat} (hj : j < ps.length) : sLevel ch dis cap beg en ps j = sprev ch dis (sK ch dis cap beg ps j).1 (ps.getD j 0) (sLevel ch dis cap beg en ps (j + 1)) := by
  unfold sLevel
  rw [show ps.length - j = (ps.length - (j + 1)) + 1 by omega, sX, show ps.length - (ps.length - (j + 1) + 1) = j by omega]
theorem sLevel_last {ch dis cap beg en : Int} {ps : List Int} : sLevel ch dis cap beg en ps ps.length = sLast ch dis cap beg en ps := by
  unfold sLevel
  rw [Nat.sub_self]
  rfl
/-- the charges that are known when k periods are left -/
def sPart (ch dis cap beg en : Int) (ps : List Int) (k : Nat) : List Int := (List.range ps.length).map fun t => if t < k then 0 else sLevel ch dis cap beg en ps (t + 1) - sLevel ch dis cap beg en ps t
theorem sPart_len (ch dis cap beg en : Int) (ps : List Int) (k : Nat) : (sPart ch dis cap beg en ps k).length = ps.length := by simp [sPart]
theorem sPart_zero (ch dis cap beg en : Int) (ps : List Int) : sPart ch dis cap beg en ps 0 = sCharges ch dis cap beg en ps := by simp [sPart, sCharges]
theorem sPart_all (ch dis cap beg en : Int) (ps : List Int) : sPart ch dis cap beg en ps ps.length = List.replicate ps.length 0 := by
  unfold sPart
  refine List.ext_getElem (by simp) fun i h1 h2 => ?_
  have hi : i < ps.length := by simpa using h1
  simp [hi]
theorem sPart_set {ch dis cap beg en : Int} {ps : List Int} {j : Nat} : (sPart ch dis cap beg en ps (j + 1)).set j (sLevel ch dis cap beg en ps (j + 1) - sLevel ch dis cap beg en ps j) = sPart ch dis cap beg en ps j := by
  unfold sPart
  refine List.ext_getElem (by simp) fun i h1 h2 => ?_
  rw [List.getElem_set]
  by_cases hij : j = i
  · subst hij
    simp
  · rw [if_neg hij]
    simp only [List.getElem_map, List.getElem_range]
    by_cases hlt : i < j
    · rw [if_pos (by omega), if_pos hlt]
    · rw [if_neg (by omega), if_neg hlt]
end Go.Proofs.Ytchafkocobbndaa.Pl
