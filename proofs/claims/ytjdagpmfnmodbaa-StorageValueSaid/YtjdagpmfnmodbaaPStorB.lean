/- storage.Check, Value, Best and Run, plain; the laws StorageKept, StorageValue, StorageLarger. No program. -/
import Derived.Test.YtjdagpmfnmodbaaPStor
namespace Go.Proofs.Ytjdagpmfnmodbaa.Pl
def sout (n hi : Int) : Bool := decide (n < 0) || decide (hi < n)
theorem sout_false {n hi : Int} : sout n hi = false ↔ 0 ≤ n ∧ n ≤ hi := by unfold sout; simp
/-- storage.Check -/
def sCheck (ch dis cap beg en : Int) : Int := if (sout ch 100000 || sout dis 100000 || sout cap 100000 || sout beg cap || sout en cap) = true then 4 else 0
def badPr (p : Int) : Bool := decide (p < -1000000) || decide (1000000 < p)
/-- storage.check -/
def sCheckP (ch dis cap beg en : Int) (ps : List Int) : Int := if sCheck ch dis cap beg en ≠ 0 then sCheck ch dis cap beg en else if 24 < ps.length then 2 else if has badPr ps = true then 4 else 0
theorem sCheck_ok {ch dis cap beg en : Int} (h : sCheck ch dis cap beg en = 0) : SOk ch dis cap beg en := by
  unfold sCheck at h
  cases e : (sout ch 100000 || sout dis 100000 || sout cap 100000 || sout beg cap || sout en cap)
  · simp only [Bool.or_eq_false_iff, sout_false] at e
    obtain ⟨⟨⟨⟨e1, e2⟩, e3⟩, e4⟩, e5⟩ := e
    exact ⟨e1, e2, e3, e4, e5⟩
  · rw [e, if_pos rfl] at h; cases h
theorem sCheckP_ok {ch dis cap beg en : Int} {ps : List Int} (h : sCheckP ch dis cap beg en ps = 0) : SOk ch dis cap beg en ∧ ps.length ≤ 24 ∧ ∀ p ∈ ps, -1000000 ≤ p ∧ p ≤ 1000000 := by
  unfold sCheckP at h
  by_cases h1 : sCheck ch dis cap beg en = 0
  · rw [if_neg (by simpa using h1)] at h
    by_cases h2 : 24 < ps.length
    · rw [if_pos h2] at h; cases h
    · rw [if_neg h2] at h
      cases h3 : has badPr ps
      · refine ⟨sCheck_ok h1, by omega, fun p hp => ?_⟩
        unfold has at h3
        rw [List.any_eq_false] at h3
        have := h3 p hp
        unfold badPr at this
        simp at this
        omega
      · rw [h3, if_pos rfl] at h; cases h
  · rw [if_pos h1] at h; exact absurd h h1
section
variable (ch dis cap beg en : Int) (ps cs : List Int)
/-- storage.Value -/
def sValue : Cx × Int := if sCheckP ch dis cap beg en ps ≠ 0 then ((0, 0, []), sCheckP ch dis cap beg en ps) else sK ch dis cap beg ps ps.length
/-- the function of the permitted ends, and its least place -/
def sEnd : Cx × Int := cRestrict (sK ch dis cap beg ps ps.length).1.1 (sK ch dis cap beg ps ps.length).1.2.1 (sK ch dis cap beg ps ps.length).1.2.2 en cap
def sLast : Int := (cLeast (sEnd ch dis cap beg en ps).1.1 (sEnd ch dis cap beg en ps).1.2.1 (sEnd ch dis cap beg en ps).1.2.2).1
def sLevel (t : Nat) : Int := sX ch dis cap beg ps ps.length (sLast ch dis cap beg en ps) (ps.length - t)
def sCharges : List Int := (List.range ps.length).map fun t => sLevel ch dis cap beg en ps (t + 1) - sLevel ch dis cap beg en ps t
/-- storage.Best -/
def sBest : List Int × Int × Int := if sCheckP ch dis cap beg en ps ≠ 0 then ([], 0, sCheckP ch dis cap beg en ps) else if (sK ch dis cap beg ps ps.length).2 ≠ 0 then ([], 0, (sK ch dis cap beg ps ps.length).2)
  else if (sEnd ch dis cap beg en ps).2 ≠ 0 then ([], 0, 8)
  else (sCharges ch dis cap beg en ps, (cLeast (sEnd ch dis cap beg en ps).1.1 (sEnd ch dis cap beg en ps).1.2.1 (sEnd ch dis cap beg en ps).1.2.2).2.1, 0)
/-- storage.Run -/
def sRun : List Int × Int × Int := if sCheckP ch dis cap beg en ps ≠ 0 then ([], 0, sCheckP ch dis cap beg en ps) else if cs.length ≠ ps.length then ([], 0, 3)
  else if (rK ch dis cap beg ps cs ps.length).2.2 ≠ 0 then ([], 0, (rK ch dis cap beg ps cs ps.length).2.2) else if (rK ch dis cap beg ps cs ps.length).1 < en then ([], 0, 14)
  else ((List.range ps.length).map fun k => (rK ch dis cap beg ps cs (k + 1)).1, (rK ch dis cap beg ps cs ps.length).2.1, 0)
end
section
variable {ch dis cap beg en : Int} {ps cs : List Int}
theorem sRun_ok (h : (sRun ch dis cap beg en ps cs).2.2 = 0) : sCheckP ch dis cap beg en ps = 0 ∧ cs.length = ps.length ∧ (rK ch dis cap beg ps cs ps.length).2.2 = 0 ∧ en ≤ (rK ch dis cap beg ps cs ps.length).1 ∧
    sRun ch dis cap beg en ps cs = ((List.range ps.length).map fun k => (rK ch dis cap beg ps cs (k + 1)).1, (rK ch dis cap beg ps cs ps.length).2.1, 0) := by
  unfold sRun at h ⊢
  by_cases h1 : sCheckP ch dis cap beg en ps = 0
  · rw [if_neg (by simpa using h1)] at h ⊢
    by_cases h2 : cs.length = ps.length
    · rw [if_neg (by simpa using h2)] at h ⊢
      by_cases h3 : (rK ch dis cap beg ps cs ps.length).2.2 = 0
      · rw [if_neg (by simpa using h3)] at h ⊢
        by_cases h4 : (rK ch dis cap beg ps cs ps.length).1 < en
        · rw [if_pos h4] at h; cases h
        · rw [if_neg h4]
          exact ⟨h1, h2, h3, by omega, rfl⟩
      · rw [if_pos h3] at h; exact absurd h h3
    · rw [if_pos h2] at h; cases h
  · rw [if_pos h1] at h; exact absurd h h1
theorem sBest_ok (h : (sBest ch dis cap beg en ps).2.2 = 0) : sCheckP ch dis cap beg en ps = 0 ∧ (sK ch dis cap beg ps ps.length).2 = 0 ∧ (sEnd ch dis cap beg en ps).2 = 0 ∧
    sBest ch dis cap beg en ps = (sCharges ch dis cap beg en ps, (cLeast (sEnd ch dis cap beg en ps).1.1 (sEnd ch dis cap beg en ps).1.2.1 (sEnd ch dis cap beg en ps).1.2.2).2.1, 0) := by
  unfold sBest at h ⊢
  by_cases h1 : sCheckP ch dis cap beg en ps = 0
  · rw [if_neg (by simpa using h1)] at h ⊢
    by_cases h2 : (sK ch dis cap beg ps ps.length).2 = 0
    · rw [if_neg (by simpa using h2)] at h ⊢
      by_cases h3 : (sEnd ch dis cap beg en ps).2 = 0
      · rw [if_neg (by simpa using h3)]
        exact ⟨h1, h2, h3, rfl⟩
      · rw [if_pos h3] at h; cases h
    · rw [if_pos h2] at h; exact absurd h h2
  · rw [if_pos h1] at h; exact absurd h h1
/-- the permitted ends: where they are, and that there are some unless no level reaches the end -/
theorem sEnd_good (hc : sCheckP ch dis cap beg en ps = 0) (hk : (sK ch dis cap beg ps ps.length).2 = 0) :
    ((sEnd ch dis cap beg en ps).2 ≠ 0 ∧ (sK ch dis cap beg ps ps.length).1.hi < en) ∨
    ((sEnd ch dis cap beg en ps).2 = 0 ∧ (cLeast (sEnd ch dis cap beg en ps).1.1 (sEnd ch dis cap beg en ps).1.2.1 (sEnd ch dis cap beg en ps).1.2.2) = (sLast ch dis cap beg en ps, (sK ch dis cap beg ps ps.length).1.V (sLast ch dis cap beg en ps), 0) ∧
      ccheck (sEnd ch dis cap beg en ps).1.1 (sEnd ch dis cap beg en ps).1.2.1 (sEnd ch dis cap beg en ps).1.2.2 = 0 ∧
      (sK ch dis cap beg ps ps.length).1.lo ≤ sLast ch dis cap beg en ps ∧ sLast ch dis cap beg en ps ≤ (sK ch dis cap beg ps ps.length).1.hi ∧ en ≤ sLast ch dis cap beg en ps ∧
      ∀ x, (sK ch dis cap beg ps ps.length).1.lo ≤ x → x ≤ (sK ch dis cap beg ps ps.length).1.hi → en ≤ x → (sK ch dis cap beg ps ps.length).1.V (sLast ch dis cap beg en ps) ≤ (sK ch dis cap beg ps ps.length).1.V x) := by
  obtain ⟨hs, _, hp⟩ := sCheckP_ok hc
  have hen := hs.hen
  rcases sK_good hs hp ps.length with ⟨e, _⟩ | ⟨_, hok, f0, f1, f2⟩
  · omega
  unfold sLast sEnd
  generalize (sK ch dis cap beg ps ps.length).1 = f at *
  obtain ⟨lo, va, st⟩ := f
  simp only [Cx.lo, Cx.hi, Cx.V, Cx.ok] at *
  by_cases h0 : max lo en ≤ min (chigh lo st) cap
  · right
    obtain ⟨R, e, c, hh, hv⟩ := restrict_good hok h0
    rw [e]
    simp only
    have g := (ccheck_ok c).1
    have hb := lowR_bd (s := 0) g.long
    have e1 : chigh (max lo en) R = max lo en + total R := rfl
    have el : cLeast (max lo en) (cvat lo va st (max lo en)) R = (max lo en + lowR 0 R, cvat (max lo en) (cvat lo va st (max lo en)) R (max lo en + lowR 0 R), 0) := by unfold cLeast; rw [if_neg (by simpa using c)]
    rw [el]
    simp only
    refine ⟨trivial, by rw [hv _ (by omega) (by omega)], c, by omega, by omega, by omega, fun x x0 x1 x2 => ?_⟩
    rw [← hv _ (by omega) (by omega), ← hv x (by omega) (by omega)]
    have := (low_least g.long g.up (x - max lo en) (by omega)).1
    unfold cvat
    rw [show max lo en + lowR 0 R - max lo en = lowR 0 R by omega]
    omega
  · left
    unfold cRestrict
    rw [if_neg (by simpa using hok), if_pos (by omega)]
    exact ⟨by simp, by omega⟩
theorem sX_levels (hc : sCheckP ch dis cap beg en ps = 0) (hk : (sK ch dis cap beg ps ps.length).2 = 0) (he : (sEnd ch dis cap beg en ps).2 = 0) (t : Nat) (ht : t ≤ ps.length) :
    (sK ch dis cap beg ps t).1.lo ≤ sLevel ch dis cap beg en ps t ∧ sLevel ch dis cap beg en ps t ≤ (sK ch dis cap beg ps t).1.hi := by
  obtain ⟨hs, _, hp⟩ := sCheckP_ok hc
  rcases sEnd_good hc hk with ⟨a, _⟩ | ⟨_, _, _, h0, h1, _, _⟩
  · exact absurd he a
  · have := sX_ok hs hp hk h0 h1 (ps.length - t) (by omega)
    rw [show ps.length - (ps.length - t) = t by omega] at this
    exact ⟨this.1, this.2.1⟩
theorem charges_at {t : Nat} (ht : t < ps.length) : (sCharges ch dis cap beg en ps).getD t 0 = sLevel ch dis cap beg en ps (t + 1) - sLevel ch dis cap beg en ps t := by
  unfold sCharges
  rw [List.getD_eq_getElem?_getD, List.getElem?_map, List.getElem?_range ht]
  rfl
/-- the run of the best charges -/
theorem best_run (hc : sCheckP ch dis cap beg en ps = 0) (hk : (sK ch dis cap beg ps ps.length).2 = 0) (he : (sEnd ch dis cap beg en ps).2 = 0) (t : Nat) (ht : t ≤ ps.length) :
    rK ch dis cap beg ps (sCharges ch dis cap beg en ps) t = (sLevel ch dis cap beg en ps t, (sK ch dis cap beg ps t).1.V (sLevel ch dis cap beg en ps t), 0) := by
  obtain ⟨hs, _, hp⟩ := sCheckP_ok hc
  rcases sEnd_good hc hk with ⟨a, _⟩ | ⟨_, _, _, h0, h1, _, _⟩
  · exact absurd he a
  induction t with
  | zero =>
    have := sX_levels hc hk he 0 (by omega)
    simp [sK, Cx.lo, Cx.hi, chigh, total] at this
    have e : sLevel ch dis cap beg en ps 0 = beg := by omega
    rw [e]
    simp [rK, sK, Cx.V, cvat, costR]
  | succ t ih =>
    have i := ih (by omega)
    obtain ⟨_, _, hstep⟩ := sX_ok hs hp hk h0 h1 ps.length (Nat.le_refl _)
    obtain ⟨s1, s2, s3⟩ := hstep (ps.length - (t + 1)) (by omega)
    have hlv := sX_levels hc hk he (t + 1) ht
    have hb : 0 ≤ (sK ch dis cap beg ps (t + 1)).1.lo ∧ (sK ch dis cap beg ps (t + 1)).1.hi ≤ cap := by
      rcases sK_good hs hp (t + 1) with ⟨e, _⟩ | ⟨_, _, f0, _, f2⟩
      · have := sK_stay (k := t + 1) ht hk; omega
      · exact ⟨f0, f2⟩
    rw [show ps.length - (t + 1) + 1 = ps.length - t by omega] at s1 s2 s3
    rw [show ps.length - (ps.length - (t + 1)) = t + 1 by omega, show ps.length - (ps.length - t) = t by omega] at s3
    have e1 : sX ch dis cap beg ps ps.length (sLast ch dis cap beg en ps) (ps.length - (t + 1)) = sLevel ch dis cap beg en ps (t + 1) := rfl
    have e2 : sX ch dis cap beg ps ps.length (sLast ch dis cap beg en ps) (ps.length - t) = sLevel ch dis cap beg en ps t := rfl
    rw [e1, e2] at s1 s2 s3
    have hat := charges_at (ch := ch) (dis := dis) (cap := cap) (beg := beg) (en := en) (ps := ps) (t := t) (by omega)
    rw [rK_ok (by rw [i]) (by rw [hat]; exact s1) (by rw [hat]; exact s2) (by rw [i, hat]; simp only; omega) (by rw [i, hat]; simp only; omega), i, hat]
    simp only
    rw [s3]
    refine Prod.ext (by simp only; omega) (by rfl)
/-- StorageKept, plain -/
theorem storage_kept (h : (sBest ch dis cap beg en ps).2.2 = 0) :
    (sRun ch dis cap beg en ps (sBest ch dis cap beg en ps).1).2 = ((sBest ch dis cap beg en ps).2.1, 0) ∧ ((sRun ch dis cap beg en ps cs).2.2 = 0 → (sBest ch dis cap beg en ps).2.1 ≤ (sRun ch dis cap beg en ps cs).2.1) := by
  obtain ⟨hc, hk, he, e⟩ := sBest_ok h
  obtain ⟨hs, _, hp⟩ := sCheckP_ok hc
  rw [e]
  simp only
  rcases sEnd_good hc hk with ⟨a, _⟩ | ⟨_, el, _, h0, h1, h2, h3⟩
  · exact absurd he a
  rw [el]
  simp only
  have hlast : sLevel ch dis cap beg en ps ps.length = sLast ch dis cap beg en ps := by unfold sLevel; rw [Nat.sub_self]; rfl
  constructor
  · have hr := best_run hc hk he ps.length (Nat.le_refl _)
    unfold sRun
    rw [if_neg (by simpa using hc), if_neg (by simp [sCharges]), hr, hlast]
    simp only
    rw [if_neg (by simp), if_neg (by omega)]
  · intro hr
    obtain ⟨_, _, r0, r1, r2⟩ := sRun_ok hr
    obtain ⟨k1, k2, k3⟩ := run_above (cs := cs) hs hp ps.length hk r0
    rw [r2]
    simp only
    have := h3 _ k1 k2 r1
    omega
theorem storage_none (h : (sBest ch dis cap beg en ps).2.2 ≠ 0) : (sBest ch dis cap beg en ps).1 = [] ∧ (sBest ch dis cap beg en ps).2.1 = 0 ∧ ((sRun ch dis cap beg en ps cs).2.2 ≠ 0 ∨ (sBest ch dis cap beg en ps).2.2 = 2) := by
  by_cases hc : sCheckP ch dis cap beg en ps = 0
  · obtain ⟨hs, _, hp⟩ := sCheckP_ok hc
    rcases sK_good hs hp ps.length with ⟨e, _⟩ | ⟨hk, _⟩
    · have : sBest ch dis cap beg en ps = ([], 0, 2) := by unfold sBest; rw [if_neg (by simpa using hc), if_pos (by omega), e]
      rw [this]
      exact ⟨rfl, rfl, .inr rfl⟩
    · rcases sEnd_good hc hk with ⟨a, b⟩ | ⟨a, _⟩
      · have : sBest ch dis cap beg en ps = ([], 0, 8) := by unfold sBest; rw [if_neg (by simpa using hc), if_neg (by simpa using hk), if_pos a]
        rw [this]
        refine ⟨rfl, rfl, .inl fun hr => ?_⟩
        obtain ⟨_, _, r0, r1, _⟩ := sRun_ok hr
        have := run_above (cs := cs) hs hp ps.length hk r0
        omega
      · unfold sBest at h
        rw [if_neg (by simpa using hc), if_neg (by simpa using hk), if_neg (by simpa using a)] at h
        exact absurd rfl h
  · have : sBest ch dis cap beg en ps = ([], 0, sCheckP ch dis cap beg en ps) := by unfold sBest; rw [if_pos hc]
    rw [this]
    refine ⟨rfl, rfl, .inl ?_⟩
    unfold sRun
    rw [if_pos hc]
    exact hc
/-- StorageLarger, plain -/
theorem storage_larger {more : Int} (h0 : 0 ≤ more) (h : (sBest ch dis cap beg en ps).2.2 = 0) (h' : (sBest (ch + more) (dis + more) (cap + more) beg en ps).2.2 = 0) : (sBest (ch + more) (dis + more) (cap + more) beg en ps).2.1 ≤ (sBest ch dis cap beg en ps).2.1 := by
  have k := (storage_kept (cs := []) h).1
  have hr : (sRun ch dis cap beg en ps (sBest ch dis cap beg en ps).1).2.2 = 0 := by rw [k]
  obtain ⟨_, r0, r1, r2, r3⟩ := sRun_ok hr
  have hc' := (sBest_ok h').1
  have same : ∀ t, t ≤ ps.length → rK (ch + more) (dis + more) (cap + more) beg ps (sBest ch dis cap beg en ps).1 t = rK ch dis cap beg ps (sBest ch dis cap beg en ps).1 t := by
    intro t
    induction t with
    | zero => intro _; rfl
    | succ t ih =>
      intro ht
      have i := ih (by omega)
      obtain ⟨z0, z1, z2, z3, z4, z5⟩ := rK_inv (rK_stay ht r1)
      rw [z5, rK_ok (by rw [i]; exact z0) (by omega) (by omega) (by rw [i]; exact z3) (by rw [i]; omega), i]
  have hr' : (sRun (ch + more) (dis + more) (cap + more) beg en ps (sBest ch dis cap beg en ps).1).2 = ((sBest ch dis cap beg en ps).2.1, 0) := by
    rw [← k, r3]
    unfold sRun
    rw [if_neg (by simpa using hc'), if_neg (by simpa using r0), same _ (Nat.le_refl _), if_neg (by simpa using r1), if_neg (by omega)]
  have := (storage_kept (cs := (sBest ch dis cap beg en ps).1) h').2 (by rw [hr'])
  rw [hr'] at this
  exact this
theorem sValue_bad (h : (sValue ch dis cap beg en ps).2 ≠ 0) : (sValue ch dis cap beg en ps).1.2.2 = [] := by
  unfold sValue at h ⊢
  by_cases hc : sCheckP ch dis cap beg en ps = 0
  · obtain ⟨hs, _, hp⟩ := sCheckP_ok hc
    rw [if_neg (by simpa using hc)] at h ⊢
    rcases sK_good hs hp ps.length with ⟨_, e⟩ | ⟨e, _⟩
    · rw [e]
    · exact absurd e h
  · rw [if_pos hc]
/-- StorageValue, plain -/
theorem storage_value (h : (sValue ch dis cap beg en ps).2 = 0) (hr : (sRun ch dis cap beg en ps cs).2.2 = 0) (h0 : 0 < ps.length) :
    (sValue ch dis cap beg en ps).1.ok ∧ (sRun ch dis cap beg en ps cs).1.length = ps.length ∧ (sValue ch dis cap beg en ps).1.lo ≤ (sRun ch dis cap beg en ps cs).1.getD (ps.length - 1) 0 ∧ (sRun ch dis cap beg en ps cs).1.getD (ps.length - 1) 0 ≤ (sValue ch dis cap beg en ps).1.hi ∧
      (sValue ch dis cap beg en ps).1.V ((sRun ch dis cap beg en ps cs).1.getD (ps.length - 1) 0) ≤ (sRun ch dis cap beg en ps cs).2.1 := by
  obtain ⟨hc, _, r0, r1, r2⟩ := sRun_ok hr
  obtain ⟨hs, _, hp⟩ := sCheckP_ok hc
  have ev : sValue ch dis cap beg en ps = sK ch dis cap beg ps ps.length := by unfold sValue; rw [if_neg (by simpa using hc)]
  rw [ev] at h ⊢
  rcases sK_good hs hp ps.length with ⟨e, _⟩ | ⟨_, hok, _⟩
  · omega
  have el : (sRun ch dis cap beg en ps cs).1.getD (ps.length - 1) 0 = (rK ch dis cap beg ps cs ps.length).1 := by
    rw [r2]
    simp only
    rw [List.getD_eq_getElem?_getD, List.getElem?_map, List.getElem?_range (by omega)]
    show (rK ch dis cap beg ps cs (ps.length - 1 + 1)).1 = _
    rw [show ps.length - 1 + 1 = ps.length by omega]
  obtain ⟨k1, k2, k3⟩ := run_above (cs := cs) hs hp ps.length h r0
  rw [el]
  refine ⟨hok, by rw [r2]; simp, k1, k2, ?_⟩
  rw [r2]
  exact k3
end
/-- bounds of a run -/
theorem rK_bd {ch dis cap beg en : Int} {ps cs : List Int} (hs : SOk ch dis cap beg en) (hp : ∀ p ∈ ps, -1000000 ≤ p ∧ p ≤ 1000000) (k : Nat) : 0 ≤ (rK ch dis cap beg ps cs k).1 ∧ (rK ch dis cap beg ps cs k).1 ≤ 100000 ∧ -100000000000 * (k : Int) ≤ (rK ch dis cap beg ps cs k).2.1 ∧ (rK ch dis cap beg ps cs k).2.1 ≤ 100000000000 * (k : Int) := by
  have h1 := hs.hbeg
  have h2 := hs.hcap
  have h3 := hs.hch
  have h4 := hs.hdis
  induction k with
  | zero => simp [rK]; omega
  | succ k ih =>
    by_cases h0 : (rK ch dis cap beg ps cs (k + 1)).2.2 = 0
    · obtain ⟨r0, r1, r2, r3, r4, r5⟩ := rK_inv h0
      have hpk : -1000000 ≤ ps.getD k 0 ∧ ps.getD k 0 ≤ 1000000 := by
        rcases Nat.lt_or_ge k ps.length with hk | hk
        · rw [List.getD_eq_getElem?_getD, List.getElem?_eq_getElem hk]; exact hp _ (List.getElem_mem hk)
        · rw [List.getD_eq_getElem?_getD, List.getElem?_eq_none hk]; simp
      have hm : -100000000000 ≤ cs.getD k 0 * ps.getD k 0 ∧ cs.getD k 0 * ps.getD k 0 ≤ 100000000000 := by
        generalize cs.getD k 0 = c at *
        generalize ps.getD k 0 = p at *
        have k1 := Int.mul_le_mul_of_nonneg_left hpk.2 (show 0 ≤ c + 100000 by omega)
        have k2 := Int.mul_le_mul_of_nonneg_left hpk.1 (show 0 ≤ c + 100000 by omega)
        have k3 := Int.mul_le_mul_of_nonneg_left hpk.2 (show 0 ≤ 100000 - c by omega)
        have k4 := Int.mul_le_mul_of_nonneg_left hpk.1 (show 0 ≤ 100000 - c by omega)
        rw [Int.add_mul, Int.add_mul] at k1 k2
        rw [Int.sub_mul, Int.sub_mul] at k3 k4
        omega
      rw [r5]
      simp only
      omega
    · have e : rK ch dis cap beg ps cs (k + 1) = rK ch dis cap beg ps cs k ∨ (rK ch dis cap beg ps cs (k + 1)).1 = 0 ∧ (rK ch dis cap beg ps cs (k + 1)).2.1 = 0 := by
        rw [rK] at h0 ⊢
        by_cases a : (rK ch dis cap beg ps cs k).2.2 ≠ 0
        · rw [if_pos a]; exact .inl rfl
        · rw [if_neg a] at h0 ⊢
          split
          · exact .inr ⟨rfl, rfl⟩
          · split
            · exact .inr ⟨rfl, rfl⟩
            · rename_i x y; rw [if_neg x, if_neg y] at h0; exact absurd rfl h0
      rcases e with e | ⟨e1, e2⟩
      · rw [e]; omega
      · rw [e1, e2]; omega
theorem rK_stuck {ch dis cap beg : Int} {ps cs : List Int} {k m : Nat} (h : k ≤ m) (he : (rK ch dis cap beg ps cs k).2.2 ≠ 0) : rK ch dis cap beg ps cs m = rK ch dis cap beg ps cs k := by
  induction m with
  | zero => rw [show k = 0 by omega]
  | succ m ih =>
    by_cases e : k = m + 1
    · rw [e]
    · have i := ih (by omega)
      rw [rK, if_pos (by rw [i]; exact he), i]
/-- the levels of the first k periods -/
def rLevels (ch dis cap beg : Int) (ps cs : List Int) (k : Nat) : List Int := (List.range k).map fun j => (rK ch dis cap beg ps cs (j + 1)).1
theorem rLevels_succ (ch dis cap beg : Int) (ps cs : List Int) (k : Nat) : rLevels ch dis cap beg ps cs (k + 1) = rLevels ch dis cap beg ps cs k ++ [(rK ch dis cap beg ps cs (k + 1)).1] := by
  unfold rLevels
  rw [List.range_succ, List.map_append]
  rfl
theorem rLevels_len (ch dis cap beg : Int) (ps cs : List Int) (k : Nat) : (rLevels ch dis cap beg ps cs k).length = k := by simp [rLevels]
theorem sRun_err {ch dis cap beg en e : Int} {ps cs : List Int} {k : Nat} (hc : sCheckP ch dis cap beg en ps = 0) (hl : cs.length = ps.length) (hk : k ≤ ps.length) (he : (rK ch dis cap beg ps cs k).2.2 = e) (h0 : e ≠ 0) : sRun ch dis cap beg en ps cs = ([], 0, e) := by
  have : rK ch dis cap beg ps cs ps.length = rK ch dis cap beg ps cs k := rK_stuck hk (by rw [he]; exact h0)
  unfold sRun
  rw [if_neg (by simpa using hc), if_neg (by simpa using hl), this, he, if_pos h0]
theorem mulP_small {c p : Int} (c0 : -100000 ≤ c) (c1 : c ≤ 100000) (p0 : -1000000 ≤ p) (p1 : p ≤ 1000000) : -100000000000 ≤ c * p ∧ c * p ≤ 100000000000 := by
  have k1 := Int.mul_le_mul_of_nonneg_left p1 (show 0 ≤ c + 100000 by omega)
  have k2 := Int.mul_le_mul_of_nonneg_left p0 (show 0 ≤ c + 100000 by omega)
  have k3 := Int.mul_le_mul_of_nonneg_left p1 (show 0 ≤ 100000 - c by omega)
  have k4 := Int.mul_le_mul_of_nonneg_left p0 (show 0 ≤ 100000 - c by omega)
  rw [Int.add_mul, Int.add_mul] at k1 k2
  rw [Int.sub_mul, Int.sub_mul] at k3 k4
  omega
end Go.Proofs.Ytjdagpmfnmodbaa.Pl
