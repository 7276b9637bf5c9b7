/- The law TopLedger, plain: names and payments of an auction. No program. -/
import Derived.Test.YtibhgcldogfonaaGreatDoorPAucB
import Derived.Test.YtibhgcldogfonaaGreatDoorPEnvy
import Derived.Test.YtibhgcldogfonaaGreatDoorPSet
namespace Go.Proofs.YtibhgcldogfonaaGreatDoor.Pl
theorem acheck_at {l : List Ord} (h : acheck l = 0) {j : Nat} (hj : j < l.length) : achk (l.take j) l[j] = 0 := by
  have hl := acheck_len h
  rw [acheck, if_neg (by omega)] at h
  exact acheckK_pre h j hj hj
theorem acheck_name {l : List Ord} (h : acheck l = 0) {j : Nat} (hj : j < l.length) : nameB l[j].name = true ∧ ∀ i (hi : i < j), bl (l[i]'(by omega)).name ≠ bl l[j].name := by
  have := acheck_at h hj
  unfold achk at this
  by_cases hn : nameB l[j].name = false
  · rw [if_pos hn] at this; cases this
  · rw [if_neg hn] at this
    split at this
    · cases this
    · split at this
      · cases this
      · rename_i h3
        refine ⟨by simpa using hn, fun i hi e => h3 ?_⟩
        unfold has
        rw [List.any_eq_true]
        refine ⟨l[i]'(by omega), List.mem_take_iff_getElem.2 ⟨i, by omega, rfl⟩, ?_⟩
        rw [bl_inj e]
        simp
def namesL (l : List Ord) : List (List UInt8) := l.map fun z => bl z.name
theorem namesL_ok {l : List Ord} (h : acheck l = 0) : (∀ t ∈ namesL l, nameB ⟨t.toArray⟩ = true) ∧ (namesL l).Nodup := by
  constructor
  · intro t ht
    obtain ⟨z, hz, rfl⟩ := List.mem_map.1 ht
    obtain ⟨j, hj, rfl⟩ := List.getElem_of_mem hz
    exact (acheck_name h hj).1
  · refine List.pairwise_iff_getElem.2 fun i j hi hj hij => ?_
    unfold namesL at hi hj ⊢
    rw [List.getElem_map, List.getElem_map]
    exact (acheck_name h (by simpa using hj)).2 i hij
def pay (P : Int) (x : Ord × Int) : Int := if x.1.buy = true then -(P * x.2) else P * x.2
def pays (P : Int) (l : List Ord) (fs : List Int) : List Int := (l.zip fs).map (pay P)
theorem pays_len {P : Int} {l : List Ord} {fs : List Int} (h : fs.length = l.length) : (pays P l fs).length = l.length := by unfold pays; simp [h]
theorem pays_sum (P : Int) (z : List (Ord × Int)) : (z.map (pay P)).sum = P * sideS false z - P * sideS true z := by
  induction z with
  | nil => simp [sideS]
  | cons x z ih =>
    rw [List.map_cons, List.sum_cons, ih, sideS_cons, sideS_cons, Int.mul_add, Int.mul_add]
    obtain ⟨⟨nm, b, pw, pr⟩, f⟩ := x
    cases b <;> simp [pay, sidep] <;> omega
theorem pays_take (P : Int) {l : List Ord} {fs : List Int} (h : fs.length = l.length) {k : Nat} (hk : k < l.length) : pays P (l.take (k + 1)) (fs.take (k + 1)) = pays P (l.take k) (fs.take k) ++ [pay P (l[k], fs[k])] := by
  unfold pays
  rw [List.take_succ_eq_append_getElem hk, List.take_succ_eq_append_getElem (by omega), List.zip_append (by simp; omega), List.map_append]
  rfl
structure Paid (l : List Ord) (fs : List Int) (q : Int) : Prop where
  zero : (pays (cPrice l fs q) l fs).sum = 0
  bd : ∀ x ∈ pays (cPrice l fs q) l fs, -1000000000000 ≤ x ∧ x ≤ 1000000000000
  price : -1000000 ≤ cPrice l fs q ∧ cPrice l fs q ≤ 1000000
  envy : 0 < q → ∀ i (hi : i < l.length) (hf : i < fs.length), l[i].buy = false → opcheck l[i].name [(l[i].pow, l[i].price)] fs[i] = 0 ∧ envyV (cPrice l fs q) [(l[i].pow, l[i].price)] fs[i] = 0
  rng : ∀ i (hf : i < fs.length), 0 ≤ fs[i] ∧ fs[i] ≤ 100000
theorem paid_of {l : List Ord} {fs : List Int} {q : Int} (h0 : acheck l = 0) (h : Cleared l fs q) : Paid l fs q := by
  have hr : ∀ i (hi : i < l.length), 1 ≤ l[i].pow ∧ l[i].pow ≤ 100000 ∧ -1000000 ≤ l[i].price ∧ l[i].price ≤ 1000000 := fun i hi => acheck_good h0 l[i] (List.getElem_mem hi)
  have hf : ∀ i (hi : i < l.length) (hf : i < fs.length), 0 ≤ fs[i] ∧ fs[i] ≤ l[i].pow := fun i hi hf => by
    have := h.rng i hi
    rwa [oAt_eq hi, fAt_eq hf] at this
  have hP : -1000000 ≤ cPrice l fs q ∧ cPrice l fs q ≤ 1000000 ∧ (0 < q → (fit l fs).1 ≤ cPrice l fs q ∧ cPrice l fs q ≤ (fit l fs).2) := by
    unfold cPrice
    by_cases hq0 : 0 < q
    · obtain ⟨b1, b2⟩ := h.fit_bd hq0 fun x hx => by rw [oAt_eq hx]; have := hr x hx; omega
      have := h.fits
      rw [if_pos hq0]
      omega
    · rw [if_neg hq0]
      exact ⟨by decide, by decide, fun e => absurd e hq0⟩
  obtain ⟨p0, p1, p2⟩ := hP
  have rng : ∀ i (hf : i < fs.length), 0 ≤ fs[i] ∧ fs[i] ≤ 100000 := fun i hi => by
    have h1 := hf i (by rw [← h.len]; exact hi) hi
    have h2 := hr i (by rw [← h.len]; exact hi)
    omega
  refine ⟨?_, fun x hx => ?_, ⟨p0, p1⟩, fun hq0 i hi hfi hb => ?_, rng⟩
  · unfold pays
    rw [pays_sum, h.buys, h.sells]
    omega
  · unfold pays at hx
    obtain ⟨⟨o, f⟩, hz, rfl⟩ := List.mem_map.1 hx
    obtain ⟨i, hi, e⟩ := List.getElem_of_mem (List.of_mem_zip hz).2
    have h1 := rng i hi
    rw [e] at h1
    have m1 := mulP_bd (P := cPrice l fs q) (by omega) (by omega) h1.1 h1.2
    unfold pay
    simp only
    split <;> omega
  · have h1 := hr i hi
    have h2 := hf i hi hfi
    obtain ⟨q1, q2⟩ := p2 hq0
    have hn := (acheck_name h0 hi).1
    have lo : 0 < fs[i] → l[i].price ≤ cPrice l fs q := fun hp => by
      have := (fit_lo h.len).1 i hi (by rw [oAt_eq hi, fAt_eq hfi]; exact .inl ⟨hb, hp⟩)
      rw [oAt_eq hi] at this
      omega
    have hi2 : fs[i] < l[i].pow → cPrice l fs q ≤ l[i].price := fun hp => by
      have := (fit_hi h.len).1 i hi (by rw [oAt_eq hi, fAt_eq hfi]; exact .inr ⟨hb, hp⟩)
      rw [oAt_eq hi] at this
      omega
    generalize cPrice l fs q = P at *
    generalize l[i].price = pr at *
    generalize l[i].pow = pw at *
    generalize fs[i] = f at *
    constructor
    · have hb1 : badStep (pw, pr) = false := badStep_false.2 h1
      have ho : oacc [(pw, pr)] = (pw, 0, some pr) := by
        show ostep (0, 0, none) (pw, pr) = _
        unfold ostep
        rw [if_neg (by simp), if_neg (by simp [hb1]), if_neg (by simp [lower]), if_neg (by simp; omega)]
        simp
      have hc : ocheck l[i].name [(pw, pr)] = 0 := by
        unfold ocheck
        rw [if_neg (by simp [hn]), if_neg (by simp), ho]
      unfold opcheck
      rw [if_neg (by simp [hc]), if_neg]
      have ht : total [(pw, pr)] = pw := by simp [total]
      omega
    · unfold envyV
      have hm : min f pw = f := by omega
      show (if pr < P then (P - pr) * pw else 0) + 0 - (P * f - (min f pw * pr + 0)) = 0
      rw [hm]
      by_cases hlt : pr < P
      · have : f = pw := by
          rcases Int.lt_or_le f pw with h | h
          · have := hi2 h; omega
          · omega
        rw [if_pos hlt, this, Int.sub_mul, Int.mul_comm pw pr]
        omega
      · rw [if_neg hlt]
        by_cases hz : f = 0
        · rw [hz]; simp
        · have : P = pr := by have := lo (by omega); omega
          rw [this, Int.mul_comm f pr]
          omega
end Go.Proofs.YtibhgcldogfonaaGreatDoor.Pl
