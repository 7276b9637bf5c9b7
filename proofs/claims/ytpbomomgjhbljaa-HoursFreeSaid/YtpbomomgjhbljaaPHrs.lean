/- The change of a plan for another demand, plain: the blocks between the limits of changes. No program. -/
import Derived.Test.YtpbomomgjhbljaaPDispB
import Derived.Test.YtpbomomgjhbljaaPWelf
namespace Go.Proofs.Ytpbomomgjhbljaa.Pl
def hlow (x m : Int) : Int := max 0 (x - m)
def hhigh (t x m : Int) : Int := min t (x + m)
def hstep (g low high : Int) (s : List B3 × Int) (p : Int × Int) : List B3 × Int :=
  (if 0 < min high (s.2 + p.1) - max low s.2 then s.1 ++ [(g, min high (s.2 + p.1) - max low s.2, p.2)] else s.1, s.2 + p.1)
def hblk (g low high : Int) (st : List (Int × Int)) : List B3 × Int := st.foldl (hstep g low high) ([], 0)
theorem hblk_snoc (g low high : Int) (st : List (Int × Int)) (p : Int × Int) : hblk g low high (st ++ [p]) = hstep g low high (hblk g low high st) p := by unfold hblk; rw [List.foldl_append]; rfl
theorem hblk_at (g low high : Int) (st : List (Int × Int)) : (hblk g low high st).2 = total st := by
  induction st using snocInd with
  | h0 => rfl
  | h1 st p ih =>
    rw [hblk_snoc]
    show (hblk g low high st).2 + p.1 = _
    rw [ih, total_sum, total_sum, sumF_append]
    simp [sumF]
theorem hblk_len (g low high : Int) (st : List (Int × Int)) : (hblk g low high st).1.length ≤ st.length := by
  induction st using snocInd with
  | h0 => exact Nat.le_refl _
  | h1 st p ih =>
    rw [hblk_snoc]
    unfold hstep
    simp only
    split
    · simp; exact ih
    · simp; omega
theorem hblk_good {g low high : Int} {n : Nat} {st : List (Int × Int)} (hg : Good st) (g0 : 0 ≤ g) (g1 : g < n) (h0 : 0 ≤ low) (h1 : high ≤ 100000) : ∀ b ∈ (hblk g low high st).1, GoodB n b := by
  have hs : ∀ p ∈ st, 1 ≤ p.1 ∧ p.1 ≤ 100000 ∧ -1000000 ≤ p.2 ∧ p.2 ≤ 1000000 := fun p hp => hg.step p hp
  clear hg
  induction st using snocInd with
  | h0 => intro b hb; simp [hblk] at hb
  | h1 st p ih =>
    intro b hb
    rw [hblk_snoc] at hb
    unfold hstep at hb
    simp only at hb
    have ih := ih fun q hq => hs q (by simp [hq])
    split at hb
    · rename_i h
      rw [List.mem_append] at hb
      rcases hb with hb | hb
      · exact ih b hb
      · simp only [List.mem_singleton] at hb
        subst hb
        have := hs p (by simp)
        refine ⟨g0, g1, ?_, ?_, ?_, ?_⟩ <;> simp only <;> omega
    · exact ih b hb
def hblocks (l : List Off) (xs : List Int) (m : Int) : Nat → List B3
  | 0 => []
  | k + 1 => hblocks l xs m k ++ (hblk k (hlow (xs.getD k 0) m) (hhigh (total (steps l k)) (xs.getD k 0) m) (steps l k)).1
def hlows (xs : List Int) (m : Int) : Nat → List Int
  | 0 => []
  | k + 1 => hlows xs m k ++ [hlow (xs.getD k 0) m]
def hleft (xs : List Int) (m d : Int) : Nat → Int
  | 0 => d
  | k + 1 => hleft xs m d k - hlow (xs.getD k 0) m
theorem hlows_len (xs : List Int) (m : Int) (n : Nat) : (hlows xs m n).length = n := by
  induction n with
  | zero => rfl
  | succ n ih => simp [hlows, ih]
theorem hblocks_len {l : List Off} {xs : List Int} {m : Int} {n : Nat} (h : ∀ k, k < n → (steps l k).length ≤ 12) : (hblocks l xs m n).length ≤ 12 * n := by
  induction n with
  | zero => simp [hblocks]
  | succ n ih =>
    rw [hblocks, List.length_append]
    have := ih fun k hk => h k (by omega)
    have := h n (by omega)
    have := hblk_len n (hlow (xs.getD n 0) m) (hhigh (total (steps l n)) (xs.getD n 0) m) (steps l n)
    omega
theorem hblocks_good {l : List Off} {xs : List Int} {m : Int} {n N : Nat} (hg : ∀ k, k < n → Good (steps l k)) (hn : n ≤ N) : ∀ b ∈ hblocks l xs m n, GoodB N b := by
  induction n with
  | zero => intro b hb; simp [hblocks] at hb
  | succ n ih =>
    intro b hb
    rw [hblocks, List.mem_append] at hb
    rcases hb with hb | hb
    · exact ih (fun k hk => hg k (by omega)) (by omega) b hb
    · have := (hg n (by omega)).sum
      exact hblk_good (hg n (by omega)) (by omega) (by omega) (by unfold hlow; omega) (by unfold hhigh; omega) b hb
theorem hleft_bd {xs : List Int} {m d : Int} {n : Nat} (h : ∀ k, k < n → xs.getD k 0 ≤ 100000) (m0 : 0 ≤ m) : hleft xs m d n ≤ d ∧ d - 100000 * n ≤ hleft xs m d n := by
  induction n with
  | zero => simp [hleft]
  | succ n ih =>
    have := ih fun k hk => h k (by omega)
    have := h n (by omega)
    rw [hleft]
    unfold hlow
    omega
/-- the fill from lowest powers -/
def hfill (lows : List Int) (d : Int) (bs : List B3) : List Int × Int × Int := bs.foldl dstep (lows, 0, d)
theorem hfill_snoc (lows : List Int) (d : Int) (bs : List B3) (b : B3) : hfill lows d (bs ++ [b]) = dstep (hfill lows d bs) b := by unfold hfill; rw [List.foldl_append]; rfl
theorem total_take_le {st : List (Int × Int)} (h : ∀ p ∈ st, 1 ≤ p.1) (k : Nat) : 0 ≤ total (st.take k) ∧ total (st.take k) ≤ total st := by
  have e : total st = total (st.take k) + total (st.drop k) := by
    rw [total_sum, total_sum, total_sum, ← sumF_append, List.take_append_drop]
  have h1 := least_most (P := 0) (st := st.take k) (fun q hq => h q (List.mem_of_mem_take hq))
  have h2 := least_most (P := 0) (st := st.drop k) (fun q hq => h q (List.mem_of_mem_drop hq))
  omega
/- without limits of changes -/
theorem hblk_free (g : Int) {st : List (Int × Int)} (h : ∀ p ∈ st, 1 ≤ p.1) (T : Int) (hT : total st ≤ T) : (hblk g 0 T st).1 = st.map fun s => (g, s.1, s.2) := by
  induction st using snocInd with
  | h0 => rfl
  | h1 st p ih =>
    have hp := h p (by simp)
    have e : total (st ++ [p]) = total st + p.1 := by rw [total_sum, total_sum, sumF_append]; simp [sumF]
    have hn : 0 ≤ total st := by
      have := least_most (P := 0) (st := st) (fun q hq => h q (by simp [hq]))
      omega
    have ih := ih (fun q hq => h q (by simp [hq])) (by omega)
    rw [hblk_snoc]
    unfold hstep
    simp only
    rw [hblk_at, ih, show min T (total st + p.1) - max 0 (total st) = p.1 from by omega, if_pos (by omega)]
    simp
theorem hblocks_free {l : List Off} {xs : List Int} {n : Nat} (hg : ∀ k, k < n → Good (steps l k)) (hx : ∀ k, k < n → 0 ≤ xs.getD k 0 ∧ xs.getD k 0 ≤ total (steps l k)) : hblocks l xs 100000 n = blocksK l n := by
  induction n with
  | zero => rfl
  | succ n ih =>
    rw [hblocks, blocksK, ih (fun k hk => hg k (by omega)) (fun k hk => hx k (by omega))]
    congr 1
    have h1 := (hg n (by omega)).sum
    have h2 := hx n (by omega)
    rw [show hlow (xs.getD n 0) 100000 = 0 from by unfold hlow; omega, show hhigh (total (steps l n)) (xs.getD n 0) 100000 = total (steps l n) from by unfold hhigh; omega]
    exact hblk_free n (fun p hp => ((hg n (by omega)).step p hp).1) _ (Int.le_refl _)
theorem hlows_free {xs : List Int} {n : Nat} (hx : ∀ k, k < n → xs.getD k 0 ≤ 100000) : hlows xs 100000 n = List.replicate n 0 := by
  induction n with
  | zero => rfl
  | succ n ih =>
    rw [hlows, ih fun k hk => hx k (by omega), List.replicate_succ', show hlow (xs.getD n 0) 100000 = 0 from by unfold hlow; have := hx n (by omega); omega]
theorem hleft_free {xs : List Int} {n : Nat} {d : Int} (hx : ∀ k, k < n → xs.getD k 0 ≤ 100000) : hleft xs 100000 d n = d := by
  induction n with
  | zero => rfl
  | succ n ih =>
    rw [hleft, ih fun k hk => hx k (by omega), show hlow (xs.getD n 0) 100000 = 0 from by unfold hlow; have := hx n (by omega); omega]
    omega
structure HFillBd (n : Nat) (d : Int) (r : List Int × Int × Int) : Prop where
  d0 : 0 ≤ r.2.2
  d1 : r.2.2 ≤ d
  len : r.1.length = n
  out : ∀ g, 0 ≤ r.1.getD g 0 ∧ r.1.getD g 0 ≤ 100000 + (d - r.2.2)
theorem hlows_bd {xs : List Int} {m : Int} {n : Nat} (h : ∀ k, k < n → xs.getD k 0 ≤ 100000) (m0 : 0 ≤ m) (g : Nat) : 0 ≤ (hlows xs m n).getD g 0 ∧ (hlows xs m n).getD g 0 ≤ 100000 := by
  induction n with
  | zero => simp [hlows]
  | succ n ih =>
    have i := ih fun k hk => h k (by omega)
    have hn := h n (by omega)
    rw [hlows, List.getD_eq_getElem?_getD, List.getElem?_append]
    generalize xs.getD n 0 = y at *
    rw [List.getD_eq_getElem?_getD] at i
    split
    · exact i
    · have e : ∀ j : Nat, 0 ≤ ([hlow y m][j]?).getD 0 ∧ ([hlow y m][j]?).getD 0 ≤ 100000 := fun j => by
        cases j with
        | zero => simp; unfold hlow; omega
        | succ j => simp
      exact e _
theorem hfill_bd {n : Nat} {d : Int} {lows : List Int} (h0 : 0 ≤ d) (hl : lows.length = n) (hlo : ∀ g, 0 ≤ lows.getD g 0 ∧ lows.getD g 0 ≤ 100000) (bs : List B3) (hb : ∀ b ∈ bs, GoodB n b) : HFillBd n d (hfill lows d bs) := by
  induction bs using snocInd with
  | h0 => exact ⟨h0, Int.le_refl _, hl, fun g => by show 0 ≤ lows.getD g 0 ∧ lows.getD g 0 ≤ 100000 + (d - d); have := hlo g; omega⟩
  | h1 bs b ih =>
    have ih := ih fun x hx => hb x (by simp [hx])
    obtain ⟨b0, b1, b2, b3, b4, b5⟩ := hb b (by simp)
    rw [hfill_snoc]
    generalize hfill lows d bs = r at *
    obtain ⟨os, cs, dm⟩ := r
    obtain ⟨i0, i1, i4, i5⟩ := ih
    obtain ⟨g, pw, pr⟩ := b
    simp only at b0 b1 b2 b3 b4 b5 i0 i1 i4 i5
    have e : dstep (os, cs, dm) (g, pw, pr) = (os.set g.toNat (os.getD g.toNat 0 + min dm pw), cs + min dm pw * pr, dm - min dm pw) := rfl
    rw [e]
    refine ⟨by show 0 ≤ dm - min dm pw; omega, by show dm - min dm pw ≤ d; omega, by show (os.set _ _).length = n; rw [List.length_set]; exact i4, fun x => ?_⟩
    show 0 ≤ (os.set g.toNat (os.getD g.toNat 0 + min dm pw)).getD x 0 ∧ (os.set g.toNat (os.getD g.toNat 0 + min dm pw)).getD x 0 ≤ 100000 + (d - (dm - min dm pw))
    rw [getD_set]
    have h1 := i5 x
    have h2 := i5 g.toNat
    split <;> omega
/-- the cost that offer.Cost gives, whatever the power is -/
def ocK (l : List Off) (ps : List Int) (k : Nat) : Int := (oCost (nameK l k) (steps l k) (ps.getD k 0)).1
def ocU (l : List Off) (ps : List Int) (k : Nat) : Int := (oCost (nameK l k) (steps l k) (ps.getD k 0)).2
def hcostK (l : List Off) (ps xs : List Int) : Nat → Int := sumN (fun k => ocK l ps k - ocK l xs k)
theorem ocK_bd {l : List Off} (ps : List Int) {k : Nat} (hg : Good (steps l k)) : -100000000000 ≤ ocK l ps k ∧ ocK l ps k ≤ 100000000000 := by
  unfold ocK oCost
  by_cases h : opcheck (nameK l k) (steps l k) (ps.getD k 0) = 0
  · rw [if_neg (by simpa using h), ocost_eq]
    obtain ⟨_, _, x0, x1, _⟩ := opcheck_ok h
    have := costR_bd hg _ x0 x1
    simp only
    omega
  · rw [if_pos h]
    simp
theorem hcostK_bd {l : List Off} (ps xs : List Int) {n : Nat} (hg : ∀ k, k < n → Good (steps l k)) : -(200000000000 * (n : Int)) ≤ hcostK l ps xs n ∧ hcostK l ps xs n ≤ 200000000000 * (n : Int) := by
  induction n with
  | zero => simp [hcostK, sumN]
  | succ n ih =>
    have i := ih fun k hk => hg k (by omega)
    have a := ocK_bd ps (hg n (by omega))
    have b := ocK_bd xs (hg n (by omega))
    have e : hcostK l ps xs (n + 1) = hcostK l ps xs n + (ocK l ps n - ocK l xs n) := rfl
    rw [e]
    omega
/-- where the powers are in the ranges it is the difference of the costs -/
theorem hcostK_eq {l : List Off} {ps xs : List Int} {n : Nat} (hn : n ≤ l.length) (h1 : oall l = 0) (hp : ∀ k, k < n → 0 ≤ ps.getD k 0 ∧ ps.getD k 0 ≤ total (steps l k)) (hx : ∀ k, k < n → 0 ≤ xs.getD k 0 ∧ xs.getD k 0 ≤ total (steps l k)) : hcostK l ps xs n = costK l ps n - costK l xs n := by
  have e : ∀ ys : List Int, (∀ k, k < n → 0 ≤ ys.getD k 0 ∧ ys.getD k 0 ≤ total (steps l k)) → ∀ k, k < n → ocK l ys k = costR (steps l k) (ys.getD k 0) := fun ys hy k hk => by
    have hc := check_at h1 (show k < l.length by omega)
    have := hy k hk
    unfold ocK oCost
    rw [if_neg (by unfold opcheck; rw [if_neg (by simpa using hc), if_neg (by omega)]; simp), ocost_eq]
  unfold hcostK costK
  rw [← sumN_sub]
  exact sumN_congr fun k hk => by rw [e ps hp k hk, e xs hx k hk]
end Go.Proofs.Ytpbomomgjhbljaa.Pl
