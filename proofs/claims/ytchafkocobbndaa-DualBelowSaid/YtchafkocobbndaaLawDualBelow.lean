/- The law DualBelow: for all generators, demands, prices and schedules the call returns true, and old memory is left as it is. No condition. -/
import Derived.Test.YtchafkocobbndaaPCommitC
import Derived.Test.YtchafkocobbndaaPCommitG
import Derived.Test.YtchafkocobbndaaBest
import Derived.Test.YtchafkocobbndaaCost
import Derived.Test.YtchafkocobbndaaStep
import Derived.Test.YtchafkocobbndaaAlone
namespace Go.Proofs.Ytchafkocobbndaa.Pl
theorem leastR_nonneg {P : Int} {st : List (Int × Int)} (h : ∀ p ∈ st, 1 ≤ p.1) : 0 ≤ leastR P st := (least_most h).1
/-- beyond the best power the gain does not grow -/
theorem gain_down {st : List (Int × Int)} (h : ∀ p ∈ st, 1 ≤ p.1) (hr : st.Pairwise (fun a b => a.2 ≤ b.2)) (P x y : Int) (hx : leastR P st ≤ x) (hxy : x ≤ y) (hy : y ≤ total st) : gain P st y ≤ gain P st x := by
  induction st generalizing x y with
  | nil =>
    have : total ([] : List (Int × Int)) = 0 := rfl
    have : leastR P [] = 0 := rfl
    have : x = y := by omega
    subst this
    exact Int.le_refl _
  | cons p st ih =>
    have hp := h p (by simp)
    have ht : ∀ q ∈ st, 1 ≤ q.1 := fun q hq => h q (by simp [hq])
    obtain ⟨h1, h2⟩ := List.pairwise_cons.1 hr
    rw [total_cons] at hy
    rw [gain_cons, gain_cons]
    have hl := leastR_nonneg (P := P) ht
    have hlm := least_most (P := P) ht
    by_cases hlt : p.2 < P
    · rw [leastR, if_pos hlt] at hx
      have e1 : min x p.1 = p.1 := by omega
      have e2 : min y p.1 = p.1 := by omega
      rw [e1, e2]
      have := ih ht h2 (x - p.1) (y - p.1) (by omega) (by omega) (by omega)
      omega
    · have hz := (zero_least (P := P) (st := st) fun q hq => by have := h1 q hq; omega).1
      rw [leastR, if_neg hlt, hz] at hx
      have := ih ht h2 (x - min x p.1) (y - min y p.1) (by omega) (by omega) (by omega)
      have h3 : (P - p.2) * min y p.1 ≤ (P - p.2) * min x p.1 := Int.mul_le_mul_of_nonpos_left (by omega) (by omega)
      omega
/-- the power of a pattern is the best of those that are permitted -/
theorem dgain_best {u : CU} (h : duCheck u = 0) (P x : Int) (h0 : u.r.least ≤ x) (h1 : x ≤ u.r.most) : P * x - ocost u.o.2 x ≤ dgain u P := by
  obtain ⟨g, c1, c2, c3, c4⟩ := unit_facts h
  have hs : ∀ p ∈ u.o.2, 1 ≤ p.1 := fun p hp => (g.step p hp).1
  have e : ∀ x, P * x - ocost u.o.2 x = gain P u.o.2 x := fun x => by rw [ocost_eq]; rfl
  unfold dgain dpow
  rw [e, e]
  obtain ⟨l0, l1, l2, _⟩ := least_most (P := P) hs
  by_cases hc : u.r.least ≤ leastR P u.o.2
  · rw [show max (leastR P u.o.2) u.r.least = leastR P u.o.2 by omega]
    have hb := (gain_best g P (leastR P u.o.2) l0 (by omega)).2.2 ⟨Int.le_refl _, l1⟩
    rw [hb]
    exact (gain_best g P x (by omega) (by omega)).1
  · rw [show max (leastR P u.o.2) u.r.least = u.r.least by omega]
    exact gain_down hs g.rise P _ _ (by omega) h0 (by omega)
/-- two schedules that are on at the same times have the same starts -/
theorem same_runs {u : CU} (h : duCheck u = 0) (zs : List Int) : ∀ ys : List Int, ys.length = zs.length → (∀ t, t < zs.length → (zs.getD t 0 = -1 ∨ (u.r.least ≤ zs.getD t 0 ∧ zs.getD t 0 ≤ u.r.most)) ∧ (ys.getD t 0 = -1 ∨ (u.r.least ≤ ys.getD t 0 ∧ ys.getD t 0 ≤ u.r.most)) ∧ (zs.getD t 0 = -1 ↔ ys.getD t 0 = -1)) →
    (racc u.r u.s zs).2.2.2 = 0 → (racc u.r u.s ys).2.2.2 = 0 ∧ (racc u.r u.s ys).2.2.1 = (racc u.r u.s zs).2.2.1 ∧ (racc u.r u.s ys).1.on = (racc u.r u.s zs).1.on ∧ (racc u.r u.s ys).1.since = (racc u.r u.s zs).1.since := by
  have hv : ustate u.r u.s = 0 := (duCheck_ok h).1
  induction zs using snocInd with
  | h0 =>
    intro ys hl _ _
    have : ys = [] := List.eq_nil_of_length_eq_zero (by simpa using hl)
    subst this
    exact ⟨rfl, rfl, rfl, rfl⟩
  | h1 zs z ih =>
    intro ys hl hz hr
    rcases List.eq_nil_or_concat ys with e | ⟨ys', y, e⟩
    · subst e; simp at hl
    · rw [List.concat_eq_append] at e
      subst e
      have hl' : ys'.length = zs.length := by simpa using hl
      have hn : zs.length < (zs ++ [z]).length := by simp
      have g1 : ∀ (l : List Int) (x : Int) t, (l ++ [x]).getD t 0 = if t < l.length then l.getD t 0 else if t = l.length then x else 0 := fun l x t => by
        rw [List.getD_eq_getElem?_getD, List.getD_eq_getElem?_getD]
        by_cases h : t < l.length
        · rw [if_pos h, List.getElem?_append_left h]
        · rw [if_neg h, List.getElem?_append_right (by omega)]
          by_cases e : t = l.length
          · subst e; simp
          · rw [if_neg e, List.getElem?_eq_none (by simp; omega)]; rfl
      obtain ⟨a1, a2, a3⟩ := hz zs.length hn
      rw [g1, if_neg (Nat.lt_irrefl _), if_pos rfl] at a1 a3
      rw [g1, hl', if_neg (Nat.lt_irrefl _), if_pos rfl] at a2 a3
      rw [racc_snoc] at hr
      have h0 : (racc u.r u.s zs).2.2.2 = 0 := by
        by_cases h0 : (racc u.r u.s zs).2.2.2 = 0
        · exact h0
        · unfold rstep at hr; rw [if_pos h0] at hr; exact hr
      obtain ⟨i1, i2, i3, i4⟩ := ih ys' hl' (fun t ht => by
        have := hz t (by simp; omega)
        rw [g1, g1, if_pos ht, if_pos (by omega)] at this
        exact this) h0
      have v1 := (racc_inv _ _ hv zs h0).1
      have v2 := (racc_inv _ _ hv ys' i1).1
      have n1 : (unext u.r (racc u.r u.s zs).1 z).2.2 = 0 := by
        by_cases n1 : (unext u.r (racc u.r u.s zs).1 z).2.2 = 0
        · exact n1
        · rw [rstep_err _ _ _ h0 n1] at hr; exact absurd hr n1
      obtain ⟨t1, t2⟩ := unext_tr h v1 a1
      obtain ⟨t3, t4⟩ := unext_tr h v2 a2
      have ed : decide (z ≠ -1) = decide (y ≠ -1) := by
        by_cases e : z = -1
        · simp [e, a3.1 e]
        · have : y ≠ -1 := fun e2 => e (a3.2 e2)
          simp [e, this]
      rw [i3, i4, ← ed] at t3 t4
      have n2 : (unext u.r (racc u.r u.s ys').1 y).2.2 = 0 := t3.2 (t1.1 n1)
      obtain ⟨p1, p2⟩ := t2 n1
      obtain ⟨q1, q2⟩ := t4 n2
      rw [racc_snoc, racc_snoc, rstep_ok _ _ _ h0 n1, rstep_ok _ _ _ i1 n2]
      simp only
      rw [← p1] at q1
      injection q1 with q3 q4
      exact ⟨trivial, by rw [q2, p2, i2], q3, q4⟩
/-- the best schedule earns at least what any other earns -/
theorem single_best {u : CU} (h : duCheck u = 0) {ps zs : List Int} (hp : ps.length ≤ 8) (hl : zs.length = ps.length) (hr : (urun u.r u.s zs).2.2 = 0) :
    sumN (fun t => ps.getD t 0 * max 0 (zs.getD t 0) - ocost u.o.2 (max 0 (zs.getD t 0))) ps.length - (urun u.r u.s zs).2.1 ≤ (dsingle u ps).2.1 := by
  obtain ⟨_, _, _, _, _, hbest⟩ := dsingle_ok h hp
  obtain ⟨q, hq, hb⟩ := bits_ex (fun t => decide (zs.getD t 0 ≠ -1)) ps.length
  obtain ⟨hv, hlz, eu, hrz⟩ := urun_good hr
  obtain ⟨g, c1, c2, c3, c4⟩ := unit_facts h
  have hval := fun t (ht : t < zs.length) => run_val (u := u) hr t ht
  have hs := same_runs h zs (dsch u ps q) (by rw [dsch_len, hl]) (fun t ht => by
    refine ⟨hval t ht, ?_, ?_⟩
    · rw [dsch_at _ _ _ _ (by omega)]
      unfold dbit
      split
      · have := dpow_bd h (ps.getD t 0); omega
      · exact .inl rfl
    · rw [dsch_at _ _ _ _ (by omega)]
      unfold dbit
      rw [hb t (by omega)]
      have := dpow_bd h (ps.getD t 0)
      constructor
      · intro e; rw [e]; simp
      · intro e
        by_cases e2 : zs.getD t 0 = -1
        · exact e2
        · rw [if_pos (by simpa using e2)] at e; omega) hrz
  have hgood : dgood u ps q := by
    unfold dgood
    rw [urun_racc hv (by rw [dsch_len]; omega)]
    exact hs.1
  have hb2 := hbest q hq hgood
  have ed : dval u ps q = dsumN u ps q ps.length - (urun u.r u.s zs).2.1 := by
    unfold dval
    rw [urun_racc hv (by rw [dsch_len]; omega), eu, hs.2.1]
  have hsum : sumN (fun t => ps.getD t 0 * max 0 (zs.getD t 0) - ocost u.o.2 (max 0 (zs.getD t 0))) ps.length ≤ dsumN u ps q ps.length := by
    unfold dsumN
    refine sumN_le fun t ht => ?_
    rw [hb t ht]
    rcases hval t (by omega) with e | ⟨e1, e2⟩
    · rw [e]
      have ez : ocost u.o.2 0 = 0 := by rw [ocost_eq]; exact costR_zero fun p hp => (g.step p hp).1
      rw [show max (0 : Int) (-1) = 0 from rfl, ez, Int.mul_zero]
      simp
    · rw [if_pos (decide_eq_true (by omega)), show max 0 (zs.getD t 0) = zs.getD t 0 by omega]
      exact dgain_best h _ _ e1 e2
  omega
/-- dual.Bound -/
def dsumP (ds ps : List Int) (t : Nat) : Int := sumN (fun t => ps.getD t 0 * ds.getD t 0) t
def dgains (l : List CU) (ps : List Int) (i : Nat) : Int := sumN (fun i => (dsingle (cu l i) ps).2.1) i
def dBound (l : List CU) (ds ps : List Int) : Int × Int := if dchk l ds ps ≠ 0 then (0, dchk l ds ps) else (dsumP ds ps ps.length - dgains l ps l.length, 0)
theorem below_law {l : List CU} {ds ps : List Int} {S : List (List Int)} (hc : dchk l ds ps = 0) (h : Acc l ds S) : dsumP ds ps ps.length - dgains l ps l.length ≤ accCost l ds S := by
  obtain ⟨⟨k1, k2, k3, k4⟩, k5, k6⟩ := dchk_ok hc
  have h1 : dsumP ds ps ps.length = sumN (fun i => sumN (fun t => ps.getD t 0 * max 0 ((S.getD i []).getD t 0)) ps.length) l.length := by
    rw [sumN_swap]
    unfold dsumP
    exact sumN_congr fun t ht => by rw [sumN_mul, h.sum t (by omega)]
  have h2 : sumN (fun i => sumN (fun t => ps.getD t 0 * max 0 ((S.getD i []).getD t 0)) ps.length - (dsingle (cu l i) ps).2.1) l.length ≤ accCost l ds S := by
    unfold accCost
    refine sumN_le fun i hi => ?_
    have := single_best (k3 _ (cu_mem hi)) (ps := ps) (zs := S.getD i []) (by omega) (by rw [h.len i hi, k5]) (h.run i hi)
    rw [sumN_sub, k5] at this
    rw [k5]
    omega
  rw [sumN_sub, ← h1] at h2
  exact h2
theorem dBound_bad {l : List CU} {ds ps : List Int} (h : (dBound l ds ps).2 ≠ 0) : (dBound l ds ps).1 = 0 := by
  unfold dBound at h ⊢
  split at h
  · rename_i h1; rw [if_pos h1]
  · exact absurd rfl h
theorem dBound_ok {l : List CU} {ds ps : List Int} (h : (dBound l ds ps).2 = 0) : dchk l ds ps = 0 ∧ dBound l ds ps = (dsumP ds ps ps.length - dgains l ps l.length, 0) := by
  unfold dBound at h ⊢
  split at h
  · rename_i h1; exact absurd h h1
  · rename_i h1; rw [if_neg h1]; exact ⟨by simpa using h1, rfl⟩
/-- DualBelow -/
theorem below_both {l : List CU} {ds ps : List Int} {S s : List (List Int)} {c e n f : Int} (hb : (dBound l ds ps).2 = 0) (hc : CostP l ds S c e) (hn : BestP l ds s n f) : (e = 0 → (dBound l ds ps).1 ≤ c) ∧ (f = 0 → (dBound l ds ps).1 ≤ n) := by
  obtain ⟨hk, hE⟩ := dBound_ok hb
  rw [hE]
  refine ⟨fun he => ?_, fun hf => ?_⟩
  · obtain ⟨h1, h2⟩ := hc.1 he
    rw [h2]
    exact below_law hk h1
  · obtain ⟨h1, h2, _⟩ := (kept_law (S := S) hn).2 hf
    rw [← h2]
    exact below_law hk h1
theorem dBound_ex : dBound [aloneCU] [12] [5] = (60, 0) := by decide +kernel
theorem dgains_bd {l : List CU} {ps : List Int} (h : ∀ u ∈ l, duCheck u = 0) (hl : ps.length ≤ 8) (hp : ∀ p ∈ ps, -2000000 ≤ p ∧ p ≤ 2000000) (i : Nat) (hi : i ≤ l.length) : -3000000000000 * (i : Int) ≤ dgains l ps i ∧ dgains l ps i ≤ 3000000000000 * (i : Int) := by
  induction i with
  | zero => simp [dgains, sumN]
  | succ i ih =>
    obtain ⟨i1, i2⟩ := ih (by omega)
    obtain ⟨k, _, _, _, e, _⟩ := dsingle_ok (h _ (cu_mem (by omega : i < l.length))) hl
    have h1 := dsumN_bd (h _ (cu_mem (by omega : i < l.length))) hp k ps.length (Nat.le_refl _)
    have h2 := urun_bd (cu l i).r (cu l i).s (dsch (cu l i) ps k)
    have e2 : dgains l ps (i + 1) = dgains l ps i + (dsingle (cu l i) ps).2.1 := rfl
    rw [e2, e]
    unfold dval
    push_cast
    omega
theorem dsumP_bd {ds ps : List Int} (hp : ∀ p ∈ ps, -2000000 ≤ p ∧ p ≤ 2000000) (hd : ∀ d ∈ ds, 0 ≤ d ∧ d ≤ 1000000) (t : Nat) (ht : t ≤ ps.length) (hl : ps.length = ds.length) : -2000000000000 * (t : Int) ≤ dsumP ds ps t ∧ dsumP ds ps t ≤ 2000000000000 * (t : Int) := by
  induction t with
  | zero => simp [dsumP, sumN]
  | succ t ih =>
    obtain ⟨i1, i2⟩ := ih (by omega)
    have h1 := hp _ (getD_mem (t := t) (ps := ps) (by omega))
    have h2 := hd _ (getD_mem (t := t) (ps := ds) (by omega))
    have e2 : dsumP ds ps (t + 1) = dsumP ds ps t + ps.getD t 0 * ds.getD t 0 := rfl
    generalize ps.getD t 0 = p at *
    generalize ds.getD t 0 = d at *
    have b1 : p * d ≤ 2000000 * d := Int.mul_le_mul_of_nonneg_right h1.2 h2.1
    have b2 : -2000000 * d ≤ p * d := Int.mul_le_mul_of_nonneg_right h1.1 h2.1
    rw [e2]
    push_cast
    omega
end Go.Proofs.Ytchafkocobbndaa.Pl
namespace Go.Proofs.Ytchafkocobbndaa
open Go.RowKit
set_option maxHeartbeats 6400000 in
set_option maxRecDepth 100000 in
theorem bound_any (A B C : Option Addr) (n c m d q e : Nat) (l : List MU) (ds ps : List Int) (w : World) (hcap : n ≤ c) (h : Unis w A n l) (hq : Reads w w.heap.size 1 B m (ints ds)) (hp : Reads w w.heap.size 1 C q (ints ps)) :
    Calls Try.prog 15 #[.slice A n c, .slice B m d, .slice C q e] w fun e w' => e = .returned (.tuple #[.int .i64 (Pl.dBound (plus l) ds ps).1, .int .i64 (Pl.dBound (plus l) ds ps).2]) ∧ Below w.heap.size w w' := by
  have HC := Lib.hid (fun w h hq hp => dchk_any A B C n c m d q e l ds ps w hcap h hq hp)
  have H := Lib.hid h
  have HQ := Lib.hid hq
  have HP := Lib.hid hp
  have L0 := Lib.hid h.len
  have L1 := Lib.hid hq.int_len
  have L2 := Lib.hid hp.int_len
  have HX : Hid (Pl.dBound (plus l) ds ps = if Pl.dchk (plus l) ds ps ≠ 0 then (0, Pl.dchk (plus l) ds ps) else (Pl.dsumP ds ps ps.length - Pl.dgains (plus l) ps (plus l).length, 0)) := rfl
  generalize Pl.dBound (plus l) ds ps = R at *
  clear h hq hp
  by_cases h0 : Pl.dchk (plus l) ds ps = 0
  · rw [if_neg (by simpa using h0)] at HX
    obtain ⟨⟨k1, k2, k3, k4⟩, k5, k6⟩ := Pl.dchk_ok h0
    rw [h0] at HC
    have hqm : q = m := by rw [← L2.out, ← L1.out]; exact k5
    subst hqm
    have hq8 : q ≤ 8 := by rw [← L1.out]; exact k2
    have hn3 : n ≤ 3 := by rw [← L0.out, ← plus_len]; exact k1
    have HU : Hid (∀ u ∈ l, Pl.duCheck (plu u) = 0) := fun u hu => k3 _ (List.mem_map.2 ⟨u, hu, rfl⟩)
    have HPS := Lib.hid k6
    have HDS := Lib.hid k4
    have HSB := Lib.hid (fun t ht => Pl.dsumP_bd k6 k4 t ht k5)
    have HGB := Lib.hid (fun i hi => Pl.dgains_bd (l := plus l) k3 (ps := ps) (by rw [L2.out]; exact hq8) k6 i hi)
    have LP : Hid ((plus l).length = n) := by show _ = _; rw [plus_len]; exact L0.out
    rw [L2.out, LP.out] at HX
    clear h0 k1 k2 k3 k4 k5 k6
    go_enter Try.func15, Try.ntmps15
    go_wp2_with fail
    refine (HC.out _ H.out HQ.out HP.out).mono ?_
    rintro e1 w1 ⟨rfl, hb⟩
    have HB1 := Lib.hid hb
    clear hb HC
    go_wp2_with fail
    go_loopw [9, 25] (fun cv i wr => ∃ t : Nat, t ≤ q ∧ i = .int .i64 t ∧ cv = .int .i64 (Pl.dsumP ds ps t) ∧ Hid (Below w.heap.size w wr)) (fun _ i _ => q - (intOf i).toNat)
    case atStart => exact ⟨0, Nat.zero_le _, rfl, rfl, HB1⟩
    case round =>
      clear HB1
      obtain ⟨t, ht, rfl, rfl, HB⟩ := hrel
      by_cases htq : t < q
      · obtain ⟨bp, op, rfl, hlp, cp⟩ := (HP.out.go HB.out).int_at htq
        obtain ⟨bd, od, rfl, hld, cd⟩ := (HQ.out.go HB.out).int_at htq
        have HPD : Hid (Pl.dsumP ds ps (t + 1) = Pl.dsumP ds ps t + ps[t] * ds[t]) := by
          show _ = _
          have e1 : ps.getD t 0 = ps[t] := by rw [List.getD_eq_getElem?_getD, List.getElem?_eq_getElem hlp]; rfl
          have e2 : ds.getD t 0 = ds[t] := by rw [List.getD_eq_getElem?_getD, List.getElem?_eq_getElem hld]; rfl
          rw [← e1, ← e2]; rfl
        have hp1 := HPS.out _ (List.getElem_mem hlp)
        have hd1 := HDS.out _ (List.getElem_mem hld)
        have hs1 := HSB.out t (by rw [L2.out]; omega)
        generalize ps[t] = p at *
        generalize ds[t] = x at *
        have b1 : p * x ≤ 2000000 * x := Int.mul_le_mul_of_nonneg_right hp1.2 hd1.1
        have b2 : -2000000 * x ≤ p * x := Int.mul_le_mul_of_nonneg_right hp1.1 hd1.1
        have hw1 : IntKind.i64.wrap (p * x) = p * x := IntWalk.i64_in _ (by omega)
        have hw2 : IntKind.i64.wrap (Pl.dsumP ds ps t + p * x) = Pl.dsumP ds ps t + p * x := IntWalk.i64_in _ (by omega)
        have t0 : (0 : Int) ≤ (t : Int) := by omega
        have t1 : (t : Int) < (q : Int) := by omega
        clear hlp hld b1 b2
        go_wp2_with fail
        go_roundw
        case rel => exact ⟨t + 1, by omega, by go_num, vint HPD.out.symm, HB⟩
        case measure => simp [intOf]; omega
      · have : q = t := by omega
        subst this
        have hs1 := HSB.out q (by rw [L2.out]; exact Nat.le_refl _)
        generalize Pl.dsumP ds ps q = sp at *
        have HZ : Hid (Pl.dgains (plus l) ps 0 = 0) := rfl
        go_wp2_with fail
        go_loopw [9, 41] (fun cv i wr => ∃ k : Nat, k ≤ n ∧ i = .int .i64 k ∧ cv = .int .i64 (sp - Pl.dgains (plus l) ps k) ∧ Hid (Below w.heap.size w wr)) (fun _ i _ => n - (intOf i).toNat)
        case atStart => exact ⟨0, Nat.zero_le _, rfl, vint (by rw [HZ.out]; omega), HB⟩
        case round =>
          clear HB
          obtain ⟨k, hk, rfl, rfl, HB⟩ := hrel
          by_cases hlt : k < n
          · obtain ⟨b, o, rfl, u, ⟨hl, hu⟩, c0, c1, c2, c3, c4, c5, c6, c7, c8, c9, c10, c11, c12, hin⟩ := (H.out.go HB.out).cells5 hlt
            have hck : Pl.duCheck (plu u) = 0 := HU.out u (by rw [hu]; exact List.getElem_mem hl)
            have HGS : Hid (Pl.dgains (plus l) ps (k + 1) = Pl.dgains (plus l) ps k + (Pl.dsingle (plu u) ps).2.1) := by
              show _ = _
              have e1 : Pl.cu (plus l) k = plu u := by rw [hu]; exact plus_cu hl
              rw [← e1]; rfl
            have hg0 := HGB.out k (by rw [LP.out]; omega)
            have hg1 := HGB.out (k + 1) (by rw [LP.out]; omega)
            rw [HGS.out] at hg1
            have HSG := Lib.hid (fun (w : World) h1 h2 => single_any u C q e ps w hck h1 hq8 HPS.out h2)
            unfold SingleSaid vUn at HSG
            have HIN := Lib.hid hin
            clear hu hck hin hl
            generalize Pl.dsingle (plu u) ps = D at *
            obtain ⟨DL, dm, df⟩ := D
            simp only at HSG HGS hg1
            obtain ⟨⟨rn, r1, r2, r3, r4, r5, r6, r7⟩, nm, Az, nz, cz, st, ⟨s1, s2, s3⟩⟩ := u
            simp only at HSG c0 c1 c2 c3 c4 c5 c6 c7 c8 c9 c10 c11 c12
            generalize Pl.dgains (plus l) ps k = gk at *
            have A0 := Lib.hid ((Below.refl wr.heap.size wr).alloc (Nat.le_refl _) (.cells #[.string rn, .int .i64 r1, .int .i64 r2, .int .i64 r3, .int .i64 r4, .int .i64 r5, .int .i64 r6, .int .i64 r7, .string nm, .slice Az nz cz, .bool s1, .int .i64 s2, .int .i64 s3] 35))
            have H0 := Lib.hid (HIN.out.go A0.out)
            have HP0 := Lib.hid ((HP.out.go HB.out).go A0.out)
            have HB0 := Lib.hid (HB.out.trans (A0.out.mono HB.out.size))
            have k0 : (0 : Int) ≤ (k : Int) := by omega
            have k1 : (k : Int) < (n : Int) := by omega
            have hw1 : IntKind.i64.wrap (sp - gk - dm) = sp - gk - dm := IntWalk.i64_in _ (by omega)
            go_wp2_with fail
            refine (HSG.out _ H0.out HP0.out).mono ?_
            rintro e1 w3 ⟨Ar, cr, rfl, _, hb⟩
            have HB3 := Lib.hid (HB0.out.trans (hb.mono HB0.out.size))
            clear hb c0 c1 c2 c3 c4 c5 c6 c7 c8 c9 c10 c11 c12 HSG A0 H0 HP0 HB0 HIN HB
            go_wp2_with fail
            go_roundw
            case rel => exact ⟨k + 1, by omega, by go_num, vint (by rw [HGS.out]; omega), HB3⟩
            case measure => simp [intOf]; omega
          · have : n = k := by omega
            subst this
            go_wp2_with fail
            go_ret2
            rw [HX.out]
            exact ⟨rfl, HB.out⟩
  · rw [if_pos h0] at HX
    generalize Pl.dchk (plus l) ds ps = E at *
    have he : (E != 0) = true := by simpa using h0
    clear h0
    go_enter Try.func15, Try.ntmps15
    go_wp2_with fail
    refine (HC.out _ H.out HQ.out HP.out).mono ?_
    rintro e1 w1 ⟨rfl, hb⟩
    have HB1 := Lib.hid hb
    clear hb HC
    go_wp2_with fail
    go_ret2
    rw [HX.out]
    exact ⟨rfl, HB1.out⟩
theorem bound_ex (AL A B C : Option Addr) (w : World) (h : Unis w A 1 [aloneU AL]) (hq : Reads w w.heap.size 1 B 1 (ints [12])) (hp : Reads w w.heap.size 1 C 1 (ints [5])) :
    Calls Try.prog 15 #[.slice A 1 1, .slice B 1 1, .slice C 1 1] w fun e w' => e = .returned (.tuple #[.int .i64 60, .int .i64 0]) ∧ Below w.heap.size w w' := by
  have h1 := bound_any A B C 1 1 1 1 1 1 [aloneU AL] [12] [5] w (Nat.le_refl _) h hq hp
  rw [show Pl.dBound (plus [aloneU AL]) [12] [5] = (60, 0) from Pl.dBound_ex] at h1
  exact h1
theorem cost_ex (AL A B C D : Option Addr) (w : World) (h : Unis w A 1 [aloneU AL]) (hq : Reads w w.heap.size 1 B 1 (ints [12])) (hg : Grid w C 1 [(D, 1, [12])]) :
    Calls Try.prog 14 #[.slice A 1 1, .slice B 1 1, .slice C 1 1] w fun e w' => e = .returned (.tuple #[.int .i64 75, .int .i64 0]) ∧ Below w.heap.size w w' := by
  refine (ccost_any A B C 1 1 1 1 1 1 [aloneU AL] [12] [(D, 1, [12])] w (Nat.le_refl _) h hq hg).mono ?_
  rintro e w' ⟨cost, er, rfl, hcp, hb⟩
  obtain ⟨rfl, rfl⟩ := Pl.cost_ex hcp
  exact ⟨rfl, hb⟩
set_option maxHeartbeats 6400000 in
set_option maxRecDepth 100000 in
theorem dualBelow_walk (A : Option Addr) (n c : Nat) (l : List MU) (B : Option Addr) (m d : Nat) (ds : List Int) (C : Option Addr) (q e : Nat) (ps : List Int) (D : Option Addr) (p f : Nat) (S : List MRow) (w : World) (hcap : n ≤ c) (h : Unis w A n l) (hq : Reads w w.heap.size 1 B m (ints ds)) (hp : Reads w w.heap.size 1 C q (ints ps)) (hg : Grid w D p S) :
    Calls Try.prog 6 #[.slice A n c, .slice B m d, .slice C q e, .slice D p f] w fun e w' => e = .returned (.bool true) ∧ Below w.heap.size w w' := by
  have HBO := Lib.hid (fun w h hq hp => bound_any A B C n c m d q e l ds ps w hcap h hq hp)
  have HST := Lib.hid (fun w h hq => cbest_any A B n c m d l ds w hcap h hq)
  have HCC := Lib.hid (fun w h hq hg => ccost_any A B D n c m d p f l ds S w hcap h hq hg)
  unfold BestSaid2 at HST
  unfold CcSaid at HCC
  have HBX := Lib.hid bound_ex
  have HEC := Lib.hid cost_ex
  have H := Lib.hid h
  have HQ := Lib.hid hq
  have HP := Lib.hid hp
  have HG := Lib.hid hg
  clear h hq hp hg
  have HAL := Lib.hid alone_any
  unfold vUn aloneU at HAL
  go_enter Try.func6, Try.ntmps6
  go_wp2_with fail
  refine (HAL.out _).mono ?_
  rintro e1 w1 ⟨AL, rfl, hin, hb⟩
  have HIN : Hid (UnIn w1 (aloneU AL)) := hin
  have HB1 := Lib.hid hb
  clear hin hb
  go_wp2_with fail
  have HU1 := Lib.hid (Unis.lit HIN.out 35 _ rfl)
  have A1 := Lib.hid (HB1.out.alloc HB1.out.size (.cells (ucells (aloneU AL)).toArray 35))
  have hcel : (ucells (aloneU AL)).toArray = #[.string ⟨#[65]⟩, .int .i64 0, .int .i64 20, .int .i64 20, .int .i64 20, .int .i64 1, .int .i64 1, .int .i64 9, .string ⟨#[65]⟩, .slice AL 2 2, .bool false, .int .i64 5, .int .i64 0] := rfl
  rw [hcel] at HU1 A1
  have hs1 : (w1.alloc (.cells #[.string ⟨#[65]⟩, .int .i64 0, .int .i64 20, .int .i64 20, .int .i64 20, .int .i64 1, .int .i64 1, .int .i64 9, .string ⟨#[65]⟩, .slice AL 2 2, .bool false, .int .i64 5, .int .i64 0] 35)).heap.size = w1.heap.size + 1 := by simp
  clear hcel
  generalize w1.alloc (.cells #[.string ⟨#[65]⟩, .int .i64 0, .int .i64 20, .int .i64 20, .int .i64 20, .int .i64 1, .int .i64 1, .int .i64 9, .string ⟨#[65]⟩, .slice AL 2 2, .bool false, .int .i64 5, .int .i64 0] 35) = w2 at *
  have A2 := Lib.hid (A1.out.alloc A1.out.size (.cells #[.int .i64 12] 3))
  have RD2 := Lib.hid (Reads.lit w2 #[.int .i64 12] 3 1 1 (w1.heap.size + 1) hs1.symm rfl)
  have HU2 := Lib.hid (HU1.out.go ((Below.refl w2.heap.size w2).alloc (Nat.le_refl _) (.cells #[.int .i64 12] 3)))
  have hs2 : (w2.alloc (.cells #[.int .i64 12] 3)).heap.size = w1.heap.size + 1 + 1 := by simp [hs1]
  generalize w2.alloc (.cells #[.int .i64 12] 3) = w3 at *
  have A3 := Lib.hid (A2.out.alloc A2.out.size (.cells #[.int .i64 5] 3))
  have RP3 := Lib.hid (Reads.lit w3 #[.int .i64 5] 3 1 1 (w1.heap.size + 1 + 1) hs2.symm rfl)
  have AL3 := (Below.refl w3.heap.size w3).alloc (Nat.le_refl _) (.cells #[.int .i64 5] 3)
  have HU3 := Lib.hid (HU2.out.go AL3)
  have RD3 := Lib.hid (RD2.out.go AL3)
  have hs3 : (w3.alloc (.cells #[.int .i64 5] 3)).heap.size = w1.heap.size + 1 + 1 + 1 := by simp [hs2]
  generalize w3.alloc (.cells #[.int .i64 5] 3) = w4 at *
  refine (HBX.out AL _ _ _ w4 HU3.out RD3.out RP3.out).mono ?_
  rintro e1 w5 ⟨rfl, hb⟩
  have HB5 := Lib.hid (A3.out.trans (hb.mono A3.out.size))
  clear hb HBX A1 A2 A3 HU1 HU2 HU3 RD2 RD3 RP3 AL3 hs1 hs2 hs3 HIN HB1
  generalize w1.heap.size = g1 at *
  go_wp2_with fail
  refine (HAL.out _).mono ?_
  rintro e1 w1 ⟨AM, rfl, hin, hb⟩
  have HIN : Hid (UnIn w1 (aloneU AM)) := hin
  have HB1 := Lib.hid (HB5.out.trans (hb.mono HB5.out.size))
  clear hin hb HAL HB5
  go_wp2_with fail
  have HU1 := Lib.hid (Unis.lit HIN.out 35 _ rfl)
  have A1 := Lib.hid (HB1.out.alloc HB1.out.size (.cells (ucells (aloneU AM)).toArray 35))
  have hcel : (ucells (aloneU AM)).toArray = #[.string ⟨#[65]⟩, .int .i64 0, .int .i64 20, .int .i64 20, .int .i64 20, .int .i64 1, .int .i64 1, .int .i64 9, .string ⟨#[65]⟩, .slice AM 2 2, .bool false, .int .i64 5, .int .i64 0] := rfl
  rw [hcel] at HU1 A1
  have hs1 : (w1.alloc (.cells #[.string ⟨#[65]⟩, .int .i64 0, .int .i64 20, .int .i64 20, .int .i64 20, .int .i64 1, .int .i64 1, .int .i64 9, .string ⟨#[65]⟩, .slice AM 2 2, .bool false, .int .i64 5, .int .i64 0] 35)).heap.size = w1.heap.size + 1 := by simp
  clear hcel
  generalize w1.alloc (.cells #[.string ⟨#[65]⟩, .int .i64 0, .int .i64 20, .int .i64 20, .int .i64 20, .int .i64 1, .int .i64 1, .int .i64 9, .string ⟨#[65]⟩, .slice AM 2 2, .bool false, .int .i64 5, .int .i64 0] 35) = w2 at *
  have A2 := Lib.hid (A1.out.alloc A1.out.size (.cells #[.int .i64 12] 3))
  have RD2 := Lib.hid (Reads.lit w2 #[.int .i64 12] 3 1 1 (w1.heap.size + 1) hs1.symm rfl)
  have HU2 := Lib.hid (HU1.out.go ((Below.refl w2.heap.size w2).alloc (Nat.le_refl _) (.cells #[.int .i64 12] 3)))
  have hs2 : (w2.alloc (.cells #[.int .i64 12] 3)).heap.size = w1.heap.size + 1 + 1 := by simp [hs1]
  generalize w2.alloc (.cells #[.int .i64 12] 3) = w3 at *
  have A3 := Lib.hid (A2.out.alloc A2.out.size (.cells #[.int .i64 12] 3))
  have RP3 := Lib.hid (Reads.lit w3 #[.int .i64 12] 3 1 1 (w1.heap.size + 1 + 1) hs2.symm rfl)
  have AL3 := (Below.refl w3.heap.size w3).alloc (Nat.le_refl _) (.cells #[.int .i64 12] 3)
  have HU3 := Lib.hid (HU2.out.go AL3)
  have RD3 := Lib.hid (RD2.out.go AL3)
  have hs3 : (w3.alloc (.cells #[.int .i64 12] 3)).heap.size = w1.heap.size + 1 + 1 + 1 := by simp [hs2]
  generalize w3.alloc (.cells #[.int .i64 12] 3) = w4 at *
  have A4 := Lib.hid (A3.out.alloc A3.out.size (.cells #[.slice (some ⟨w1.heap.size + 1 + 1, 0, none⟩) 1 1] 23))
  have AL4 := (Below.refl w4.heap.size w4).alloc (Nat.le_refl _) (.cells #[.slice (some ⟨w1.heap.size + 1 + 1, 0, none⟩) 1 1] 23)
  have HU4 := Lib.hid (HU3.out.go AL4)
  have RD4 := Lib.hid (RD3.out.go AL4)
  have RP4 := Lib.hid (RP3.out.go AL4)
  have GR4 : Hid (Grid (w4.alloc (.cells #[.slice (some ⟨w1.heap.size + 1 + 1, 0, none⟩) 1 1] 23)) (some ⟨w1.heap.size + 1 + 1 + 1, 0, none⟩) 1 [(some ⟨w1.heap.size + 1 + 1, 0, none⟩, 1, [12])]) := by
    refine ⟨Reads.lit w4 #[.slice (some ⟨w1.heap.size + 1 + 1, 0, none⟩) 1 1] 23 1 1 (w1.heap.size + 1 + 1 + 1) hs3.symm rfl, fun r hr => ?_⟩
    rw [List.mem_singleton.1 hr]
    exact RP4.out
  generalize w4.alloc (.cells #[.slice (some ⟨w1.heap.size + 1 + 1, 0, none⟩) 1 1] 23) = w6 at *
  refine (HEC.out AM _ _ _ _ w6 HU4.out RD4.out GR4.out).mono ?_
  rintro e1 w7 ⟨rfl, hb⟩
  have HB7 := Lib.hid (A4.out.trans (hb.mono A4.out.size))
  clear hb HEC A1 A2 A3 A4 AL3 AL4 HU1 HU2 HU3 HU4 RD2 RD3 RD4 RP3 RP4 GR4 hs1 hs2 hs3 HIN HB1
  go_wp2_with fail
  refine (HBO.out w7 (H.out.go HB7.out) (HQ.out.go HB7.out) (HP.out.go HB7.out)).mono ?_
  rintro e1 w8 ⟨rfl, hb⟩
  have HB8 := Lib.hid (HB7.out.trans (hb.mono HB7.out.size))
  clear hb HBO HB7
  go_wp2_with fail
  refine (HCC.out w8 (H.out.go HB8.out) (HQ.out.go HB8.out) (HG.out.go HB8.out)).mono ?_
  rintro e1 w9 ⟨co, eo, rfl, hcp, hb⟩
  have HCP := Lib.hid hcp
  have HB9 := Lib.hid (HB8.out.trans (hb.mono HB8.out.size))
  clear hb hcp HCC HB8
  go_wp2_with fail
  refine (HST.out w9 (H.out.go HB9.out) (HQ.out.go HB9.out)).mono ?_
  rintro e1 w10 ⟨AR, cR, R, nn, er, rfl, hbp, _, _, hb⟩
  have HBP := Lib.hid hbp
  have HB10 := Lib.hid (HB9.out.trans (hb.mono HB9.out.size))
  clear hb hbp HST HB9
  have HBB := Lib.hid (fun hb => Pl.below_both (ps := ps) hb HCP.out HBP.out)
  have HBD := Lib.hid (fun hb => Pl.dBound_bad (l := plus l) (ds := ds) (ps := ps) hb)
  generalize Pl.dBound (plus l) ds ps = BD at *
  obtain ⟨bb, be⟩ := BD
  simp only at HBB HBD
  by_cases he : be = 0
  · subst he
    obtain ⟨h1, h2⟩ := HBB.out rfl
    by_cases heo : eo = 0
    · subst heo
      have hle1 : bb ≤ co := h1 rfl
      by_cases her : er = 0
      · subst her
        have hle2 : bb ≤ nn := h2 rfl
        clear h1 h2
        go_wp2_with fail
        go_ret
        exact ⟨rfl, HB10.out⟩
      · have her2 : (er != 0) = true := by simpa using her
        clear h1 h2
        go_wp2_with fail
        go_ret
        exact ⟨rfl, HB10.out⟩
    · have heo2 : (eo != 0) = true := by simpa using heo
      by_cases her : er = 0
      · subst her
        have hle2 : bb ≤ nn := h2 rfl
        clear h1 h2
        go_wp2_with fail
        go_ret
        exact ⟨rfl, HB10.out⟩
      · have her2 : (er != 0) = true := by simpa using her
        clear h1 h2
        go_wp2_with fail
        go_ret
        exact ⟨rfl, HB10.out⟩
  · obtain rfl : bb = 0 := HBD.out he
    have he2 : (be != 0) = true := by simpa using he
    go_wp2_with fail
    go_ret
    exact ⟨rfl, HB10.out⟩
end Go.Proofs.Ytchafkocobbndaa
