/- The plain law of a dispatch with a reserve: early and late blocks, filled in turn. No program. The laws of the fill with a reserve: it is held, less need costs not more, no need costs what a dispatch costs. No program. Bounds of the fill with a reserve, plain. No program. -/
import Derived.Test.YtpbomomgjhbljaaPDispB
namespace Go.Proofs.Ytpbomomgjhbljaa.Pl
/-- sorted orders of one list give one fold, where equal elements commute -/
theorem move_front {α β : Type} {f : β → α → β} {G : α → Prop} {P : β → Prop} {le : α → α → Prop} (hP : ∀ s a, G a → P s → P (f s a)) (hc : ∀ s a b, G a → G b → P s → le a b → le b a → f (f s a) b = f (f s b) a) (a : α) (ga : G a) :
    ∀ (u v : List α) (s : β), P s → (∀ x ∈ u, G x ∧ le x a ∧ le a x) → (u ++ a :: v).foldl f s = (a :: (u ++ v)).foldl f s := by
  intro u
  induction u with
  | nil => intro v s _ _; rfl
  | cons x u ih =>
    intro v s hs hu
    obtain ⟨gx, h1, h2⟩ := hu x (by simp)
    rw [List.cons_append, List.foldl_cons, ih v (f s x) (hP s x gx hs) (fun y hy => hu y (by simp [hy]))]
    simp only [List.foldl_cons, List.cons_append]
    rw [hc s x a gx ga hs h1 h2]
theorem fold_sorted {α β : Type} {f : β → α → β} {G : α → Prop} {P : β → Prop} {le : α → α → Prop} (hP : ∀ s a, G a → P s → P (f s a)) (hc : ∀ s a b, G a → G b → P s → le a b → le b a → f (f s a) b = f (f s b) a) :
    ∀ (l m : List α) (s : β), l.Perm m → l.Pairwise le → m.Pairwise le → (∀ a ∈ l, G a) → P s → l.foldl f s = m.foldl f s := by
  intro l
  induction l with
  | nil => intro m s h _ _ _ _; rw [List.Perm.eq_nil h.symm]
  | cons a t ih =>
    intro m s h hl hm hg hs
    obtain ⟨h1, h2⟩ := List.pairwise_cons.1 hl
    have hmem : a ∈ m := h.mem_iff.1 (by simp)
    obtain ⟨u, v, rfl⟩ := List.append_of_mem hmem
    have hp : t.Perm (u ++ v) := (List.perm_cons a).1 (h.trans List.perm_middle)
    have hu : ∀ x ∈ u, G x ∧ le x a ∧ le a x := fun x hx => by
      have hx2 : x ∈ t := hp.mem_iff.2 (by simp [hx])
      exact ⟨hg x (by simp [hx2]), (List.pairwise_append.1 hm).2.2 x hx a (by simp), h1 x hx2⟩
    rw [move_front hP hc a (hg a (by simp)) u v s hs hu]
    simp only [List.foldl_cons]
    refine ih (u ++ v) (f s a) hp h2 ?_ (fun x hx => hg x (by simp [hx])) (hP s a (hg a (by simp)) hs)
    have hsub : (u ++ v).Sublist (u ++ a :: v) := List.Sublist.append_left (List.sublist_cons_self a v) u
    exact hm.sublist hsub
/- blocks: unit, power, price, late -/
abbrev B4 := Int × Int × Int × Bool
abbrev RU := Off × Int
def ru (l : List RU) (k : Nat) : RU := l.getD k ((⟨#[]⟩, []), 0)
def roffs (l : List RU) : List Off := l.map fun u => u.1
theorem ru_steps (l : List RU) (k : Nat) : steps (roffs l) k = (ru l k).1.2 := by
  unfold steps roffs ru
  rw [List.getD_eq_getElem?_getD, List.getD_eq_getElem?_getD, List.getElem?_map]
  cases l[k]? <;> rfl
def heldF (f : Int) (st : List (Int × Int)) (p : Int) : Int := min f (total st - p)
def possK (l : List RU) : Nat → Int := sumN (fun k => heldF (ru l k).2 (steps (roffs l) k) 0)
def heldK (l : List RU) (ps : List Int) : Nat → Int := sumN (fun k => heldF (ru l k).2 (steps (roffs l) k) (ps.getD k 0))
def earlyK (l : List RU) (k : Nat) : Int := total (steps (roffs l) k) - heldF (ru l k).2 (steps (roffs l) k) 0
def rstep (g : Int) (s : List B4 × Int) (p : Int × Int) : List B4 × Int :=
  ((if 0 < min s.2 p.1 then s.1 ++ [(g, min s.2 p.1, p.2, false)] else s.1) ++ (if min s.2 p.1 < p.1 then [(g, p.1 - min s.2 p.1, p.2, true)] else []), s.2 - min s.2 p.1)
def rblk (g early : Int) (st : List (Int × Int)) : List B4 × Int := st.foldl (rstep g) ([], early)
theorem rblk_snoc (g early : Int) (st : List (Int × Int)) (p : Int × Int) : rblk g early (st ++ [p]) = rstep g (rblk g early st) p := by unfold rblk; rw [List.foldl_append]; rfl
theorem rblk_left (g early : Int) {st : List (Int × Int)} (h : ∀ p ∈ st, 1 ≤ p.1) (h0 : 0 ≤ early) : 0 ≤ (rblk g early st).2 ∧ (rblk g early st).2 ≤ early := by
  induction st using snocInd with
  | h0 => exact ⟨h0, Int.le_refl _⟩
  | h1 st p ih =>
    have hp := h p (by simp)
    have ih := ih fun q hq => h q (by simp [hq])
    rw [rblk_snoc]
    unfold rstep
    simp only
    omega
theorem rblk_len (g early : Int) (st : List (Int × Int)) : (rblk g early st).1.length ≤ 2 * st.length := by
  induction st using snocInd with
  | h0 => exact Nat.le_refl _
  | h1 st p ih =>
    rw [rblk_snoc]
    unfold rstep
    simp only [List.length_append, List.length_singleton]
    split <;> split <;> simp <;> omega
/-- sums over the blocks of one unit: all of each step, and the early ones together -/
theorem rblk_sum (g early : Int) (h : Int → Int) {st : List (Int × Int)} (hst : ∀ p ∈ st, 1 ≤ p.1) (h0 : 0 ≤ early) :
    sumF (fun b => b.2.1 * h b.2.2.1) (rblk g early st).1 = sumF (fun s => s.1 * h s.2) st ∧ sumF (fun b => if b.2.2.2 then 0 else b.2.1) (rblk g early st).1 = early - (rblk g early st).2 := by
  induction st using snocInd with
  | h0 => exact ⟨rfl, by simp [rblk, sumF]⟩
  | h1 st p ih =>
    have hp := hst p (by simp)
    have hl := rblk_left (st := st) g early (fun q hq => hst q (by simp [hq])) h0
    obtain ⟨i1, i2⟩ := ih fun q hq => hst q (by simp [hq])
    rw [rblk_snoc]
    unfold rstep
    simp only [sumF_append]
    by_cases c1 : 0 < min (rblk g early st).2 p.1
    · rw [if_pos c1]
      simp only [sumF_append]
      by_cases c2 : min (rblk g early st).2 p.1 < p.1
      · rw [if_pos c2]
        simp only [sumF, i1, i2]
        constructor
        · generalize min (rblk g early st).2 p.1 = m at *
          generalize h p.2 = x at *
          grind
        · simp; omega
      · rw [if_neg c2]
        have e : min (rblk g early st).2 p.1 = p.1 := by omega
        rw [e]
        simp only [sumF, i1, i2]
        constructor
        · omega
        · simp; omega
    · rw [if_neg c1, if_pos (by omega)]
      have e : min (rblk g early st).2 p.1 = 0 := by omega
      rw [e]
      simp only [sumF, i1, i2]
      constructor
      · simp
      · simp
def rblocks (l : List RU) : Nat → List B4
  | 0 => []
  | k + 1 => rblocks l k ++ (rblk k (earlyK l k) (steps (roffs l) k)).1
def GoodR (n : Nat) (b : B4) : Prop := 0 ≤ b.1 ∧ b.1 < n ∧ 0 ≤ b.2.1 ∧ b.2.1 ≤ 100000 ∧ -1000000 ≤ b.2.2.1 ∧ b.2.2.1 ≤ 1000000
theorem rblk_good {g early : Int} {n : Nat} {st : List (Int × Int)} (hg : Good st) (g0 : 0 ≤ g) (g1 : g < n) (h0 : 0 ≤ early) : ∀ b ∈ (rblk g early st).1, GoodR n b ∧ b.1 = g := by
  have hs : ∀ p ∈ st, 1 ≤ p.1 ∧ p.1 ≤ 100000 ∧ -1000000 ≤ p.2 ∧ p.2 ≤ 1000000 := fun p hp => hg.step p hp
  clear hg
  induction st using snocInd with
  | h0 => intro b hb; simp [rblk] at hb
  | h1 st p ih =>
    intro b hb
    have hl := rblk_left (st := st) g early (fun q hq => (hs q (by simp [hq])).1) h0
    have hp := hs p (by simp)
    have ih := ih fun q hq => hs q (by simp [hq])
    rw [rblk_snoc] at hb
    unfold rstep at hb
    simp only [List.mem_append] at hb
    rcases hb with hb | hb
    · split at hb
      · rw [List.mem_append] at hb
        rcases hb with hb | hb
        · exact ih b hb
        · simp only [List.mem_singleton] at hb
          subst hb
          refine ⟨⟨g0, g1, ?_, ?_, ?_, ?_⟩, rfl⟩ <;> simp only <;> omega
      · exact ih b hb
    · split at hb
      · simp only [List.mem_singleton] at hb
        subst hb
        refine ⟨⟨g0, g1, ?_, ?_, ?_, ?_⟩, rfl⟩ <;> simp only <;> omega
      · simp at hb
theorem rblocks_len {l : List RU} {n : Nat} (h : ∀ k, k < n → (steps (roffs l) k).length ≤ 12) : (rblocks l n).length ≤ 24 * n := by
  induction n with
  | zero => simp [rblocks]
  | succ n ih =>
    rw [rblocks, List.length_append]
    have := ih fun k hk => h k (by omega)
    have := h n (by omega)
    have := rblk_len n (earlyK l n) (steps (roffs l) n)
    omega
theorem earlyK_bd {l : List RU} {k : Nat} (hg : Good (steps (roffs l) k)) (hf : 0 ≤ (ru l k).2) : 0 ≤ earlyK l k ∧ earlyK l k ≤ total (steps (roffs l) k) := by
  have h := least_most (P := 0) (st := steps (roffs l) k) (fun q hq => (hg.step q hq).1)
  unfold earlyK heldF
  omega
theorem rblocks_good {l : List RU} {n N : Nat} (hg : ∀ k, k < n → Good (steps (roffs l) k)) (hf : ∀ k, k < n → 0 ≤ (ru l k).2) (hn : n ≤ N) : ∀ b ∈ rblocks l n, GoodR N b := by
  induction n with
  | zero => intro b hb; simp [rblocks] at hb
  | succ n ih =>
    intro b hb
    rw [rblocks, List.mem_append] at hb
    rcases hb with hb | hb
    · exact ih (fun k hk => hg k (by omega)) (fun k hk => hf k (by omega)) (by omega) b hb
    · exact (rblk_good (hg n (by omega)) (by omega) (by omega) (earlyK_bd (hg n (by omega)) (hf n (by omega))).1 b hb).1
/- the fill -/
def rn (b : B4) (d q : Int) : Int := if b.2.2.2 then min (min d b.2.1) q else min d b.2.1
def rq (b : B4) (m : Int) : Int := if b.2.2.2 then m else 0
def rfstep (s : List Int × Int × Int × Int) (b : B4) : List Int × Int × Int × Int :=
  (s.1.set b.1.toNat (s.1.getD b.1.toNat 0 + rn b s.2.2.1 s.2.2.2), s.2.1 + rn b s.2.2.1 s.2.2.2 * b.2.2.1, s.2.2.1 - rn b s.2.2.1 s.2.2.2, s.2.2.2 - rq b (rn b s.2.2.1 s.2.2.2))
def rfill (n : Nat) (d q : Int) (bs : List B4) : List Int × Int × Int × Int := bs.foldl rfstep (List.replicate n 0, 0, d, q)
theorem rfill_snoc (n : Nat) (d q : Int) (bs : List B4) (b : B4) : rfill n d q (bs ++ [b]) = rfstep (rfill n d q bs) b := by unfold rfill; rw [List.foldl_append]; rfl
def rfilled (f : B4 → Int → Int) : List B4 → Int → Int → Int
  | [], _, _ => 0
  | b :: bs, d, q => f b (rn b d q) + rfilled f bs (d - rn b d q) (q - rq b (rn b d q))
theorem rn_bd {b : B4} {d q : Int} (hb : 0 ≤ b.2.1) (hd : 0 ≤ d) (hq : 0 ≤ q) : 0 ≤ rn b d q ∧ rn b d q ≤ b.2.1 ∧ rn b d q ≤ d ∧ 0 ≤ rq b (rn b d q) ∧ rq b (rn b d q) ≤ q := by
  unfold rq rn
  cases b.2.2.2 <;> simp <;> omega
theorem rfold_out {n : Nat} (g : Nat) (hg : g < n) : ∀ (bs : List B4) (out : List Int) (c d q : Int), (∀ b ∈ bs, GoodR n b) → out.length = n → ((bs.foldl rfstep (out, c, d, q)).1.getD g 0 = out.getD g 0 + rfilled (fun b m => if b.1.toNat = g then m else 0) bs d q ∧ (bs.foldl rfstep (out, c, d, q)).1.length = n) := by
  intro bs
  induction bs with
  | nil => intro out c d q _ h; exact ⟨by simp [rfilled], h⟩
  | cons b bs ih =>
    intro out c d q hb h
    obtain ⟨b0, b1, _⟩ := hb b (by simp)
    rw [List.foldl_cons, rfilled]
    obtain ⟨h1, h2⟩ := ih (out.set b.1.toNat (out.getD b.1.toNat 0 + rn b d q)) (c + rn b d q * b.2.2.1) (d - rn b d q) (q - rq b (rn b d q)) (fun x hx => hb x (by simp [hx])) (by rw [List.length_set]; exact h)
    refine ⟨?_, h2⟩
    show (List.foldl rfstep (out.set b.1.toNat (out.getD b.1.toNat 0 + rn b d q), c + rn b d q * b.2.2.1, d - rn b d q, q - rq b (rn b d q)) bs).1.getD g 0 = _
    rw [h1, getD_set]
    by_cases e : b.1.toNat = g
    · rw [if_pos ⟨e, by omega⟩, if_pos e, e]; omega
    · rw [if_neg (fun h => e h.1), if_neg e]; omega
theorem rfold_rest : ∀ (bs : List B4) (out : List Int) (c d q : Int), (bs.foldl rfstep (out, c, d, q)).2.1 = c + rfilled (fun b m => m * b.2.2.1) bs d q ∧ (bs.foldl rfstep (out, c, d, q)).2.2.1 = d - rfilled (fun _ m => m) bs d q ∧ (bs.foldl rfstep (out, c, d, q)).2.2.2 = q - rfilled rq bs d q := by
  intro bs
  induction bs with
  | nil => intro out c d q; exact ⟨by simp [rfilled], by simp [rfilled], by simp [rfilled]⟩
  | cons b bs ih =>
    intro out c d q
    rw [List.foldl_cons, rfilled, rfilled, rfilled]
    obtain ⟨h1, h2, h3⟩ := ih (out.set b.1.toNat (out.getD b.1.toNat 0 + rn b d q)) (c + rn b d q * b.2.2.1) (d - rn b d q) (q - rq b (rn b d q))
    have e : rfstep (out, c, d, q) b = (out.set b.1.toNat (out.getD b.1.toNat 0 + rn b d q), c + rn b d q * b.2.2.1, d - rn b d q, q - rq b (rn b d q)) := rfl
    rw [e, h1, h2, h3]
    omega
theorem rfilled_bd (g : B4 → Bool) : ∀ {bs : List B4} {d q : Int}, 0 ≤ d → 0 ≤ q → (∀ b ∈ bs, 0 ≤ b.2.1) →
    0 ≤ rfilled (fun b m => if g b then m else 0) bs d q ∧ rfilled (fun b m => if g b then m else 0) bs d q ≤ sumF (fun b => if g b then b.2.1 else 0) bs := by
  intro bs
  induction bs with
  | nil => intro d q _ _ _; exact ⟨Int.le_refl _, Int.le_refl _⟩
  | cons b bs ih =>
    intro d q hd hq h0
    have hb := h0 b (by simp)
    obtain ⟨n0, n1, n2, n3, n4⟩ := rn_bd hb hd hq
    obtain ⟨i1, i2⟩ := ih (d := d - rn b d q) (q := q - rq b (rn b d q)) (by omega) (by omega) fun x hx => h0 x (by simp [hx])
    rw [sumF, rfilled]
    split <;> omega
theorem rfilled_end : ∀ {bs : List B4} {d q : Int}, 0 ≤ d → 0 ≤ q → (∀ b ∈ bs, 0 ≤ b.2.1) → 0 ≤ d - rfilled (fun _ m => m) bs d q ∧ 0 ≤ q - rfilled rq bs d q := by
  intro bs
  induction bs with
  | nil => intro d q hd hq _; simp [rfilled]; omega
  | cons b bs ih =>
    intro d q hd hq h0
    have hb := h0 b (by simp)
    obtain ⟨n0, n1, n2, n3, n4⟩ := rn_bd hb hd hq
    obtain ⟨i1, i2⟩ := ih (d := d - rn b d q) (q := q - rq b (rn b d q)) (by omega) (by omega) fun x hx => h0 x (by simp [hx])
    rw [rfilled, rfilled]
    omega
theorem rfilled_add (f g : B4 → Int → Int) : ∀ (bs : List B4) (d q : Int), rfilled (fun b m => f b m + g b m) bs d q = rfilled f bs d q + rfilled g bs d q := by
  intro bs
  induction bs with
  | nil => intro d q; rfl
  | cons b bs ih => intro d q; rw [rfilled, rfilled, rfilled, ih]; omega
theorem rfilled_congr {f g : B4 → Int → Int} : ∀ (bs : List B4) (d q : Int), (∀ b ∈ bs, ∀ m, f b m = g b m) → rfilled f bs d q = rfilled g bs d q := by
  intro bs
  induction bs with
  | nil => intro d q _; rfl
  | cons b bs ih => intro d q h; rw [rfilled, rfilled, h b (by simp), ih _ _ fun x hx => h x (by simp [hx])]
/-- the sum over the units of what is filled -/
theorem rfilled_gens (n : Nat) (f : B4 → Int → Int) : ∀ (bs : List B4) (d q : Int), (∀ b ∈ bs, GoodR n b) → sumN (fun g => rfilled (fun b m => if b.1.toNat = g then f b m else 0) bs d q) n = rfilled f bs d q := by
  intro bs
  induction bs with
  | nil => intro d q _; simp only [rfilled]; exact sumN_zero n
  | cons b bs ih =>
    intro d q hb
    obtain ⟨b0, b1, _⟩ := hb b (by simp)
    simp only [rfilled]
    rw [sumN_add, ih _ _ (fun x hx => hb x (by simp [hx]))]
    congr 1
    rw [sumN_congr (g := fun i => if i = b.1.toNat then f b (rn b d q) else 0) (fun i _ => by
      by_cases e : b.1.toNat = i
      · rw [if_pos e, if_pos e.symm]
      · rw [if_neg e, if_neg (fun h => e h.symm)])]
    exact sumN_one _ (by omega)
/-- sums over all blocks of the units -/
theorem rblocks_sum {l : List RU} {n N : Nat} (F : B4 → Int) (hg : ∀ k, k < n → Good (steps (roffs l) k)) (hf : ∀ k, k < n → 0 ≤ (ru l k).2) (hn : n ≤ N) (g : Nat) :
    sumF (fun b => if b.1.toNat = g then F b else 0) (rblocks l n) = if g < n then sumF F (rblk g (earlyK l g) (steps (roffs l) g)).1 else 0 := by
  induction n with
  | zero => rfl
  | succ n ih =>
    rw [rblocks, sumF_append, ih (fun k hk => hg k (by omega)) (fun k hk => hf k (by omega)) (by omega)]
    have hb := rblk_good (n := N) (g := n) (early := earlyK l n) (hg n (by omega)) (by omega) (by omega) (earlyK_bd (hg n (by omega)) (hf n (by omega))).1
    by_cases e : n = g
    · subst e
      rw [if_neg (by omega), if_pos (by omega), Int.zero_add]
      exact sumF_congr fun b hb2 => if_pos (by rw [(hb b hb2).2]; simp)
    · rw [sumF_zero (fun b hb2 => if_neg (by rw [(hb b hb2).2]; simpa using e))]
      by_cases c : g < n
      · rw [if_pos c, if_pos (by omega)]; omega
      · rw [if_neg c, if_neg (by omega)]; rfl
end Go.Proofs.Ytpbomomgjhbljaa.Pl
namespace Go.Proofs.Ytpbomomgjhbljaa.Pl
theorem getD_zeros (n g : Nat) : (List.replicate n (0 : Int)).getD g 0 = 0 := by rw [List.getD_eq_getElem?_getD, List.getElem?_replicate]; split <;> rfl
theorem rblocks_all (l : List RU) (F : B4 → Int) (n : Nat) : sumF F (rblocks l n) = sumN (fun k => sumF F (rblk k (earlyK l k) (steps (roffs l) k)).1) n := by
  induction n with
  | zero => rfl
  | succ n ih => rw [rblocks, sumF_append, ih]; rfl
theorem rfill_kept {l : List RU} {n : Nat} {d q : Int} {bs : List B4} (hg : ∀ k, k < n → Good (steps (roffs l) k)) (hf : ∀ k, k < n → 0 ≤ (ru l k).2) (hp : bs.Perm (rblocks l n)) (hd : 0 ≤ d) (hq : 0 ≤ q) :
    (rfill n d q bs).1.length = n ∧ (∀ k, k < n → 0 ≤ (rfill n d q bs).1.getD k 0 ∧ (rfill n d q bs).1.getD k 0 ≤ total (steps (roffs l) k)) ∧ sumN (fun k => (rfill n d q bs).1.getD k 0) n = d - (rfill n d q bs).2.2.1 ∧ possK l n - q ≤ heldK l (rfill n d q bs).1 n := by
  have hB : ∀ b ∈ bs, GoodR n b := fun b hb => rblocks_good hg hf (Nat.le_refl _) b (hp.mem_iff.1 hb)
  have h0 : ∀ b ∈ bs, 0 ≤ b.2.1 := fun b hb => (hB b hb).2.2.1
  have hx : ∀ g, g < n → (rfill n d q bs).1.getD g 0 = rfilled (fun b m => if b.1.toNat = g then m else 0) bs d q := fun g hgn => by
    have := (rfold_out g hgn bs (List.replicate n 0) 0 d q hB (by simp)).1
    rw [getD_zeros] at this
    unfold rfill
    omega
  have hlen : (rfill n d q bs).1.length = n := by
    rcases Nat.eq_zero_or_pos n with e | e
    · subst e
      have : ∀ (bs : List B4) (s : List Int × Int × Int × Int), (bs.foldl rfstep s).1.length = s.1.length := by
        intro bs
        induction bs with
        | nil => intro s; rfl
        | cons b bs ih => intro s; rw [List.foldl_cons, ih]; show (s.1.set _ _).length = _; rw [List.length_set]
      unfold rfill
      rw [this]; rfl
    · exact (rfold_out 0 e bs (List.replicate n 0) 0 d q hB (by simp)).2
  have hdem := (rfold_rest bs (List.replicate n 0) 0 d q).2.1
  have hst : ∀ k, k < n → ∀ p ∈ steps (roffs l) k, 1 ≤ p.1 := fun k hk p hp => ((hg k hk).step p hp).1
  refine ⟨hlen, fun k hk => ?_, ?_, ?_⟩
  · obtain ⟨a1, a2⟩ := rfilled_bd (fun b => decide (b.1.toNat = k)) hd hq h0
    have e1 : rfilled (fun b m => if decide (b.1.toNat = k) = true then m else 0) bs d q = rfilled (fun b m => if b.1.toNat = k then m else 0) bs d q := rfilled_congr _ _ _ fun b _ m => by simp
    have e2 : sumF (fun b => if decide (b.1.toNat = k) = true then b.2.1 else 0) bs = total (steps (roffs l) k) := by
      rw [sumF_perm _ hp]
      have e3 := rblocks_sum (n := n) (N := n) (fun b => b.2.1) hg hf (Nat.le_refl _) k
      rw [if_pos hk] at e3
      have e4 := (rblk_sum k (earlyK l k) (fun _ => 1) (hst k hk) (earlyK_bd (hg k hk) (hf k hk)).1).1
      simp only [Int.mul_one] at e4
      rw [e4, ← total_sum] at e3
      rw [← e3]
      exact sumF_congr fun b _ => by simp
    rw [hx k hk]
    rw [e1] at a1 a2
    rw [e2] at a2
    exact ⟨a1, a2⟩
  · rw [sumN_congr hx, rfilled_gens n (fun _ m => m) bs d q hB]
    unfold rfill
    omega
  · have hL : ∀ k, k < n → heldF (ru l k).2 (steps (roffs l) k) 0 - rfilled (fun b m => if b.1.toNat = k then rq b m else 0) bs d q ≤ heldF (ru l k).2 (steps (roffs l) k) ((rfill n d q bs).1.getD k 0) := fun k hk => by
      obtain ⟨a1, a2⟩ := rfilled_bd (fun b => decide (b.1.toNat = k) && !b.2.2.2) hd hq h0
      obtain ⟨b1, _⟩ := rfilled_bd (fun b => decide (b.1.toNat = k) && b.2.2.2) hd hq h0
      have e1 : rfilled (fun b m => if b.1.toNat = k then m else 0) bs d q = rfilled (fun b m => if (decide (b.1.toNat = k) && !b.2.2.2) = true then m else 0) bs d q + rfilled (fun b m => if b.1.toNat = k then rq b m else 0) bs d q := by
        rw [← rfilled_add]
        refine rfilled_congr _ _ _ fun b _ m => ?_
        unfold rq
        by_cases e : b.1.toNat = k <;> cases b.2.2.2 <;> simp [e]
      have e2 : rfilled (fun b m => if (decide (b.1.toNat = k) && b.2.2.2) = true then m else 0) bs d q = rfilled (fun b m => if b.1.toNat = k then rq b m else 0) bs d q := by
        refine rfilled_congr _ _ _ fun b _ m => ?_
        unfold rq
        by_cases e : b.1.toNat = k <;> cases b.2.2.2 <;> simp [e]
      have e3 : sumF (fun b => if (decide (b.1.toNat = k) && !b.2.2.2) = true then b.2.1 else 0) bs ≤ earlyK l k := by
        rw [sumF_perm _ hp]
        have e4 := rblocks_sum (n := n) (N := n) (fun b => if b.2.2.2 then 0 else b.2.1) hg hf (Nat.le_refl _) k
        rw [if_pos hk] at e4
        have e5 := (rblk_sum k (earlyK l k) (fun _ => 1) (hst k hk) (earlyK_bd (hg k hk) (hf k hk)).1).2
        have e6 := rblk_left k (earlyK l k) (hst k hk) (earlyK_bd (hg k hk) (hf k hk)).1
        have e7 : sumF (fun b => if (decide (b.1.toNat = k) && !b.2.2.2) = true then b.2.1 else 0) (rblocks l n) = sumF (fun b => if b.1.toNat = k then (if b.2.2.2 then 0 else b.2.1) else 0) (rblocks l n) := sumF_congr fun b _ => by
          by_cases e : b.1.toNat = k <;> cases b.2.2.2 <;> simp [e]
        omega
      rw [hx k hk, e1]
      rw [e2] at b1
      have hE : earlyK l k = total (steps (roffs l) k) - heldF (ru l k).2 (steps (roffs l) k) 0 := rfl
      unfold heldF at hE ⊢
      omega
    have hs := sumN_le hL
    rw [sumN_sub, rfilled_gens n rq bs d q hB] at hs
    have he := (rfilled_end hd hq h0).2
    unfold possK heldK
    omega
/- less need -/
def qstep (s : Int × Int × Int) (b : B4) : Int × Int × Int := (s.1 + rn b s.2.1 s.2.2 * b.2.2.1, s.2.1 - rn b s.2.1 s.2.2, s.2.2 - rq b (rn b s.2.1 s.2.2))
theorem rfold_c : ∀ (bs : List B4) (s : List Int × Int × Int × Int), (bs.foldl rfstep s).2 = bs.foldl qstep s.2 := by
  intro bs
  induction bs with
  | nil => intro s; rfl
  | cons b bs ih => intro s; rw [List.foldl_cons, ih]; rfl
def rle (a b : B4) : Prop := a.2.2.1 < b.2.2.1 ∨ (a.2.2.1 = b.2.2.1 ∧ (a.2.2.2 = true → b.2.2.2 = true))
theorem cfold_sorted {bs cs : List B4} (hp : bs.Perm cs) (hs : bs.Pairwise rle) (ht : cs.Pairwise rle) (h0 : ∀ b ∈ bs, 0 ≤ b.2.1) (s : Int × Int × Int) (hs0 : 0 ≤ s.2.1 ∧ 0 ≤ s.2.2) : bs.foldl qstep s = cs.foldl qstep s := by
  refine fold_sorted (G := fun b => 0 ≤ b.2.1) (P := fun s => 0 ≤ s.2.1 ∧ 0 ≤ s.2.2) (le := rle) ?_ ?_ bs cs s hp hs ht h0 hs0
  · intro s a ga ⟨h1, h2⟩
    obtain ⟨n0, n1, n2, n3, n4⟩ := rn_bd ga h1 h2
    unfold qstep
    exact ⟨by simp only; omega, by simp only; omega⟩
  · intro s a b ga gb ⟨h1, h2⟩ hab hba
    obtain ⟨a0, a1, a2, a3⟩ := a
    obtain ⟨b0, b1, b2, b3⟩ := b
    obtain ⟨c, d, q⟩ := s
    unfold rle at hab hba
    simp only at ga gb h1 h2 hab hba
    have e2 : a2 = b2 := by omega
    subst e2
    have e3 : a3 = b3 := by
      have x1 : a3 = true → b3 = true := by rcases hab with h | h; exact absurd h (by omega); exact h.2
      have x2 : b3 = true → a3 = true := by rcases hba with h | h; exact absurd h (by omega); exact h.2
      cases a3 <;> cases b3 <;> simp_all
    subst e3
    unfold qstep rq rn
    cases a3
    · simp only [Bool.false_eq_true, if_false]
      have : min d a1 + min (d - min d a1) b1 = min d b1 + min (d - min d b1) a1 := by omega
      generalize min (d - min d a1) b1 = x at *
      generalize min (d - min d b1) a1 = y at *
      generalize min d a1 = u at *
      generalize min d b1 = v at *
      have hxy : x = v + y - u := by omega
      subst hxy
      refine Prod.ext ?_ (Prod.ext ?_ ?_) <;> simp only <;> grind
    · simp only [if_true]
      have : min (min d a1) q + min (min (d - min (min d a1) q) b1) (q - min (min d a1) q) = min (min d b1) q + min (min (d - min (min d b1) q) a1) (q - min (min d b1) q) := by omega
      generalize min (min (d - min (min d a1) q) b1) (q - min (min d a1) q) = x at *
      generalize min (min (d - min (min d b1) q) a1) (q - min (min d b1) q) = y at *
      generalize min (min d a1) q = u at *
      generalize min (min d b1) q = v at *
      have hxy : x = v + y - u := by omega
      subst hxy
      refine Prod.ext ?_ (Prod.ext ?_ ?_) <;> simp only <;> grind
theorem cfold_less : ∀ (bs : List B4) (p0 c1 d1 q1 c2 d2 q2 : Int), (∀ b ∈ bs, 0 ≤ b.2.1) → bs.Pairwise (fun a b => a.2.2.1 ≤ b.2.2.1) → (∀ b ∈ bs, p0 ≤ b.2.2.1) → 0 ≤ d2 → d2 ≤ d1 → 0 ≤ q1 → q1 ≤ q2 → c2 ≤ c1 + (d1 - d2) * p0 →
    (bs.foldl qstep (c1, d1, q1)).2.1 = 0 → (bs.foldl qstep (c2, d2, q2)).2.1 = 0 ∧ (bs.foldl qstep (c2, d2, q2)).1 ≤ (bs.foldl qstep (c1, d1, q1)).1 := by
  intro bs
  induction bs with
  | nil =>
    intro p0 c1 d1 q1 c2 d2 q2 _ _ _ h1 h2 h3 h4 h5 h6
    simp only [List.foldl_nil] at h6 ⊢
    have e1 : d1 = 0 := h6
    have e2 : d2 = 0 := by omega
    subst e1 e2
    simp at h5
    exact ⟨rfl, h5⟩
  | cons b bs ih =>
    intro p0 c1 d1 q1 c2 d2 q2 h0 hs hp h1 h2 h3 h4 h5 h6
    obtain ⟨s1, s2⟩ := List.pairwise_cons.1 hs
    have hb := h0 b (by simp)
    have hpb := hp b (by simp)
    have key : rn b d2 q2 ≤ d2 ∧ d2 - rn b d2 q2 ≤ d1 - rn b d1 q1 ∧ 0 ≤ q1 - rq b (rn b d1 q1) ∧ q1 - rq b (rn b d1 q1) ≤ q2 - rq b (rn b d2 q2) := by
      unfold rq rn
      cases b.2.2.2
      · simp only [Bool.false_eq_true, if_false]; omega
      · simp only [if_true]; omega
    obtain ⟨k1, k2, k3, k4⟩ := key
    rw [List.foldl_cons] at h6 ⊢
    rw [List.foldl_cons]
    refine ih b.2.2.1 _ _ _ _ _ _ (fun x hx => h0 x (by simp [hx])) s2 s1 (Int.sub_nonneg_of_le k1) k2 k3 k4 ?_ h6
    show c2 + rn b d2 q2 * b.2.2.1 ≤ c1 + rn b d1 q1 * b.2.2.1 + (d1 - rn b d1 q1 - (d2 - rn b d2 q2)) * b.2.2.1
    have m := Int.mul_le_mul_of_nonneg_left hpb (show 0 ≤ d1 - d2 by omega)
    generalize rn b d1 q1 = n1 at *
    generalize rn b d2 q2 = n2 at *
    generalize b.2.2.1 = p at *
    have e : c1 + n1 * p + (d1 - n1 - (d2 - n2)) * p = c1 + (d1 - d2) * p + n2 * p := by grind
    rw [e]
    omega
theorem rfill_less {n : Nat} {d q1 q2 : Int} {bs cs : List B4} (hp : bs.Perm cs) (hs : bs.Pairwise rle) (ht : cs.Pairwise rle) (hB : ∀ b ∈ bs, GoodR n b) (hd : 0 ≤ d) (h1 : 0 ≤ q1) (h2 : q1 ≤ q2) (hz : (rfill n d q1 bs).2.2.1 = 0) :
    (rfill n d q2 cs).2.2.1 = 0 ∧ (rfill n d q2 cs).2.1 ≤ (rfill n d q1 bs).2.1 := by
  have h0 : ∀ b ∈ bs, 0 ≤ b.2.1 := fun b hb => (hB b hb).2.2.1
  unfold rfill at hz ⊢
  rw [rfold_c] at hz ⊢
  rw [rfold_c]
  rw [← cfold_sorted hp hs ht h0 _ ⟨hd, by show 0 ≤ q2; omega⟩]
  exact cfold_less bs (-1000000) 0 d q1 0 d q2 h0 (hs.imp fun {a b} h => by unfold rle at h; omega) (fun b hb => (hB b hb).2.2.2.2.1) hd (Int.le_refl _) h1 h2 (by simp) hz
/- no need -/
def forget (b : B4) : B3 := (b.1, b.2.1, b.2.2.1)
theorem rfold_free : ∀ (bs : List B4) (out : List Int) (c d q : Int), (∀ b ∈ bs, 0 ≤ b.2.1) → 0 ≤ d → sumF (fun b => if b.2.2.2 then b.2.1 else 0) bs ≤ q →
    (bs.foldl rfstep (out, c, d, q)).1 = ((bs.map forget).foldl dstep (out, c, d)).1 ∧ (bs.foldl rfstep (out, c, d, q)).2.1 = ((bs.map forget).foldl dstep (out, c, d)).2.1 ∧ (bs.foldl rfstep (out, c, d, q)).2.2.1 = ((bs.map forget).foldl dstep (out, c, d)).2.2 := by
  intro bs
  induction bs with
  | nil => intro out c d q _ _ _; exact ⟨rfl, rfl, rfl⟩
  | cons b bs ih =>
    intro out c d q h0 hd hq
    have hb := h0 b (by simp)
    have hpos : 0 ≤ sumF (fun b : B4 => if b.2.2.2 then b.2.1 else 0) bs := by
      have : ∀ l : List B4, (∀ b ∈ l, 0 ≤ b.2.1) → 0 ≤ sumF (fun b : B4 => if b.2.2.2 then b.2.1 else 0) l := by
        intro l
        induction l with
        | nil => intro _; exact Int.le_refl _
        | cons x l ihl =>
          intro h
          have := ihl fun y hy => h y (by simp [hy])
          have := h x (by simp)
          rw [sumF]
          split <;> omega
      exact this bs fun x hx => h0 x (by simp [hx])
    rw [sumF] at hq
    have e : rn b d q = min d b.2.1 ∧ sumF (fun b : B4 => if b.2.2.2 then b.2.1 else 0) bs ≤ q - rq b (min d b.2.1) := by
      unfold rn rq
      cases hl : b.2.2.2
      · rw [hl] at hq; simp at hq ⊢; omega
      · rw [hl] at hq; simp at hq ⊢; omega
    obtain ⟨e1, e2⟩ := e
    rw [List.foldl_cons, List.map_cons, List.foldl_cons]
    have e3 : rfstep (out, c, d, q) b = (out.set b.1.toNat (out.getD b.1.toNat 0 + min d b.2.1), c + min d b.2.1 * b.2.2.1, d - min d b.2.1, q - rq b (min d b.2.1)) := by
      unfold rfstep
      simp only [e1]
    rw [e3]
    exact ih _ _ _ _ (fun x hx => h0 x (by simp [hx])) (by omega) e2
theorem rblk_end (g early : Int) {st : List (Int × Int)} (h : ∀ p ∈ st, 1 ≤ p.1) (h0 : 0 ≤ early) : (rblk g early st).2 = early - min early (total st) := by
  induction st using snocInd with
  | h0 => simp [rblk, total]; omega
  | h1 st p ih =>
    have hp := h p (by simp)
    have hn : 0 ≤ total st := by
      have := least_most (P := 0) (st := st) (fun q hq => h q (by simp [hq]))
      omega
    have e : total (st ++ [p]) = total st + p.1 := by rw [total_sum, total_sum, sumF_append]; simp [sumF]
    rw [rblk_snoc, e]
    unfold rstep
    simp only
    rw [ih fun q hq => h q (by simp [hq])]
    omega
theorem late_sum {l : List RU} {n : Nat} (hg : ∀ k, k < n → Good (steps (roffs l) k)) (hf : ∀ k, k < n → 0 ≤ (ru l k).2) : sumF (fun b => if b.2.2.2 then b.2.1 else 0) (rblocks l n) = possK l n := by
  rw [rblocks_all]
  refine sumN_congr fun k hk => ?_
  have hst : ∀ p ∈ steps (roffs l) k, 1 ≤ p.1 := fun p hp => ((hg k hk).step p hp).1
  have hE := earlyK_bd (hg k hk) (hf k hk)
  have e1 := (rblk_sum k (earlyK l k) (fun _ => 1) hst hE.1).1
  have e2 := (rblk_sum k (earlyK l k) (fun _ => 1) hst hE.1).2
  simp only [Int.mul_one] at e1
  rw [← total_sum] at e1
  rw [rblk_end k _ hst hE.1] at e2
  have e3 : sumF (fun b => if b.2.2.2 then b.2.1 else 0) (rblk k (earlyK l k) (steps (roffs l) k)).1 = sumF (fun b => b.2.1) (rblk k (earlyK l k) (steps (roffs l) k)).1 - sumF (fun b => if b.2.2.2 then 0 else b.2.1) (rblk k (earlyK l k) (steps (roffs l) k)).1 := by
    rw [← sumF_sub]
    exact sumF_congr fun b _ => by cases b.2.2.2 <;> simp
  rw [e3, e1, e2]
  unfold earlyK
  unfold earlyK at hE
  omega
/-- the fill of sorted blocks with the sums of the steps serves -/
theorem served_gen {l : List Off} {n : Nat} {d : Int} {bs : List B3} (hg : ∀ k, k < n → Good (steps l k)) (hd : 0 ≤ d) (ht : d ≤ sumN (fun k => total (steps l k)) n) (hB : ∀ b ∈ bs, GoodB n b) (hw : ∀ h : Int → Int → Int, sumF (fun b => b.2.1 * h b.1 b.2.2) bs = sumF (fun b => b.2.1 * h b.1 b.2.2) (blocksK l n)) (hs : bs.Pairwise (fun a b => a.2.2 ≤ b.2.2)) :
    ∃ p, Served l n d (bs.foldl dstep (List.replicate n 0, 0, d)).1 (bs.foldl dstep (List.replicate n 0, 0, d)).2.1 p := by
  have h0 : ∀ b ∈ bs, 0 ≤ b.2.1 := fun b hb => (hB b hb).2.2.1
  have w1 : sumF (fun b : B3 => b.2.1) bs = sumF (fun b : B3 => b.2.1) (blocksK l n) := by
    have := hw (fun _ _ => 1)
    simpa using this
  have w2 : ∀ (c : Int → Int → Prop) [∀ a b, Decidable (c a b)], sumF (fun b : B3 => if c b.1 b.2.2 then b.2.1 else 0) bs = sumF (fun b : B3 => if c b.1 b.2.2 then b.2.1 else 0) (blocksK l n) := fun c _ => by
    have := hw (fun a b => if c a b then 1 else 0)
    have e : (fun b : B3 => b.2.1 * (if c b.1 b.2.2 then 1 else 0)) = fun b : B3 => if c b.1 b.2.2 then b.2.1 else 0 := by
      funext b; split <;> simp
    rwa [e] at this
  have w3 : ∀ p : Int, sumF (fun b : B3 => b.2.1 * max 0 (p - b.2.2)) bs = sumF (fun b : B3 => b.2.1 * max 0 (p - b.2.2)) (blocksK l n) := fun p => hw (fun _ b => max 0 (p - b))
  obtain ⟨p, p1, p2, p3⟩ := at_some bs d (-1000000) hd h0 hs (fun b hb => (hB b hb).2.2.2.2.1)
  have hp1 : p ≤ 1000000 := by
    rcases p2 with p2 | ⟨b, hb, p2⟩
    · omega
    · have := (hB b hb).2.2.2.2.2; omega
  have hx : ∀ g, g < n → (bs.foldl dstep (List.replicate n 0, 0, d)).1.getD g 0 = filled (fun b m => if b.1.toNat = g then m else 0) bs d := fun g hgn => by
    have := (dfold_out g hgn bs (List.replicate n 0) 0 d hB (by simp)).1
    rw [this, getD_zeros]
    omega
  have hsum : filled (fun _ m => m) bs d = d := by
    have h1 := (filled_all bs d hd h0).1
    have h2 : sumF (fun b => b.2.1) bs = sumN (fun k => total (steps l k)) n := by
      rw [w1, blocksK_sum]
      exact sumN_congr fun i _ => (total_sum _).symm
    rw [h1, h2]
    omega
  have hat : ∀ g, g < n → leastR p (steps l g) ≤ (bs.foldl dstep (List.replicate n 0, 0, d)).1.getD g 0 ∧ (bs.foldl dstep (List.replicate n 0, 0, d)).1.getD g 0 ≤ mostR p (steps l g) := fun g hgn => by
    obtain ⟨a1, a2⟩ := at_between (fun b => decide (b.1.toNat = g)) hd h0 p3
    rw [hx g hgn]
    have e1 : filled (fun b m => if decide (b.1.toNat = g) = true then m else 0) bs d = filled (fun b m => if b.1.toNat = g then m else 0) bs d := by
      congr 1; funext b m; simp
    rw [e1] at a1 a2
    rw [w2 (fun a b => decide (a.toNat = g) = true ∧ b < p), blocksK_sum] at a1
    rw [w2 (fun a b => decide (a.toNat = g) = true ∧ b ≤ p), blocksK_sum] at a2
    rw [leastR_sum, mostR_sum, ← pick_sum l _ hgn, ← pick_sum l _ hgn]
    refine ⟨?_, ?_⟩
    · refine Int.le_trans (Int.le_of_eq (sumN_congr fun i _ => sumF_congr fun s _ => ?_)) a1
      by_cases e : i = g <;> by_cases e2 : s.2 < p <;> simp [e, e2]
    · refine Int.le_trans a2 (Int.le_of_eq (sumN_congr fun i _ => sumF_congr fun s _ => ?_))
      by_cases e : i = g <;> by_cases e2 : s.2 ≤ p <;> simp [e, e2]
  have hlen : (bs.foldl dstep (List.replicate n 0, 0, d)).1.length = n := by
    have : ∀ (bs : List B3) (s : List Int × Int × Int), (bs.foldl dstep s).1.length = s.1.length := by
      intro bs
      induction bs with
      | nil => intro s; rfl
      | cons b bs ih => intro s; rw [List.foldl_cons, ih]; show (s.1.set _ _).length = _; rw [List.length_set]
    rw [this]; simp
  have hsN : sumN (fun g => (bs.foldl dstep (List.replicate n 0, 0, d)).1.getD g 0) n = d := by
    rw [sumN_congr hx, filled_gens n bs d hB, hsum]
  refine ⟨p, hlen, hsN, p1, hp1, hat, ?_⟩
  have hc := (dfold_rest bs (List.replicate n 0) 0 d).1
  have hgain := at_gain p3
  rw [hsum, w3, blocksK_sum] at hgain
  have hb : sumN (fun k => sumF (fun s => s.1 * max 0 (p - s.2)) (steps l k)) n = sumN (fun k => p * (bs.foldl dstep (List.replicate n 0, 0, d)).1.getD k 0 - costR (steps l k) ((bs.foldl dstep (List.replicate n 0, 0, d)).1.getD k 0)) n :=
    sumN_congr fun k hk => by
      have hgk := hg k hk
      have hlm := least_most (P := p) (fun q hq => (hgk.step q hq).1)
      have hak := hat k hk
      rw [← best_sum]
      exact ((gain_best hgk p _ (by omega) (by omega)).2.2 hak).symm
  rw [hb, sumN_sub, sumN_mul, hsN] at hgain
  rw [hc]
  omega
/-- without a need the reserve's fill serves as a dispatch -/
theorem rfill_free {l : List RU} {n : Nat} {d : Int} {bs : List B4} (hg : ∀ k, k < n → Good (steps (roffs l) k)) (hf : ∀ k, k < n → 0 ≤ (ru l k).2) (hp : bs.Perm (rblocks l n)) (hs : bs.Pairwise rle) (hd : 0 ≤ d) :
    ((rfill n d (possK l n) bs).2.2.1 = d - min d (sumN (fun k => total (steps (roffs l) k)) n)) ∧ (d ≤ sumN (fun k => total (steps (roffs l) k)) n → ∃ p, Served (roffs l) n d (rfill n d (possK l n) bs).1 (rfill n d (possK l n) bs).2.1 p) := by
  have hB : ∀ b ∈ bs, GoodR n b := fun b hb => rblocks_good hg hf (Nat.le_refl _) b (hp.mem_iff.1 hb)
  have h0 : ∀ b ∈ bs, 0 ≤ b.2.1 := fun b hb => (hB b hb).2.2.1
  have hl : sumF (fun b => if b.2.2.2 then b.2.1 else 0) bs ≤ possK l n := by rw [sumF_perm _ hp, late_sum hg hf]; exact Int.le_refl _
  obtain ⟨f1, f2, f3⟩ := rfold_free bs (List.replicate n 0) 0 d (possK l n) h0 hd hl
  have hB3 : ∀ b ∈ bs.map forget, GoodB n b := fun b hb => by
    obtain ⟨x, hx, rfl⟩ := List.mem_map.1 hb
    exact hB x hx
  have hw : ∀ h : Int → Int → Int, sumF (fun b => b.2.1 * h b.1 b.2.2) (bs.map forget) = sumF (fun b => b.2.1 * h b.1 b.2.2) (blocksK (roffs l) n) := fun h => by
    rw [sumF_map, sumF_perm _ hp, rblocks_all, blocksK_sum]
    refine sumN_congr fun k hk => ?_
    have hst : ∀ p ∈ steps (roffs l) k, 1 ≤ p.1 := fun p hp => ((hg k hk).step p hp).1
    have hE := (earlyK_bd (hg k hk) (hf k hk)).1
    rw [← (rblk_sum k (earlyK l k) (fun x => h k x) hst hE).1]
    refine sumF_congr fun b hb => ?_
    have := (rblk_good (n := n) (hg k hk) (by omega) (by omega) hE b hb).2
    show b.2.1 * h b.1 b.2.2.1 = b.2.1 * h k b.2.2.1
    rw [this]
  have hs3 : (bs.map forget).Pairwise (fun a b => a.2.2 ≤ b.2.2) := by
    rw [List.pairwise_map]
    exact hs.imp fun {a b} h => by unfold rle at h; show a.2.2.1 ≤ b.2.2.1; omega
  refine ⟨?_, fun ht => ?_⟩
  · unfold rfill
    rw [f3, (dfold_rest _ _ _ _).2, (filled_all _ d hd fun b hb => (hB3 b hb).2.2.1).1]
    have e := hw (fun _ _ => 1)
    simp only [Int.mul_one] at e
    rw [e, blocksK_sum]
    have e2 : sumN (fun k => sumF (fun s => s.1) (steps (roffs l) k)) n = sumN (fun k => total (steps (roffs l) k)) n := sumN_congr fun k _ => (total_sum _).symm
    rw [e2]
  · obtain ⟨p, hsv⟩ := served_gen hg hd ht hB3 hw hs3
    unfold rfill
    rw [f1, f2]
    exact ⟨p, hsv⟩
end Go.Proofs.Ytpbomomgjhbljaa.Pl
namespace Go.Proofs.Ytpbomomgjhbljaa.Pl
structure RFillBd (n : Nat) (d q : Int) (r : List Int × Int × Int × Int) : Prop where
  d0 : 0 ≤ r.2.2.1
  d1 : r.2.2.1 ≤ d
  q0 : 0 ≤ r.2.2.2
  q1 : r.2.2.2 ≤ q
  c0 : -(1000000 * (d - r.2.2.1)) ≤ r.2.1
  c1 : r.2.1 ≤ 1000000 * (d - r.2.2.1)
  len : r.1.length = n
  out : ∀ g, 0 ≤ r.1.getD g 0 ∧ r.1.getD g 0 ≤ d - r.2.2.1
theorem rfill_bd {n : Nat} {d q : Int} (h0 : 0 ≤ d) (hq : 0 ≤ q) (bs : List B4) (hb : ∀ b ∈ bs, GoodR n b) : RFillBd n d q (rfill n d q bs) := by
  induction bs using snocInd with
  | h0 =>
    refine ⟨h0, Int.le_refl _, hq, Int.le_refl _, by show -(1000000 * (d - d)) ≤ 0; omega, by show 0 ≤ 1000000 * (d - d); omega, by simp [rfill], fun g => ?_⟩
    show 0 ≤ (List.replicate n (0 : Int)).getD g 0 ∧ (List.replicate n (0 : Int)).getD g 0 ≤ d - d
    rw [getD_zeros]
    omega
  | h1 bs b ih =>
    have ih := ih fun x hx => hb x (by simp [hx])
    obtain ⟨b0, b1, b2, b3, b4, b5⟩ := hb b (by simp)
    rw [rfill_snoc]
    generalize rfill n d q bs = r at *
    obtain ⟨os, cs, dm, lf⟩ := r
    obtain ⟨i0, i1, j0, j1, i2, i3, i4, i5⟩ := ih
    simp only at i0 i1 j0 j1 i2 i3 i4 i5
    obtain ⟨m0, m1, m2, m3, m4⟩ := rn_bd (b := b) b2 i0 j0
    have e : rfstep (os, cs, dm, lf) b = (os.set b.1.toNat (os.getD b.1.toNat 0 + rn b dm lf), cs + rn b dm lf * b.2.2.1, dm - rn b dm lf, lf - rq b (rn b dm lf)) := rfl
    rw [e]
    generalize rq b (rn b dm lf) = u at *
    generalize rn b dm lf = m at *
    have q1 : m * b.2.2.1 ≤ m * 1000000 := Int.mul_le_mul_of_nonneg_left b5 m0
    have q2 : m * (-1000000) ≤ m * b.2.2.1 := Int.mul_le_mul_of_nonneg_left b4 m0
    refine ⟨by show 0 ≤ dm - m; omega, by show dm - m ≤ d; omega, by show 0 ≤ lf - u; omega, by show lf - u ≤ q; omega, by show -(1000000 * (d - (dm - m))) ≤ cs + m * b.2.2.1; omega, by show cs + m * b.2.2.1 ≤ 1000000 * (d - (dm - m)); omega, by show (os.set _ _).length = n; rw [List.length_set]; exact i4, fun x => ?_⟩
    show 0 ≤ (os.set b.1.toNat (os.getD b.1.toNat 0 + m)).getD x 0 ∧ (os.set b.1.toNat (os.getD b.1.toNat 0 + m)).getD x 0 ≤ d - (dm - m)
    rw [getD_set]
    have h1 := i5 x
    have h2 := i5 b.1.toNat
    split <;> omega
end Go.Proofs.Ytpbomomgjhbljaa.Pl
