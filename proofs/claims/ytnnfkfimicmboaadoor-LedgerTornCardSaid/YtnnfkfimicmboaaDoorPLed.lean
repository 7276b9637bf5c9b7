/- The ledger, plain: names of accounts, checks and balances. No program. -/
import Derived.Test.YtnnfkfimicmboaaDoorPName
import Derived.Lib.SlicesCompact
namespace Go.Proofs.YtnnfkfimicmboaaDoor.Pl
/-- an entry: from, to, cents -/
abbrev LE := ByteArray × ByteArray × Int
/-- the bytes of a text -/
def bl (s : ByteArray) : List UInt8 := s.data.toList
theorem bl_inj {s t : ByteArray} (h : bl s = bl t) : s = t := by
  cases s with
  | mk a => cases t with
    | mk b =>
      unfold bl at h
      simp only at h
      rw [Array.toList_inj.1 h]
theorem bl_mk (l : List UInt8) : bl ⟨l.toArray⟩ = l := rfl
def nmsL (l : List LE) : List (List UInt8) := l.flatMap fun x => [bl x.1, bl x.2.1]
theorem nmsL_append (l m : List LE) : nmsL (l ++ m) = nmsL l ++ nmsL m := by unfold nmsL; rw [List.flatMap_append]
theorem nmsL_mem {l : List LE} {s : List UInt8} : s ∈ nmsL l ↔ ∃ x ∈ l, s = bl x.1 ∨ s = bl x.2.1 := by
  unfold nmsL
  simp [List.mem_flatMap]
/-- the names of the accounts -/
def accL (l : List LE) : List (List UInt8) := Go.Lib.compact ((nmsL l).mergeSort fun x y => decide (x ≤ y))
section
variable {α : Type} [Inhabited α] [DecidableEq α]
omit [DecidableEq α] in
theorem getBang (zs : List α) (i : Nat) (h : i < zs.length) : (zs.toArray)[i]! = zs[i] := by
  rw [getElem!_pos zs.toArray i (by simpa using h)]
  simp
theorem compact_mem (zs : List α) (s : α) : s ∈ Go.Lib.compact zs ↔ s ∈ zs := by
  unfold Go.Lib.compact Go.Lib.compactUpTo
  simp only [List.mem_map, List.mem_filter, List.mem_range]
  constructor
  · rintro ⟨i, ⟨hi, _⟩, rfl⟩
    rw [getBang zs i hi]
    exact List.getElem_mem hi
  · intro h
    obtain ⟨j, hj, rfl⟩ := List.getElem_of_mem h
    -- the first of its run
    have key : ∀ k, k ≤ j → (∀ i (hi : i < zs.length), k ≤ i → i ≤ j → zs[i] = zs[j]) → ∃ a, (a < zs.length ∧ Go.Lib.keeps zs.toArray a = true) ∧ zs.toArray[a]! = zs[j] := by
      intro k
      induction k with
      | zero =>
        intro hk h
        refine ⟨0, ⟨by omega, by simp [Go.Lib.keeps]⟩, ?_⟩
        rw [getBang zs 0 (by omega)]
        exact h 0 (by omega) (Nat.le_refl _) (by omega)
      | succ k ih =>
        intro hk h
        by_cases e : zs[k] = zs[j]
        · exact ih (by omega) fun i hi h1 h2 => by
            by_cases e2 : i = k
            · subst e2; exact e
            · exact h i hi (by omega) h2
        · refine ⟨k + 1, ⟨by omega, ?_⟩, ?_⟩
          · apply Go.Lib.keeps_pos
            rw [getBang zs (k + 1) (by omega), show k + 1 - 1 = k from rfl, getBang zs k (by omega), h (k + 1) (by omega) (Nat.le_refl _) (by omega)]
            exact fun e2 => e e2.symm
          · rw [getBang zs (k + 1) (by omega)]
            exact h (k + 1) (by omega) (Nat.le_refl _) (by omega)
    exact key j (Nat.le_refl _) fun i hi h1 h2 => by
      have : i = j := by omega
      subst this; rfl
end
theorem le_bytes_trans (a b c : List UInt8) (h1 : decide (a ≤ b) = true) (h2 : decide (b ≤ c) = true) : decide (a ≤ c) = true := by
  rw [decide_eq_true_iff] at *
  exact List.le_trans h1 h2
theorem le_bytes_total (a b : List UInt8) : (decide (a ≤ b) || decide (b ≤ a)) = true := by
  rw [Bool.or_eq_true, decide_eq_true_iff, decide_eq_true_iff]
  exact List.le_total a b
theorem sorted_names (l : List LE) : ((nmsL l).mergeSort fun x y => decide (x ≤ y)).Pairwise (fun a b => a ≤ b) := by
  have h := List.pairwise_mergeSort le_bytes_trans le_bytes_total (nmsL l)
  exact h.imp fun h => by simpa using h
theorem compact_nodup {zs : List (List UInt8)} (hs : zs.Pairwise (fun a b => a ≤ b)) : (Go.Lib.compact zs).Nodup := by
  unfold Go.Lib.compact Go.Lib.compactUpTo
  rw [List.Nodup, List.pairwise_map]
  have h0 : ((List.range zs.length).filter (Go.Lib.keeps zs.toArray)).Pairwise (fun a b => a < b) := List.pairwise_lt_range.filter _
  have h1 : ((List.range zs.length).filter (Go.Lib.keeps zs.toArray)).Pairwise (fun a b => (a < zs.length ∧ b < zs.length ∧ Go.Lib.keeps zs.toArray b = true) ∧ a < b) := by
    refine List.Pairwise.imp_of_mem (fun {a b} ha hb hab => ?_) h0
    rw [List.mem_filter, List.mem_range] at ha hb
    exact ⟨⟨ha.1, hb.1, hb.2⟩, hab⟩
  refine h1.imp fun {a b} hh => ?_
  obtain ⟨⟨ha, hb, hk⟩, hab⟩ := hh
  intro e
  rw [getBang zs a ha, getBang zs b hb] at e
  unfold Go.Lib.keeps at hk
  rw [decide_eq_true_iff] at hk
  rcases hk with hk | hk
  · omega
  · rw [getBang zs b hb, getBang zs (b - 1) (by omega)] at hk
    rw [List.pairwise_iff_getElem] at hs
    have h2 : zs[b - 1] ≤ zs[b] := hs (b - 1) b (by omega) hb (by omega)
    have h3 : zs[b] ≤ zs[b - 1] := by
      rw [← e]
      by_cases e2 : a = b - 1
      · subst e2; exact List.le_refl _
      · exact hs a (b - 1) ha (by omega) (by omega)
    exact hk (List.le_antisymm h3 h2)
theorem accL_nodup (l : List LE) : (accL l).Nodup := compact_nodup (sorted_names l)
theorem accL_mem {l : List LE} {s : List UInt8} : s ∈ accL l ↔ s ∈ nmsL l := by
  unfold accL
  rw [compact_mem]
  exact (List.mergeSort_perm _ _).mem_iff
theorem nodup_len {α : Type} [DecidableEq α] {a b : List α} (h : a.Nodup) (hs : ∀ x ∈ a, x ∈ b) : a.length ≤ b.length := by
  induction a generalizing b with
  | nil => exact Nat.zero_le _
  | cons x a ih =>
    obtain ⟨h1, h2⟩ := List.nodup_cons.1 h
    have hx := hs x (by simp)
    have := ih (b := b.erase x) h2 fun y hy => (List.mem_erase_of_ne (fun e => by subst e; exact h1 hy)).2 (hs y (by simp [hy]))
    rw [List.length_erase_of_mem hx] at this
    have : 0 < b.length := List.length_pos_of_mem hx
    simp only [List.length_cons]
    omega
theorem accL_mono (l m : List LE) : (accL l).length ≤ (accL (l ++ m)).length := nodup_len (accL_nodup l) fun x hx => by
  rw [accL_mem, nmsL_append] at *
  exact List.mem_append_left _ hx
/-- the check of an entry -/
def lbad (x : LE) : Int := if nameB x.1 = false ∨ nameB x.2.1 = false then 6 else if x.1 = x.2.1 then 1 else if x.2.2 < 1 ∨ 1000000000000 < x.2.2 then 4 else 0
theorem lbad_ok {x : LE} : lbad x = 0 ↔ nameB x.1 = true ∧ nameB x.2.1 = true ∧ x.1 ≠ x.2.1 ∧ 1 ≤ x.2.2 ∧ x.2.2 ≤ 1000000000000 := by
  unfold lbad
  cases h1 : nameB x.1 <;> cases h2 : nameB x.2.1 <;> simp
  split
  · rename_i h; simp [h]
  · rename_i h
    split
    · simp [h]; omega
    · simp [h]; omega
def lbads (l : List LE) : Int := l.foldl (fun e x => if e ≠ 0 then e else lbad x) 0
theorem lbads_snoc (l : List LE) (x : LE) : lbads (l ++ [x]) = if lbads l ≠ 0 then lbads l else lbad x := by unfold lbads; rw [List.foldl_append]; rfl
theorem lbads_ok {l : List LE} : lbads l = 0 ↔ ∀ x ∈ l, lbad x = 0 := by
  induction l using snocInd with
  | h0 => simp [lbads]
  | h1 l x ih =>
    rw [lbads_snoc]
    by_cases h : lbads l = 0
    · rw [if_neg (by simpa using h)]
      constructor
      · intro hx y hy
        rcases List.mem_append.1 hy with hy | hy
        · exact ih.1 h y hy
        · rw [List.mem_singleton.1 hy]; exact hx
      · intro hy; exact hy x (by simp)
    · rw [if_pos h]
      constructor
      · intro h2; exact absurd h2 h
      · intro hy; exact absurd (ih.2 fun y hm => hy y (by simp [hm])) h
theorem lbads_first {l : List LE} {k : Nat} (hk : k < l.length) (h0 : lbads (l.take k) = 0) (h : lbad l[k] ≠ 0) : lbads l = lbad l[k] := by
  have e : l = l.take k ++ l[k] :: l.drop (k + 1) := by rw [List.getElem_cons_drop]; exact (List.take_append_drop k l).symm
  have stay : ∀ (m : List LE) (e : Int), e ≠ 0 → m.foldl (fun e x => if e ≠ 0 then e else lbad x) e = e := by
    intro m
    induction m with
    | nil => intro e _; rfl
    | cons y m ih => intro e he; rw [List.foldl_cons, if_pos he]; exact ih e he
  have h2 : lbads l = lbads (l.take k ++ l[k] :: l.drop (k + 1)) := congrArg lbads e
  rw [h2]
  have h3 : lbads (l.take k ++ l[k] :: l.drop (k + 1)) = (l.drop (k + 1)).foldl (fun e x => if e ≠ 0 then e else lbad x) (if lbads (l.take k) ≠ 0 then lbads (l.take k) else lbad l[k]) := by
    unfold lbads; rw [List.foldl_append, List.foldl_cons]
  rw [h3, if_neg (by simpa using h0), stay _ _ h]
/-- ledger.Check -/
def lcheck (l : List LE) : Int := if 256 < l.length then 2 else if lbads l ≠ 0 then lbads l else if 64 < (accL l).length then 9 else 0
theorem lcheck_ok {l : List LE} : lcheck l = 0 ↔ l.length ≤ 256 ∧ (∀ x ∈ l, lbad x = 0) ∧ (accL l).length ≤ 64 := by
  unfold lcheck
  rw [← lbads_ok]
  split
  · constructor
    · intro h; cases h
    · intro h; omega
  · split
    · rename_i h
      constructor
      · intro h2; exact absurd h2 h
      · intro h2; exact absurd h2.2.1 h
    · rename_i h1 h2
      have h3 : lbads l = 0 := by simpa using h2
      split
      · constructor
        · intro h; cases h
        · intro h; omega
      · exact ⟨fun _ => ⟨by omega, h3, by omega⟩, fun _ => rfl⟩
theorem lcheck_pre {l m : List LE} (h : lcheck (l ++ m) = 0) : lcheck l = 0 := by
  obtain ⟨h1, h2, h3⟩ := lcheck_ok.1 h
  rw [List.length_append] at h1
  have := accL_mono l m
  exact lcheck_ok.2 ⟨by omega, fun x hx => h2 x (by simp [hx]), by omega⟩
theorem lcheck_nil : lcheck [] = 0 := by decide +kernel
/-- the balance of an account -/
def balS (nm : ByteArray) (n : Int) (x : LE) : Int := (if x.1 = nm then n - x.2.2 else n) + (if x.2.1 = nm then x.2.2 else 0)
def bal (l : List LE) (nm : ByteArray) : Int := l.foldl (balS nm) 0
theorem bal_snoc (l : List LE) (x : LE) (nm : ByteArray) : bal (l ++ [x]) nm = balS nm (bal l nm) x := by unfold bal; rw [List.foldl_append]; rfl
theorem bal_step (l : List LE) (x : LE) (nm : ByteArray) : bal (l ++ [x]) nm = bal l nm + ((if x.2.1 = nm then x.2.2 else 0) - (if x.1 = nm then x.2.2 else 0)) := by
  rw [bal_snoc]
  unfold balS
  split <;> split <;> omega
theorem bal_bd {l : List LE} (h : ∀ x ∈ l, 1 ≤ x.2.2 ∧ x.2.2 ≤ 1000000000000) (nm : ByteArray) : -1000000000000 * (l.length : Int) ≤ bal l nm ∧ bal l nm ≤ 1000000000000 * (l.length : Int) := by
  induction l using snocInd with
  | h0 => simp [bal]
  | h1 l x ih =>
    obtain ⟨i1, i2⟩ := ih fun y hy => h y (by simp [hy])
    have := h x (by simp)
    rw [bal_step, List.length_append, List.length_singleton]
    push_cast
    split <;> split <;> omega
/-- a sum over names -/
def sumB (f : List UInt8 → Int) (N : List (List UInt8)) : Int := (N.map f).sum
theorem sumB_one {N : List (List UInt8)} (hn : N.Nodup) (s : List UInt8) (c : Int) (hs : s ∈ N) : sumB (fun t => if s = t then c else 0) N = c := by
  unfold sumB
  induction N with
  | nil => simp at hs
  | cons t N ih =>
    obtain ⟨h1, h2⟩ := List.nodup_cons.1 hn
    rw [List.map_cons, List.sum_cons]
    by_cases e : s = t
    · subst e
      have : N.map (fun t => if s = t then c else 0) = N.map (fun _ => 0) := List.map_congr_left fun u hu => by
        rw [if_neg]; intro e; subst e; exact h1 hu
      rw [if_pos rfl, this]
      have z : ∀ M : List (List UInt8), (M.map fun _ => (0 : Int)).sum = 0 := fun M => by
        induction M with
        | nil => rfl
        | cons _ M ih => rw [List.map_cons, List.sum_cons, ih]; rfl
      rw [z]; omega
    · rw [if_neg e, ih h2 (by rcases List.mem_cons.1 hs with h | h; exact absurd h e; exact h)]
      omega
theorem sumB_add (f g : List UInt8 → Int) (N : List (List UInt8)) : sumB (fun t => f t + g t) N = sumB f N + sumB g N := by
  unfold sumB
  induction N with
  | nil => rfl
  | cons t N ih => simp only [List.map_cons, List.sum_cons, ih]; omega
theorem sumB_sub (f g : List UInt8 → Int) (N : List (List UInt8)) : sumB (fun t => f t - g t) N = sumB f N - sumB g N := by
  unfold sumB
  induction N with
  | nil => rfl
  | cons t N ih => simp only [List.map_cons, List.sum_cons, ih]; omega
theorem eq_mk {s : ByteArray} {t : List UInt8} : s = ⟨t.toArray⟩ ↔ bl s = t := ⟨fun h => by rw [h, bl_mk], fun h => bl_inj (by rw [bl_mk]; exact h)⟩
theorem bal_zero {N : List (List UInt8)} (hn : N.Nodup) (l : List LE) (h : ∀ s ∈ nmsL l, s ∈ N) : sumB (fun t => bal l ⟨t.toArray⟩) N = 0 := by
  induction l using snocInd with
  | h0 =>
    unfold sumB
    induction N with
    | nil => rfl
    | cons t N ih => rw [List.map_cons, List.sum_cons, ih (List.nodup_cons.1 hn).2 (fun s hs => by simp [nmsL] at hs)]; rfl
  | h1 l x ih =>
    rw [nmsL_append] at h
    have e : (fun t : List UInt8 => bal (l ++ [x]) ⟨t.toArray⟩) = fun t => bal l ⟨t.toArray⟩ + ((if bl x.2.1 = t then x.2.2 else 0) - (if bl x.1 = t then x.2.2 else 0)) := by
      funext t
      rw [bal_step]
      by_cases h1 : bl x.2.1 = t <;> by_cases h2 : bl x.1 = t <;> simp [h1, h2, eq_mk]
    rw [e, sumB_add, sumB_sub, ih fun s hs => h s (List.mem_append_left _ hs), sumB_one hn _ _ (h _ (List.mem_append_right _ (by simp [nmsL]))), sumB_one hn _ _ (h _ (List.mem_append_right _ (by simp [nmsL])))]
    omega
theorem acc_zero (l : List LE) : sumB (fun t => bal l ⟨t.toArray⟩) (accL l) = 0 := bal_zero (accL_nodup l) l fun _ hs => accL_mem.2 hs
end Go.Proofs.YtnnfkfimicmboaaDoor.Pl
