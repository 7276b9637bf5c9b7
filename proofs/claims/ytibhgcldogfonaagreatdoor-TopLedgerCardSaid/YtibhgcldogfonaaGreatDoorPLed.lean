/- The ledger, plain: names of accounts, checks and balances. No program. The ledger, plain: the text of entries, and what is recovered of a text. No program. -/
import Derived.Test.YtibhgcldogfonaaGreatDoorPName
import Derived.Lib.SlicesCompact
import Derived.Lib.ItoaNum
import Derived.Lib.AtoiAll
import Derived.Lib.Split
namespace Go.Proofs.YtibhgcldogfonaaGreatDoor.Pl
/-- an entry: from, to, cents -/
abbrev LE := ByteArray × ByteArray × Int
/-- the bytes of a text -/
def bl (s : ByteArray) : List UInt8 := s.data.toList
theorem bl_inj {s t : ByteArray} (h : bl s = bl t) : s = t := by
  cases s with
  | mk a => cases t with
    | mk b =>
      unfold bl at h
      simp only at h
      rw [Array.toList_inj.1 h]
theorem bl_mk (l : List UInt8) : bl ⟨l.toArray⟩ = l := rfl
def nmsL (l : List LE) : List (List UInt8) := l.flatMap fun x => [bl x.1, bl x.2.1]
theorem nmsL_append (l m : List LE) : nmsL (l ++ m) = nmsL l ++ nmsL m := by unfold nmsL; rw [List.flatMap_append]
theorem nmsL_mem {l : List LE} {s : List UInt8} : s ∈ nmsL l ↔ ∃ x ∈ l, s = bl x.1 ∨ s = bl x.2.1 := by
  unfold nmsL
  simp [List.mem_flatMap]
/-- the names of the accounts -/
def accL (l : List LE) : List (List UInt8) := Go.Lib.compact ((nmsL l).mergeSort fun x y => decide (x ≤ y))
section
variable {α : Type} [Inhabited α] [DecidableEq α]
omit [DecidableEq α] in
theorem getBang (zs : List α) (i : Nat) (h : i < zs.length) : (zs.toArray)[i]! = zs[i] := by
  rw [getElem!_pos zs.toArray i (by simpa using h)]
  simp
theorem compact_mem (zs : List α) (s : α) : s ∈ Go.Lib.compact zs ↔ s ∈ zs := by
  unfold Go.Lib.compact Go.Lib.compactUpTo
  simp only [List.mem_map, List.mem_filter, List.mem_range]
  constructor
  · rintro ⟨i, ⟨hi, _⟩, rfl⟩
    rw [getBang zs i hi]
    exact List.getElem_mem hi
  · intro h
    obtain ⟨j, hj, rfl⟩ := List.getElem_of_mem h
    -- the first of its run
    have key : ∀ k, k ≤ j → (∀ i (hi : i < zs.length), k ≤ i → i ≤ j → zs[i] = zs[j]) → ∃ a, (a < zs.length ∧ Go.Lib.keeps zs.toArray a = true) ∧ zs.toArray[a]! = zs[j] := by
      intro k
      induction k with
      | zero =>
        intro hk h
        refine ⟨0, ⟨by omega, by simp [Go.Lib.keeps]⟩, ?_⟩
        rw [getBang zs 0 (by omega)]
        exact h 0 (by omega) (Nat.le_refl _) (by omega)
      | succ k ih =>
        intro hk h
        by_cases e : zs[k] = zs[j]
        · exact ih (by omega) fun i hi h1 h2 => by
            by_cases e2 : i = k
            · subst e2; exact e
            · exact h i hi (by omega) h2
        · refine ⟨k + 1, ⟨by omega, ?_⟩, ?_⟩
          · apply Go.Lib.keeps_pos
            rw [getBang zs (k + 1) (by omega), show k + 1 - 1 = k from rfl, getBang zs k (by omega), h (k + 1) (by omega) (Nat.le_refl _) (by omega)]
            exact fun e2 => e e2.symm
          · rw [getBang zs (k + 1) (by omega)]
            exact h (k + 1) (by omega) (Nat.le_refl _) (by omega)
    exact key j (Nat.le_refl _) fun i hi h1 h2 => by
      have : i = j := by omega
      subst this; rfl
end
theorem le_bytes_trans (a b c : List UInt8) (h1 : decide (a ≤ b) = true) (h2 : decide (b ≤ c) = true) : decide (a ≤ c) = true := by
  rw [decide_eq_true_iff] at *
  exact List.le_trans h1 h2
theorem le_bytes_total (a b : List UInt8) : (decide (a ≤ b) || decide (b ≤ a)) = true := by
  rw [Bool.or_eq_true, decide_eq_true_iff, decide_eq_true_iff]
  exact List.le_total a b
theorem sorted_names (l : List LE) : ((nmsL l).mergeSort fun x y => decide (x ≤ y)).Pairwise (fun a b => a ≤ b) := by
  have h := List.pairwise_mergeSort le_bytes_trans le_bytes_total (nmsL l)
  exact h.imp fun h => by simpa using h
theorem compact_nodup {zs : List (List UInt8)} (hs : zs.Pairwise (fun a b => a ≤ b)) : (Go.Lib.compact zs).Nodup := by
  unfold Go.Lib.compact Go.Lib.compactUpTo
  rw [List.Nodup, List.pairwise_map]
  have h0 : ((List.range zs.length).filter (Go.Lib.keeps zs.toArray)).Pairwise (fun a b => a < b) := List.pairwise_lt_range.filter _
  have h1 : ((List.range zs.length).filter (Go.Lib.keeps zs.toArray)).Pairwise (fun a b => (a < zs.length ∧ b < zs.length ∧ Go.Lib.keeps zs.toArray b = true) ∧ a < b) := by
    refine List.Pairwise.imp_of_mem (fun {a b} ha hb hab => ?_) h0
    rw [List.mem_filter, List.mem_range] at ha hb
    exact ⟨⟨ha.1, hb.1, hb.2⟩, hab⟩
  refine h1.imp fun {a b} hh => ?_
  obtain ⟨⟨ha, hb, hk⟩, hab⟩ := hh
  intro e
  rw [getBang zs a ha, getBang zs b hb] at e
  unfold Go.Lib.keeps at hk
  rw [decide_eq_true_iff] at hk
  rcases hk with hk | hk
  · omega
  · rw [getBang zs b hb, getBang zs (b - 1) (by omega)] at hk
    rw [List.pairwise_iff_getElem] at hs
    have h2 : zs[b - 1] ≤ zs[b] := hs (b - 1) b (by omega) hb (by omega)
    have h3 : zs[b] ≤ zs[b - 1] := by
      rw [← e]
      by_cases e2 : a = b - 1
      · subst e2; exact List.le_refl _
      · exact hs a (b - 1) ha (by omega) (by omega)
    exact hk (List.le_antisymm h3 h2)
theorem accL_nodup (l : List LE) : (accL l).Nodup := compact_nodup (sorted_names l)
theorem accL_mem {l : List LE} {s : List UInt8} : s ∈ accL l ↔ s ∈ nmsL l := by
  unfold accL
  rw [compact_mem]
  exact (List.mergeSort_perm _ _).mem_iff
theorem nodup_len {α : Type} [DecidableEq α] {a b : List α} (h : a.Nodup) (hs : ∀ x ∈ a, x ∈ b) : a.length ≤ b.length := by
  induction a generalizing b with
  | nil => exact Nat.zero_le _
  | cons x a ih =>
    obtain ⟨h1, h2⟩ := List.nodup_cons.1 h
    have hx := hs x (by simp)
    have := ih (b := b.erase x) h2 fun y hy => (List.mem_erase_of_ne (fun e => by subst e; exact h1 hy)).2 (hs y (by simp [hy]))
    rw [List.length_erase_of_mem hx] at this
    have : 0 < b.length := List.length_pos_of_mem hx
    simp only [List.length_cons]
    omega
theorem accL_mono (l m : List LE) : (accL l).length ≤ (accL (l ++ m)).length := nodup_len (accL_nodup l) fun x hx => by
  rw [accL_mem, nmsL_append] at *
  exact List.mem_append_left _ hx
/-- the check of an entry -/
def lbad (x : LE) : Int := if nameB x.1 = false ∨ nameB x.2.1 = false then 6 else if x.1 = x.2.1 then 1 else if x.2.2 < 1 ∨ 1000000000000 < x.2.2 then 4 else 0
theorem lbad_ok {x : LE} : lbad x = 0 ↔ nameB x.1 = true ∧ nameB x.2.1 = true ∧ x.1 ≠ x.2.1 ∧ 1 ≤ x.2.2 ∧ x.2.2 ≤ 1000000000000 := by
  unfold lbad
  cases h1 : nameB x.1 <;> cases h2 : nameB x.2.1 <;> simp
  split
  · rename_i h; simp [h]
  · rename_i h
    split
    · simp [h]; omega
    · simp [h]; omega
def lbads (l : List LE) : Int := l.foldl (fun e x => if e ≠ 0 then e else lbad x) 0
theorem lbads_snoc (l : List LE) (x : LE) : lbads (l ++ [x]) = if lbads l ≠ 0 then lbads l else lbad x := by unfold lbads; rw [List.foldl_append]; rfl
theorem lbads_ok {l : List LE} : lbads l = 0 ↔ ∀ x ∈ l, lbad x = 0 := by
  induction l using snocInd with
  | h0 => simp [lbads]
  | h1 l x ih =>
    rw [lbads_snoc]
    by_cases h : lbads l = 0
    · rw [if_neg (by simpa using h)]
      constructor
      · intro hx y hy
        rcases List.mem_append.1 hy with hy | hy
        · exact ih.1 h y hy
        · rw [List.mem_singleton.1 hy]; exact hx
      · intro hy; exact hy x (by simp)
    · rw [if_pos h]
      constructor
      · intro h2; exact absurd h2 h
      · intro hy; exact absurd (ih.2 fun y hm => hy y (by simp [hm])) h
theorem lbads_first {l : List LE} {k : Nat} (hk : k < l.length) (h0 : lbads (l.take k) = 0) (h : lbad l[k] ≠ 0) : lbads l = lbad l[k] := by
  have e : l = l.take k ++ l[k] :: l.drop (k + 1) := by rw [List.getElem_cons_drop]; exact (List.take_append_drop k l).symm
  have stay : ∀ (m : List LE) (e : Int), e ≠ 0 → m.foldl (fun e x => if e ≠ 0 then e else lbad x) e = e := by
    intro m
    induction m with
    | nil => intro e _; rfl
    | cons y m ih => intro e he; rw [List.foldl_cons, if_pos he]; exact ih e he
  have h2 : lbads l = lbads (l.take k ++ l[k] :: l.drop (k + 1)) := congrArg lbads e
  rw [h2]
  have h3 : lbads (l.take k ++ l[k] :: l.drop (k + 1)) = (l.drop (k + 1)).foldl (fun e x => if e ≠ 0 then e else lbad x) (if lbads (l.take k) ≠ 0 then lbads (l.take k) else lbad l[k]) := by
    unfold lbads; rw [List.foldl_append, List.foldl_cons]
  rw [h3, if_neg (by simpa using h0), stay _ _ h]
/-- ledger.Check -/
def lcheck (l : List LE) : Int := if 256 < l.length then 2 else if lbads l ≠ 0 then lbads l else if 64 < (accL l).length then 9 else 0
theorem lcheck_ok {l : List LE} : lcheck l = 0 ↔ l.length ≤ 256 ∧ (∀ x ∈ l, lbad x = 0) ∧ (accL l).length ≤ 64 := by
  unfold lcheck
  rw [← lbads_ok]
  split
  · constructor
    · intro h; cases h
    · intro h; omega
  · split
    · rename_i h
      constructor
      · intro h2; exact absurd h2 h
      · intro h2; exact absurd h2.2.1 h
    · rename_i h1 h2
      have h3 : lbads l = 0 := by simpa using h2
      split
      · constructor
        · intro h; cases h
        · intro h; omega
      · exact ⟨fun _ => ⟨by omega, h3, by omega⟩, fun _ => rfl⟩
theorem lcheck_pre {l m : List LE} (h : lcheck (l ++ m) = 0) : lcheck l = 0 := by
  obtain ⟨h1, h2, h3⟩ := lcheck_ok.1 h
  rw [List.length_append] at h1
  have := accL_mono l m
  exact lcheck_ok.2 ⟨by omega, fun x hx => h2 x (by simp [hx]), by omega⟩
theorem lcheck_nil : lcheck [] = 0 := by decide +kernel
/-- the balance of an account -/
def balS (nm : ByteArray) (n : Int) (x : LE) : Int := (if x.1 = nm then n - x.2.2 else n) + (if x.2.1 = nm then x.2.2 else 0)
def bal (l : List LE) (nm : ByteArray) : Int := l.foldl (balS nm) 0
theorem bal_snoc (l : List LE) (x : LE) (nm : ByteArray) : bal (l ++ [x]) nm = balS nm (bal l nm) x := by unfold bal; rw [List.foldl_append]; rfl
theorem bal_step (l : List LE) (x : LE) (nm : ByteArray) : bal (l ++ [x]) nm = bal l nm + ((if x.2.1 = nm then x.2.2 else 0) - (if x.1 = nm then x.2.2 else 0)) := by
  rw [bal_snoc]
  unfold balS
  split <;> split <;> omega
theorem bal_bd {l : List LE} (h : ∀ x ∈ l, 1 ≤ x.2.2 ∧ x.2.2 ≤ 1000000000000) (nm : ByteArray) : -1000000000000 * (l.length : Int) ≤ bal l nm ∧ bal l nm ≤ 1000000000000 * (l.length : Int) := by
  induction l using snocInd with
  | h0 => simp [bal]
  | h1 l x ih =>
    obtain ⟨i1, i2⟩ := ih fun y hy => h y (by simp [hy])
    have := h x (by simp)
    rw [bal_step, List.length_append, List.length_singleton]
    push_cast
    split <;> split <;> omega
/-- a sum over names -/
def sumB (f : List UInt8 → Int) (N : List (List UInt8)) : Int := (N.map f).sum
theorem sumB_one {N : List (List UInt8)} (hn : N.Nodup) (s : List UInt8) (c : Int) (hs : s ∈ N) : sumB (fun t => if s = t then c else 0) N = c := by
  unfold sumB
  induction N with
  | nil => simp at hs
  | cons t N ih =>
    obtain ⟨h1, h2⟩ := List.nodup_cons.1 hn
    rw [List.map_cons, List.sum_cons]
    by_cases e : s = t
    · subst e
      have : N.map (fun t => if s = t then c else 0) = N.map (fun _ => 0) := List.map_congr_left fun u hu => by
        rw [if_neg]; intro e; subst e; exact h1 hu
      rw [if_pos rfl, this]
      have z : ∀ M : List (List UInt8), (M.map fun _ => (0 : Int)).sum = 0 := fun M => by
        induction M with
        | nil => rfl
        | cons _ M ih => rw [List.map_cons, List.sum_cons, ih]; rfl
      rw [z]; omega
    · rw [if_neg e, ih h2 (by rcases List.mem_cons.1 hs with h | h; exact absurd h e; exact h)]
      omega
theorem sumB_add (f g : List UInt8 → Int) (N : List (List UInt8)) : sumB (fun t => f t + g t) N = sumB f N + sumB g N := by
  unfold sumB
  induction N with
  | nil => rfl
  | cons t N ih => simp only [List.map_cons, List.sum_cons, ih]; omega
theorem sumB_sub (f g : List UInt8 → Int) (N : List (List UInt8)) : sumB (fun t => f t - g t) N = sumB f N - sumB g N := by
  unfold sumB
  induction N with
  | nil => rfl
  | cons t N ih => simp only [List.map_cons, List.sum_cons, ih]; omega
theorem eq_mk {s : ByteArray} {t : List UInt8} : s = ⟨t.toArray⟩ ↔ bl s = t := ⟨fun h => by rw [h, bl_mk], fun h => bl_inj (by rw [bl_mk]; exact h)⟩
theorem bal_zero {N : List (List UInt8)} (hn : N.Nodup) (l : List LE) (h : ∀ s ∈ nmsL l, s ∈ N) : sumB (fun t => bal l ⟨t.toArray⟩) N = 0 := by
  induction l using snocInd with
  | h0 =>
    unfold sumB
    induction N with
    | nil => rfl
    | cons t N ih => rw [List.map_cons, List.sum_cons, ih (List.nodup_cons.1 hn).2 (fun s hs => by simp [nmsL] at hs)]; rfl
  | h1 l x ih =>
    rw [nmsL_append] at h
    have e : (fun t : List UInt8 => bal (l ++ [x]) ⟨t.toArray⟩) = fun t => bal l ⟨t.toArray⟩ + ((if bl x.2.1 = t then x.2.2 else 0) - (if bl x.1 = t then x.2.2 else 0)) := by
      funext t
      rw [bal_step]
      by_cases h1 : bl x.2.1 = t <;> by_cases h2 : bl x.1 = t <;> simp [h1, h2, eq_mk]
    rw [e, sumB_add, sumB_sub, ih fun s hs => h s (List.mem_append_left _ hs), sumB_one hn _ _ (h _ (List.mem_append_right _ (by simp [nmsL]))), sumB_one hn _ _ (h _ (List.mem_append_right _ (by simp [nmsL])))]
    omega
theorem acc_zero (l : List LE) : sumB (fun t => bal l ⟨t.toArray⟩) (accL l) = 0 := bal_zero (accL_nodup l) l fun _ hs => accL_mem.2 hs
end Go.Proofs.YtibhgcldogfonaaGreatDoor.Pl
namespace Go.Proofs.YtibhgcldogfonaaGreatDoor.Pl
open Go.Lib (itoa decDigits atoiAll parseUint10 index cut count splitK)
/-- the line of an entry without its sum -/
def lineT (x : LE) : List UInt8 := bl x.1 ++ [32] ++ bl x.2.1 ++ [32] ++ itoa x.2.2
def chkB (s : Int × Int) (c : UInt8) : Int × Int := ((s.1 + (c.toNat : Int)) % 65521, (s.2 + (s.1 + (c.toNat : Int)) % 65521) % 65521)
def chk (s : Int × Int) (bs : List UInt8) : Int × Int := bs.foldl chkB s
theorem chk_snoc (s : Int × Int) (bs : List UInt8) (c : UInt8) : chk s (bs ++ [c]) = chkB (chk s bs) c := by unfold chk; rw [List.foldl_append]; rfl
def SumOk (s : Int × Int) : Prop := 0 ≤ s.1 ∧ s.1 < 65521 ∧ 0 ≤ s.2 ∧ s.2 < 65521
theorem chkB_ok {s : Int × Int} (h : SumOk s) (c : UInt8) : SumOk (chkB s c) := by
  obtain ⟨h1, h2, h3, h4⟩ := h
  unfold SumOk chkB
  simp only
  omega
theorem chk_ok {s : Int × Int} (h : SumOk s) (bs : List UInt8) : SumOk (chk s bs) := by
  induction bs using snocInd with
  | h0 => exact h
  | h1 bs c ih => rw [chk_snoc]; exact chkB_ok ih c
def chkN (s : Int × Int) (x : LE) : Int × Int := chk s (lineT x)
def chkL (s : Int × Int) (l : List LE) : Int × Int := l.foldl chkN s
theorem chkL_snoc (s : Int × Int) (l : List LE) (x : LE) : chkL s (l ++ [x]) = chkN (chkL s l) x := by unfold chkL; rw [List.foldl_append]; rfl
theorem chkL_append (s : Int × Int) (l m : List LE) : chkL s (l ++ m) = chkL (chkL s l) m := by unfold chkL; rw [List.foldl_append]
theorem chkL_ok {s : Int × Int} (h : SumOk s) (l : List LE) : SumOk (chkL s l) := by
  induction l using snocInd with
  | h0 => exact h
  | h1 l x ih => rw [chkL_snoc]; exact chk_ok ih _
def sumK (s : Int × Int) (x : LE) : Int := 65521 * (chkN s x).2 + (chkN s x).1
/-- the line without its end -/
def line0 (s : Int × Int) (x : LE) : List UInt8 := lineT x ++ [32] ++ itoa (sumK s x)
def lineS (s : Int × Int) (x : LE) : List UInt8 := line0 s x ++ [10]
def textS : Int × Int → List LE → List UInt8
  | _, [] => []
  | s, x :: l => lineS s x ++ textS (chkN s x) l
theorem textS_append (s : Int × Int) (l m : List LE) : textS s (l ++ m) = textS s l ++ textS (chkL s l) m := by
  induction l generalizing s with
  | nil => rfl
  | cons x l ih => simp only [List.cons_append, textS, ih, List.append_assoc]; rfl
theorem textS_snoc (s : Int × Int) (l : List LE) (x : LE) : textS s (l ++ [x]) = textS s l ++ lineS (chkL s l) x := by rw [textS_append]; simp [textS]
/-- what stands in a line: no end of line before its end, no blank in a word -/
def Word (l : List UInt8) : Prop := ∀ c ∈ l, c ≠ 32 ∧ c ≠ 10
theorem decDigits_word (u : Nat) : ∀ c ∈ decDigits u, 48 ≤ c.toNat ∧ c.toNat ≤ 57 := by
  induction u using Nat.strongRecOn with
  | _ u ih =>
    rw [decDigits]
    have e : ∀ d, d < 10 → (UInt8.ofNat (48 + d)).toNat = 48 + d := fun d hd => by rw [UInt8.toNat_ofNat']; omega
    split
    · rename_i h
      intro c hc
      rw [List.mem_singleton.1 hc, e u h]
      omega
    · rename_i h
      intro c hc
      rcases List.mem_append.1 hc with hc | hc
      · exact ih (u / 10) (by omega) c hc
      · rw [List.mem_singleton.1 hc, e (u % 10) (by omega)]
        omega
theorem byte_ne {c : UInt8} {n : Nat} (h : c.toNat ≠ n) (hn : n < 256) : c ≠ UInt8.ofNat n := by
  intro e
  apply h
  rw [e, UInt8.toNat_ofNat']
  omega
theorem itoa_word {n : Int} (h : 0 ≤ n) : Word (itoa n) := by
  intro c hc
  unfold itoa at hc
  rw [if_neg (by omega)] at hc
  have := decDigits_word _ c hc
  exact ⟨byte_ne (n := 32) (by omega) (by omega), byte_ne (n := 10) (by omega) (by omega)⟩
theorem name_word {s : ByteArray} (h : nameB s = true) : Word (bl s) := by
  unfold nameB at h
  rw [Bool.and_eq_true, List.all_eq_true] at h
  intro c hc
  obtain ⟨j, hj, rfl⟩ := List.getElem_of_mem hc
  have := h.1 ((bl s)[j], j) (by rw [List.mem_zipIdx_iff_getElem?]; exact List.getElem?_eq_getElem hj)
  unfold okByte at this
  rw [decide_eq_true_iff] at this
  simp only at this
  exact ⟨byte_ne (n := 32) (by omega) (by omega), byte_ne (n := 10) (by omega) (by omega)⟩
theorem name_len {s : ByteArray} (h : nameB s = true) : 1 ≤ (bl s).length ∧ (bl s).length ≤ 8 := by
  unfold nameB at h
  rw [Bool.and_eq_true, decide_eq_true_iff] at h
  have e : s.size = (bl s).length := by unfold bl; rw [Array.length_toList]; rfl
  omega
/-- the first place of a byte -/
theorem index_one (p : List UInt8) (c : UInt8) (q : List UInt8) (h : c ∉ p) : index (p ++ c :: q) [c] = p.length := by
  induction p with
  | nil => simp [index]
  | cons b p ih =>
    have hb : c ≠ b := fun e => h (by rw [e]; simp)
    have hp : c ∉ p := fun e => h (by simp [e])
    rw [List.cons_append, index, ih hp]
    have e1 : ([c].isPrefixOf (b :: (p ++ c :: q))) = false := by simp [List.isPrefixOf, hb]
    have e2 : ((p.length : Int) == -1) = false := by rw [beq_eq_false_iff_ne]; omega
    rw [e1, e2, if_neg (by decide), if_neg (by decide), List.length_cons]
    omega
theorem index_miss (p : List UInt8) (c : UInt8) (h : c ∉ p) : index p [c] = -1 := by
  induction p with
  | nil => rfl
  | cons b p ih =>
    have hb : c ≠ b := fun e => h (by rw [e]; simp)
    have hp : c ∉ p := fun e => h (by simp [e])
    rw [index, ih hp]
    have e1 : ([c].isPrefixOf (b :: p)) = false := by simp [List.isPrefixOf, hb]
    rw [e1]
    rfl
theorem cut_one (p : List UInt8) (c : UInt8) (q : List UInt8) (h : c ∉ p) : cut (p ++ c :: q) [c] = (p, q, true) := by
  unfold cut
  rw [index_one p c q h, if_pos (by omega)]
  simp
theorem cut_miss (p : List UInt8) (c : UInt8) (h : c ∉ p) : cut p [c] = (p, [], false) := by
  unfold cut
  rw [index_miss p c h, if_neg (by omega)]
theorem cut_law {r : List UInt8} {c : UInt8} (h : (cut r [c]).2.2 = true) : r = (cut r [c]).1 ++ c :: (cut r [c]).2.1 ∧ c ∉ (cut r [c]).1 := by
  by_cases hc : c ∈ r
  · obtain ⟨p, q, e, hp⟩ : ∃ p q, r = p ++ c :: q ∧ c ∉ p := by
      induction r with
      | nil => simp at hc
      | cons b r ih =>
        by_cases e : c = b
        · subst e; exact ⟨[], r, rfl, by simp⟩
        · have hr : c ∈ r := by rcases List.mem_cons.1 hc with h | h; exact absurd h e; exact h
          by_cases hh : (cut r [c]).2.2 = true
          · obtain ⟨p, q, e2, hp⟩ := ih hh hr
            exact ⟨b :: p, q, by rw [e2]; rfl, by simp [e, hp]⟩
          · obtain ⟨p, q, e2⟩ := List.append_of_mem hr
            exfalso
            -- a byte that is there is found
            have : ∀ r : List UInt8, c ∈ r → 0 ≤ index r [c] := by
              intro r
              induction r with
              | nil => intro h; simp at h
              | cons b r ih2 =>
                intro h
                rw [index]
                split
                · omega
                · rename_i hpre
                  have hb : c ≠ b := fun e => hpre (by subst e; simp [List.isPrefixOf])
                  have := ih2 (by rcases List.mem_cons.1 h with h | h; exact absurd h hb; exact h)
                  split
                  · rename_i h2; rw [beq_iff_eq] at h2; omega
                  · omega
            apply hh
            unfold cut
            rw [if_pos (this r hr)]
    rw [e, cut_one p c q hp]
    exact ⟨rfl, hp⟩
  · rw [cut_miss r c hc] at h
    cases h
theorem split_none {p : List UInt8} {c : UInt8} (h : c ∉ p) : splitK [c] 0 (count p [c]) p = [p] := by
  have h1 := index_miss p c h
  rw [Go.Lib.count_miss h1]
  rfl
theorem split_one {p q : List UInt8} {c : UInt8} (h : c ∉ p) : splitK [c] 0 (count (p ++ c :: q) [c]) (p ++ c :: q) = p :: splitK [c] 0 (count q [c]) q := by
  have h1 := index_one p c q h
  have e : (p ++ c :: q).drop (p.length + [c].length) = q := by simp
  rw [Go.Lib.count_hit (by simp) h1, e, Nat.add_comm 1, splitK, h1]
  have e2 : ((p.length : Int) == -1) = false := by rw [beq_eq_false_iff_ne]; omega
  rw [e2]
  simp
/-- the four words of a line -/
theorem split_four {a b c d : List UInt8} (ha : (32 : UInt8) ∉ a) (hb : (32 : UInt8) ∉ b) (hc : (32 : UInt8) ∉ c) (hd : (32 : UInt8) ∉ d) :
    splitK [32] 0 (count (a ++ 32 :: (b ++ 32 :: (c ++ 32 :: d))) [32]) (a ++ 32 :: (b ++ 32 :: (c ++ 32 :: d))) = [a, b, c, d] := by
  rw [split_one ha, split_one hb, split_one hc, split_none hd]
/-- a numeral is read as its number -/
theorem parse_snoc (l : List UInt8) (acc v : Nat) (d : UInt8) (h : parseUint10 acc l = .ok v) (d0 : 48 ≤ d.toNat) (d1 : d.toNat ≤ 57) (hv : v < 1844674407370955162) (hv2 : v * 10 + (d.toNat - 48) < 18446744073709551616) :
    parseUint10 acc (l ++ [d]) = .ok (v * 10 + (d.toNat - 48)) := by
  induction l generalizing acc with
  | nil =>
    rw [parseUint10] at h
    injection h with h
    subst h
    rw [List.nil_append, parseUint10, if_pos ⟨d0, d1⟩, if_neg (by omega), if_neg (by omega), parseUint10]
  | cons c l ih =>
    rw [parseUint10] at h
    rw [List.cons_append, parseUint10]
    split at h
    · rename_i h1
      rw [if_pos h1]
      split at h
      · cases h
      · rename_i h2
        rw [if_neg h2]
        split at h
        · cases h
        · rename_i h3
          rw [if_neg h3]
          exact ih _ h
    · cases h
theorem parse_digits (u : Nat) (hu : u < 1000000000000000000) : parseUint10 0 (decDigits u) = .ok u := by
  induction u using Nat.strongRecOn with
  | _ u ih =>
    have e : ∀ d, d < 10 → (UInt8.ofNat (48 + d)).toNat = 48 + d := fun d hd => by rw [UInt8.toNat_ofNat']; omega
    rw [decDigits]
    split
    · rename_i h
      rw [parseUint10, e u h, if_pos (by omega), if_neg (by omega), if_neg (by omega), parseUint10]
      congr 1
      omega
    · rename_i h
      have := parse_snoc (decDigits (u / 10)) 0 (u / 10) (UInt8.ofNat (48 + u % 10)) (ih (u / 10) (by omega) (by omega)) (by rw [e _ (by omega)]; omega) (by rw [e _ (by omega)]; omega) (by omega) (by rw [e _ (by omega)]; omega)
      rw [this, e _ (by omega)]
      congr 1
      omega
theorem digits_head (u : Nat) : ∃ c r, decDigits u = c :: r ∧ 48 ≤ c.toNat ∧ c.toNat ≤ 57 := by
  cases h : decDigits u with
  | nil =>
    rw [decDigits] at h
    split at h
    · cases h
    · simp at h
  | cons c r => exact ⟨c, r, rfl, decDigits_word u c (by rw [h]; simp)⟩
theorem atoi_itoa {n : Int} (h0 : 0 ≤ n) (h1 : n < 1000000000000000000) : atoiAll (itoa n) = .ok n := by
  obtain ⟨c, r, e, c0, c1⟩ := digits_head n.toNat
  have hp := parse_digits n.toNat (by omega)
  unfold itoa
  rw [if_neg (by omega)]
  rw [e] at hp ⊢
  unfold atoiAll
  have hm : Go.Lib.parseMag (if c.toNat = 43 ∨ c.toNat = 45 then r else c :: r) = .ok n.toNat := by
    rw [if_neg (by omega)]
    unfold Go.Lib.parseMag
    rw [if_neg (by simp)]
    exact hp
  simp only [hm]
  rw [if_neg (by omega), if_neg (by omega), if_neg (by omega)]
  congr 1
  omega
/-- one entry more is recovered of a text -/
def words (line : List UInt8) : List ByteArray := Go.Lib.splitB ⟨#[32]⟩ 0 (Go.Lib.countB ⟨line.toArray⟩ ⟨#[32]⟩) ⟨line.toArray⟩
theorem words_bytes (line : List UInt8) : (words line).map bl = splitK [32] 0 (count line [32]) line := Go.Lib.splitB_data ⟨#[32]⟩ 0 _ ⟨line.toArray⟩
def entryOf (w : List ByteArray) (n : Int) : LE := (w.getD 0 ByteArray.empty, w.getD 1 ByteArray.empty, n)
def one (out : List LE) (r : List UInt8) (s : Int × Int) : Option LE :=
  if (cut r [10]).2.2 = false ∨ (words (cut r [10]).1).length ≠ 4 then none else
  match atoiAll (bl ((words (cut r [10]).1).getD 2 ByteArray.empty)) with
  | .ok n => if lineS s (entryOf (words (cut r [10]).1) n) = (cut r [10]).1 ++ [10] ∧ lcheck (out ++ [entryOf (words (cut r [10]).1) n]) = 0 then some (entryOf (words (cut r [10]).1) n) else none
  | _ => none
theorem one_some {out : List LE} {r : List UInt8} {s : Int × Int} {x : LE} (h : one out r s = some x) : lcheck (out ++ [x]) = 0 ∧ ∃ tail, r = lineS s x ++ tail := by
  unfold one at h
  split at h
  · cases h
  · rename_i h1
    have hc : (cut r [10]).2.2 = true := by
      cases hh : (cut r [10]).2.2
      · exact absurd (Or.inl hh) h1
      · rfl
    split at h
    · split at h
      · rename_i h2
        injection h with h
        subst h
        refine ⟨h2.2, (cut r [10]).2.1, ?_⟩
        rw [h2.1, List.append_assoc]
        exact (cut_law hc).1
      · cases h
    · cases h
theorem line0_words {s : Int × Int} {x : LE} (hs : SumOk s) (hx : lbad x = 0) : (10 : UInt8) ∉ line0 s x ∧ (words (line0 s x)).map bl = [bl x.1, bl x.2.1, itoa x.2.2, itoa (sumK s x)] := by
  obtain ⟨n1, n2, _, c0, c1⟩ := lbad_ok.1 hx
  obtain ⟨k1, k2, k3, k4⟩ := chk_ok hs (lineT x)
  have w1 := name_word n1
  have w2 := name_word n2
  have w3 := itoa_word (n := x.2.2) (by omega)
  have w4 := itoa_word (n := sumK s x) (by unfold sumK chkN; omega)
  have e : line0 s x = bl x.1 ++ 32 :: (bl x.2.1 ++ 32 :: (itoa x.2.2 ++ 32 :: itoa (sumK s x))) := by
    unfold line0 lineT
    simp
  refine ⟨?_, ?_⟩
  · rw [e]
    intro h
    simp only [List.mem_append, List.mem_cons] at h
    rcases h with h | h | h | h | h | h | h
    · exact (w1 _ h).2 rfl
    · exact absurd h (by decide)
    · exact (w2 _ h).2 rfl
    · exact absurd h (by decide)
    · exact (w3 _ h).2 rfl
    · exact absurd h (by decide)
    · exact (w4 _ h).2 rfl
  · rw [words_bytes, e]
    exact split_four (fun h => (w1 _ h).1 rfl) (fun h => (w2 _ h).1 rfl) (fun h => (w3 _ h).1 rfl) (fun h => (w4 _ h).1 rfl)
theorem one_line {out : List LE} {s : Int × Int} {x : LE} (hs : SumOk s) (h : lcheck (out ++ [x]) = 0) (tail : List UInt8) : one out (lineS s x ++ tail) s = some x := by
  have hx : lbad x = 0 := (lcheck_ok.1 h).2.1 x (by simp)
  obtain ⟨h10, hw⟩ := line0_words hs hx
  obtain ⟨_, _, _, c0, c1⟩ := lbad_ok.1 hx
  have hc : cut (lineS s x ++ tail) [10] = (line0 s x, tail, true) := by
    unfold lineS
    rw [List.append_assoc]
    exact cut_one _ _ _ h10
  unfold one
  rw [hc]
  simp only
  generalize hwd : words (line0 s x) = wd at *
  have hlen : wd.length = 4 := by have := congrArg List.length hw; simpa using this
  match wd, hlen, hw with
  | [a, b, c, d], _, hw =>
    simp only [List.map_cons, List.map_nil, List.cons.injEq, and_true] at hw
    obtain ⟨ea, eb, ec, _⟩ := hw
    have ea := bl_inj ea
    have eb := bl_inj eb
    subst ea eb
    rw [if_neg (by simp)]
    have e2 : ([x.1, x.2.1, c, d] : List ByteArray).getD 2 ByteArray.empty = c := rfl
    rw [e2, ec, atoi_itoa (by omega) (by omega)]
    simp only
    have e3 : entryOf [x.1, x.2.1, c, d] x.2.2 = x := rfl
    rw [e3, if_pos ⟨rfl, h⟩]
theorem one_part {out : List LE} {r : List UInt8} {s : Int × Int} (h : (10 : UInt8) ∉ r) : one out r s = none := by
  unfold one
  rw [cut_miss r 10 h, if_pos (Or.inl rfl)]
/-- what ledger.Recover finds -/
def s0 : Int × Int := (1, 0)
theorem s0_ok : SumOk s0 := by unfold SumOk s0; simp
def RecP (S : List UInt8) (out : List LE) (k : Int) : Prop := lcheck out = 0 ∧ ∃ r, S = textS s0 out ++ r ∧ k = (textS s0 out).length ∧ one out r (chkL s0 out) = none
theorem rec_pre {S : List UInt8} {out l : List LE} {k : Int} {tail : List UInt8} (h : RecP S out k) (hl : lcheck l = 0) (hS : S = textS s0 l ++ tail) : ∃ q, out = l ++ q := by
  obtain ⟨ho, r, hr, _, hn⟩ := h
  have key : ∀ p m : List LE, l = p ++ m → ∃ q, out = p ++ q := by
    intro p
    induction p using snocInd with
    | h0 => intro m _; exact ⟨out, rfl⟩
    | h1 p x ih =>
      intro m hm
      obtain ⟨q, hq⟩ := ih (x :: m) (by rw [hm]; simp)
      have hck : lcheck (p ++ [x]) = 0 := lcheck_pre (m := m) (by rw [← hm]; exact hl)
      have hs := chkL_ok s0_ok p
      have e1 : textS (chkL s0 p) q ++ r = lineS (chkL s0 p) x ++ (textS (chkN (chkL s0 p) x) m ++ tail) := by
        rw [hr, hq, textS_append, hm, textS_append, textS_snoc] at hS
        simp only [List.append_assoc] at hS
        have := List.append_cancel_left hS
        rw [this, chkL_snoc]
      cases q with
      | nil =>
        rw [List.append_nil] at hq
        subst hq
        have e2 : r = lineS (chkL s0 out) x ++ (textS (chkN (chkL s0 out) x) m ++ tail) := by simpa [textS] using e1
        rw [e2, one_line hs hck] at hn
        cases hn
      | cons y q =>
        have hck2 : lcheck (p ++ [y]) = 0 := lcheck_pre (m := q) (by rw [hq] at ho; simpa using ho)
        have e2 : one p (lineS (chkL s0 p) y ++ (textS (chkN (chkL s0 p) y) q ++ r)) (chkL s0 p) = some y := one_line hs hck2 _
        have e3 := one_line hs hck (textS (chkN (chkL s0 p) x) m ++ tail)
        rw [← e1] at e3
        have e4 : textS (chkL s0 p) (y :: q) ++ r = lineS (chkL s0 p) y ++ (textS (chkN (chkL s0 p) y) q ++ r) := by simp [textS]
        rw [e4, e2] at e3
        injection e3 with e3
        subst e3
        exact ⟨q, by rw [hq]; simp⟩
  exact key l [] (by simp)
theorem lineS_end (s : Int × Int) (x : LE) : (10 : UInt8) ∈ lineS s x := by unfold lineS; simp
theorem rec_done {S : List UInt8} {out l : List LE} {k : Int} {tail : List UInt8} (h : RecP S out k) (hl : lcheck l = 0) (hS : S = textS s0 l ++ tail) (ht : (10 : UInt8) ∉ tail) : out = l ∧ k = (textS s0 l).length := by
  obtain ⟨q, hq⟩ := rec_pre h hl hS
  obtain ⟨_, r, hr, hk, _⟩ := h
  cases q with
  | nil =>
    rw [List.append_nil] at hq
    subst hq
    exact ⟨rfl, hk⟩
  | cons y q =>
    exfalso
    rw [hr, hq, textS_append, List.append_assoc] at hS
    have := List.append_cancel_left hS
    apply ht
    rw [← this, textS]
    simp [lineS_end]
end Go.Proofs.YtibhgcldogfonaaGreatDoor.Pl
