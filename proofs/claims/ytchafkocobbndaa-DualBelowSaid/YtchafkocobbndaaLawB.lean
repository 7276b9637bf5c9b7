/- Slices of structs among the arguments, opened: for every kind of element by one law. No condition. -/
import Derived.Test.YtchafkocobbndaaLaw
import Derived.Deep.Slices
namespace Go.Proofs.Ytchafkocobbndaa
open Go.ChangeShapes Go.WideShapes Go.ChangeAt Go.RowKit
theorem exists_list {α : Type} (n : Nat) (Q : Nat → α → Prop) (h : ∀ i, i < n → ∃ a, Q i a) : ∃ l : List α, l.length = n ∧ ∀ i a, l[i]? = some a → Q i a := by
  induction n with
  | zero => exact ⟨[], rfl, fun i a h => by simp at h⟩
  | succ n ih =>
    obtain ⟨l, hl, hq⟩ := ih fun i hi => h i (by omega)
    obtain ⟨a, ha⟩ := h n (by omega)
    refine ⟨l ++ [a], by simp [hl], fun i b hb => ?_⟩
    rcases Nat.lt_or_ge i l.length with hi | hi
    · rw [List.getElem?_append_left hi] at hb
      exact hq i b hb
    · rw [List.getElem?_append_right hi] at hb
      have hi2 : i - l.length = 0 := by
        rcases Nat.eq_zero_or_pos (i - l.length) with h0 | h0
        · exact h0
        · rw [List.getElem?_eq_none (by simp; omega)] at hb; cases hb
      rw [hi2] at hb
      simp at hb
      subst hb
      have : i = n := by omega
      subst this
      exact ha
theorem flat_get {α : Type} (dec : α → List Value) (size : Nat) (l : List α) (hd : ∀ a, (dec a).length = size) (j : Nat) (u : Value) (h : (l.flatMap dec)[j]? = some u) :
    ∃ i r a, j = i * size + r ∧ r < size ∧ l[i]? = some a ∧ (dec a)[r]? = some u := by
  induction l generalizing j with
  | nil => simp at h
  | cons a l ih =>
    rw [List.flatMap_cons] at h
    rcases Nat.lt_or_ge j size with hj | hj
    · rw [List.getElem?_append_left (by rw [hd]; exact hj)] at h
      exact ⟨0, j, a, by omega, hj, rfl, h⟩
    · rw [List.getElem?_append_right (by rw [hd]; exact hj), hd] at h
      obtain ⟨i, r, b, e, hr, hb, hu⟩ := ih (j - size) h
      refine ⟨i + 1, r, b, ?_, hr, hb, hu⟩
      rw [Nat.add_mul]
      omega
theorem flat_length {α : Type} (dec : α → List Value) (size : Nat) (l : List α) (hd : ∀ a, (dec a).length = size) : (l.flatMap dec).length = l.length * size := by
  induction l with
  | nil => simp
  | cons a l ih => rw [List.flatMap_cons, List.length_append, ih, hd, List.length_cons, Nat.add_mul]; omega
section
variable {H : Type} {enc : TypeId × Value → H} {P : Program} {W : World} {base : Nat} {sp : Nat → Bool} {held : Bool}
/-- a slice whose elements' cells are 'dec a' -/
theorem open_slice_of {α : Type} (dec : α → List Value) (Q : α → Prop) (size : Nat) (hs : 0 < size) (hd : ∀ a, (dec a).length = size) {t e : TypeId} (ht : P.underlying t = some (.slice e)) (hC : P.cellsOf e = size)
    (hel : ∀ (n : Nat) (cs : List Value) (y : DataW H × List MemPlace), DataW.trod enc P W base sp held n e cs = some y → ∃ a, cs = dec a ∧ Q a) {fuel : Nat} {v : Value} {x : DataW H × List MemPlace}
    (h : DataW.trod enc P W base sp held fuel t [v] = some x) :
    ∃ (A : Option Addr) (n c : Nat) (l : List α), v = .slice A n c ∧ n ≤ c ∧ c ≤ maxLen ∧ Reads W W.heap.size size A n (l.flatMap dec) ∧ ∀ a ∈ l, Q a := by
  rcases Go.Deep.open_slice ht h with ⟨hcs, _⟩ | ⟨a, len, cap, m, n, D, Pl, hcs, _, hl, hm, hmm, _, hi⟩
  · injection hcs with hcs
    exact ⟨none, 0, 0, [], hcs, Nat.le_refl _, Nat.zero_le _, Reads.none_, by simp⟩
  · injection hcs with hcs
    have hlm : len ≤ m := by rw [hmm]; split <;> omega
    obtain ⟨l, hll, hq⟩ := exists_list (α := α) len (fun i b => Q b ∧ ∀ r, r < size → W.cell? ((a.add (i * size)).add r) = (dec b)[r]?) (by
      intro i hil
      obtain ⟨cs', hc, ht'⟩ := hi i (by omega)
      obtain ⟨b, rfl, hb⟩ := hel _ _ _ ht'
      obtain ⟨_, _, hat⟩ := World.cells?_some hc
      rw [hC] at hat
      exact ⟨b, hb, hat⟩)
    refine ⟨some a, len, cap, l, hcs, hl, hm, ⟨by rw [flat_length dec size l hd, hll], fun h0 => ⟨a, rfl, ?_, fun j u hu => ?_⟩⟩, fun b hb => ?_⟩
    · obtain ⟨b, hb⟩ : ∃ b, l[0]? = some b := ⟨l[0]'(by omega), List.getElem?_eq_getElem (by omega)⟩
      have h1 := (hq 0 b hb).2 0 hs
      have h2 : (dec b)[0]? = some ((dec b)[0]'(by rw [hd]; exact hs)) := List.getElem?_eq_getElem (by rw [hd]; exact hs)
      rw [h2] at h1
      have := lt_of_cell h1
      rwa [block_of_add, block_of_add] at this
    · obtain ⟨i, r, b, rfl, hr, hb, hu'⟩ := flat_get dec size l hd j u hu
      have h1 := (hq i b hb).2 r hr
      rw [add_of_add] at h1
      rw [h1, hu']
    · obtain ⟨i, hi', e⟩ := List.getElem_of_mem hb
      exact (hq i b (by rw [← e]; exact List.getElem?_eq_getElem hi')).1
/-- cells of a slice of pairs of integers -/
theorem open_pairs_cells {t e : TypeId} {f0 f1 : Field} (ht : P.underlying t = some (.slice e)) (he : P.underlying e = some (.struct #[f0, f1])) (hone : Go.Deep.oneCellFields P #[f0, f1] = true) (hC : P.cellsOf e = 2)
    (h0 : P.underlying f0.type = some (.int .i64)) (h1 : P.underlying f1.type = some (.int .i64)) {fuel : Nat} {v : Value} {x : DataW H × List MemPlace} (h : DataW.trod enc P W base sp held fuel t [v] = some x) :
    ∃ (A : Option Addr) (n c : Nat) (l : List (Int × Int)), v = .slice A n c ∧ n ≤ c ∧ c ≤ maxLen ∧ Reads W W.heap.size 2 A n (pairs l) := by
  obtain ⟨A, n, c, l, hv, hn, hc, hr, _⟩ := open_slice_of (fun p : Int × Int => [.int .i64 p.1, .int .i64 p.2]) (fun _ => True) 2 (by omega) (fun _ => rfl) ht hC (by
    intro n cs y hy
    obtain ⟨hl, m, hf⟩ := open_struct_cells he hone hy hC
    obtain ⟨c0, c1, rfl⟩ := list2 hl
    obtain ⟨_, _, e0, g0⟩ := hf 0 _ rfl
    obtain ⟨_, _, e1, g1⟩ := hf 1 _ rfl
    injection e0 with e0; injection e1 with e1
    subst e0 e1
    obtain ⟨a0, rfl, _⟩ := int_cell h0 g0
    obtain ⟨a1, rfl, _⟩ := int_cell h1 g1
    exact ⟨(a0, a1), rfl, trivial⟩) h
  exact ⟨A, n, c, l, hv, hn, hc, hr⟩
end
end Go.Proofs.Ytchafkocobbndaa
