/- The ledger, plain: a text that is torn, and a text of which one byte is changed. No program. -/
import Derived.Test.YtnnfkfimicmboaaDoorPLedB
import Derived.Lib.LastIndexByte
namespace Go.Proofs.YtnnfkfimicmboaaDoor.Pl
theorem textS_cut {s : Int × Int} {l : List LE} (hs : SumOk s) (hl : ∀ x ∈ l, lbad x = 0) (c : Nat) : ∃ p m r, l = p ++ m ∧ (textS s l).take c = textS s p ++ r ∧ (10 : UInt8) ∉ r := by
  induction l generalizing s c with
  | nil => exact ⟨[], [], [], rfl, by simp [textS], by simp⟩
  | cons x l ih =>
    obtain ⟨h10, _⟩ := line0_words hs (hl x (by simp))
    have e : textS s (x :: l) = line0 s x ++ ([10] ++ textS (chkN s x) l) := by rw [textS, lineS, List.append_assoc]
    by_cases hc : c ≤ (line0 s x).length
    · refine ⟨[], x :: l, (line0 s x).take c, rfl, ?_, fun h => h10 (List.mem_of_mem_take h)⟩
      rw [e, List.take_append_of_le_length hc]
      rfl
    · obtain ⟨p, m, r, h1, h2, h3⟩ := ih (s := chkN s x) (chk_ok hs _) (fun y hy => hl y (by simp [hy])) (c - ((line0 s x).length + 1))
      refine ⟨x :: p, m, r, by rw [h1]; rfl, ?_, h3⟩
      have e2 : c = (line0 s x ++ [10]).length + (c - ((line0 s x).length + 1)) := by rw [List.length_append]; simp; omega
      rw [textS, lineS, e2, List.take_length_add_append, h2, textS, lineS]
      simp only [List.append_assoc]
theorem count_text {s : Int × Int} {l : List LE} (hs : SumOk s) (hl : ∀ x ∈ l, lbad x = 0) : (textS s l).count 10 = l.length := by
  induction l generalizing s with
  | nil => rfl
  | cons x l ih =>
    obtain ⟨h10, _⟩ := line0_words hs (hl x (by simp))
    rw [textS, lineS, List.count_append, List.count_append, ih (s := chkN s x) (chk_ok hs _) fun y hy => hl y (by simp [hy]), List.count_eq_zero_of_not_mem h10]
    simp
    omega
theorem text_ends (s : Int × Int) (l : List LE) : textS s l = [] ∨ ∃ q, textS s l = q ++ [10] := by
  induction l using snocInd with
  | h0 => exact .inl rfl
  | h1 l x _ =>
    refine .inr ⟨textS s l ++ line0 (chkL s l) x, ?_⟩
    rw [textS_snoc, lineS, List.append_assoc]
theorem last_at {a r : List UInt8} (ha : a = [] ∨ ∃ q, a = q ++ [10]) (hr : (10 : UInt8) ∉ r) : Go.Lib.lastIndexByte ⟨(a ++ r).toArray⟩ 10 + 1 = a.length := by
  have hsz : (⟨(a ++ r).toArray⟩ : ByteArray).size = a.length + r.length := by show (a ++ r).toArray.size = _; simp
  have at_ : ∀ j (hj : j < (a ++ r).length), ((⟨(a ++ r).toArray⟩ : ByteArray).data[j]!) = (a ++ r)[j] := fun j hj => by
    show (a ++ r).toArray[j]! = _
    rw [getElem!_pos _ j (by simpa using hj)]
    simp
  have t10 : ((10 : UInt8).toNat : Int) = 10 := rfl
  have ne10 : ∀ {u : UInt8}, ((u.toNat : Nat) : Int) = 10 → u = 10 := fun {u} h => by
    apply UInt8.toNat_inj.1
    have : ((10 : UInt8).toNat) = 10 := rfl
    omega
  have hlast : ∀ q, a = q ++ [10] → ∃ h : a.length - 1 < (a ++ r).length, (a ++ r)[a.length - 1] = 10 := fun q hq => by
    subst hq
    refine ⟨by simp, ?_⟩
    simp
  rcases Go.Lib.lastIndexByte_spec ⟨(a ++ r).toArray⟩ 10 with ⟨e, hn⟩ | ⟨i, hi, e, hc, hn⟩
  · rw [e]
    rcases ha with rfl | ⟨q, hq⟩
    · rfl
    · exfalso
      obtain ⟨h1, h2⟩ := hlast q hq
      have := hn (a.length - 1) (by rw [hsz, ← List.length_append]; exact h1)
      rw [at_ _ h1, h2] at this
      exact this rfl
  · rw [e]
    rw [hsz] at hi hn
    have hi2 : i < (a ++ r).length := by rw [List.length_append]; exact hi
    rw [at_ _ hi2] at hc
    have hv := ne10 hc
    have hia : i < a.length := by
      rcases Nat.lt_or_ge i a.length with h | h
      · exact h
      · exfalso
        rw [List.getElem_append_right h] at hv
        exact hr (by rw [← hv]; exact List.getElem_mem _)
    rcases ha with rfl | ⟨q, hq⟩
    · simp at hia
    · obtain ⟨h1, h2⟩ := hlast q hq
      rcases Nat.lt_or_ge i (a.length - 1) with h | h
      · exfalso
        have := hn (a.length - 1) h (by rw [← List.length_append]; exact h1)
        rw [at_ _ h1, h2] at this
        exact this rfl
      · omega
theorem rec_len {S : List UInt8} {out : List LE} {k : Int} (h : RecP S out k) : k ≤ S.length := by
  obtain ⟨_, r, h1, h2, _⟩ := h
  rw [h1, h2, List.length_append]
  omega
/-- what a torn text is -/
theorem torn {l : List LE} (hl : lcheck l = 0) (c : Nat) : ∃ p m r, l = p ++ m ∧ (textS s0 l).take c = textS s0 p ++ r ∧ ((textS s0 l).take c).count 10 = p.length ∧ Go.Lib.lastIndexByte ⟨((textS s0 l).take c).toArray⟩ 10 + 1 = (textS s0 p).length ∧
    (∀ out k, RecP ((textS s0 l).take c) out k → out = p ∧ k = (textS s0 p).length) ∧ (∀ t out k, RecP ((textS s0 l).take c ++ t) out k → ∃ q, out = p ++ q) := by
  obtain ⟨_, hb, _⟩ := lcheck_ok.1 hl
  obtain ⟨p, m, r, h1, h2, h3⟩ := textS_cut s0_ok hb c
  have hp : lcheck p = 0 := lcheck_pre (by rw [h1] at hl; exact hl)
  refine ⟨p, m, r, h1, h2, ?_, ?_, fun out k h => rec_done (h2 ▸ h) hp rfl h3, fun t out k h => rec_pre (tail := r ++ t) h hp (by rw [h2, List.append_assoc])⟩
  · rw [h2, List.count_append, count_text s0_ok fun y hy => hb y (by rw [h1]; simp [hy]), List.count_eq_zero_of_not_mem h3]
    rfl
  · rw [h2]
    exact last_at (text_ends _ _) h3
end Go.Proofs.YtnnfkfimicmboaaDoor.Pl
