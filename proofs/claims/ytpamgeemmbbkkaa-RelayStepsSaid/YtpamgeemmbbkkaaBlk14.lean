/- slices.Clone at rules of a relay and at their operations: a new row with the same cells. No condition. relaylang.Order: the order of a program that is checked, or what Check says. Condition: the program reads. relay.New: a relay of its own for a program that is checked. Condition: the program reads. -/
import Derived.Test.YtpamgeemmbbkkaaBlk05
import Derived.Test.YtpamgeemmbbkkaaBlk03
import Derived.Lib.SliceRun
import Derived.Test.YtpamgeemmbbkkaaRChk
import Derived.Test.YtpamgeemmbbkkaaBlk09
import Derived.Test.YtpamgeemmbbkkaaBlk11
namespace Go.Proofs.Ytpamgeemmbbkkaa
open Go.RowKit
def CloneSaid (e : TypeId) (size n : Nat) (xs : List Value) (w : World) (x : Ending) (w' : World) : Prop :=
  ∃ A c, x = .returned (.slice A n c) ∧ w'.ownsRow w.heap.size e size (.slice A n c) n xs ∧ Below w.heap.size w w'
theorem own_empty (w : World) (e : TypeId) (size g base : Nat) (hg : g = w.heap.size) (hb : base ≤ w.heap.size) : (w.alloc (.cells #[] e)).ownsRow base e size (.slice (some ⟨g, 0, none⟩) 0 0) 0 [] := by
  subst hg
  exact World.ownsRow_lit w #[] 0 hb (by unfold maxLen; omega) (by simp)
theorem info_rul : (Try.prog.info? 96).map (fun i => (i.zero, i.size, i.bytes)) = some (some (.agg #[.string ⟨#[]⟩, .slice none 0 0]), 2, 40) := by kernel_rfl
theorem info_rn : (Try.prog.info? 93).map (fun i => (i.zero, i.size, i.bytes)) = some (some (.agg #[.int .i64 0, .string ⟨#[]⟩, .int .i64 0]), 3, 32) := by kernel_rfl
set_option maxRecDepth 100000 in
theorem clone_rul (A : Option Addr) (n c : Nat) (xs : List Value) (w : World) (hn : n ≤ 1000000) (hr : Reads w w.heap.size 2 A n xs) (h1 : ∀ u ∈ xs, u.oneCell' = true) :
    Calls Try.prog 73 #[.slice A n c] w (CloneSaid 96 2 n xs w) := by
  obtain ⟨i0, hi0, hz0, hz1, hz2⟩ := info_parts info_rul
  rcases A with _ | ⟨b, o, s⟩
  · have h0 : n = 0 := by
      rcases Nat.eq_zero_or_pos n with h | h
      · exact h
      · obtain ⟨_, h, _⟩ := hr.2 h; cases h
    subst h0
    have hl : xs = [] := List.eq_nil_of_length_eq_zero (by simpa using hr.1)
    rw [hl]
    clear hl hr hi0 hz0 hz1 hz2 h1
    have hnil : ∀ W, (binOp .eql 60 (.slice none 0 c) (.slice none 0 0)).run Try.prog W = .ok (.bool true) W := fun W => Lib.run_eql_slice_nil W _ _ none 0 c 0 0 Try.underlying60
    go_enter Try.func73, Try.ntmps73
    go_wp2_with fail
    go_ret
    exact ⟨none, 0, rfl, World.ownsRow_nil _ _ _ _, Below.refl _ _⟩
  · have hnil : ∀ W, (binOp .eql 60 (.slice (some ⟨b, o, s⟩) n c) (.slice none 0 0)).run Try.prog W = .ok (.bool false) W := fun W => Lib.run_eql_slice_nil W _ _ (some ⟨b, o, s⟩) n c 0 0 Try.underlying60
    have HR : Hid (Reads (w.alloc (.cells #[] 96)) w.heap.size 2 (some ⟨b, o, s⟩) n xs) := hr.alloc (Nat.le_refl _) _
    have HO := Lib.hid (own_empty w 96 2 w.heap.size w.heap.size rfl (Nat.le_refl _))
    have HB := Lib.hid ((Below.refl w.heap.size w).alloc (Nat.le_refl _) (.cells #[] 96))
    have H1 := Lib.hid h1
    clear h1
    go_enter Try.func73, Try.ntmps73
    go_wp2_with (at_builtin; go_must (refine wpList_append_any _ rfl (.tmp 5) (.tmp 6) 60 rfl w.heap.size 96 i0 _ 2 40 Try.underlying60 hi0 hz0 hz1 hz2 rfl (by decide) (.slice (some ⟨w.heap.size, 0, none⟩) 0 0) 0 [] rfl HO.out w.heap.size (some ⟨b, o, s⟩) n c xs rfl HR.out H1.out (by unfold maxLen; omega) (by omega) (by simp) ?_); intro v' w3 hown3 hg3 _; have HO3 := Lib.hid hown3; have HG3 := Lib.hid hg3; clear hown3 hg3)
    have HO4 := HO3.out
    rw [Nat.zero_add, List.nil_append] at HO4
    obtain ⟨A', c', rfl, _⟩ := own_slice HO4
    go_ret
    exact ⟨A', c', rfl, HO4, below_grown HB.out HG3.out HO.out (Nat.le_refl _) (by simp)⟩
set_option maxRecDepth 100000 in
theorem clone_rn (A : Option Addr) (n c : Nat) (xs : List Value) (w : World) (hn : n ≤ 1000000) (hr : Reads w w.heap.size 3 A n xs) (h1 : ∀ u ∈ xs, u.oneCell' = true) :
    Calls Try.prog 74 #[.slice A n c] w (CloneSaid 93 3 n xs w) := by
  obtain ⟨i0, hi0, hz0, hz1, hz2⟩ := info_parts info_rn
  rcases A with _ | ⟨b, o, s⟩
  · have h0 : n = 0 := by
      rcases Nat.eq_zero_or_pos n with h | h
      · exact h
      · obtain ⟨_, h, _⟩ := hr.2 h; cases h
    subst h0
    have hl : xs = [] := List.eq_nil_of_length_eq_zero (by simpa using hr.1)
    rw [hl]
    clear hl hr hi0 hz0 hz1 hz2 h1
    have hnil : ∀ W, (binOp .eql 94 (.slice none 0 c) (.slice none 0 0)).run Try.prog W = .ok (.bool true) W := fun W => Lib.run_eql_slice_nil W _ _ none 0 c 0 0 Try.underlying94
    go_enter Try.func74, Try.ntmps74
    go_wp2_with fail
    go_ret
    exact ⟨none, 0, rfl, World.ownsRow_nil _ _ _ _, Below.refl _ _⟩
  · have hnil : ∀ W, (binOp .eql 94 (.slice (some ⟨b, o, s⟩) n c) (.slice none 0 0)).run Try.prog W = .ok (.bool false) W := fun W => Lib.run_eql_slice_nil W _ _ (some ⟨b, o, s⟩) n c 0 0 Try.underlying94
    have HR : Hid (Reads (w.alloc (.cells #[] 93)) w.heap.size 3 (some ⟨b, o, s⟩) n xs) := hr.alloc (Nat.le_refl _) _
    have HO := Lib.hid (own_empty w 93 3 w.heap.size w.heap.size rfl (Nat.le_refl _))
    have HB := Lib.hid ((Below.refl w.heap.size w).alloc (Nat.le_refl _) (.cells #[] 93))
    have H1 := Lib.hid h1
    clear h1
    go_enter Try.func74, Try.ntmps74
    go_wp2_with (at_builtin; go_must (refine wpList_append_any _ rfl (.tmp 5) (.tmp 6) 94 rfl w.heap.size 93 i0 _ 3 32 Try.underlying94 hi0 hz0 hz1 hz2 rfl (by decide) (.slice (some ⟨w.heap.size, 0, none⟩) 0 0) 0 [] rfl HO.out w.heap.size (some ⟨b, o, s⟩) n c xs rfl HR.out H1.out (by unfold maxLen; omega) (by omega) (by simp) ?_); intro v' w3 hown3 hg3 _; have HO3 := Lib.hid hown3; have HG3 := Lib.hid hg3; clear hown3 hg3)
    have HO4 := HO3.out
    rw [Nat.zero_add, List.nil_append] at HO4
    obtain ⟨A', c', rfl, _⟩ := own_slice HO4
    go_ret
    exact ⟨A', c', rfl, HO4, below_grown HB.out HG3.out HO.out (Nat.le_refl _) (by simp)⟩
end Go.Proofs.Ytpamgeemmbbkkaa
namespace Go.Proofs.Ytpamgeemmbbkkaa
open Go.RowKit
set_option maxRecDepth 100000
theorem Pl.nodesE_ok : ∀ {ex : List Pl.RN}, Pl.nodesE ex = 0 → ∀ x ∈ ex, 0 ≤ x.op ∧ x.op ≤ 7
  | [], _, x, hx => by cases hx
  | y :: ex, h, x, hx => by
    unfold Pl.nodesE at h
    by_cases h0 : Pl.nodeE y = 0
    · rw [if_neg (by simpa using h0)] at h
      rcases List.mem_cons.1 hx with rfl | hx
      · unfold Pl.nodeE at h0
        by_cases h1 : ¬ (0 ≤ x.op ∧ x.op ≤ 7)
        · rw [if_pos h1] at h0; omega
        · exact Decidable.not_not.1 h1
      · exact Pl.nodesE_ok h x hx
    · rw [if_pos h0] at h; exact absurd h h0
/-- what a checked program is -/
theorem relE_zero {l : List MRul} {n : Nat} (hl : l.length = n) (h : Pl.relE (prl l) = 0) : n ≤ 16 ∧ (∀ o ∈ l, o.ex.length ≤ 64 ∧ (∀ x ∈ o.ex, 0 ≤ x.op ∧ x.op ≤ 7) ∧ Pl.endG 1 o.ex = some o.ex.length) ∧ Pl.orderP (Pl.ndQ (prl l)) n ≠ none := by
  unfold Pl.relE at h
  rw [prl_len, hl] at h
  split at h
  · omega
  · rename_i h16
    split at h
    · rename_i h2; exact absurd h h2
    · rename_i h2
      split at h
      · omega
      · split at h
        · omega
        · rename_i h4
          refine ⟨by omega, fun o ho => ?_, h4⟩
          have h2 : Pl.rulesE (prl l) n 0 = 0 := by simpa using h2
          obtain ⟨i, hi, e⟩ := List.mem_iff_getElem.1 ho
          have h5 := Pl.rulesE_ok h2 (by rw [prl_len]; omega) i (by rw [prl_len]; exact hi) (Nat.zero_le _)
          have e2 : (prl l)[i]'(by rw [prl_len]; exact hi) = ⟨o.nm, o.ex⟩ := by unfold prl; rw [List.getElem_map, e]
          rw [e2] at h5
          obtain ⟨a1, a2, a3⟩ := Pl.ruleE_ok h5
          exact ⟨a1, Pl.nodesE_ok a2, a3⟩
theorem rorder_bad (A : Option Addr) (n c : Nat) (l : List MRul) (w : World) (hn : n ≤ 9223372036854775807) (hnc : n ≤ c) (h : Ruls w w.heap.size A n l) (hE : Pl.relE (prl l) ≠ 0) :
    Calls Try.prog 72 #[.slice A n c] w fun e w' => e = .returned (.tuple #[.slice none 0 0, .int .i64 (Pl.relE (prl l))]) ∧ Below w.heap.size w w' := by
  have HC := Lib.hid (rcheck_any A n c l w hn hnc h)
  generalize Pl.relE (prl l) = E at *
  clear h
  go_enter Try.func72, Try.ntmps72
  go_wp2_with fail
  refine HC.out.mono ?_
  rintro e w1 ⟨rfl, hb⟩
  have HB := Lib.hid hb
  clear hb HC
  go_wp2_with fail
  go_ret2
  exact ⟨rfl, HB.out⟩
def ROrdSaid (n : Nat) (l : List MRul) (w : World) (e : Ending) (w' : World) : Prop :=
  ∃ A1 c1 ol, e = .returned (.tuple #[.slice A1 n c1, .int .i64 0]) ∧ Pl.orderP (ndP l) n = some ol ∧ Reads w' w'.heap.size 1 A1 n (ints ol) ∧ Below w.heap.size w w'
theorem rorder_ok (A : Option Addr) (n c : Nat) (l : List MRul) (w : World) (hn : n ≤ 9223372036854775807) (hnc : n ≤ c) (h : Ruls w w.heap.size A n l) (hE : Pl.relE (prl l) = 0) :
    Calls Try.prog 72 #[.slice A n c] w (ROrdSaid n l w) := by
  obtain ⟨h16, hok, hord⟩ := relE_zero h.len hE
  rw [← ndP_prl] at hord
  have HORD := Lib.hid hord
  have HC := Lib.hid (rcheck_any A n c l w hn hnc h)
  have hro : RulesOk l := fun o ho => ⟨by have := (hok o ho).1; have := (h.2 o ho).2.2.1.2; omega, (hok o ho).2.2⟩
  have HO := Lib.hid (fun (w1 : World) (hb : Below w.heap.size w w1) => order_any A n c l w1 h16 (h.go hb) hro)
  rw [hE] at HC
  clear h hok hord hro hE
  go_enter Try.func72, Try.ntmps72
  go_wp2_with fail
  refine HC.out.mono ?_
  rintro e w1 ⟨rfl, hb⟩
  have HB := Lib.hid hb
  have HO1 := Lib.hid (HO.out w1 hb)
  clear hb HC HO
  go_wp2_with fail
  refine HO1.out.mono ?_
  rintro e w2 ⟨A1, m, c1, ol, is, rfl, his, hb⟩
  have HIS : Hid (is = true ∧ Pl.orderP (ndP l) n = some ol ∧ m = n ∧ Reads w2 w2.heap.size 1 A1 m (ints ol)) := by
    cases is with
    | true => exact ⟨rfl, his⟩
    | false => exact absurd his HORD.out
  have HB2 := Lib.hid (HB.out.trans (hb.mono HB.out.size))
  clear his hb HO1
  obtain ⟨rfl, h1, rfl, h2⟩ := HIS.out
  have H1 := Lib.hid (And.intro h1 h2)
  clear h1 h2 HIS
  go_wp2_with fail
  go_ret2
  exact ⟨A1, c1, ol, rfl, H1.out.1, H1.out.2, HB2.out⟩
end Go.Proofs.Ytpamgeemmbbkkaa
namespace Go.Proofs.Ytpamgeemmbbkkaa
open Go.RowKit
set_option maxRecDepth 100000
theorem own_cap2 {w : World} {base n c : Nat} {e : TypeId} {size : Nat} {A : Option Addr} {xs : List Value} (h : w.ownsRow base e size (.slice A n c) n xs) : n ≤ c := by
  rcases h.2 with ⟨h0, rfl⟩ | ⟨g, cap, cur, h0, _, _, h3, _⟩
  · omega
  · injection h0 with _ _ h0; omega
theorem info_bl : (Try.prog.info? 4).map (fun i => (i.zero, i.size, i.bytes)) = some (some (.bool false), 1, 1) := by kernel_rfl
/-- the same program, its rules elsewhere -/
def SameR (l l1 : List MRul) : Prop := l1.length = l.length ∧ ∀ (k : Nat) (o : MRul), l[k]? = some o → ∃ o1 : MRul, l1[k]? = some o1 ∧ o1.nm = o.nm ∧ o1.n = o.n ∧ o1.ex = o.ex
theorem SameR.prl {l l1 : List MRul} (h : SameR l l1) : prl l1 = prl l := by
  apply List.ext_getElem?
  intro i
  show (l1.map fun o => (⟨o.nm, o.ex⟩ : Pl.RRule))[i]? = (l.map fun o => (⟨o.nm, o.ex⟩ : Pl.RRule))[i]?
  rw [List.getElem?_map, List.getElem?_map]
  cases e : l[i]? with
  | none =>
    have := List.getElem?_eq_none_iff.1 e
    rw [List.getElem?_eq_none (by have := h.1; omega)]
  | some o =>
    obtain ⟨o1, e1, e2, _, e4⟩ := h.2 i o e
    rw [e1]
    simp [e2, e4]
theorem flat_set : ∀ (l : List MRul) (k : Nat) (o : MRul), l[k]? = some o → ∀ A c, (l.flatMap rulC).set (k * 2 + 1) (.slice A o.n c) = (l.set k ⟨o.nm, A, o.n, c, o.ex⟩).flatMap rulC
  | [], k, o, h, A, c => by simp at h
  | x :: l, 0, o, h, A, c => by
    have : x = o := by simpa using h
    subst this
    simp [rulC]
  | x :: l, k + 1, o, h, A, c => by
    have h : l[k]? = some o := by simpa using h
    have ih := flat_set l k o h A c
    have e : (k + 1) * 2 + 1 = k * 2 + 1 + 1 + 1 := by omega
    rw [e]
    show (Value.string x.nm :: Value.slice x.A x.n x.c :: (l.flatMap rulC)).set (k * 2 + 1 + 1 + 1) _ = _
    rw [List.set_cons_succ, List.set_cons_succ, ih]
    rfl
/-- rules whose first j expressions have been copied -/
structure NewRow (w wr : World) (H0 H1 n : Nat) (l : List MRul) (A1 : Option Addr) (c1 j : Nat) (lj : List MRul) : Prop where
  row : wr.ownsRow H0 96 2 (.slice A1 n c1) n (lj.flatMap rulC)
  same : SameR l lj
  len : lj.length = n
  new_ : ∀ (k : Nat) (o : MRul), lj[k]? = some o → k < j → wr.ownsRow H1 93 3 (.slice o.A o.n o.c) o.n (o.ex.flatMap rnC)
  old : ∀ (k : Nat) (o : MRul), lj[k]? = some o → j ≤ k → o.n ≤ o.c ∧ Elems rnC 3 wr w.heap.size o.A o.n o.ex
  size : ∀ (k : Nat) (o : MRul), lj[k]? = some o → o.nm.size ≤ 9223372036854775807 ∧ (∀ x ∈ o.ex, x.name.size ≤ 9223372036854775807) ∧ o.n ≤ 64 ∧ o.ex.length = o.n
  low : w.heap.size ≤ H0 ∧ H0 ≤ H1 ∧ H1 ≤ wr.heap.size ∧ (∀ g, A1 = some ⟨g, 0, none⟩ → g < H1)
theorem NewRow.step {w wr w1 : World} {H0 H1 n : Nat} {l : List MRul} {A1 : Option Addr} {c1 j : Nat} {lj : List MRul} {g : Nat} {o : MRul} {A' : Option Addr} {c' : Nat} (h : NewRow w wr H0 H1 n l A1 c1 j lj) (hA : A1 = some ⟨g, 0, none⟩) (ho : lj[j]? = some o)
    (hb : Below wr.heap.size wr w1) (hown : w1.ownsRow wr.heap.size 93 3 (.slice A' o.n c') o.n (o.ex.flatMap rnC)) (hg : H0 ≤ g) :
    NewRow w (w1.setCell ⟨g, j * 2 + 1, none⟩ (.slice A' o.n c')) H0 H1 n l A1 c1 (j + 1) (lj.set j ⟨o.nm, A', o.n, c', o.ex⟩) := by
  have hgl : g < H1 := h.low.2.2.2 g hA
  have hj : j < lj.length := (List.getElem?_eq_some_iff.1 ho).1
  have get : ∀ (k : Nat) (p : MRul), (lj.set j ⟨o.nm, A', o.n, c', o.ex⟩)[k]? = some p → (k = j ∧ p = ⟨o.nm, A', o.n, c', o.ex⟩) ∨ (k ≠ j ∧ lj[k]? = some p) := fun k p hp => by
    by_cases e : k = j
    · subst e
      rw [List.getElem?_set_self hj] at hp
      injection hp with hp
      exact .inl ⟨rfl, hp.symm⟩
    · rw [List.getElem?_set_ne (fun e2 => e e2.symm)] at hp
      exact .inr ⟨e, hp⟩
  refine ⟨?_, ?_, by rw [List.length_set]; exact h.len, fun k p hp hk => ?_, fun k p hp hk => ?_, fun k p hp => ?_, ⟨h.low.1, h.low.2.1, by have := hb.size; have := h.low.2.2.1; simp; omega, h.low.2.2.2⟩⟩
  · rw [← flat_set lj j o ho A' c']
    have := own_go h.row hb
    rw [hA] at this ⊢
    exact own_set this (j * 2 + 1) _
  · refine ⟨by rw [List.length_set]; exact h.same.1, fun k p hp => ?_⟩
    obtain ⟨o1, e1, e2, e3, e4⟩ := h.same.2 k p hp
    by_cases e : k = j
    · subst e
      rw [ho] at e1
      injection e1 with e1
      subst e1
      exact ⟨_, List.getElem?_set_self hj, e2, e3, e4⟩
    · exact ⟨o1, by rw [List.getElem?_set_ne (fun e2 => e e2.symm)]; exact e1, e2, e3, e4⟩
  · rcases get k p hp with ⟨rfl, rfl⟩ | ⟨hkj, hp⟩
    · exact own_far (own_base hown h.low.2.2.1) hgl _
    · exact own_far (own_go (h.new_ k p hp (by omega)) hb) hgl _
  · rcases get k p hp with ⟨rfl, rfl⟩ | ⟨hkj, hp⟩
    · omega
    · have := h.old k p hp (by omega)
      have h1 := h.low
      exact ⟨this.1, (this.2.below (hb.mono (by omega))).1.setCell (p := ⟨g, j * 2 + 1, none⟩) (by show w.heap.size ≤ g; omega) _, this.2.2⟩
  · rcases get k p hp with ⟨rfl, rfl⟩ | ⟨_, hp⟩
    · have := h.size _ o ho; exact this
    · exact h.size k p hp
theorem NewRow.ruls {w wr : World} {H0 H1 n : Nat} {l : List MRul} {A1 : Option Addr} {c1 : Nat} {lj : List MRul} (h : NewRow w wr H0 H1 n l A1 c1 n lj) : Ruls wr wr.heap.size A1 n lj := by
  refine ⟨⟨Reads.of_own h.row, h.len⟩, fun o ho => ?_⟩
  obtain ⟨k, hk, e⟩ := List.mem_iff_getElem.1 ho
  have hg : lj[k]? = some o := by rw [List.getElem?_eq_getElem hk, e]
  have hs := h.size k o hg
  have ho := h.new_ k o hg (by have := h.len; omega)
  exact ⟨by omega, own_cap2 ho, ⟨Reads.of_own ho, hs.2.2.2⟩, hs.1, hs.2.1⟩
def RNewSaid (n : Nat) (l : List MRul) (w : World) (e : Ending) (w' : World) : Prop :=
  ∃ A1 c1 l1 AO cO ol r gv b B, e = .returned (.tuple #[.pointer (some ⟨r, 0, none⟩), .int .i64 0]) ∧ RIn w' B r gv b A1 n c1 l1 AO cO ol (List.replicate n false) 0 (fun _ _ => (false, 0)) ∧ SameR l l1 ∧ w.heap.size ≤ B ∧ B ≤ r ∧ Pl.orderP (ndP l) n = some ol ∧ Below w.heap.size w w'
theorem rul_cells (l : List MRul) : ∀ u ∈ l.flatMap rulC, u.oneCell' = true := by
  intro u hu
  obtain ⟨o, _, h⟩ := List.mem_flatMap.1 hu
  simp [rulC] at h
  rcases h with rfl | rfl <;> rfl
theorem rn_cells (l : List Pl.RN) : ∀ u ∈ l.flatMap rnC, u.oneCell' = true := by
  intro u hu
  obtain ⟨o, _, h⟩ := List.mem_flatMap.1 hu
  simp [rnC] at h
  rcases h with rfl | rfl | rfl <;> rfl
theorem rnew_bad (A : Option Addr) (n c : Nat) (l : List MRul) (w : World) (hn : n ≤ 9223372036854775807) (hnc : n ≤ c) (h : Ruls w w.heap.size A n l) (hE : Pl.relE (prl l) ≠ 0) :
    Calls Try.prog 39 #[.slice A n c] w fun e w' => e = .returned (.tuple #[.pointer none, .int .i64 (Pl.relE (prl l))]) ∧ Below w.heap.size w w' := by
  have HC := Lib.hid (rorder_bad A n c l w hn hnc h hE)
  generalize Pl.relE (prl l) = E at *
  clear h
  go_enter Try.func39, Try.ntmps39
  go_wp2_with fail
  refine HC.out.mono ?_
  rintro e w1 ⟨rfl, hb⟩
  have HB := Lib.hid hb
  clear hb HC
  go_wp2_with fail
  go_ret2
  exact ⟨rfl, HB.out⟩
set_option maxHeartbeats 3200000 in
theorem rnew_ok (A : Option Addr) (n c : Nat) (l : List MRul) (w : World) (hn : n ≤ 9223372036854775807) (hnc : n ≤ c) (h : Ruls w w.heap.size A n l) (hE : Pl.relE (prl l) = 0) :
    Calls Try.prog 39 #[.slice A n c] w (RNewSaid n l w) := by
  obtain ⟨h16, hok, _⟩ := relE_zero h.len hE
  have HOK := Lib.hid hok
  have HC := Lib.hid (rorder_ok A n c l w hn hnc h hE)
  have HR := Lib.hid h
  have HCR := Lib.hid (fun (w1 : World) (hb : Below w.heap.size w w1) => clone_rul A n c (l.flatMap rulC) w1 (by omega) (h.1.1.go hb) (rul_cells l))
  clear h hE hok
  obtain ⟨j0, ji0, jz0, jz1, jz2⟩ := info_parts info_bl
  have hmk : ∀ w, (Instr.makeSlice 110 (.int .i64 (n : Int)) (.int .i64 (n : Int))).run Try.prog w = .ok (.slice (some ⟨w.heap.size, 0, none⟩) n n) (w.alloc (.cells ((List.replicate n false).map Value.bool).toArray 4)) := fun w => by
    have := run_make (P := Try.prog) w 110 4 j0 (.bool false) Try.underlying110 ji0 jz0 .i64 .i64 n n (by omega) (by omega) (by rw [jz2]; omega) (by omega)
    rw [jz1, show (Value.bool false).cells = #[.bool false] from rfl] at this
    rw [show ((List.replicate n false).map Value.bool).toArray = madeCells #[.bool false] n from by
      apply Array.ext'
      rw [toList_madeCells_one]
      simp]
    simpa using this
  have HMK := Lib.hid hmk
  clear hmk ji0 jz0 jz1 jz2
  go_enter Try.func39, Try.ntmps39
  go_wp2_with fail
  refine HC.out.mono ?_
  rintro e w1 ⟨AO, cO, ol, rfl, ho1, ho2, hb⟩
  have HO1 := Lib.hid (And.intro ho1 ho2)
  have HB1 := Lib.hid hb
  have HCR1 := Lib.hid (HCR.out w1 hb)
  clear ho1 ho2 hb HC HCR
  go_wp2_with fail
  refine HCR1.out.mono ?_
  rintro e w2 ⟨A1, c1, rfl, hown, hb⟩
  have HNR : Hid (NewRow w w2 w1.heap.size w2.heap.size n l A1 c1 0 l) := by
    have hbb : Below w.heap.size w w2 := HB1.out.trans (hb.mono HB1.out.size)
    have hmem : ∀ (k : Nat) (o : MRul), l[k]? = some o → o ∈ l := fun k o h => List.mem_of_getElem? h
    refine ⟨hown, ⟨rfl, fun k o h => ⟨o, h, rfl, rfl, rfl⟩⟩, HR.out.len, fun k o _ h => by omega, fun k o h _ => ?_, fun k o h => ?_, ⟨HB1.out.size, hb.size, Nat.le_refl _, fun g e => ?_⟩⟩
    · have := HR.out.2 o (hmem k o h)
      exact ⟨this.2.1, this.2.2.1.below hbb⟩
    · have := HR.out.2 o (hmem k o h)
      have h2 := HOK.out o (hmem k o h)
      have h3 := this.2.2.1.2
      exact ⟨this.2.2.2.1, this.2.2.2.2, by omega, h3⟩
    · have := hown.lt g (by rw [e]; rfl)
      omega
  have HB2 := Lib.hid (HB1.out.trans (hb.mono HB1.out.size))
  have HO2 := Lib.hid (And.intro HO1.out.1 (HO1.out.2.below hb))
  clear hown hb HCR1 HR HOK HO1
  go_wp2_with fail
  go_loopw [20] (fun i wr => ∃ (j : Nat) (lj : List MRul), j ≤ n ∧ i = .int .i64 j ∧ Hid (NewRow w wr w1.heap.size w2.heap.size n l A1 c1 j lj) ∧ Hid (Reads wr w1.heap.size 1 AO n (ints ol)) ∧ Hid (Below w.heap.size w wr)) (fun i _ => n - (intOf i).toNat)
  case atStart => exact ⟨0, l, Nat.zero_le _, rfl, HNR.out, HO2.out.2, HB2.out⟩
  case round =>
    obtain ⟨j, lj, hjn, rfl, HN, HRD, HBW⟩ := hrel
    by_cases hlt : j < n
    · obtain ⟨g, cap, hv, hg0, hg1⟩ := HN.out.row.form (by omega)
      injection hv with hv1 _ hv2
      subst hv1 hv2
      have hjl : j < lj.length := by have := HN.out.len; omega
      obtain ⟨o, ho⟩ : ∃ o, lj[j]? = some o := ⟨lj[j], List.getElem?_eq_getElem hjl⟩
      have hsz := HN.out.size j o ho
      have hold := HN.out.old j o ho (Nat.le_refl _)
      have hlow := HN.out.low
      have HCN := Lib.hid (clone_rn o.A o.n o.c (o.ex.flatMap rnC) wr (by omega) ((hold.2.1.more (by omega))) (rn_cells o.ex))
      have hcc : (lj.flatMap rulC)[j * 2 + 1]? = some (.slice o.A o.n o.c) := by
        have := Elems.at_ (dec := rulC) (size := 2) (fun _ => rfl) (by decide) ⟨Reads.of_own HN.out.row, HN.out.len⟩ hlt
        have e2 : lj[j]'hjl = o := by
          have := List.getElem?_eq_getElem hjl
          rw [ho] at this
          injection this with this
          exact this.symm
        obtain ⟨b9, o9, e9, _, hl9, hc9⟩ := this
        have h1 := hc9 1 (by omega)
        rw [e2] at h1
        injection e9 with e9
        injection e9 with e91 e92
        subst e91 e92
        have h2 := HN.out.row.cells (g := g) rfl (j * 2 + 1) ((lj.flatMap rulC)[j * 2 + 1]'(by have := HN.out.row.1; omega)) (List.getElem?_eq_getElem _)
        rw [List.getElem?_eq_getElem (by have := HN.out.row.1; omega)]
        have h3 : wr.cell? ((⟨g, 0, none⟩ : Addr).add (j * 2 + 1)) = wr.cell? ⟨g, 0 + j * 2 + 1, none⟩ := by simp [Addr.add]
        rw [h3] at h2
        rw [h2] at h1
        exact h1
      have hrc := HN.out.row.cells (g := g) rfl (j * 2 + 1) _ hcc
      have hrc2 : wr.cell? ⟨g, j * 2 + 1, none⟩ = some (.slice o.A o.n o.c) := by simpa [Addr.add] using hrc
      have HST := Lib.hid (fun (w9 : World) (A' : Option Addr) (c' : Nat) hb hown => HN.out.step (w1 := w9) (A' := A') (c' := c') rfl ho hb hown hg0)
      have hj0 : (0 : Int) ≤ (j : Int) := by omega
      have hj1 : (j : Int) < (n : Int) := by omega
      have HOW := Lib.hid HN.out.row
      clear hold hsz hcc hrc ho
      go_wp2_with fail
      refine HCN.out.mono ?_
      rintro e w9 ⟨A', c', rfl, hown, hb⟩
      have HSX := Lib.hid (HST.out w9 A' c' hb hown)
      have HB9 := Lib.hid (HBW.out.trans (hb.mono HBW.out.size))
      have HRD9 := Lib.hid (HRD.out.below (hb.mono (by omega)))
      have hrc9 := (hb.cell (p := ⟨g, j * 2 + 1, none⟩) hg1).trans hrc2
      have hfz : w9.frozen? ⟨g, j * 2 + 1, none⟩ = false := by
        have := own_go HOW.out hb
        rcases this.2 with ⟨h0, _⟩ | ⟨g', cap', cur, h0, _, hcur, _⟩
        · cases h0
        · injection h0 with h0
          injection h0 with h0
          injection h0 with h0
          subst h0
          exact Blk.frozen (t := 96) (cs := cur) hcur _
      have hg9 : g < w9.heap.size := by have := hb.size; omega
      clear hown hb HCN HST HOW hrc2
      go_wp2_with fail
      go_roundw
      case rel => exact ⟨j + 1, _, by omega, by go_num, HSX.out, HRD9.out.setCell (p := ⟨g, j * 2 + 1, none⟩) hg0 _, HB9.out.setCell (p := ⟨g, j * 2 + 1, none⟩) (by show w.heap.size ≤ g; omega) _⟩
      case measure => simp [intOf]; omega
    · have hjj : j = n := by omega
      subst hjj
      have HRL := Lib.hid HN.out.ruls
      have hlow := HN.out.low
      have HSM := Lib.hid HN.out.same
      have hj1 : ¬ ((j : Int) < (j : Int)) := by omega
      have hmk := HMK.out
      have hmm : ∀ w : World, (Instr.makeMap 151 none).run Try.prog w = .ok (.map (some w.heap.size)) (w.alloc (.map #[] 0)) := fun w => rfl
      have hrep : ((List.replicate j false).map Value.bool).toArray = Array.replicate j (Value.bool false) := by simp
      have F1 : Below wr.heap.size wr (wr.alloc (.cells (Array.replicate j (Value.bool false)) 4)) := (Below.refl _ _).alloc (Nat.le_refl _) _
      have F2 : Below wr.heap.size wr ((wr.alloc (.cells (Array.replicate j (Value.bool false)) 4)).alloc (.map #[] 0)) := F1.alloc (by simp) _
      have G1 : Blk (wr.alloc (.cells (Array.replicate j (Value.bool false)) 4)) wr.heap.size 4 (Array.replicate j (Value.bool false)) := Blk.new_ wr _ _ _ rfl
      have M1 := kmap_made (wr.alloc (.cells (Array.replicate j (Value.bool false)) 4))
      have hsz : (wr.alloc (.cells (Array.replicate j (Value.bool false)) 4)).heap.size = wr.heap.size + 1 := by simp
      rw [hsz] at M1
      have HF : Hid (∀ o : Value, RNewSaid j l w (.returned (.tuple #[.pointer (some ⟨wr.heap.size + 1 + 1, 0, none⟩), .int .i64 0])) (((wr.alloc (.cells (Array.replicate j (Value.bool false)) 4)).alloc (.map #[] 0)).alloc (.cells #[.slice A1 j c1, .slice AO j cO, .slice (some ⟨wr.heap.size, 0, none⟩) j j, .map (some (wr.heap.size + 1))] 153))) := fun _ => by
        have F3 := F2.alloc (o := .cells #[.slice A1 j c1, .slice AO j cO, .slice (some ⟨wr.heap.size, 0, none⟩) j j, .map (some (wr.heap.size + 1))] 153) (by simp; omega)
        refine ⟨A1, c1, lj, AO, cO, ol, wr.heap.size + 1 + 1, wr.heap.size, wr.heap.size + 1, wr.heap.size, rfl, ⟨Blk.new_ _ _ _ _ (by simp), ⟨by simp, ?_⟩, HRL.out.below F3, (HRD.out.more (by omega)).below F3, ?_, ⟨Nat.le_refl _, by omega, F3.size⟩, h16⟩, HSM.out, HBW.out.size, by omega, HO2.out.1, HBW.out.trans (F3.mono HBW.out.size)⟩
        · rw [hrep]; exact (G1.alloc _).alloc _
        · exact (M1.alloc _)
      have HF2 := Lib.hid (HF.out undef)
      clear HF F1 F2 G1 M1 hsz hrep HN
      go_wp2_with fail
      go_ret2
      exact HF2.out
end Go.Proofs.Ytpamgeemmbbkkaa
