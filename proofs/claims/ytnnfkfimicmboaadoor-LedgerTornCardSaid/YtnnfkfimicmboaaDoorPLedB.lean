/- The ledger, plain: the text of entries, and what is recovered of a text. No program. -/
import Derived.Test.YtnnfkfimicmboaaDoorPLed
import Derived.Lib.ItoaNum
import Derived.Lib.AtoiAll
import Derived.Lib.Split
namespace Go.Proofs.YtnnfkfimicmboaaDoor.Pl
open Go.Lib (itoa decDigits atoiAll parseUint10 index cut count splitK)
/-- the line of an entry without its sum -/
def lineT (x : LE) : List UInt8 := bl x.1 ++ [32] ++ bl x.2.1 ++ [32] ++ itoa x.2.2
def chkB (s : Int × Int) (c : UInt8) : Int × Int := ((s.1 + (c.toNat : Int)) % 65521, (s.2 + (s.1 + (c.toNat : Int)) % 65521) % 65521)
def chk (s : Int × Int) (bs : List UInt8) : Int × Int := bs.foldl chkB s
theorem chk_snoc (s : Int × Int) (bs : List UInt8) (c : UInt8) : chk s (bs ++ [c]) = chkB (chk s bs) c := by unfold chk; rw [List.foldl_append]; rfl
def SumOk (s : Int × Int) : Prop := 0 ≤ s.1 ∧ s.1 < 65521 ∧ 0 ≤ s.2 ∧ s.2 < 65521
theorem chkB_ok {s : Int × Int} (h : SumOk s) (c : UInt8) : SumOk (chkB s c) := by
  obtain ⟨h1, h2, h3, h4⟩ := h
  unfold SumOk chkB
  simp only
  omega
theorem chk_ok {s : Int × Int} (h : SumOk s) (bs : List UInt8) : SumOk (chk s bs) := by
  induction bs using snocInd with
  | h0 => exact h
  | h1 bs c ih => rw [chk_snoc]; exact chkB_ok ih c
def chkN (s : Int × Int) (x : LE) : Int × Int := chk s (lineT x)
def chkL (s : Int × Int) (l : List LE) : Int × Int := l.foldl chkN s
theorem chkL_snoc (s : Int × Int) (l : List LE) (x : LE) : chkL s (l ++ [x]) = chkN (chkL s l) x := by unfold chkL; rw [List.foldl_append]; rfl
theorem chkL_append (s : Int × Int) (l m : List LE) : chkL s (l ++ m) = chkL (chkL s l) m := by unfold chkL; rw [List.foldl_append]
theorem chkL_ok {s : Int × Int} (h : SumOk s) (l : List LE) : SumOk (chkL s l) := by
  induction l using snocInd with
  | h0 => exact h
  | h1 l x ih => rw [chkL_snoc]; exact chk_ok ih _
def sumK (s : Int × Int) (x : LE) : Int := 65521 * (chkN s x).2 + (chkN s x).1
/-- the line without its end -/
def line0 (s : Int × Int) (x : LE) : List UInt8 := lineT x ++ [32] ++ itoa (sumK s x)
def lineS (s : Int × Int) (x : LE) : List UInt8 := line0 s x ++ [10]
def textS : Int × Int → List LE → List UInt8
  | _, [] => []
  | s, x :: l => lineS s x ++ textS (chkN s x) l
theorem textS_append (s : Int × Int) (l m : List LE) : textS s (l ++ m) = textS s l ++ textS (chkL s l) m := by
  induction l generalizing s with
  | nil => rfl
  | cons x l ih => simp only [List.cons_append, textS, ih, List.append_assoc]; rfl
theorem textS_snoc (s : Int × Int) (l : List LE) (x : LE) : textS s (l ++ [x]) = textS s l ++ lineS (chkL s l) x := by rw [textS_append]; simp [textS]
/-- what stands in a line: no end of line before its end, no blank in a word -/
def Word (l : List UInt8) : Prop := ∀ c ∈ l, c ≠ 32 ∧ c ≠ 10
theorem decDigits_word (u : Nat) : ∀ c ∈ decDigits u, 48 ≤ c.toNat ∧ c.toNat ≤ 57 := by
  induction u using Nat.strongRecOn with
  | _ u ih =>
    rw [decDigits]
    have e : ∀ d, d < 10 → (UInt8.ofNat (48 + d)).toNat = 48 + d := fun d hd => by rw [UInt8.toNat_ofNat']; omega
    split
    · rename_i h
      intro c hc
      rw [List.mem_singleton.1 hc, e u h]
      omega
    · rename_i h
      intro c hc
      rcases List.mem_append.1 hc with hc | hc
      · exact ih (u / 10) (by omega) c hc
      · rw [List.mem_singleton.1 hc, e (u % 10) (by omega)]
        omega
theorem byte_ne {c : UInt8} {n : Nat} (h : c.toNat ≠ n) (hn : n < 256) : c ≠ UInt8.ofNat n := by
  intro e
  apply h
  rw [e, UInt8.toNat_ofNat']
  omega
theorem itoa_word {n : Int} (h : 0 ≤ n) : Word (itoa n) := by
  intro c hc
  unfold itoa at hc
  rw [if_neg (by omega)] at hc
  have := decDigits_word _ c hc
  exact ⟨byte_ne (n := 32) (by omega) (by omega), byte_ne (n := 10) (by omega) (by omega)⟩
theorem name_word {s : ByteArray} (h : nameB s = true) : Word (bl s) := by
  unfold nameB at h
  rw [Bool.and_eq_true, List.all_eq_true] at h
  intro c hc
  obtain ⟨j, hj, rfl⟩ := List.getElem_of_mem hc
  have := h.1 ((bl s)[j], j) (by rw [List.mem_zipIdx_iff_getElem?]; exact List.getElem?_eq_getElem hj)
  unfold okByte at this
  rw [decide_eq_true_iff] at this
  simp only at this
  exact ⟨byte_ne (n := 32) (by omega) (by omega), byte_ne (n := 10) (by omega) (by omega)⟩
theorem name_len {s : ByteArray} (h : nameB s = true) : 1 ≤ (bl s).length ∧ (bl s).length ≤ 8 := by
  unfold nameB at h
  rw [Bool.and_eq_true, decide_eq_true_iff] at h
  have e : s.size = (bl s).length := by unfold bl; rw [Array.length_toList]; rfl
  omega
/-- the first place of a byte -/
theorem index_one (p : List UInt8) (c : UInt8) (q : List UInt8) (h : c ∉ p) : index (p ++ c :: q) [c] = p.length := by
  induction p with
  | nil => simp [index]
  | cons b p ih =>
    have hb : c ≠ b := fun e => h (by rw [e]; simp)
    have hp : c ∉ p := fun e => h (by simp [e])
    rw [List.cons_append, index, ih hp]
    have e1 : ([c].isPrefixOf (b :: (p ++ c :: q))) = false := by simp [List.isPrefixOf, hb]
    have e2 : ((p.length : Int) == -1) = false := by rw [beq_eq_false_iff_ne]; omega
    rw [e1, e2, if_neg (by decide), if_neg (by decide), List.length_cons]
    omega
theorem index_miss (p : List UInt8) (c : UInt8) (h : c ∉ p) : index p [c] = -1 := by
  induction p with
  | nil => rfl
  | cons b p ih =>
    have hb : c ≠ b := fun e => h (by rw [e]; simp)
    have hp : c ∉ p := fun e => h (by simp [e])
    rw [index, ih hp]
    have e1 : ([c].isPrefixOf (b :: p)) = false := by simp [List.isPrefixOf, hb]
    rw [e1]
    rfl
theorem cut_one (p : List UInt8) (c : UInt8) (q : List UInt8) (h : c ∉ p) : cut (p ++ c :: q) [c] = (p, q, true) := by
  unfold cut
  rw [index_one p c q h, if_pos (by omega)]
  simp
theorem cut_miss (p : List UInt8) (c : UInt8) (h : c ∉ p) : cut p [c] = (p, [], false) := by
  unfold cut
  rw [index_miss p c h, if_neg (by omega)]
theorem cut_law {r : List UInt8} {c : UInt8} (h : (cut r [c]).2.2 = true) : r = (cut r [c]).1 ++ c :: (cut r [c]).2.1 ∧ c ∉ (cut r [c]).1 := by
  by_cases hc : c ∈ r
  · obtain ⟨p, q, e, hp⟩ : ∃ p q, r = p ++ c :: q ∧ c ∉ p := by
      induction r with
      | nil => simp at hc
      | cons b r ih =>
        by_cases e : c = b
        · subst e; exact ⟨[], r, rfl, by simp⟩
        · have hr : c ∈ r := by rcases List.mem_cons.1 hc with h | h; exact absurd h e; exact h
          by_cases hh : (cut r [c]).2.2 = true
          · obtain ⟨p, q, e2, hp⟩ := ih hh hr
            exact ⟨b :: p, q, by rw [e2]; rfl, by simp [e, hp]⟩
          · obtain ⟨p, q, e2⟩ := List.append_of_mem hr
            exfalso
            -- a byte that is there is found
            have : ∀ r : List UInt8, c ∈ r → 0 ≤ index r [c] := by
              intro r
              induction r with
              | nil => intro h; simp at h
              | cons b r ih2 =>
                intro h
                rw [index]
                split
                · omega
                · rename_i hpre
                  have hb : c ≠ b := fun e => hpre (by subst e; simp [List.isPrefixOf])
                  have := ih2 (by rcases List.mem_cons.1 h with h | h; exact absurd h hb; exact h)
                  split
                  · rename_i h2; rw [beq_iff_eq] at h2; omega
                  · omega
            apply hh
            unfold cut
            rw [if_pos (this r hr)]
    rw [e, cut_one p c q hp]
    exact ⟨rfl, hp⟩
  · rw [cut_miss r c hc] at h
    cases h
theorem split_none {p : List UInt8} {c : UInt8} (h : c ∉ p) : splitK [c] 0 (count p [c]) p = [p] := by
  have h1 := index_miss p c h
  rw [Go.Lib.count_miss h1]
  rfl
theorem split_one {p q : List UInt8} {c : UInt8} (h : c ∉ p) : splitK [c] 0 (count (p ++ c :: q) [c]) (p ++ c :: q) = p :: splitK [c] 0 (count q [c]) q := by
  have h1 := index_one p c q h
  have e : (p ++ c :: q).drop (p.length + [c].length) = q := by simp
  rw [Go.Lib.count_hit (by simp) h1, e, Nat.add_comm 1, splitK, h1]
  have e2 : ((p.length : Int) == -1) = false := by rw [beq_eq_false_iff_ne]; omega
  rw [e2]
  simp
/-- the four words of a line -/
theorem split_four {a b c d : List UInt8} (ha : (32 : UInt8) ∉ a) (hb : (32 : UInt8) ∉ b) (hc : (32 : UInt8) ∉ c) (hd : (32 : UInt8) ∉ d) :
    splitK [32] 0 (count (a ++ 32 :: (b ++ 32 :: (c ++ 32 :: d))) [32]) (a ++ 32 :: (b ++ 32 :: (c ++ 32 :: d))) = [a, b, c, d] := by
  rw [split_one ha, split_one hb, split_one hc, split_none hd]
/-- a numeral is read as its number -/
theorem parse_snoc (l : List UInt8) (acc v : Nat) (d : UInt8) (h : parseUint10 acc l = .ok v) (d0 : 48 ≤ d.toNat) (d1 : d.toNat ≤ 57) (hv : v < 1844674407370955162) (hv2 : v * 10 + (d.toNat - 48) < 18446744073709551616) :
    parseUint10 acc (l ++ [d]) = .ok (v * 10 + (d.toNat - 48)) := by
  induction l generalizing acc with
  | nil =>
    rw [parseUint10] at h
    injection h with h
    subst h
    rw [List.nil_append, parseUint10, if_pos ⟨d0, d1⟩, if_neg (by omega), if_neg (by omega), parseUint10]
  | cons c l ih =>
    rw [parseUint10] at h
    rw [List.cons_append, parseUint10]
    split at h
    · rename_i h1
      rw [if_pos h1]
      split at h
      · cases h
      · rename_i h2
        rw [if_neg h2]
        split at h
        · cases h
        · rename_i h3
          rw [if_neg h3]
          exact ih _ h
    · cases h
theorem parse_digits (u : Nat) (hu : u < 1000000000000000000) : parseUint10 0 (decDigits u) = .ok u := by
  induction u using Nat.strongRecOn with
  | _ u ih =>
    have e : ∀ d, d < 10 → (UInt8.ofNat (48 + d)).toNat = 48 + d := fun d hd => by rw [UInt8.toNat_ofNat']; omega
    rw [decDigits]
    split
    · rename_i h
      rw [parseUint10, e u h, if_pos (by omega), if_neg (by omega), if_neg (by omega), parseUint10]
      congr 1
      omega
    · rename_i h
      have := parse_snoc (decDigits (u / 10)) 0 (u / 10) (UInt8.ofNat (48 + u % 10)) (ih (u / 10) (by omega) (by omega)) (by rw [e _ (by omega)]; omega) (by rw [e _ (by omega)]; omega) (by omega) (by rw [e _ (by omega)]; omega)
      rw [this, e _ (by omega)]
      congr 1
      omega
theorem digits_head (u : Nat) : ∃ c r, decDigits u = c :: r ∧ 48 ≤ c.toNat ∧ c.toNat ≤ 57 := by
  cases h : decDigits u with
  | nil =>
    rw [decDigits] at h
    split at h
    · cases h
    · simp at h
  | cons c r => exact ⟨c, r, rfl, decDigits_word u c (by rw [h]; simp)⟩
theorem atoi_itoa {n : Int} (h0 : 0 ≤ n) (h1 : n < 1000000000000000000) : atoiAll (itoa n) = .ok n := by
  obtain ⟨c, r, e, c0, c1⟩ := digits_head n.toNat
  have hp := parse_digits n.toNat (by omega)
  unfold itoa
  rw [if_neg (by omega)]
  rw [e] at hp ⊢
  unfold atoiAll
  have hm : Go.Lib.parseMag (if c.toNat = 43 ∨ c.toNat = 45 then r else c :: r) = .ok n.toNat := by
    rw [if_neg (by omega)]
    unfold Go.Lib.parseMag
    rw [if_neg (by simp)]
    exact hp
  simp only [hm]
  rw [if_neg (by omega), if_neg (by omega), if_neg (by omega)]
  congr 1
  omega
/-- one entry more is recovered of a text -/
def words (line : List UInt8) : List ByteArray := Go.Lib.splitB ⟨#[32]⟩ 0 (Go.Lib.countB ⟨line.toArray⟩ ⟨#[32]⟩) ⟨line.toArray⟩
theorem words_bytes (line : List UInt8) : (words line).map bl = splitK [32] 0 (count line [32]) line := Go.Lib.splitB_data ⟨#[32]⟩ 0 _ ⟨line.toArray⟩
def entryOf (w : List ByteArray) (n : Int) : LE := (w.getD 0 ByteArray.empty, w.getD 1 ByteArray.empty, n)
def one (out : List LE) (r : List UInt8) (s : Int × Int) : Option LE :=
  if (cut r [10]).2.2 = false ∨ (words (cut r [10]).1).length ≠ 4 then none else
  match atoiAll (bl ((words (cut r [10]).1).getD 2 ByteArray.empty)) with
  | .ok n => if lineS s (entryOf (words (cut r [10]).1) n) = (cut r [10]).1 ++ [10] ∧ lcheck (out ++ [entryOf (words (cut r [10]).1) n]) = 0 then some (entryOf (words (cut r [10]).1) n) else none
  | _ => none
theorem one_some {out : List LE} {r : List UInt8} {s : Int × Int} {x : LE} (h : one out r s = some x) : lcheck (out ++ [x]) = 0 ∧ ∃ tail, r = lineS s x ++ tail := by
  unfold one at h
  split at h
  · cases h
  · rename_i h1
    have hc : (cut r [10]).2.2 = true := by
      cases hh : (cut r [10]).2.2
      · exact absurd (Or.inl hh) h1
      · rfl
    split at h
    · split at h
      · rename_i h2
        injection h with h
        subst h
        refine ⟨h2.2, (cut r [10]).2.1, ?_⟩
        rw [h2.1, List.append_assoc]
        exact (cut_law hc).1
      · cases h
    · cases h
theorem line0_words {s : Int × Int} {x : LE} (hs : SumOk s) (hx : lbad x = 0) : (10 : UInt8) ∉ line0 s x ∧ (words (line0 s x)).map bl = [bl x.1, bl x.2.1, itoa x.2.2, itoa (sumK s x)] := by
  obtain ⟨n1, n2, _, c0, c1⟩ := lbad_ok.1 hx
  obtain ⟨k1, k2, k3, k4⟩ := chk_ok hs (lineT x)
  have w1 := name_word n1
  have w2 := name_word n2
  have w3 := itoa_word (n := x.2.2) (by omega)
  have w4 := itoa_word (n := sumK s x) (by unfold sumK chkN; omega)
  have e : line0 s x = bl x.1 ++ 32 :: (bl x.2.1 ++ 32 :: (itoa x.2.2 ++ 32 :: itoa (sumK s x))) := by
    unfold line0 lineT
    simp
  refine ⟨?_, ?_⟩
  · rw [e]
    intro h
    simp only [List.mem_append, List.mem_cons] at h
    rcases h with h | h | h | h | h | h | h
    · exact (w1 _ h).2 rfl
    · exact absurd h (by decide)
    · exact (w2 _ h).2 rfl
    · exact absurd h (by decide)
    · exact (w3 _ h).2 rfl
    · exact absurd h (by decide)
    · exact (w4 _ h).2 rfl
  · rw [words_bytes, e]
    exact split_four (fun h => (w1 _ h).1 rfl) (fun h => (w2 _ h).1 rfl) (fun h => (w3 _ h).1 rfl) (fun h => (w4 _ h).1 rfl)
theorem one_line {out : List LE} {s : Int × Int} {x : LE} (hs : SumOk s) (h : lcheck (out ++ [x]) = 0) (tail : List UInt8) : one out (lineS s x ++ tail) s = some x := by
  have hx : lbad x = 0 := (lcheck_ok.1 h).2.1 x (by simp)
  obtain ⟨h10, hw⟩ := line0_words hs hx
  obtain ⟨_, _, _, c0, c1⟩ := lbad_ok.1 hx
  have hc : cut (lineS s x ++ tail) [10] = (line0 s x, tail, true) := by
    unfold lineS
    rw [List.append_assoc]
    exact cut_one _ _ _ h10
  unfold one
  rw [hc]
  simp only
  generalize hwd : words (line0 s x) = wd at *
  have hlen : wd.length = 4 := by have := congrArg List.length hw; simpa using this
  match wd, hlen, hw with
  | [a, b, c, d], _, hw =>
    simp only [List.map_cons, List.map_nil, List.cons.injEq, and_true] at hw
    obtain ⟨ea, eb, ec, _⟩ := hw
    have ea := bl_inj ea
    have eb := bl_inj eb
    subst ea eb
    rw [if_neg (by simp)]
    have e2 : ([x.1, x.2.1, c, d] : List ByteArray).getD 2 ByteArray.empty = c := rfl
    rw [e2, ec, atoi_itoa (by omega) (by omega)]
    simp only
    have e3 : entryOf [x.1, x.2.1, c, d] x.2.2 = x := rfl
    rw [e3, if_pos ⟨rfl, h⟩]
theorem one_part {out : List LE} {r : List UInt8} {s : Int × Int} (h : (10 : UInt8) ∉ r) : one out r s = none := by
  unfold one
  rw [cut_miss r 10 h, if_pos (Or.inl rfl)]
/-- what ledger.Recover finds -/
def s0 : Int × Int := (1, 0)
theorem s0_ok : SumOk s0 := by unfold SumOk s0; simp
def RecP (S : List UInt8) (out : List LE) (k : Int) : Prop := lcheck out = 0 ∧ ∃ r, S = textS s0 out ++ r ∧ k = (textS s0 out).length ∧ one out r (chkL s0 out) = none
theorem rec_pre {S : List UInt8} {out l : List LE} {k : Int} {tail : List UInt8} (h : RecP S out k) (hl : lcheck l = 0) (hS : S = textS s0 l ++ tail) : ∃ q, out = l ++ q := by
  obtain ⟨ho, r, hr, _, hn⟩ := h
  have key : ∀ p m : List LE, l = p ++ m → ∃ q, out = p ++ q := by
    intro p
    induction p using snocInd with
    | h0 => intro m _; exact ⟨out, rfl⟩
    | h1 p x ih =>
      intro m hm
      obtain ⟨q, hq⟩ := ih (x :: m) (by rw [hm]; simp)
      have hck : lcheck (p ++ [x]) = 0 := lcheck_pre (m := m) (by rw [← hm]; exact hl)
      have hs := chkL_ok s0_ok p
      have e1 : textS (chkL s0 p) q ++ r = lineS (chkL s0 p) x ++ (textS (chkN (chkL s0 p) x) m ++ tail) := by
        rw [hr, hq, textS_append, hm, textS_append, textS_snoc] at hS
        simp only [List.append_assoc] at hS
        have := List.append_cancel_left hS
        rw [this, chkL_snoc]
      cases q with
      | nil =>
        rw [List.append_nil] at hq
        subst hq
        have e2 : r = lineS (chkL s0 out) x ++ (textS (chkN (chkL s0 out) x) m ++ tail) := by simpa [textS] using e1
        rw [e2, one_line hs hck] at hn
        cases hn
      | cons y q =>
        have hck2 : lcheck (p ++ [y]) = 0 := lcheck_pre (m := q) (by rw [hq] at ho; simpa using ho)
        have e2 : one p (lineS (chkL s0 p) y ++ (textS (chkN (chkL s0 p) y) q ++ r)) (chkL s0 p) = some y := one_line hs hck2 _
        have e3 := one_line hs hck (textS (chkN (chkL s0 p) x) m ++ tail)
        rw [← e1] at e3
        have e4 : textS (chkL s0 p) (y :: q) ++ r = lineS (chkL s0 p) y ++ (textS (chkN (chkL s0 p) y) q ++ r) := by simp [textS]
        rw [e4, e2] at e3
        injection e3 with e3
        subst e3
        exact ⟨q, by rw [hq]; simp⟩
  exact key l [] (by simp)
theorem lineS_end (s : Int × Int) (x : LE) : (10 : UInt8) ∈ lineS s x := by unfold lineS; simp
theorem rec_done {S : List UInt8} {out l : List LE} {k : Int} {tail : List UInt8} (h : RecP S out k) (hl : lcheck l = 0) (hS : S = textS s0 l ++ tail) (ht : (10 : UInt8) ∉ tail) : out = l ∧ k = (textS s0 l).length := by
  obtain ⟨q, hq⟩ := rec_pre h hl hS
  obtain ⟨_, r, hr, hk, _⟩ := h
  cases q with
  | nil =>
    rw [List.append_nil] at hq
    subst hq
    exact ⟨rfl, hk⟩
  | cons y q =>
    exfalso
    rw [hr, hq, textS_append, List.append_assoc] at hS
    have := List.append_cancel_left hS
    apply ht
    rw [← this, textS]
    simp [lineS_end]
end Go.Proofs.YtnnfkfimicmboaaDoor.Pl
