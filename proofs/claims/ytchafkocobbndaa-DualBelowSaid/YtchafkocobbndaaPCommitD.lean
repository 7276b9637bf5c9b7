/- commit.serve, plain: its loops. No program. -/
import Derived.Test.YtchafkocobbndaaPCommit
import Derived.Test.YtchafkocobbndaaPDualB
namespace Go.Proofs.Ytchafkocobbndaa.Pl
/-- what is left of a power behind some steps -/
def remU (u : Int) (st : List (Int × Int)) : Int := st.foldl (fun u s => u - min u s.1) u
theorem remU_snoc (u : Int) (st : List (Int × Int)) (s : Int × Int) : remU u (st ++ [s]) = remU u st - min (remU u st) s.1 := by unfold remU; rw [List.foldl_append]; rfl
theorem cutU_snoc (u : Int) (st : List (Int × Int)) (s : Int × Int) : cutU u (st ++ [s]) = cutU u st ++ (if min (remU u st) s.1 < s.1 then [(s.1 - min (remU u st) s.1, s.2)] else []) := by
  induction st generalizing u with
  | nil => simp only [List.nil_append]; rw [cutU]; rfl
  | cons p st ih =>
    have e : remU u (p :: st) = remU (u - min u p.1) st := rfl
    rw [List.cons_append, cutU, cutU, ih, e]
    split <;> simp
theorem remU_bd {st : List (Int × Int)} (h : ∀ p ∈ st, 1 ≤ p.1) (u : Int) (u0 : 0 ≤ u) : 0 ≤ remU u st ∧ remU u st ≤ u := by
  induction st generalizing u with
  | nil => exact ⟨u0, Int.le_refl _⟩
  | cons p st ih =>
    have e : remU u (p :: st) = remU (u - min u p.1) st := rfl
    have hp := h p (by simp)
    have := ih (fun q hq => h q (by simp [hq])) (u - min u p.1) (by omega)
    rw [e]; omega
def sremK (l : List CU) (on : Nat → Bool) (d : Int) (k : Nat) : Int := d - sumN (fun i => if on i then (cu l i).r.least else 0) k
def sbaseK (l : List CU) (on : Nat → Bool) (k : Nat) : Int := sumN (fun i => if on i then ocost (cu l i).o.2 (cu l i).r.least else 0) k
theorem sremK_succ (l : List CU) (on : Nat → Bool) (d : Int) (k : Nat) : sremK l on d (k + 1) = sremK l on d k - (if on k then (cu l k).r.least else 0) := by unfold sremK; rw [sumN]; omega
theorem sbaseK_succ (l : List CU) (on : Nat → Bool) (k : Nat) : sbaseK l on (k + 1) = sbaseK l on k + (if on k then ocost (cu l k).o.2 (cu l k).r.least else 0) := rfl
theorem least_cost {u : CU} (h : duCheck u = 0) : -100000000000 ≤ ocost u.o.2 u.r.least ∧ ocost u.o.2 u.r.least ≤ 100000000000 := by
  obtain ⟨g, c1, c2, c3, c4⟩ := unit_facts h
  have hc := cacc_bd g u.r.least c1 (by omega) u.o.2.length
  rw [List.take_length] at hc
  have e : (cacc u.o.2 u.r.least).1 = ocost u.o.2 u.r.least := rfl
  rw [e] at hc
  omega
theorem sK_bd {l : List CU} (hl : ∀ u ∈ l, duCheck u = 0) (on : Nat → Bool) (d : Int) (k : Nat) (hk : k ≤ l.length) : d - 100000 * (k : Int) ≤ sremK l on d k ∧ sremK l on d k ≤ d ∧ -100000000000 * (k : Int) ≤ sbaseK l on k ∧ sbaseK l on k ≤ 100000000000 * (k : Int) := by
  induction k with
  | zero => simp [sremK, sbaseK, sumN]
  | succ k ih =>
    obtain ⟨i1, i2, i3, i4⟩ := ih (by omega)
    obtain ⟨g, c1, c2, c3, c4⟩ := unit_facts (hl _ (cu_mem (by omega : k < l.length)))
    have := least_cost (hl _ (cu_mem (by omega : k < l.length)))
    rw [sremK_succ, sbaseK_succ]
    push_cast
    split <;> omega
theorem cut_blocks (l : List CU) (on : Nat → Bool) (k : Nat) (hk : k < l.length) : blocksK (cutO l on) (k + 1) = blocksK (cutO l on) k ++ (if on k then cutU (cu l k).r.least (cu l k).o.2 else []).map fun s => ((k : Int), s.1, s.2) := by
  rw [blocksK, cutO_steps hk]
theorem cutU_len (u : Int) (st : List (Int × Int)) : (cutU u st).length ≤ st.length := by
  induction st generalizing u with
  | nil => exact Nat.le_refl _
  | cons s st ih =>
    rw [cutU]
    split
    · simp only [List.length_cons]; have := ih (u - min u s.1); omega
    · simp only [List.length_cons]; have := ih (u - min u s.1); omega
theorem cut_len {l : List CU} (hl : ∀ u ∈ l, duCheck u = 0) (on : Nat → Bool) (k : Nat) (hk : k ≤ l.length) : (blocksK (cutO l on) k).length ≤ 12 * k := by
  induction k with
  | zero => simp [blocksK]
  | succ k ih =>
    rw [cut_blocks l on k (by omega), List.length_append, List.length_map]
    have := ih (by omega)
    obtain ⟨_, h2, _⟩ := duCheck_ok (hl _ (cu_mem (by omega : k < l.length)))
    obtain ⟨_, h12, _⟩ := ocheck_ok h2
    have := cutU_len (cu l k).r.least (cu l k).o.2
    split
    · omega
    · simp; omega
theorem sfill_bd {n : Nat} {out : List Int} {c d : Int} (h0 : 0 ≤ d) (hn : out.length = n) (bs : List B3) (hb : ∀ b ∈ bs, GoodB n b) :
    0 ≤ (bs.foldl dstep (out, c, d)).2.2 ∧ (bs.foldl dstep (out, c, d)).2.2 ≤ d ∧ c - 100000000000 * (bs.length : Int) ≤ (bs.foldl dstep (out, c, d)).2.1 ∧ (bs.foldl dstep (out, c, d)).2.1 ≤ c + 100000000000 * (bs.length : Int) ∧ (bs.foldl dstep (out, c, d)).1.length = n ∧ ∀ g, out.getD g 0 ≤ (bs.foldl dstep (out, c, d)).1.getD g 0 ∧ (bs.foldl dstep (out, c, d)).1.getD g 0 ≤ out.getD g 0 + 100000 * (bs.length : Int) := by
  induction bs generalizing out c d with
  | nil => exact ⟨h0, Int.le_refl _, by simp, by simp, hn, fun g => ⟨Int.le_refl _, by simp⟩⟩
  | cons b bs ih =>
    obtain ⟨b0, b1, b2, b3, b4, b5⟩ := hb b (by simp)
    have mb := mul_bd (m := min d b.2.1) (p := b.2.2) (by omega) (by omega) b4 b5
    have e : dstep (out, c, d) b = (out.set b.1.toNat (out.getD b.1.toNat 0 + min d b.2.1), c + min d b.2.1 * b.2.2, d - min d b.2.1) := rfl
    rw [List.foldl_cons, e]
    obtain ⟨i1, i2, i3, i4, i5, i6⟩ := ih (out := out.set b.1.toNat (out.getD b.1.toNat 0 + min d b.2.1)) (c := c + min d b.2.1 * b.2.2) (d := d - min d b.2.1) (by omega) (by rw [List.length_set]; exact hn) (fun x hx => hb x (by simp [hx]))
    simp only [List.length_cons]
    push_cast
    refine ⟨i1, by omega, by omega, by omega, i5, fun g => ?_⟩
    obtain ⟨j1, j2⟩ := i6 g
    rw [getD_set] at j1 j2
    split at j1
    · rename_i hg
      rw [if_pos hg] at j2
      have e3 : out.getD b.1.toNat 0 = out.getD g 0 := by rw [hg.1]
      omega
    · rename_i hg
      rw [if_neg hg] at j2
      omega
theorem foldl_snocD (bs : List B3) (s : List Int × Int × Int) (b : B3) : (bs ++ [b]).foldl dstep s = dstep (bs.foldl dstep s) b := by rw [List.foldl_append]; rfl
theorem slows_mix (l : List CU) (on : Nat → Bool) : mixN (slow l on) (fun _ => 0) l.length l.length = slows l on := by
  refine List.ext_getElem (by simp [mixN, slows]) fun i h1 h2 => ?_
  rw [mixN_len] at h1
  simp [mixN, slows, h1]
end Go.Proofs.Ytchafkocobbndaa.Pl
