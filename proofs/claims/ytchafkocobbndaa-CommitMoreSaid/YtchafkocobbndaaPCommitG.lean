/- CommitMore and CommitKept, plain: the first checks, and a period less. No program. -/
import Derived.Test.YtchafkocobbndaaPCommitC
import Derived.Test.YtchafkocobbndaaPCommitE
namespace Go.Proofs.Ytchafkocobbndaa.Pl
theorem alone_one {P : List Int} (h : P.length = 1) : ∃ p, P = [p] := by
  match P, h with
  | [p], _ => exact ⟨p, rfl⟩
theorem path_ex : PathOk [aloneCU] [12, 0] [[12], [-1]] := by
  refine ⟨by decide, fun i hi => ?_, fun t ht => ?_⟩
  · have : i = 0 := by simp at hi; omega
    subst this
    decide +kernel
  · have : t = 0 ∨ t = 1 := by simp at ht; omega
    rcases this with rfl | rfl
    · exact ⟨rfl, by decide +kernel⟩
    · exact ⟨rfl, by decide +kernel⟩
theorem best_ex {s : List (List Int)} {c e : Int} (h : BestP [aloneCU] [12, 0] s c e) : c = 75 ∧ e = 0 := by
  have hok : duAll [aloneCU] [12, 0] = 0 := by decide +kernel
  rcases h with ⟨h1, _⟩ | ⟨_, _, _, _, h5⟩ | ⟨h1, h4, V, v1, v2, v3, v4, v5⟩
  · exact absurd hok h1
  · exact absurd rfl (h5 _ path_ex)
  · refine ⟨?_, h4⟩
    have hc : pathCost [aloneCU] [[12], [-1]] = 75 := by decide +kernel
    have hle := v5 _ path_ex rfl
    obtain ⟨k1, k2, k3, k4⟩ := duAll_ok h1
    match V, v2 with
    | [P, Q], _ =>
      obtain ⟨hp, hs⟩ := v1.row 0 (by simp)
      obtain ⟨hq, hs2⟩ := v1.row 1 (by simp)
      obtain ⟨p, rfl⟩ := alone_one (P := P) hp
      obtain ⟨q, rfl⟩ := alone_one (P := Q) hq
      have e1 : max 0 p = 12 := by
        have e : psum [aloneCU] [p] = 0 + max 0 p := rfl
        have : psum [aloneCU] [p] = 12 := hs
        omega
      have e2 : max 0 q = 0 := by
        have e : psum [aloneCU] [q] = 0 + max 0 q := rfl
        have : psum [aloneCU] [q] = 0 := hs2
        omega
      obtain rfl : p = 12 := by omega
      obtain ⟨_, _, _, _, qq, _, hf, _⟩ := path_last (V := [[12]]) (P := [q]) k1 k3 v1
      have hf0 := hf 0 (by simp)
      have hq2 : q = -1 ∨ q = 0 := by
        cases hb : qq.testBit 0
        · exact .inl (hf0.1 hb)
        · have : (0 : Int) ≤ q := (hf0.2 hb).1
          right; omega
      rcases hq2 with rfl | rfl
      · omega
      · have : pathCost [aloneCU] [[12], [0]] = 75 := by decide +kernel
        omega
/-- no first price is negative -/
def Plus0 (l : List CU) : Prop := ∀ u ∈ l, 0 < u.o.2.length → 0 ≤ (u.o.2.getD 0 (0, 0)).2
theorem plus0_all {l : List CU} (hl : ∀ u ∈ l, duCheck u = 0) (h : Plus0 l) : ∀ u ∈ l, ∀ p ∈ u.o.2, 0 ≤ p.2 := by
  intro u hu p hp
  obtain ⟨g, _⟩ := unit_facts (hl u hu)
  have h0 := h u hu
  have hr := g.rise
  generalize u.o.2 = st at *
  cases st with
  | nil => simp at hp
  | cons a st =>
    have ha : 0 ≤ a.2 := h0 (by simp)
    rw [List.pairwise_cons] at hr
    rcases List.mem_cons.1 hp with rfl | hp
    · exact ha
    · have := hr.1 p hp; omega
theorem duAll_less {l : List CU} {ds : List Int} (h : duAll l ds = 0) : duAll l ds.dropLast = 0 := by
  unfold duAll at h ⊢
  split at h
  · cases h
  · rename_i h1
    rw [if_neg (by simp; omega)]
    split at h
    · rename_i h2; exact absurd h h2
    · rename_i h2
      rw [if_neg h2]
      split at h
      · cases h
      · rename_i h3
        rw [if_neg]
        intro h4
        apply h3
        unfold has at h4 ⊢
        rw [List.any_eq_true] at h4 ⊢
        obtain ⟨x, hx, hb⟩ := h4
        exact ⟨x, List.dropLast_subset ds hx, hb⟩
theorem less_law {l : List CU} {ds : List Int} {s s' : List (List Int)} {n m e f : Int} (h : BestP l ds s n e) (h' : BestP l ds.dropLast s' m f) (hd : 0 < ds.length) (hp : Plus0 l) (he : e = 0) : f = 0 ∧ m ≤ n := by
  rcases h with ⟨h1, h2, h3, h4⟩ | ⟨h1, h2, h3, h4, h5⟩ | ⟨h1, h4, V, v1, v2, v3, v4, v5⟩
  · exact absurd (h4.symm.trans he) h1
  · omega
  · have hok := duAll_ok h1
    obtain ⟨V', w1, w2, w3⟩ := more_law hok (plus0_all hok.hu hp) v1 v2 hd
    rcases h' with ⟨g1, _⟩ | ⟨_, _, _, _, g5⟩ | ⟨_, g4, U, u1, u2, u3, u4, u5⟩
    · exact absurd (duAll_less h1) g1
    · exact absurd w2 (g5 V' w1)
    · refine ⟨g4, ?_⟩
      have := u5 V' w1 w2
      omega
end Go.Proofs.Ytchafkocobbndaa.Pl
