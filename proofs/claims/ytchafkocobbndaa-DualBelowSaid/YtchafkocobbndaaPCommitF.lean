/- commit.Best, plain: its loops. No program. -/
import Derived.Test.YtchafkocobbndaaPCommitE
namespace Go.Proofs.Ytchafkocobbndaa.Pl
/-- the place at the start, as far as it is laid -/
def smix (l : List CU) (i : Nat) : List (Bool × Int) := (List.range 3).map fun j => if j < i then ((cu l j).s.on, (cu l j).s.since) else (false, 0)
theorem smix_len (l : List CU) (i : Nat) : (smix l i).length = 3 := by unfold smix; simp
theorem smix_zero (l : List CU) : smix l 0 = [(false, 0), (false, 0), (false, 0)] := rfl
theorem smix_set (l : List CU) (i : Nat) : (smix l i).set i ((cu l i).s.on, (cu l i).s.since) = smix l (i + 1) := by
  refine List.ext_getElem (by simp [smix]) fun j h1 h2 => ?_
  rw [List.getElem_set]
  simp only [smix, List.getElem_map, List.getElem_range]
  by_cases e : i = j
  · subst e; rw [if_pos rfl, if_pos (Nat.lt_succ_self i)]
  · rw [if_neg e]
    by_cases h : j < i
    · rw [if_pos h, if_pos (by omega)]
    · rw [if_neg h, if_neg (by omega)]
theorem smix_all (l : List CU) : smix l l.length = pathAt l [] := by
  unfold smix pathAt
  exact List.map_congr_left fun j _ => rfl
theorem smix_three (l : List CU) (i : Nat) : ∃ x0 x1 x2, smix l i = [x0, x1, x2] := ⟨_, _, _, rfl⟩
/-- N covers what follows the ways Wt -/
def Cov (l : List CU) (ds : List Int) (k : Nat) (Wt N : List Way) : Prop := (∀ y ∈ N, IsWay l ds (k + 1) y) ∧ ∀ w ∈ Wt, ∀ q, q < 2 ^ l.length → nextOk l w.at_ q → ∀ P : List Int, P.length = l.length → Fits l q.testBit P → psum l P = ds.getD k 0 → ∃ y ∈ N, y.at_ = nextAt l w.at_ q ∧ y.cost ≤ w.cost + nextCost l w.at_ q + pcost l P
theorem cov_nil (l : List CU) (ds : List Int) (k : Nat) : Cov l ds k [] [] := ⟨fun y hy => absurd hy (by simp), fun w hw => absurd hw (by simp)⟩
theorem cov_step {l : List CU} {ds : List Int} {k : Nat} {Wt N N' X : List Way} {w : Way} (h : Cov l ds k Wt N) (hf : FOk l ds k w X) (hk : Kept N' (N ++ X)) : Cov l ds k (Wt ++ [w]) N' := by
  obtain ⟨k1, k2⟩ := hk
  have go : ∀ (a : List (Bool × Int)) (c : Int), (∃ y ∈ N ++ X, y.at_ = a ∧ y.cost ≤ c) → ∃ y ∈ N', y.at_ = a ∧ y.cost ≤ c := fun a c ⟨y, hy, ya, yc⟩ => by
    obtain ⟨z, hz, za, zc⟩ := k2 y hy
    exact ⟨z, hz, za.trans ya, by omega⟩
  refine ⟨fun y hy => ?_, fun v hv q hq h1 P h2 h3 h4 => ?_⟩
  · rcases List.mem_append.1 (k1 y hy) with hy | hy
    · exact h.1 y hy
    · exact hf.1 y hy
  · rcases List.mem_append.1 hv with hv | hv
    · obtain ⟨y, hy, r⟩ := h.2 v hv q hq h1 P h2 h3 h4
      exact go _ _ ⟨y, List.mem_append_left _ hy, r⟩
    · have e := List.mem_singleton.1 hv
      subst e
      obtain ⟨y, hy, r⟩ := hf.2 q hq h1 P h2 h3 h4
      exact go _ _ ⟨y, List.mem_append_right _ hy, r⟩
theorem kept_refl (N : List Way) : Kept N (N ++ []) := by
  rw [List.append_nil]
  exact ⟨fun y hy => hy, fun x hx => ⟨x, hx, rfl, Int.le_refl _⟩⟩
theorem winv_cov {l : List CU} {ds : List Int} {k : Nat} {W N : List Way} (hl3 : l.length ≤ 3) (hl : ∀ u ∈ l, duCheck u = 0) (hW : WInv l ds k W) (hN : Cov l ds k W N) : WInv l ds (k + 1) N := by
  obtain ⟨w1, w2⟩ := hW
  refine ⟨hN.1, fun V hV hlen => ?_⟩
  rcases List.eq_nil_or_concat V with e | ⟨V', P, e⟩
  · subst e; simp at hlen
  · rw [List.concat_eq_append] at e
    subst e
    obtain ⟨hV', hk, hPl, hPs, q, hq, hf, hn⟩ := path_last hl3 hl hV
    have hk' : V'.length = k := by rw [List.length_append] at hlen; simpa using hlen
    obtain ⟨w, hw, wa, wc⟩ := w2 V' hV' hk'
    rw [← wa] at hn
    rw [hk'] at hPs
    obtain ⟨y, hy, ya, yc⟩ := hN.2 w hw q hq hn P hPl hf hPs
    rw [wa] at hn
    obtain ⟨_, e1, e2⟩ := path_ext hl3 hl hV' hk hPl hf (by rw [hk']; exact hPs) hn
    refine ⟨y, hy, by rw [ya, wa, e1], ?_⟩
    rw [e2, ← wa]
    omega
theorem keepW_none {N : List Way} {x : Way} (h : N.findIdx? (fun y => y.at_ == x.at_) = none) : keepW N x = N ++ [x] := by unfold keepW; rw [h]
theorem keepW_some {N : List Way} {x : Way} {i : Nat} (h : N.findIdx? (fun y => y.at_ == x.at_) = some i) : keepW N x = if x.cost < (N.getD i ⟨[], 0, []⟩).cost then N.set i x else N := by unfold keepW; rw [h]
/-- the first with this place -/
def idxAt (N : List Way) (p : List (Bool × Int)) : Option Nat := N.findIdx? fun y => y.at_ == p
theorem idxAt_lt {N : List Way} {p : List (Bool × Int)} {i : Nat} (h : idxAt N p = some i) : i < N.length ∧ (N.getD i ⟨[], 0, []⟩).at_ = p := by
  obtain ⟨hi, hp, _⟩ := List.findIdx?_eq_some_iff_getElem.1 h
  refine ⟨hi, ?_⟩
  rw [List.getD_eq_getElem?_getD, List.getElem?_eq_getElem hi]
  simpa using hp
theorem idxAt_snoc {N : List Way} {x : Way} (h : idxAt N x.at_ = none) (p : List (Bool × Int)) : idxAt (N ++ [x]) p = if p = x.at_ then some N.length else idxAt N p := by
  unfold idxAt at *
  rw [List.findIdx?_append]
  by_cases e : p = x.at_
  · subst e
    rw [if_pos rfl, h]
    simp
  · rw [if_neg e]
    have : (x.at_ == p) = false := by simpa using fun e2 : x.at_ = p => e e2.symm
    simp [this]
theorem idxAt_set {N : List Way} {x : Way} {i : Nat} (h : idxAt N x.at_ = some i) (p : List (Bool × Int)) : idxAt (N.set i x) p = idxAt N p := by
  obtain ⟨hi, hat⟩ := idxAt_lt h
  rw [List.getD_eq_getElem?_getD, List.getElem?_eq_getElem hi] at hat
  have hat' : N[i].at_ = x.at_ := hat
  unfold idxAt
  clear h hat
  induction N generalizing i with
  | nil => simp at hi
  | cons y N ih =>
    cases i with
    | zero =>
      rw [List.set_cons_zero, List.findIdx?_cons, List.findIdx?_cons]
      have e : y.at_ = x.at_ := hat'
      rw [e]
    | succ i =>
      rw [List.set_cons_succ, List.findIdx?_cons, List.findIdx?_cons, ih (i := i) (by simpa using hi) hat']
/-- the schedules of a path, as far as they are laid -/
theorem getD_take {V : List (List Int)} {t : Nat} (h : t < V.length) : V.take (t + 1) = V.take t ++ [V.getD t []] := by
  rw [List.take_succ_eq_append_getElem h, List.getD_eq_getElem?_getD, List.getElem?_eq_getElem h]
  rfl
end Go.Proofs.Ytchafkocobbndaa.Pl
