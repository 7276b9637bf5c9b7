/- What Isolated and the reference's Linked say is one thing, plain. No program. -/
import Derived.Test.YtpamgeemmbbkkaaPNear
namespace Go.Proofs.Ytpamgeemmbbkkaa.Pl
theorem setS_get (zs : List ByteArray) : ∀ (l : List ByteArray) (src : List Bool) (i : Nat), (setS zs l src)[i]? = some true ↔ src[i]? = some true ∨ (i < src.length ∧ ∃ x ∈ l, (idxT zs x).toNat = i)
  | [], src, i => by simp [setS]
  | x :: l, src, i => by
    have e : setS zs (x :: l) src = setS zs l (src.set (idxT zs x).toNat true) := rfl
    rw [e, setS_get zs l, List.getElem?_set, List.length_set]
    constructor
    · rintro (h | ⟨h1, y, hy, h2⟩)
      · split at h
        · rename_i h3
          split at h
          · rename_i h4; exact .inr ⟨by omega, x, by simp, h3⟩
          · cases h
        · exact .inl h
      · exact .inr ⟨h1, y, by simp [hy], h2⟩
    · rintro (h | ⟨h1, y, hy, h2⟩)
      · left
        have hi : i < src.length := (List.getElem?_eq_some_iff.1 h).1
        split
        · rename_i h3; rw [if_pos (by omega)]
        · exact h
      · rcases List.mem_cons.1 hy with rfl | hy
        · left
          rw [if_pos h2, if_pos (by omega)]
        · exact .inr ⟨h1, y, hy, h2⟩
theorem fSrc_iff {N : Net} (hok : NetOk N) {v : Int} (h0 : 0 ≤ v) : (fSrc N)[v.toNat]? = some true ↔ (∃ g ∈ N.gens, idxT N.nodes g.node = v) ∨ (∃ s ∈ N.stores, idxT N.nodes s.node = v) := by
  unfold fSrc
  rw [setS_get, setS_get, setS_length]
  have hrep : ∀ i, (List.replicate (N.nodes.length + 1) false)[i]? ≠ some true := fun i h => by
    rw [List.getElem?_replicate] at h
    split at h <;> simp at h
  simp only [List.length_replicate, List.mem_map]
  constructor
  · rintro ((h | ⟨_, x, ⟨g, hg, rfl⟩, h⟩) | ⟨_, x, ⟨s, hs, rfl⟩, h⟩)
    · exact absurd h (hrep _)
    · have := (idxT_mem (hok.gen g hg).1).1
      exact .inl ⟨g, hg, by omega⟩
    · have := (idxT_mem (hok.sto s hs).1).1
      exact .inr ⟨s, hs, by omega⟩
  · rintro (⟨g, hg, h⟩ | ⟨s, hs, h⟩)
    · have := (idxT_mem (hok.gen g hg).1).2.1
      exact .inl (.inr ⟨by omega, _, ⟨g, hg, rfl⟩, by omega⟩)
    · have := (idxT_mem (hok.sto s hs).1).2.1
      exact .inr ⟨by omega, _, ⟨s, hs, rfl⟩, by omega⟩
/-- no source can be reached exactly if no source's node is near -/
theorem reach_near {N : Net} {open_ : List ByteArray} {br : ByteArray} {part : Int} {b : Bra} (hok : NetOk N) (hp : PlaceOk N br part b) {l : List Int} (hl : ∀ v, v ∈ l ↔ NearR (PairN N open_ br part) (starts N part b) v) :
    (∀ v, Rch (fEdges N open_ br part) (fPlace N open_ br part) v → (fSrc N)[v.toNat]? ≠ some true) ↔ (N.gens.any (fun g => decide (idxT N.nodes g.node ∈ l)) || N.stores.any (fun s => decide (idxT N.nodes s.node ∈ l))) = false := by
  constructor
  · intro h
    rw [Bool.or_eq_false_iff, List.any_eq_false, List.any_eq_false]
    refine ⟨fun g hg hm => ?_, fun s hs hm => ?_⟩
    · have hm : idxT N.nodes g.node ∈ l := by simpa using hm
      have h0 := (idxT_mem (hok.gen g hg).1).1
      exact h _ ((rch_near hok hp _).2 (.inl ((hl _).1 hm))) ((fSrc_iff hok h0).2 (.inl ⟨g, hg, rfl⟩))
    · have hm : idxT N.nodes s.node ∈ l := by simpa using hm
      have h0 := (idxT_mem (hok.sto s hs).1).1
      exact h _ ((rch_near hok hp _).2 (.inl ((hl _).1 hm))) ((fSrc_iff hok h0).2 (.inr ⟨s, hs, rfl⟩))
  · intro h v hv hs
    rw [Bool.or_eq_false_iff, List.any_eq_false, List.any_eq_false] at h
    have hf := field_ok (open_ := open_) hok hp
    have hv0 : 0 ≤ v := by
      rcases (rch_near hok hp v).1 hv with h1 | ⟨rfl, _⟩
      · have hlv := (hl v).2 h1
        induction hv with
        | start => exact hf.place.1
        | step _ he hle =>
          have := hf.ends _ he
          rcases hle.1 with ⟨_, rfl⟩ | ⟨_, rfl⟩ <;> omega
      · omega
    rcases (fSrc_iff hok hv0).1 hs with ⟨g, hg, rfl⟩ | ⟨s, hs', rfl⟩
    · rcases (rch_near hok hp _).1 hv with h1 | ⟨h1, _⟩
      · exact h.1 g hg (by simpa using (hl _).2 h1)
      · have := (idxT_mem (hok.gen g hg).1).2.1
        omega
    · rcases (rch_near hok hp _).1 hv with h1 | ⟨h1, _⟩
      · exact h.2 s hs' (by simpa using (hl _).2 h1)
      · have := (idxT_mem (hok.sto s hs').1).2.1
        omega
end Go.Proofs.Ytpamgeemmbbkkaa.Pl
