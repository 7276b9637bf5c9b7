/- The field of package choose, plain: its edges join different nodes; which edges it has; how many names. No program. -/
import Derived.Test.YtpamgeemmbbkkaaPField
namespace Go.Proofs.Ytpamgeemmbbkkaa.Pl
/-- the edges that branches and switches give, and no others -/
def EdgIn (N : Net) (open_ : List ByteArray) (br : ByteArray) (part : Int) (k : Nat) (e : Edg) : Prop :=
  (∃ s ∈ N.switches, shutS open_ s = true ∧ e = edgS N.nodes s) ∨
  (∃ b ∈ N.branches.take k, wholeB br part b = true ∧ e = ⟨idxT N.nodes b.from_, idxT N.nodes b.to_, b.name, false, 0⟩) ∨
  (∃ b ∈ N.branches.take k, wholeB br part b = false ∧ (e = ⟨N.nodes.length, idxT N.nodes b.from_, b.name, false, 0⟩ ∨ e = ⟨N.nodes.length, idxT N.nodes b.to_, b.name, false, 0⟩))
theorem notWhole {br : ByteArray} {part : Int} {b : Bra} (h : wholeB br part b = false) : b.name = br ∧ part ≠ 0 ∧ part ≠ 1000 := by
  unfold wholeB at h
  simp only [Bool.or_eq_false_iff, decide_eq_false_iff_not, Classical.not_not] at h
  exact ⟨lst_inj h.1.1, h.1.2, h.2⟩
theorem fldB_edges (N : Net) (open_ : List ByteArray) (br : ByteArray) (part : Int) : ∀ k, k ≤ N.branches.length → ∀ e, e ∈ (fldB N open_ br part k).2 ↔ EdgIn N open_ br part k e
  | 0, _, e => by
    have : (fldB N open_ br part 0).2 = edgesS N.nodes open_ N.switches := rfl
    rw [this]
    unfold EdgIn edgesS
    simp only [List.mem_map, List.mem_filter, List.take_zero, List.not_mem_nil, false_and, exists_false, or_false]
    exact ⟨fun ⟨s, ⟨h1, h2⟩, h3⟩ => ⟨s, h1, h2, h3.symm⟩, fun ⟨s, h1, h2, h3⟩ => ⟨s, ⟨h1, h2⟩, h3.symm⟩⟩
  | k + 1, h, e => by
    have ih := fldB_edges N open_ br part k (by omega) e
    have hk : k < N.branches.length := by omega
    rw [fldB_succ N open_ br part k hk]
    have ht : ∀ b, b ∈ N.branches.take (k + 1) ↔ b ∈ N.branches.take k ∨ b = N.branches[k] := fun b => by
      rw [List.take_succ_eq_append_getElem hk, List.mem_append, List.mem_singleton]
    have hE : EdgIn N open_ br part (k + 1) e ↔ EdgIn N open_ br part k e ∨ (wholeB br part N.branches[k] = true ∧ e = ⟨idxT N.nodes N.branches[k].from_, idxT N.nodes N.branches[k].to_, N.branches[k].name, false, 0⟩) ∨ (wholeB br part N.branches[k] = false ∧ (e = ⟨N.nodes.length, idxT N.nodes N.branches[k].from_, N.branches[k].name, false, 0⟩ ∨ e = ⟨N.nodes.length, idxT N.nodes N.branches[k].to_, N.branches[k].name, false, 0⟩)) := by
      unfold EdgIn
      constructor
      · rintro (h | ⟨b, hb, h⟩ | ⟨b, hb, h⟩)
        · exact .inl (.inl h)
        · rcases (ht b).1 hb with hb | rfl
          · exact .inl (.inr (.inl ⟨b, hb, h⟩))
          · exact .inr (.inl h)
        · rcases (ht b).1 hb with hb | rfl
          · exact .inl (.inr (.inr ⟨b, hb, h⟩))
          · exact .inr (.inr h)
      · rintro ((h | ⟨b, hb, h⟩ | ⟨b, hb, h⟩) | h | h)
        · exact .inl h
        · exact .inr (.inl ⟨b, (ht b).2 (.inl hb), h⟩)
        · exact .inr (.inr ⟨b, (ht b).2 (.inl hb), h⟩)
        · exact .inr (.inl ⟨_, (ht _).2 (.inr rfl), h⟩)
        · exact .inr (.inr ⟨_, (ht _).2 (.inr rfl), h⟩)
    rw [hE, ← ih]
    unfold stepB
    cases hw : wholeB br part N.branches[k] with
    | true => simp
    | false =>
      have hp := fldB_place N open_ br part k (by omega) (notWhole hw).2.1 (notWhole hw).2.2
      simp [hp]
theorem fEdges_iff (N : Net) (open_ : List ByteArray) (br : ByteArray) (part : Int) (e : Edg) : e ∈ fEdges N open_ br part ↔ EdgIn N open_ br part N.branches.length e := fldB_edges N open_ br part _ (Nat.le_refl _) e
/-- where the place lies when the fault is at an end of its branch -/
def endOf (N : Net) (part : Int) (b : Bra) : Int := if 0 < part then idxT N.nodes b.to_ else idxT N.nodes b.from_
theorem fPlace_end {N : Net} {open_ : List ByteArray} {br : ByteArray} {part : Int} {b : Bra} (hb : b ∈ N.branches) (hn : b.name = br) (hu : ∀ b' ∈ N.branches, b'.name = br → b' = b) (hp : part = 0 ∨ part = 1000) : fPlace N open_ br part = endOf N part b := by
  obtain ⟨q, hq, rfl⟩ := List.getElem_of_mem hb
  have step : ∀ k (hk : k < N.branches.length), N.branches[k].name = br → (fldB N open_ br part (k + 1)).1 = endOf N part N.branches[q] := by
    intro k hk hnm
    have e := hu _ (List.getElem_mem hk) hnm
    rw [fldB_succ N open_ br part k hk]
    unfold stepB
    have hw : wholeB br part N.branches[k] = true := by unfold wholeB; rcases hp with h | h <;> simp [h]
    rw [if_pos hw]
    simp only
    rw [if_pos (by rw [hnm]), e]; rfl
  have : ∀ d, q + 1 + d ≤ N.branches.length → (fldB N open_ br part (q + 1 + d)).1 = endOf N part N.branches[q] := by
    intro d
    induction d with
    | zero => intro h; exact step q hq hn
    | succ d ih =>
      intro h
      have ih := ih (by omega)
      by_cases hnm : (N.branches[q + 1 + d]'(by omega)).name = br
      · exact step (q + 1 + d) (by omega) hnm
      · rw [show q + 1 + (d + 1) = (q + 1 + d) + 1 by omega, fldB_succ N open_ br part (q + 1 + d) (by omega)]
        unfold stepB
        split
        · simp only
          rw [if_neg (fun e => hnm (lst_inj e))]; exact ih
        · exact ih
  have := this (N.branches.length - (q + 1)) (by omega)
  rwa [show q + 1 + (N.branches.length - (q + 1)) = N.branches.length by omega] at this
/-- a place that passes: its branch, by name the only one -/
theorem bra_unique {N : Net} (hok : NetOk N) {b b' : Bra} (hb : b ∈ N.branches) (hb' : b' ∈ N.branches) (h : b.name = b'.name) : b = b' := by
  have hn : ((N.branches.map dBra).map Dev.name).Nodup := by
    have := hok.nodup
    unfold allDevs at this
    rw [List.map_append, List.nodup_append] at this
    have h2 := this.2.1
    rw [List.map_append, List.nodup_append] at h2
    have h3 := h2.2.1
    rw [List.map_append, List.nodup_append] at h3
    exact h3.1
  rw [List.map_map] at hn
  obtain ⟨i, hi, rfl⟩ := List.getElem_of_mem hb
  obtain ⟨j, hj, rfl⟩ := List.getElem_of_mem hb'
  have e1 : (N.branches.map (Dev.name ∘ dBra))[i]? = some N.branches[i].name := by simp [hi]; rfl
  have e2 : (N.branches.map (Dev.name ∘ dBra))[j]? = some N.branches[j].name := by simp [hj]; rfl
  rw [h] at e1
  have := (List.getElem?_inj (by simpa using hi) hn).1 (e1.trans e2.symm)
  subst this
  rfl
theorem swi_nodup {N : Net} (hok : NetOk N) : (N.switches.map Swi.name).Nodup := by
  have := hok.nodup
  unfold allDevs at this
  rw [List.map_append, List.nodup_append] at this
  have h2 := this.2.1
  rw [List.map_append, List.nodup_append] at h2
  have h3 := h2.1
  rw [List.map_map] at h3
  exact h3
structure PlaceOk (N : Net) (br : ByteArray) (part : Int) (b : Bra) : Prop where
  mem : b ∈ N.branches
  name : b.name = br
  low : 0 ≤ part
  high : part ≤ 1000
theorem fPlace_mid {N : Net} {open_ : List ByteArray} {br : ByteArray} {part : Int} (h0 : part ≠ 0) (h1 : part ≠ 1000) : fPlace N open_ br part = N.nodes.length := fldB_place N open_ br part _ (Nat.le_refl _) h0 h1
theorem field_ok {N : Net} {open_ : List ByteArray} {br : ByteArray} {part : Int} {b : Bra} (hok : NetOk N) (hp : PlaceOk N br part b) : FieldOk (fEdges N open_ br part) (fPlace N open_ br part) ((N.nodes.length + 1 : Nat) : Int) := by
  have two : ∀ {x y : ByteArray}, x ∈ N.nodes → y ∈ N.nodes → x ≠ y → 0 ≤ idxT N.nodes x ∧ idxT N.nodes x < ((N.nodes.length + 1 : Nat) : Int) ∧ 0 ≤ idxT N.nodes y ∧ idxT N.nodes y < ((N.nodes.length + 1 : Nat) : Int) ∧ idxT N.nodes x ≠ idxT N.nodes y := by
    intro x y hx hy hne
    have a := idxT_mem hx
    have c := idxT_mem hy
    exact ⟨a.1, by omega, c.1, by omega, fun e => hne (idxT_inj hx hy e)⟩
  refine ⟨fun e he => ?_, ?_⟩
  · rcases (fEdges_iff N open_ br part e).1 he with ⟨s, hs, _, rfl⟩ | ⟨b', hb', _, rfl⟩ | ⟨b', hb', _, h | h⟩
    · obtain ⟨h1, h2, h3⟩ := hok.swi s hs
      exact two h1 h2 h3
    · obtain ⟨h1, h2, h3, _⟩ := hok.bra b' (List.mem_of_mem_take hb')
      exact two h1 h2 h3
    · obtain ⟨h1, h2, h3, _⟩ := hok.bra b' (List.mem_of_mem_take hb')
      have a := idxT_mem h1
      rw [h]; simp only; omega
    · obtain ⟨h1, h2, h3, _⟩ := hok.bra b' (List.mem_of_mem_take hb')
      have a := idxT_mem h2
      rw [h]; simp only; omega
  · by_cases hm : part = 0 ∨ part = 1000
    · rw [fPlace_end hp.mem hp.name (fun b' hb' hn => bra_unique hok hb' hp.mem (hn.trans hp.name.symm)) hm]
      obtain ⟨h1, h2, _, _⟩ := hok.bra b hp.mem
      have a := idxT_mem h1
      have c := idxT_mem h2
      unfold endOf
      split <;> omega
    · rw [fPlace_mid (fun e => hm (.inl e)) (fun e => hm (.inr e))]
      omega
theorem fEdges_len {N : Net} {open_ : List ByteArray} {br : ByteArray} {part : Int} (hok : NetOk N) : (fEdges N open_ br part).length ≤ 80 := by
  have := fldB_len N open_ br part N.branches.length (Nat.le_refl _)
  have h1 := hok.ns
  have h2 := hok.nb
  unfold fEdges
  omega
theorem fEdges_flow {N : Net} {open_ : List ByteArray} {br : ByteArray} {part : Int} : ∀ e ∈ fEdges N open_ br part, e.flow = 0 := by
  intro e he
  rcases (fEdges_iff N open_ br part e).1 he with ⟨s, hs, _, rfl⟩ | ⟨b', hb', _, rfl⟩ | ⟨b', hb', _, rfl | rfl⟩ <;> rfl
theorem fSrc_len (N : Net) : (fSrc N).length = N.nodes.length + 1 := by
  unfold fSrc
  rw [setS_length, setS_length, List.length_replicate]
end Go.Proofs.Ytpamgeemmbbkkaa.Pl
