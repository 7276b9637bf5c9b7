/- The reference's Near, plain: the list of reached nodes, and what it has to do with the field's search. No program. -/
import Derived.Test.YtpamgeemmbbkkaaBlk13
namespace Go.Proofs.Ytpamgeemmbbkkaa.Pl
def addI (l : List Int) (u i j : Int) : List Int := if i = u ∧ j ∉ l then l ++ [j] else l
def nearAdd (l : List Int) (u i j : Int) : List Int := addI (addI l u i j) u j i
/-- two nodes that a closed switch or a whole branch joins -/
def PairN (N : Net) (open_ : List ByteArray) (br : ByteArray) (part : Int) (i j : Int) : Prop :=
  (∃ s ∈ N.switches, shutS open_ s = true ∧ i = idxT N.nodes s.a ∧ j = idxT N.nodes s.b) ∨ (∃ b ∈ N.branches, wholeB br part b = true ∧ i = idxT N.nodes b.from_ ∧ j = idxT N.nodes b.to_)
inductive NearR (P : Int → Int → Prop) (st : List Int) : Int → Prop where
  | start {v : Int} : v ∈ st → NearR P st v
  | go {u v : Int} : NearR P st u → P u v → NearR P st v
  | back {u v : Int} : NearR P st u → P v u → NearR P st v
structure NTree (P : Int → Int → Prop) (st : List Int) (n : Int) (l : List Int) : Prop where
  nodup : l.Nodup
  from_ : ∀ v ∈ l, NearR P st v
  has : ∀ v ∈ st, v ∈ l
  inn : ∀ v ∈ l, 0 ≤ v ∧ v < n
def NDone (P : Int → Int → Prop) (l : List Int) (d : Nat) : Prop := ∀ (i : Nat) (u : Int), i < d → l[i]? = some u → ∀ v, (P u v → v ∈ l) ∧ (P v u → v ∈ l)
theorem addI_pre (l : List Int) (u i j : Int) : ∃ r, addI l u i j = l ++ r := by
  unfold addI
  split
  · exact ⟨_, rfl⟩
  · exact ⟨[], by simp⟩
theorem nearAdd_pre (l : List Int) (u i j : Int) : ∃ r, nearAdd l u i j = l ++ r := by
  obtain ⟨r, h⟩ := addI_pre l u i j
  obtain ⟨r2, h2⟩ := addI_pre (addI l u i j) u j i
  exact ⟨r ++ r2, by unfold nearAdd; rw [h2, h, List.append_assoc]⟩
theorem addI_has (l : List Int) (u i j : Int) (h : i = u) : j ∈ addI l u i j := by
  unfold addI
  split
  · simp
  · rename_i h2
    rcases Classical.em (j ∈ l) with h3 | h3
    · exact h3
    · exact absurd ⟨h, h3⟩ h2
theorem addI_tree {P : Int → Int → Prop} {st : List Int} {n : Int} {l : List Int} {u i j : Int} (h : NTree P st n l) (hu : u ∈ l) (hij : P i j ∨ P j i) (hj : 0 ≤ j ∧ j < n) : NTree P st n (addI l u i j) := by
  unfold addI
  split
  · rename_i h2
    refine ⟨?_, fun v hv => ?_, fun v hv => List.mem_append_left _ (h.has v hv), fun v hv => ?_⟩
    · rw [List.nodup_append]
      exact ⟨h.nodup, by simp, fun a ha b hb => by simp at hb; subst hb; exact fun e => h2.2 (e ▸ ha)⟩
    · rcases List.mem_append.1 hv with hv | hv
      · exact h.from_ v hv
      · simp at hv
        subst hv
        have := h.from_ u hu
        rw [← h2.1] at this
        rcases hij with hp | hp
        · exact .go this hp
        · exact .back this hp
    · rcases List.mem_append.1 hv with hv | hv
      · exact h.inn v hv
      · simp at hv; subst hv; exact hj
  · exact h
theorem nearAdd_tree {P : Int → Int → Prop} {st : List Int} {n : Int} {l : List Int} {u i j : Int} (h : NTree P st n l) (hu : u ∈ l) (hij : P i j) (hi : 0 ≤ i ∧ i < n) (hj : 0 ≤ j ∧ j < n) : NTree P st n (nearAdd l u i j) := by
  have h1 := addI_tree h hu (.inl hij) hj
  obtain ⟨r, e⟩ := addI_pre l u i j
  exact addI_tree h1 (by rw [e]; exact List.mem_append_left _ hu) (.inr hij) hi
theorem nearAdd_has (l : List Int) (u i j : Int) : (i = u → j ∈ nearAdd l u i j) ∧ (j = u → i ∈ nearAdd l u i j) := by
  refine ⟨fun h => ?_, fun h => addI_has _ u j i h⟩
  obtain ⟨r, e⟩ := addI_pre (addI l u i j) u j i
  unfold nearAdd
  rw [e]
  exact List.mem_append_left _ (addI_has l u i j h)
theorem NDone.more {P : Int → Int → Prop} {l r : List Int} {d : Nat} (h : NDone P l d) (hd : d ≤ l.length) : NDone P (l ++ r) d := by
  intro i u hi hu v
  rw [List.getElem?_append_left (by omega)] at hu
  have := h i u hi hu v
  exact ⟨fun hp => List.mem_append_left _ (this.1 hp), fun hp => List.mem_append_left _ (this.2 hp)⟩
theorem NTree.short {P : Int → Int → Prop} {st : List Int} {n : Nat} {l : List Int} (h : NTree P st n l) : l.length ≤ n := by
  have : ∀ l : List Int, (∀ v ∈ l, 0 ≤ v) → l.Nodup → (l.map Int.toNat).Nodup := by
    intro l
    induction l with
    | nil => simp
    | cons a l ih =>
      intro h0 hn
      rw [List.nodup_cons] at hn
      rw [List.map_cons, List.nodup_cons]
      refine ⟨fun hm => ?_, ih (fun v hv => h0 v (by simp [hv])) hn.2⟩
      obtain ⟨b, hb, e⟩ := List.mem_map.1 hm
      have h1 := h0 a (by simp)
      have h2 := h0 b (by simp [hb])
      exact hn.1 (by rw [show a = b by omega]; exact hb)
  have hm := this l (fun v hv => (h.inn v hv).1) h.nodup
  have hs : (l.map Int.toNat) ⊆ List.range n := by
    intro x hx
    obtain ⟨v, hv, rfl⟩ := List.mem_map.1 hx
    have := h.inn v hv
    simp; omega
  have h2 : (l.map Int.toNat).length ≤ (List.range n).length := hm.length_le_of_subset hs
  simpa using h2
/-- the whole list -/
theorem near_iff {P : Int → Int → Prop} {st : List Int} {n : Int} {l : List Int} (h : NTree P st n l) (hd : NDone P l l.length) : ∀ v, v ∈ l ↔ NearR P st v := by
  intro v
  refine ⟨h.from_ v, fun hv => ?_⟩
  induction hv with
  | start hm => exact h.has _ hm
  | go _ hp ih =>
    obtain ⟨i, hi, e⟩ := List.getElem_of_mem ih
    exact (hd i _ hi (by rw [← e]; exact List.getElem?_eq_getElem hi) _).1 hp
  | back _ hp ih =>
    obtain ⟨i, hi, e⟩ := List.getElem_of_mem ih
    exact (hd i _ hi (by rw [← e]; exact List.getElem?_eq_getElem hi) _).2 hp
/-- where the search of the reference begins -/
def starts (N : Net) (part : Int) (b : Bra) : List Int := (if part < 1000 then [idxT N.nodes b.from_] else []) ++ (if 0 < part then [idxT N.nodes b.to_] else [])
/-- with empty edges every edge leads both ways -/
theorem leads_zero {e : Edg} (h : e.flow = 0) (u v : Int) : Leads e u v ↔ (e.a = u ∧ e.b = v) ∨ (e.b = u ∧ e.a = v) := by
  unfold Leads roomE
  rw [h]
  constructor
  · exact fun h => h.1
  · intro h
    refine ⟨h, ?_⟩
    cases e.breaker <;> simp
/-- the nodes that the field's search can reach are those near, and the place -/
theorem rch_near {N : Net} {open_ : List ByteArray} {br : ByteArray} {part : Int} {b : Bra} (hok : NetOk N) (hp : PlaceOk N br part b) (v : Int) :
    Rch (fEdges N open_ br part) (fPlace N open_ br part) v ↔ NearR (PairN N open_ br part) (starts N part b) v ∨ (v = N.nodes.length ∧ part ≠ 0 ∧ part ≠ 1000) := by
  have hfo := field_ok (open_ := open_) hok hp
  have hfl := fEdges_flow (N := N) (open_ := open_) (br := br) (part := part)
  have hlo := hp.low
  have hhi := hp.high
  have hlead : ∀ e ∈ fEdges N open_ br part, ∀ u v, Leads e u v ↔ (e.a = u ∧ e.b = v) ∨ (e.b = u ∧ e.a = v) := fun e he u v => leads_zero (hfl e he) u v
  have hpair : ∀ i j, PairN N open_ br part i j → ∃ e ∈ fEdges N open_ br part, e.a = i ∧ e.b = j := by
    rintro i j (⟨s, hs, h1, rfl, rfl⟩ | ⟨x, hx, h1, rfl, rfl⟩)
    · exact ⟨edgS N.nodes s, (fEdges_iff N open_ br part _).2 (.inl ⟨s, hs, h1, rfl⟩), rfl, rfl⟩
    · exact ⟨_, (fEdges_iff N open_ br part _).2 (.inr (.inl ⟨x, by rw [List.take_length]; exact hx, h1, rfl⟩)), rfl, rfl⟩
  have hbw : ∀ x ∈ N.branches, wholeB br part x = false → x = b := fun x hx hw => bra_unique hok hx hp.mem ((notWhole hw).1.trans hp.name.symm)
  constructor
  · intro h
    induction h with
    | start =>
      by_cases hm : part = 0 ∨ part = 1000
      · left
        rw [fPlace_end hp.mem hp.name (fun b' hb' hn => bra_unique hok hb' hp.mem (hn.trans hp.name.symm)) hm]
        refine .start ?_
        unfold starts endOf
        rcases hm with rfl | rfl <;> simp
      · right
        exact ⟨fPlace_mid (fun e => hm (.inl e)) (fun e => hm (.inr e)), fun e => hm (.inl e), fun e => hm (.inr e)⟩
    | @step u v e _ he hl ih =>
      have hl := (hlead e he u v).1 hl
      rcases (fEdges_iff N open_ br part e).1 he with ⟨s, hs, h1, rfl⟩ | ⟨x, hx, h1, rfl⟩ | ⟨x, hx, h1, h2⟩
      · have hP : PairN N open_ br part (idxT N.nodes s.a) (idxT N.nodes s.b) := .inl ⟨s, hs, h1, rfl, rfl⟩
        have hna : idxT N.nodes s.a < N.nodes.length := (idxT_mem (hok.swi s hs).1).2.1
        have hnb : idxT N.nodes s.b < N.nodes.length := (idxT_mem (hok.swi s hs).2.1).2.1
        rcases ih with ih | ih
        · left
          rcases hl with ⟨rfl, rfl⟩ | ⟨rfl, rfl⟩
          · exact .go ih hP
          · exact .back ih hP
        · exfalso
          have := ih.1
          rcases hl with ⟨rfl, rfl⟩ | ⟨rfl, rfl⟩ <;> simp only [edgS] at this <;> omega
      · rw [List.take_length] at hx
        have hP : PairN N open_ br part (idxT N.nodes x.from_) (idxT N.nodes x.to_) := .inr ⟨x, hx, h1, rfl, rfl⟩
        have hna : idxT N.nodes x.from_ < N.nodes.length := (idxT_mem (hok.bra x hx).1).2.1
        have hnb : idxT N.nodes x.to_ < N.nodes.length := (idxT_mem (hok.bra x hx).2.1).2.1
        rcases ih with ih | ih
        · left
          rcases hl with ⟨rfl, rfl⟩ | ⟨rfl, rfl⟩
          · exact .go ih hP
          · exact .back ih hP
        · exfalso
          have := ih.1
          rcases hl with ⟨rfl, rfl⟩ | ⟨rfl, rfl⟩ <;> simp only at this <;> omega
      · rw [List.take_length] at hx
        obtain ⟨hn, h0, h1'⟩ := notWhole h1
        have hxb := hbw x hx h1
        subst hxb
        have hna := idxT_mem (hok.bra x hx).1
        have hnb := idxT_mem (hok.bra x hx).2.1
        have hs1 : idxT N.nodes x.from_ ∈ starts N part x := by unfold starts; rw [if_pos (by omega)]; simp
        have hs2 : idxT N.nodes x.to_ ∈ starts N part x := by unfold starts; rw [if_pos (show 0 < part by omega)]; simp
        rcases h2 with h2 | h2
        · rw [h2] at hl
          simp only at hl
          rcases hl with ⟨h3, h4⟩ | ⟨h3, h4⟩
          · left; rw [← h4]; exact .start hs1
          · right; exact ⟨h4.symm, h0, h1'⟩
        · rw [h2] at hl
          simp only at hl
          rcases hl with ⟨h3, h4⟩ | ⟨h3, h4⟩
          · left; rw [← h4]; exact .start hs2
          · right; exact ⟨h4.symm, h0, h1'⟩
  · rintro (h | ⟨rfl, h0, h1⟩)
    · induction h with
      | @start v hv =>
        by_cases hm : part = 0 ∨ part = 1000
        · have he := fPlace_end (open_ := open_) hp.mem hp.name (fun b' hb' hn => bra_unique hok hb' hp.mem (hn.trans hp.name.symm)) hm
          have : v = fPlace N open_ br part := by
            rw [he]
            unfold starts at hv
            unfold endOf
            rcases hm with rfl | rfl <;> simpa using hv
          rw [this]; exact .start
        · have h0 : part ≠ 0 := fun e => hm (.inl e)
          have h1 : part ≠ 1000 := fun e => hm (.inr e)
          have hpl := fPlace_mid (N := N) (open_ := open_) (br := br) h0 h1
          have hw : wholeB br part b = false := by unfold wholeB; simp [h0, h1, hp.name]
          unfold starts at hv
          rw [if_pos (by omega), if_pos (by omega)] at hv
          have hin : ∀ y, (y = b.from_ ∨ y = b.to_) → (⟨N.nodes.length, idxT N.nodes y, b.name, false, 0⟩ : Edg) ∈ fEdges N open_ br part := by
            intro y hy
            refine (fEdges_iff N open_ br part _).2 (.inr (.inr ⟨b, by rw [List.take_length]; exact hp.mem, hw, ?_⟩))
            rcases hy with rfl | rfl
            · exact .inl rfl
            · exact .inr rfl
          simp at hv
          rcases hv with rfl | rfl
          · exact .step .start (hin _ (.inl rfl)) ((hlead _ (hin _ (.inl rfl)) _ _).2 (.inl ⟨hpl.symm, rfl⟩))
          · exact .step .start (hin _ (.inr rfl)) ((hlead _ (hin _ (.inr rfl)) _ _).2 (.inl ⟨hpl.symm, rfl⟩))
      | go _ hP ih =>
        obtain ⟨e, he, rfl, rfl⟩ := hpair _ _ hP
        exact .step ih he ((hlead e he _ _).2 (.inl ⟨rfl, rfl⟩))
      | back _ hP ih =>
        obtain ⟨e, he, rfl, rfl⟩ := hpair _ _ hP
        exact .step ih he ((hlead e he _ _).2 (.inr ⟨rfl, rfl⟩))
    · rw [← fPlace_mid (N := N) (open_ := open_) (br := br) h0 h1]
      exact .start
end Go.Proofs.Ytpamgeemmbbkkaa.Pl
