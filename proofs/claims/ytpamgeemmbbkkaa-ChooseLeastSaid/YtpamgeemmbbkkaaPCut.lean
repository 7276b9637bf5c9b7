/- The least set of breakers, plain: what least answers is the one set of its size that isolates the place with the fewest nodes near. No program. -/
import Derived.Test.YtpamgeemmbbkkaaPIso
namespace Go.Proofs.Ytpamgeemmbbkkaa.Pl
/-- the closed breakers, in the order of the switches -/
def allB (N : Net) : List ByteArray := (N.switches.filter fun s => s.breaker && !s.opened).map Swi.name
/-- no source can be reached with these opened -/
def IsoB (N : Net) (br : ByteArray) (part : Int) (X : List ByteArray) : Prop := ∀ v, Rch (fEdges N X br part) (fPlace N X br part) v → (fSrc N)[v.toNat]? ≠ some true
theorem shut_nil (s : Swi) : shutS [] s = !s.opened := by unfold shutS inB; simp
theorem shut_iff (X : List ByteArray) (s : Swi) : shutS X s = true ↔ s.opened = false ∧ s.name ∉ X := by
  unfold shutS
  rw [Bool.and_eq_true, Bool.not_eq_true', Bool.not_eq_true']
  constructor
  · rintro ⟨h1, h2⟩
    exact ⟨h1, fun h => by rw [inB_iff.2 h] at h2; cases h2⟩
  · rintro ⟨h1, h2⟩
    refine ⟨h1, ?_⟩
    cases h : inB X s.name with
    | false => rfl
    | true => exact absurd (inB_iff.1 h) h2
/-- an edge with nothing opened: it stays, or it is a switch that was opened -/
theorem edge_split {N : Net} {X : List ByteArray} {br : ByteArray} {part : Int} {e : Edg} (h : e ∈ fEdges N [] br part) : e ∈ fEdges N X br part ∨ (e.name ∈ X ∧ ∃ s ∈ N.switches, s.opened = false ∧ e = edgS N.nodes s) := by
  rcases (fEdges_iff N [] br part e).1 h with ⟨s, hs, h1, rfl⟩ | h1 | h1
  · have ho : s.opened = false := by rw [shut_nil] at h1; simpa using h1
    by_cases hx : s.name ∈ X
    · exact .inr ⟨hx, s, hs, ho, rfl⟩
    · exact .inl ((fEdges_iff N X br part _).2 (.inl ⟨s, hs, (shut_iff X s).2 ⟨ho, hx⟩, rfl⟩))
  · exact .inl ((fEdges_iff N X br part _).2 (.inr (.inl h1)))
  · exact .inl ((fEdges_iff N X br part _).2 (.inr (.inr h1)))
theorem edge_less {N : Net} {X : List ByteArray} {br : ByteArray} {part : Int} {e : Edg} (h : e ∈ fEdges N X br part) : e ∈ fEdges N [] br part := by
  rcases (fEdges_iff N X br part e).1 h with ⟨s, hs, h1, rfl⟩ | h1 | h1
  · exact (fEdges_iff N [] br part _).2 (.inl ⟨s, hs, (shut_iff [] s).2 ⟨((shut_iff X s).1 h1).1, by simp⟩, rfl⟩)
  · exact (fEdges_iff N [] br part _).2 (.inr (.inl h1))
  · exact (fEdges_iff N [] br part _).2 (.inr (.inr h1))
theorem fPlace_any (N : Net) (X : List ByteArray) (br : ByteArray) (part : Int) : fPlace N X br part = fPlace N [] br part := by
  have : ∀ k, k ≤ N.branches.length → (fldB N X br part k).1 = (fldB N [] br part k).1 := by
    intro k
    induction k with
    | zero => intro _; rfl
    | succ k ih =>
      intro h
      rw [fldB_succ N X br part k (by omega), fldB_succ N [] br part k (by omega)]
      unfold stepB
      split
      · simp only [ih (by omega)]
      · exact ih (by omega)
  exact this _ (Nat.le_refl _)
/-- names of the breakers among the edges -/
theorem breakers_all (N : Net) (br : ByteArray) (part : Int) : ((fEdges N [] br part).filter Edg.breaker).map Edg.name = allB N := by
  have h0 : ∀ l : List Swi, ((edgesS N.nodes [] l).filter Edg.breaker).map Edg.name = (l.filter fun s => s.breaker && !s.opened).map Swi.name := by
    intro l
    induction l with
    | nil => rfl
    | cons s l ih =>
      unfold edgesS at ih ⊢
      simp only [List.filter_cons, shut_nil] at ih ⊢
      cases ho : s.opened <;> cases hb : s.breaker <;> simp [edgS, hb, ih]
  have : ∀ k, k ≤ N.branches.length → ((fldB N [] br part k).2.filter Edg.breaker).map Edg.name = allB N := by
    intro k
    induction k with
    | zero => intro _; exact h0 N.switches
    | succ k ih =>
      intro h
      rw [fldB_succ N [] br part k (by omega)]
      unfold stepB
      split <;> simp [ih (by omega)]
  exact this _ (Nat.le_refl _)
theorem allB_nodup {N : Net} (hok : NetOk N) : (allB N).Nodup := by
  have h := swi_nodup hok
  unfold allB
  exact (h.sublist ((List.filter_sublist).map _))
theorem filter_and_sub (p q : Edg → Bool) : ∀ l : List Edg, (l.filter fun e => p e && q e) = (l.filter p).filter q
  | [] => rfl
  | e :: l => by
    simp only [List.filter_cons, filter_and_sub p q l]
    cases p e <;> cases hq : q e <;> simp [hq]
/-- a cut is a part of the breakers, in their order -/
theorem cut_sub (N : Net) (br : ByteArray) (part : Int) (S : Int → Bool) : ((cutF S (fEdges N [] br part)).map Edg.name).Sublist (allB N) := by
  rw [← breakers_all N br part]
  unfold cutF
  rw [filter_and_sub]
  exact (List.filter_sublist).map _
/-- the reached nodes, as a set -/
noncomputable def rset (N : Net) (br : ByteArray) (part : Int) (X : List ByteArray) (v : Int) : Bool := @decide (Rch (fEdges N X br part) (fPlace N X br part) v) (Classical.propDecidable _)
theorem rset_iff {N : Net} {br : ByteArray} {part : Int} {X : List ByteArray} {v : Int} : rset N br part X v = true ↔ Rch (fEdges N X br part) (fPlace N X br part) v := by
  unfold rset
  exact @decide_eq_true_iff _ (Classical.propDecidable _)
/-- what a set that isolates shows of every flow -/
theorem iso_bound {N : Net} {br : ByteArray} {part : Int} {b : Bra} (hok : NetOk N) (hp : PlaceOk N br part b) {E : List Edg} (hE : E.map shp = (fEdges N [] br part).map shp) {K : Nat} (hF : Flo E (fSrc N) (fPlace N [] br part) (N.nodes.length + 1) K)
    {X : List ByteArray} (hX : X.Sublist (allB N)) (hi : IsoB N br part X) :
    K ≤ X.length ∧ (X.length = K → X = (cutF (rset N br part X) (fEdges N [] br part)).map Edg.name ∧ ∀ v, Rch E (fPlace N [] br part) v → Rch (fEdges N X br part) (fPlace N X br part) v) := by
  have hfo := field_ok (open_ := []) hok hp
  have hfl := fEdges_flow (N := N) (open_ := X) (br := br) (part := part)
  have hpl := fPlace_any N X br part
  have hXn : X.Nodup := (allB_nodup hok).sublist hX
  -- the edges that leave the set are opened breakers
  have hleave : ∀ e ∈ fEdges N [] br part, leaves (rset N br part X) e = true → e.name ∈ X ∧ e.breaker = true := by
    intro e he hl
    rcases edge_split (X := X) he with h | ⟨h1, s, hs, ho, rfl⟩
    · exfalso
      unfold leaves at hl
      have hll := leads_zero (hfl e h)
      cases ha : rset N br part X e.a <;> cases hb : rset N br part X e.b
      · rw [ha, hb] at hl; cases hl
      · have := rset_iff.2 (.step (rset_iff.1 hb) h ((hll e.b e.a).2 (.inr ⟨rfl, rfl⟩)))
        rw [ha] at this; cases this
      · have := rset_iff.2 (.step (rset_iff.1 ha) h ((hll e.a e.b).2 (.inl ⟨rfl, rfl⟩)))
        rw [hb] at this; cases this
      · rw [ha, hb] at hl; cases hl
    · refine ⟨h1, ?_⟩
      have hm : s.name ∈ allB N := hX.subset h1
      unfold allB at hm
      obtain ⟨s', hs', hn⟩ := List.mem_map.1 hm
      have hs2 := List.mem_filter.1 hs'
      have hnd := swi_nodup hok
      have : s' = s := by
        obtain ⟨i, hi, rfl⟩ := List.getElem_of_mem hs2.1
        obtain ⟨j, hj, rfl⟩ := List.getElem_of_mem hs
        have e1 : (N.switches.map Swi.name)[i]? = some N.switches[i].name := by simp [hi]
        have e2 : (N.switches.map Swi.name)[j]? = some N.switches[j].name := by simp [hj]
        rw [hn] at e1
        have := (List.getElem?_inj (by simpa using hi) hnd).1 (e1.trans e2.symm)
        subst this; rfl
      subst this
      simp only [Bool.and_eq_true] at hs2
      exact hs2.2.1
  have hcs := cut_shp (S := rset N br part X) hE
  have hsub : ∀ x ∈ (cutF (rset N br part X) (fEdges N [] br part)).map Edg.name, x ∈ X := by
    intro x hx
    obtain ⟨e, he, rfl⟩ := List.mem_map.1 hx
    unfold cutF at he
    have h2 := List.mem_filter.1 he
    simp only [Bool.and_eq_true] at h2
    exact (hleave e h2.1 h2.2.2).1
  have hcn : ((cutF (rset N br part X) (fEdges N [] br part)).map Edg.name).Nodup := (allB_nodup hok).sublist (cut_sub N br part _)
  have hlen : (cutF (rset N br part X) E).length = ((cutF (rset N br part X) (fEdges N [] br part)).map Edg.name).length := by
    have := congrArg List.length hcs
    simpa using this
  have hle : ((cutF (rset N br part X) (fEdges N [] br part)).map Edg.name).length ≤ X.length := hcn.length_le_of_subset hsub
  have hfc := flow_cut (S := rset N br part X) hF (hfo.shp hE) (by rw [rset_iff, ← hpl]; exact .start) (fun v h0 h1 hv => by
    have h2 := hi v (rset_iff.1 hv)
    have hlt : v.toNat < (fSrc N).length := by rw [fSrc_len]; omega
    rw [List.getElem?_eq_getElem hlt] at h2 ⊢
    cases hs : (fSrc N)[v.toNat] with
    | false => rfl
    | true => rw [hs] at h2; exact absurd rfl h2) (fun e he hl => by
    obtain ⟨e0, he0, ha, hb, _, hbr⟩ := shp_mem hE he
    rw [hbr]
    refine (hleave e0 he0 ?_).2
    unfold leaves at hl ⊢
    rw [← ha, ← hb]; exact hl)
  refine ⟨by omega, fun hXK => ?_⟩
  have heq : ((cutF (rset N br part X) (fEdges N [] br part)).map Edg.name).length = X.length := by omega
  refine ⟨?_, fun v hv => rset_iff.1 (hfc.2 (by omega) v hv)⟩
  -- two parts of one list without doubles, with the same members
  have hXs : X ⊆ (cutF (rset N br part X) (fEdges N [] br part)).map Edg.name := by
    intro x hx
    rcases Classical.em (x ∈ (cutF (rset N br part X) (fEdges N [] br part)).map Edg.name) with h | h
    · exact h
    · exfalso
      have h2 : (x :: (cutF (rset N br part X) (fEdges N [] br part)).map Edg.name).Nodup := List.nodup_cons.2 ⟨h, hcn⟩
      have h3 := h2.length_le_of_subset (l₂ := X) (fun y hy => by
        rcases List.mem_cons.1 hy with rfl | hy
        · exact hx
        · exact hsub y hy)
      simp only [List.length_cons] at h3
      omega
  have uniq : ∀ (L A B : List ByteArray), L.Nodup → A.Sublist L → B.Sublist L → (∀ x, x ∈ A ↔ x ∈ B) → A = B := by
    intro L
    induction L with
    | nil => intro A B _ ha hb _; rw [List.sublist_nil.1 ha, List.sublist_nil.1 hb]
    | cons y L ih =>
      intro A B hn ha hb hab
      rw [List.nodup_cons] at hn
      cases ha with
      | cons _ ha' =>
        cases hb with
        | cons _ hb' => exact ih A B hn.2 ha' hb' hab
        | cons_cons _ hb' => exact absurd (ha'.subset ((hab y).2 (by simp))) hn.1
      | cons_cons _ ha' =>
        cases hb with
        | cons _ hb' => exact absurd (hb'.subset ((hab y).1 (by simp))) hn.1
        | cons_cons _ hb' =>
          congr 1
          refine ih _ _ hn.2 ha' hb' fun x => ?_
          constructor
          · intro hx
            rcases List.mem_cons.1 ((hab x).1 (List.mem_cons_of_mem _ hx)) with rfl | h
            · exact absurd (ha'.subset hx) hn.1
            · exact h
          · intro hx
            rcases List.mem_cons.1 ((hab x).2 (List.mem_cons_of_mem _ hx)) with rfl | h
            · exact absurd (hb'.subset hx) hn.1
            · exact h
  exact uniq (allB N) _ _ (allB_nodup hok) hX (cut_sub N br part _) (fun x => ⟨fun h => hXs h, fun h => hsub x h⟩)
end Go.Proofs.Ytpamgeemmbbkkaa.Pl
