/- What least answers is what the reference's Cut answers, plain. No program. -/
import Derived.Test.YtpamgeemmbbkkaaPCutB
namespace Go.Proofs.Ytpamgeemmbbkkaa.Pl
noncomputable def isoD (N : Net) (br : ByteArray) (part : Int) (X : List ByteArray) : Bool := @decide (IsoB N br part X) (Classical.propDecidable _)
theorem isoD_iff {N : Net} {br : ByteArray} {part : Int} {X : List ByteArray} : isoD N br part X = true ↔ IsoB N br part X := by
  unfold isoD
  exact @decide_eq_true_iff _ (Classical.propDecidable _)
noncomputable def nearB (N : Net) (br : ByteArray) (part : Int) (b : Bra) (X : List ByteArray) (v : Nat) : Bool := @decide (NearR (PairN N X br part) (starts N part b) (v : Int)) (Classical.propDecidable _)
theorem nearB_iff {N : Net} {br : ByteArray} {part : Int} {b : Bra} {X : List ByteArray} {v : Nat} : nearB N br part b X v = true ↔ NearR (PairN N X br part) (starts N part b) (v : Int) := by
  unfold nearB
  exact @decide_eq_true_iff _ (Classical.propDecidable _)
/-- how many nodes are near -/
noncomputable def nearN (N : Net) (br : ByteArray) (part : Int) (b : Bra) (X : List ByteArray) : Nat := ((List.range N.nodes.length).filter (nearB N br part b X)).length
theorem near_inn {N : Net} {br : ByteArray} {part : Int} {b : Bra} {X : List ByteArray} (hok : NetOk N) (hp : PlaceOk N br part b) {v : Int} (h : NearR (PairN N X br part) (starts N part b) v) : 0 ≤ v ∧ v < N.nodes.length := by
  have hpair : ∀ i j, PairN N X br part i j → (0 ≤ i ∧ i < N.nodes.length) ∧ (0 ≤ j ∧ j < N.nodes.length) := by
    rintro i j (⟨s, hs, _, rfl, rfl⟩ | ⟨x, hx, _, rfl, rfl⟩)
    · have a := idxT_mem (hok.swi s hs).1
      have c := idxT_mem (hok.swi s hs).2.1
      exact ⟨⟨a.1, a.2.1⟩, ⟨c.1, c.2.1⟩⟩
    · have a := idxT_mem (hok.bra x hx).1
      have c := idxT_mem (hok.bra x hx).2.1
      exact ⟨⟨a.1, a.2.1⟩, ⟨c.1, c.2.1⟩⟩
  induction h with
  | start hm =>
    have a := idxT_mem (hok.bra b hp.mem).1
    have c := idxT_mem (hok.bra b hp.mem).2.1
    unfold starts at hm
    rcases List.mem_append.1 hm with hm | hm
    · split at hm
      · simp at hm; subst hm; exact ⟨a.1, a.2.1⟩
      · cases hm
    · split at hm
      · simp at hm; subst hm; exact ⟨c.1, c.2.1⟩
      · cases hm
  | go _ hq _ => exact (hpair _ _ hq).2
  | back _ hq _ => exact (hpair _ _ hq).1
theorem near_len {N : Net} {br : ByteArray} {part : Int} {b : Bra} {X : List ByteArray} (hok : NetOk N) (hp : PlaceOk N br part b) {l : List Int} (hn : l.Nodup) (hl : ∀ v, v ∈ l ↔ NearR (PairN N X br part) (starts N part b) v) : l.length = nearN N br part b X := by
  have hinn : ∀ v ∈ l, 0 ≤ v ∧ v < N.nodes.length := fun v hv => near_inn hok hp ((hl v).1 hv)
  have hm : (l.map Int.toNat).Nodup := by
    have : ∀ l : List Int, (∀ v ∈ l, 0 ≤ v) → l.Nodup → (l.map Int.toNat).Nodup := by
      intro l
      induction l with
      | nil => simp
      | cons a l ih =>
        intro h0 hn
        rw [List.nodup_cons] at hn
        rw [List.map_cons, List.nodup_cons]
        refine ⟨fun hm => ?_, ih (fun v hv => h0 v (by simp [hv])) hn.2⟩
        obtain ⟨b, hb, e⟩ := List.mem_map.1 hm
        have h1 := h0 a (by simp)
        have h2 := h0 b (by simp [hb])
        exact hn.1 (by rw [show a = b by omega]; exact hb)
    exact this l (fun v hv => (hinn v hv).1) hn
  have hfn : ((List.range N.nodes.length).filter (nearB N br part b X)).Nodup := (List.nodup_range).sublist List.filter_sublist
  have a : (l.map Int.toNat).length ≤ nearN N br part b X := hm.length_le_of_subset fun x hx => by
    obtain ⟨v, hv, rfl⟩ := List.mem_map.1 hx
    have h0 := hinn v hv
    rw [List.mem_filter, List.mem_range]
    refine ⟨by omega, nearB_iff.2 ?_⟩
    rw [show ((v.toNat : Nat) : Int) = v by omega]
    exact (hl v).1 hv
  have c : nearN N br part b X ≤ (l.map Int.toNat).length := hfn.length_le_of_subset fun x hx => by
    rw [List.mem_filter] at hx
    exact List.mem_map.2 ⟨(x : Int), (hl _).2 (nearB_iff.1 hx.2), by simp⟩
  rw [List.length_map] at a c
  omega
theorem near_mono {N : Net} {br : ByteArray} {part : Int} {b : Bra} {X Y : List ByteArray} (h : ∀ v : Nat, nearB N br part b X v = true → nearB N br part b Y v = true) : nearN N br part b X ≤ nearN N br part b Y ∧ (nearN N br part b Y ≤ nearN N br part b X → ∀ v : Nat, v < N.nodes.length → nearB N br part b X v = nearB N br part b Y v) := by
  have hs : ((List.range N.nodes.length).filter (nearB N br part b X)).Sublist ((List.range N.nodes.length).filter (nearB N br part b Y)) := by
    have e : (List.range N.nodes.length).filter (nearB N br part b X) = ((List.range N.nodes.length).filter (nearB N br part b Y)).filter (nearB N br part b X) := by
      rw [List.filter_filter]
      congr 1
      funext v
      cases hx : nearB N br part b X v with
      | false => rfl
      | true => rw [h v hx]; rfl
    rw [e]
    exact List.filter_sublist
  refine ⟨hs.length_le, fun hle v hv => ?_⟩
  have e := hs.eq_of_length_le hle
  have m : v ∈ (List.range N.nodes.length).filter (nearB N br part b X) ↔ v ∈ (List.range N.nodes.length).filter (nearB N br part b Y) := by rw [e]
  simp only [List.mem_filter, List.mem_range, hv, true_and] at m
  cases hx : nearB N br part b X v <;> cases hy : nearB N br part b Y v <;> simp_all
/-- reached and near, node by node -/
theorem rch_nat {N : Net} {br : ByteArray} {part : Int} {b : Bra} {X : List ByteArray} (hok : NetOk N) (hp : PlaceOk N br part b) {v : Nat} (hv : v < N.nodes.length) : Rch (fEdges N X br part) (fPlace N X br part) (v : Int) ↔ nearB N br part b X v = true := by
  rw [rch_near hok hp, nearB_iff]
  constructor
  · rintro (h | ⟨h, _⟩)
    · exact h
    · omega
  · exact .inl
theorem least_cut {N : Net} {br : ByteArray} {part : Int} {b : Bra} (hok : NetOk N) (hp : PlaceOk N br part b) {out : List ByteArray} {is : Bool} (h : Leasted (fEdges N [] br part) (fSrc N) (fPlace N [] br part) (N.nodes.length + 1) out is) :
    cutP (isoD N br part) (nearN N br part b) (allB N) = if is = true then some out else none := by
  obtain ⟨E, ⟨hE, K, hF, hk⟩, ho⟩ := h
  have hbd := fun (X : List ByteArray) (hX : X.Sublist (allB N)) (hi : IsoB N br part X) => iso_bound hok hp hE hF hX hi
  have hall : (allB N).length ≤ (fEdges N [] br part).length := by
    rw [← breakers_all N br part, List.length_map]
    exact List.length_filter_le _ _
  cases is with
  | false =>
    rw [if_neg (by simp)] at hk ⊢
    refine cutP_none _ _ fun Y hY => ?_
    cases hi : isoD N br part Y with
    | false => rfl
    | true =>
      have := (hbd Y hY (isoD_iff.1 hi)).1
      have := hY.length_le
      omega
  | true =>
    rw [if_pos rfl] at hk ⊢
    obtain ⟨o, hor, rfl⟩ := ho rfl
    have hfo := (field_ok (open_ := []) hok hp).shp hE
    have hel := fEdges_len (open_ := []) (br := br) (part := part) hok
    have hfe := flow_end (S := fun v => decide (v ∈ o)) hF hfo (by omega) (by simpa using (hor _).2 .start) (fun v h0 h1 hv => by
      have h2 := hk.2 v ((hor v).1 (of_decide_eq_true hv))
      have hlt : v.toNat < (fSrc N).length := by rw [fSrc_len]; omega
      rw [List.getElem?_eq_getElem hlt] at h2 ⊢
      cases hs : (fSrc N)[v.toNat] with
      | false => rfl
      | true => rw [hs] at h2; exact absurd rfl h2) (fun e he u v hu hl => decide_eq_true ((hor v).2 (.step ((hor u).1 (of_decide_eq_true hu)) he hl)))
    have hcs := cut_shp (S := fun v => decide (v ∈ o)) hE
    generalize hout : (cutF (fun v => decide (v ∈ o)) E).map Edg.name = out at *
    have hsub : out.Sublist (allB N) := by rw [hcs]; exact cut_sub N br part _
    have hlen : out.length = K := by rw [← hout, List.length_map]; have := hfe.2; omega
    -- what is reached with these opened stays in the searched set
    have hin : ∀ v, Rch (fEdges N out br part) (fPlace N out br part) v → v ∈ o := by
      intro v hv
      induction hv with
      | start => rw [fPlace_any]; exact (hor _).2 .start
      | @step u v e _ he hl ih =>
        have he0 := edge_less he
        rcases Classical.em (v ∈ o) with hv | hv
        · exact hv
        · exfalso
          have hlv : leaves (fun v => decide (v ∈ o)) e = true := by
            unfold leaves
            rcases hl.1 with ⟨rfl, rfl⟩ | ⟨rfl, rfl⟩ <;> simp [ih, hv]
          obtain ⟨e1, he1, ha, hb, hn, hbr⟩ := shp_mem hE.symm he0
          have hlv1 : leaves (fun v => decide (v ∈ o)) e1 = true := by unfold leaves at hlv ⊢; rw [← ha, ← hb]; exact hlv
          have hbk := hfe.1 e1 he1 hlv1
          have hmem : e.name ∈ out := by
            rw [hn, ← hout]
            exact List.mem_map_of_mem (List.mem_filter.2 ⟨he1, by simp [hbk, hlv1]⟩)
          rcases (fEdges_iff N out br part e).1 he with ⟨s, hs, h1, rfl⟩ | ⟨x, hx, h1, rfl⟩ | ⟨x, hx, h1, rfl | rfl⟩
          · exact ((shut_iff out s).1 h1).2 hmem
          · rw [← hbr] at hbk; cases hbk
          · rw [← hbr] at hbk; cases hbk
          · rw [← hbr] at hbk; cases hbk
    have hiso : IsoB N br part out := fun v hv => hk.2 v ((hor v).1 (hin v hv))
    have hself := (hbd out hsub hiso).2 hlen
    refine cutP_some _ _ hsub (isoD_iff.2 hiso) (fun Y hY hi => by rw [hlen]; exact (hbd Y hY (isoD_iff.1 hi)).1) (fun Y hY hi hyl hnl => ?_)
    have hY2 := (hbd Y hY (isoD_iff.1 hi)).2 (by omega)
    have hoY : ∀ v, Rch (fEdges N out br part) (fPlace N out br part) v → Rch (fEdges N Y br part) (fPlace N Y br part) v := fun v hv => hY2.2 v ((hor v).1 (hin v hv))
    have hnm := near_mono (N := N) (br := br) (part := part) (b := b) (X := out) (Y := Y) (fun v hv => by
      have hlt := (near_inn hok hp (nearB_iff.1 hv)).2
      exact (rch_nat hok hp (by omega)).1 (hoY _ ((rch_nat hok hp (by omega)).2 hv)))
    have heq := hnm.2 hnl
    have hr : ∀ v, rset N br part out v = rset N br part Y v := by
      intro v
      cases h1 : rset N br part out v <;> cases h2 : rset N br part Y v
      · rfl
      · exfalso
        have h2 := rset_iff.1 h2
        rcases (rch_near hok hp v).1 h2 with h3 | h3
        · have h4 := near_inn hok hp h3
          obtain ⟨m, rfl⟩ : ∃ m : Nat, v = m := ⟨v.toNat, by omega⟩
          have h5 := heq m (by omega)
          have h6 := (rch_nat hok hp (by omega : m < N.nodes.length)).1 h2
          rw [← h5] at h6
          have := rset_iff.2 ((rch_nat hok hp (by omega : m < N.nodes.length)).2 h6)
          rw [h1] at this; cases this
        · have := rset_iff.2 ((rch_near (open_ := out) hok hp v).2 (.inr h3))
          rw [h1] at this; cases this
      · have := rset_iff.2 (hoY v (rset_iff.1 h1))
        rw [h2] at this; cases this
      · rfl
    rw [hY2.1, hself.1]
    congr 1
    unfold cutF leaves
    congr 1
    funext e
    rw [hr, hr]
end Go.Proofs.Ytpamgeemmbbkkaa.Pl
