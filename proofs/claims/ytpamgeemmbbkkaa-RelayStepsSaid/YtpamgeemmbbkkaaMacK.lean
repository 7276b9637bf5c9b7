/- NewMachine: a machine of the reference's for a program. Condition: the program reads. -/
import Derived.Test.YtpamgeemmbbkkaaMacJ
namespace Go.Proofs.Ytpamgeemmbbkkaa
open Go.RowKit
set_option maxRecDepth 100000
theorem info_slb : (Try.prog.info? 110).map (fun i => (i.zero, i.size, i.bytes)) = some (some (.slice none 0 0), 1, 24) := by kernel_rfl
theorem info_sli : (Try.prog.info? 45).map (fun i => (i.zero, i.size, i.bytes)) = some (some (.slice none 0 0), 1, 24) := by kernel_rfl
theorem info_im : (Try.prog.info? 3).map (fun i => (i.zero, i.size, i.bytes)) = some (some (.int .i64 0), 1, 8) := by kernel_rfl
def lenOf (l : List MRul) (k : Nat) : Nat := match l[k]? with | some o => o.ex.length | none => 0
/-- rows made so far: their blocks bs, in an outer row of the call's own -/
structure Rows_ (w : World) (K : Nat) (l : List MRul) (eT : TypeId) (z : Value) (oT : TypeId) (v : Value) (bs : List Nat) : Prop where
  out : w.ownsRow K oT 1 v bs.length (bs.mapIdx fun k b => .slice (some ⟨b, 0, none⟩) (lenOf l k) (lenOf l k))
  row : ∀ k b, bs[k]? = some b → Blk w b eT (Array.replicate (lenOf l k) z) ∧ K ≤ b
  diff : bs.Nodup
theorem Rows_.far {w w' : World} {K : Nat} {l : List MRul} {eT : TypeId} {z : Value} {oT : TypeId} {v : Value} {bs : List Nat} (h : Rows_ w K l eT z oT v bs) {S : Nat → Prop} (f : Fr S w w') (h1 : ∀ b ∈ bs, ¬ S b) (h2 : ∀ g, v.ownBlock = some g → ¬ S g) : Rows_ w' K l eT z oT v bs := by
  refine ⟨?_, fun k b hb => ⟨f.blk (h.row k b hb).1 (h1 b (List.mem_of_getElem? hb)), (h.row k b hb).2⟩, h.diff⟩
  refine ⟨h.out.1, ?_⟩
  rcases h.out.2 with h0 | ⟨g, cap, cur, hv, hb, hh, r⟩
  · exact .inl h0
  · exact .inr ⟨g, cap, cur, hv, hb, (f.block g (Blk.lt (t := oT) (cs := cur) hh) (h2 g (by rw [hv]; rfl))).trans hh, r⟩
theorem mapIdx_snoc {β : Type} (f : Nat → Nat → β) (bs : List Nat) (g : Nat) : (bs ++ [g]).mapIdx f = bs.mapIdx f ++ [f bs.length g] := by simp
/-- one row more -/
theorem Rows_.push {w w2 w3 : World} {K : Nat} {l : List MRul} {eT : TypeId} {z : Value} {oT : TypeId} {v v' : Value} {bs : List Nat} {g : Nat} (h : Rows_ w K l eT z oT v bs) (hne : eT ≠ oT) (hb : Below w.heap.size w w2) (hg : g = w.heap.size) (hK : K ≤ g)
    (hr : Blk w2 g eT (Array.replicate (lenOf l bs.length) z)) (ho : w3.ownsRow K oT 1 v' (bs.length + 1) ((bs.mapIdx fun k b => Value.slice (some ⟨b, 0, none⟩) (lenOf l k) (lenOf l k)) ++ [.slice (some ⟨g, 0, none⟩) (lenOf l bs.length) (lenOf l bs.length)])) (hgr : w2.grownBy w3 v.ownBlock) : Rows_ w3 K l eT z oT v' (bs ++ [g]) := by
  have nown : ∀ {b : Nat} {cs : Array Value}, Blk w2 b eT cs → some b ≠ v.ownBlock := fun hb2 e => by
    rcases (own_go h.out hb).2 with ⟨h0, _⟩ | ⟨g2, cap, cur, hv, _, hh, _⟩
    · rw [h0] at e; cases e
    · rw [hv] at e
      injection e with e
      subst e
      exact hb2.ne_ (t' := oT) (cs' := cur) hh hne rfl
  refine ⟨?_, fun k b hkb => ?_, ?_⟩
  · rw [mapIdx_snoc, List.length_append]
    exact ho
  · rcases Nat.lt_or_ge k bs.length with hk | hk
    · rw [List.getElem?_append_left hk] at hkb
      have := h.row k b hkb
      exact ⟨(this.1.go hb).grown hgr (nown (this.1.go hb)), this.2⟩
    · rw [List.getElem?_append_right hk] at hkb
      have hk0 : k - bs.length = 0 := by
        rcases Nat.eq_zero_or_pos (k - bs.length) with e | e
        · exact e
        · rw [List.getElem?_eq_none (by simp; omega)] at hkb; cases hkb
      rw [hk0] at hkb
      injection hkb with hkb
      have hkl : k = bs.length := by omega
      subst hkl
      subst hkb
      exact ⟨hr.grown hgr (nown hr), hK⟩
  · rw [List.nodup_append]
    refine ⟨h.diff, by simp, fun a ha b hb2 e => ?_⟩
    rw [List.mem_singleton.1 hb2] at e
    obtain ⟨k, hk⟩ := List.getElem?_of_mem ha
    have := (h.row k a hk).1.lt
    omega
theorem Rows_.shape {w : World} {K : Nat} {l : List MRul} {eT : TypeId} {z : Value} {oT : TypeId} {v : Value} {bs : List Nat} (h : Rows_ w K l eT z oT v bs) : ∃ A c, v = .slice A bs.length c := by
  obtain ⟨A, c, e, _⟩ := own_slice h.out
  exact ⟨A, c, e⟩
theorem own_nt {w : World} {K g : Nat} {e t : TypeId} {size n : Nat} {v : Value} {xs : List Value} {cs : Array Value} (h : w.ownsRow K e size v n xs) (hb : Blk w g t cs) (hne : t ≠ e) : some g ≠ v.ownBlock := fun e9 => by
  rcases h.2 with ⟨h0, _⟩ | ⟨g2, cap, cur, hv, _, hh, _⟩
  · rw [h0] at e9; cases e9
  · rw [hv] at e9
    injection e9 with e9
    subst e9
    exact hb.ne_ (t' := e) (cs' := cur) hh hne rfl
theorem Rows_.go {w w' : World} {K : Nat} {l : List MRul} {eT : TypeId} {z : Value} {oT : TypeId} {v : Value} {bs : List Nat} (h : Rows_ w K l eT z oT v bs) (hb : Below w.heap.size w w') : Rows_ w' K l eT z oT v bs :=
  h.far (S := fun _ => False) (Fr.of_below hb) (fun _ _ h => h) (fun _ _ h => h)
/-- rows of other types behind an append to another row -/
theorem Rows_.past {w w' : World} {K K2 : Nat} {l : List MRul} {eT : TypeId} {z : Value} {oT : TypeId} {v : Value} {bs : List Nat} {e2 : TypeId} {s2 n2 : Nat} {v2 : Value} {xs2 : List Value} (h : Rows_ w K l eT z oT v bs) (h2 : w.ownsRow K2 e2 s2 v2 n2 xs2) (h1 : eT ≠ e2) (h3 : oT ≠ e2) (hg : w.grownBy w' v2.ownBlock) : Rows_ w' K l eT z oT v bs :=
  h.far (S := fun i => some i = v2.ownBlock) ⟨hg.os, hg.tape, hg.output, hg.size, fun i hi hs => hg.block i hi hs⟩ (fun b hb e => by
    obtain ⟨k, hk⟩ := List.getElem?_of_mem hb
    exact own_nt h2 (h.row k b hk).1 h1 e) (fun g e e9 => by
    rcases h.out.2 with ⟨h0, _⟩ | ⟨g3, cap, cur, hv, _, hh, _⟩
    · rw [h0] at e; cases e
    · rw [hv] at e
      injection e with e
      subst e
      exact own_nt (t := oT) (cs := cur) h2 hh h3 e9)
theorem Rows_.set_ {w : World} {K : Nat} {l : List MRul} {eT : TypeId} {z : Value} {oT : TypeId} {v : Value} {bs : List Nat} (h : Rows_ w K l eT z oT v bs) (p : Addr) (hp : p.block < K) (u : Value) : Rows_ (w.setCell p u) K l eT z oT v bs :=
  h.far (S := fun i => i = p.block) ((Fr.refl _ w).set_ _ _ (.inr rfl)) (fun b hb e => by
    obtain ⟨k, hk⟩ := List.getElem?_of_mem hb
    have := (h.row k b hk).2
    omega) (fun g e e9 => by have := h.out.lt g e; omega)
theorem Rows_.made {w : World} {K : Nat} {l : List MRul} {eT : TypeId} {z : Value} {oT : TypeId} {v : Value} {bs : List Nat} {n : Nat} (h : Rows_ w K l eT z oT v bs) (hn : bs.length = n) :
    ∃ g c, (0 < n → v = .slice (some ⟨g, 0, none⟩) n c) ∧ (0 < n → ∃ cs, Blk w g oT cs ∧ ∀ k, k < n → cs[k]? = some (.slice (some ⟨bs.getD k 0, 0, none⟩) (lenOf l k) (lenOf l k))) := by
  subst hn
  rcases Nat.eq_zero_or_pos bs.length with h0 | h0
  · exact ⟨0, 0, fun h => by omega, fun h => by omega⟩
  · rcases h.out.2 with ⟨_, h1⟩ | ⟨g, cap, cur, hv, _, hh, hnc, _, hsz, ht⟩
    · have := h.out.1
      rw [h1] at this
      simp at this
      omega
    · refine ⟨g, cap, fun _ => hv, fun _ => ⟨cur, hh, fun k hk => ?_⟩⟩
      have e1 : (cur.toList.take (bs.length * 1))[k]? = (bs.mapIdx fun k b => Value.slice (some ⟨b, 0, none⟩) (lenOf l k) (lenOf l k))[k]? := by rw [ht]
      rw [List.getElem?_take_of_lt (by omega), Array.getElem?_toList] at e1
      rw [e1, List.getElem?_mapIdx, List.getElem?_eq_getElem hk]
      simp [List.getD, hk]
theorem newm_end {w wr : World} {A : Option Addr} {n c : Nat} {l : List MRul} {oV tV : Value} {bo bt : List Nat} (H : Ruls w w.heap.size A n l) (HMM : Blk wr (w.heap.size + 1) 114 #[.slice A n c, oV, tV, .slice (some ⟨w.heap.size, 0, none⟩) n n, .slice none 0 0])
    (HGV : Blk wr w.heap.size 4 (Array.replicate n (Value.bool false))) (HRO : Rows_ wr (w.heap.size + 2) l 4 (.bool false) 110 oV bo) (ho : bo.length = n) (HRT : Rows_ wr (w.heap.size + 2) l 3 (.int .i64 0) 45 tV bt) (ht : bt.length = n) (HB : Below w.heap.size w wr) :
    ∃ M : MC, M.mm = w.heap.size + 1 ∧ M.A = A ∧ M.n = n ∧ M.l = l ∧ M.H = w.heap.size ∧ MS0 M wr (fun _ _ => (false, 0)) (List.replicate n false) := by
  obtain ⟨gO, cO, o1, o2⟩ := HRO.made ho
  obtain ⟨gT, cT, t1, t2⟩ := HRT.made ht
  have hbo : ∀ k, k < n → bo[k]? = some (bo.getD k 0) := fun k hk => by
    have : k < bo.length := by omega
    simp [List.getD, this]
  have hbt : ∀ k, k < n → bt[k]? = some (bt.getD k 0) := fun k hk => by
    have : k < bt.length := by omega
    simp [List.getD, this]
  have inj : ∀ {b : List Nat} {i j : Nat}, b.Nodup → i < b.length → j < b.length → i ≠ j → b.getD i 0 ≠ b.getD j 0 := fun {b i j} hb hi hj hne e => by
    simp [List.getD, hi, hj] at e
    exact hne ((List.getElem_inj hb).1 e)
  refine ⟨⟨w.heap.size + 1, A, n, c, l, oV, tV, gO, gT, cO, cT, w.heap.size, 0, fun k => bo.getD k 0, fun k => bt.getD k 0, w.heap.size⟩, rfl, rfl, rfl, rfl, rfl, ⟨_, HMM⟩, o1, t1, H.below HB, o2, t2, fun k hk => ?_, fun k hk => ?_, ⟨by simp, ?_⟩, ⟨HB.size, ?_, by show w.heap.size ≤ w.heap.size + 1; omega⟩, fun i j hi hj hne => by
    have hi : i < n := hi
    have hj : j < n := hj
    exact ⟨inj HRO.diff (by omega) (by omega) hne, inj HRT.diff (by omega) (by omega) hne⟩, fun k hk => ?_⟩
  · have := (HRO.row k _ (hbo k hk)).1
    have e : rowB (fun _ _ => (false, 0)) k (lenOf l k) = Array.replicate (lenOf l k) (Value.bool false) := by unfold rowB; rw [List.map_const', List.length_range]; simp
    show Blk wr (bo.getD k 0) _ (rowB _ k (lenOf l k))
    rw [e]; exact this
  · have := (HRT.row k _ (hbt k hk)).1
    have e : rowI (fun _ _ => (false, 0)) k (lenOf l k) = Array.replicate (lenOf l k) (Value.int .i64 0) := by unfold rowI; rw [List.map_const', List.length_range]; simp
    show Blk wr (bt.getD k 0) _ (rowI _ k (lenOf l k))
    rw [e]; exact this
  · have e : ((List.replicate n false).map Value.bool).toArray = Array.replicate n (Value.bool false) := by simp
    rw [e]; exact HGV
  · rintro i (e | ⟨k, hk, e | e⟩)
    · have e : i = w.heap.size := e
      show w.heap.size ≤ i
      omega
    · have e : i = bo.getD k 0 := e
      have := (HRO.row k _ (hbo k hk)).2
      show w.heap.size ≤ i
      omega
    · have e : i = bt.getD k 0 := e
      have := (HRT.row k _ (hbt k hk)).2
      show w.heap.size ≤ i
      omega
  · have := (HRO.row k _ (hbo k hk)).2
    show bo.getD k 0 ≠ w.heap.size
    omega
end Go.Proofs.Ytpamgeemmbbkkaa
