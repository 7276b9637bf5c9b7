/- A step of a relay, plain: its two phases. No program. A relay in memory, and a step's evaluations over it: words for the walk of Step. No condition. -/
import Derived.Test.YtpamgeemmbbkkaaBlk10
namespace Go.Proofs.Ytpamgeemmbbkkaa.Pl
/-- whether a flag stands, of the rules' values vs -/
def flR (R : ByteArray → Int) (B : ByteArray → Bool) (vs : List Bool) (nm : ByteArray) : Bool := if 0 ≤ R nm then vs.getD (R nm).toNat false else B nm
theorem flR_congr {R : ByteArray → Int} {B : ByteArray → Bool} {vs vs' : List Bool} {nm : ByteArray} (h : 0 ≤ R nm → vs.getD (R nm).toNat false = vs'.getD (R nm).toNat false) : flR R B vs nm = flR R B vs' nm := by
  unfold flR
  split
  · rename_i h0; exact h h0
  · rfl
theorem getD_set_same {vs : List Bool} {i : Nat} (h : i < vs.length) (b : Bool) : (vs.set i b).getD i false = b := by simp [List.getD, h]
theorem getD_set_ne' {vs : List Bool} {i j : Nat} (h : i ≠ j) (b : Bool) : (vs.set i b).getD j false = vs.getD j false := by simp [List.getD, h]
section
variable {n : Nat} {ND : Nat → List Int} {ol : List Int} {R : ByteArray → Int} {B : ByteArray → Bool} {ms : Int} {κ0 : Nat → Nat → Mem} {tr : Nat → RT}
theorem OrdOk.not_in {j : Nat} (h : OrdOk ND n ol) (hj : j < ol.length) : ol[j] ∉ ol.take j := by
  intro hm
  have h1 := h.1
  rw [← List.take_append_drop j ol, List.nodup_append] at h1
  rw [List.drop_eq_getElem_cons hj] at h1
  exact h1.2.2 _ hm ol[j] (List.mem_cons_self ..) rfl
theorem mem_take_succ {j : Nat} (hj : j < ol.length) {x : Int} : x ∈ ol.take (j + 1) ↔ x ∈ ol.take j ∨ x = ol[j] := by
  rw [List.take_succ_eq_append_getElem hj, List.mem_append, List.mem_singleton]
theorem take_needs (h : OrdOk ND n ol) {j : Nat} {x k : Int} (hx : x ∈ ol.take j) (hk : k ∈ ND x.toNat) : k ∈ ol.take j := by
  obtain ⟨i, hi, e⟩ := List.mem_iff_getElem.1 hx
  rw [List.getElem_take] at e
  rw [List.length_take] at hi
  subst e
  have := h.2.2 i (by omega) k hk
  have h2 := (List.take_sublist_take_left (l := ol) (show i ≤ j by omega)).subset
  exact h2 this
/-- the values of all rules, each reckoned from the others -/
theorem vals_exist (h : OrdOk ND n ol) (hl : ol.length = n) (hnd : ∀ i, i < n → ∀ nm ∈ nds (tr i), 0 ≤ R nm → R nm ∈ ND i) :
    ∃ V : List Bool, V.length = n ∧ ∀ i, i < n → V.getD i false = val (flR R B V) ms (κ0 i) (tr i) := by
  have key : ∀ j, j ≤ n → ∃ V : List Bool, V.length = n ∧ ∀ i : Nat, i < n → (i : Int) ∈ ol.take j → V.getD i false = val (flR R B V) ms (κ0 i) (tr i) := by
    intro j
    induction j with
    | zero => intro _; exact ⟨List.replicate n false, by simp, fun i _ hi => by simp at hi⟩
    | succ j ih =>
      intro hj
      obtain ⟨V, hV, hh⟩ := ih (by omega)
      have hjl : j < ol.length := by omega
      have hr := h.2.1 ol[j] (List.getElem_mem hjl)
      refine ⟨V.set ol[j].toNat (val (flR R B V) ms (κ0 ol[j].toNat) (tr ol[j].toNat)), by simpa using hV, fun i hi hm => ?_⟩
      have hfl : ∀ nm ∈ nds (tr i), flR R B (V.set ol[j].toNat (val (flR R B V) ms (κ0 ol[j].toNat) (tr ol[j].toNat))) nm = flR R B V nm := by
        intro nm hn
        refine flR_congr (fun h0 => getD_set_ne' (fun e => ?_) _)
        have h1 := hnd i hi nm hn h0
        have h2 : R nm ∈ ol.take j := by
          rcases (mem_take_succ hjl).1 hm with hm | hm
          · exact take_needs h hm (by simpa using h1)
          · exact h.2.2 j hjl _ (by rw [← hm]; simpa using h1)
        refine h.not_in hjl ?_
        rw [show ol[j] = R nm by omega]
        exact h2
      rw [val_fl (tr i) hfl]
      rcases (mem_take_succ hjl).1 hm with hm | hm
      · rw [getD_set_ne' (fun e => h.not_in hjl (by rw [show ol[j] = (i : Int) by omega]; exact hm))]
        exact hh i hi hm
      · have e : ol[j].toNat = i := by omega
        rw [e, getD_set_same (by omega)]
  obtain ⟨V, hV, hh⟩ := key n (Nat.le_refl _)
  refine ⟨V, hV, fun i hi => hh i hi ?_⟩
  rw [← hl, List.take_length]
  exact h.all hl i hi
/-- at its turn a rule's flags are settled -/
theorem turn_flags (h : OrdOk ND n ol) (hl : ol.length = n) (hnd : ∀ i, i < n → ∀ nm ∈ nds (tr i), 0 ≤ R nm → R nm ∈ ND i) {j : Nat} (hj : j < n) {vs V : List Bool} {i : Nat} (hi : ol[j]'(by omega) = (i : Int))
    (hv : ∀ x : Nat, (x : Int) ∈ ol.take j → vs.getD x false = V.getD x false) : ∀ nm ∈ nds (tr i), flR R B vs nm = flR R B V nm := by
  intro nm hn
  have hr := h.2.1 ol[j] (List.getElem_mem _)
  refine flR_congr (fun h0 => ?_)
  have h1 := hnd i (by omega) nm hn h0
  have h2 := h.2.2 j (by omega) (R nm) (by rw [hi]; simpa using h1)
  exact hv _ (by rw [show ((R nm).toNat : Int) = R nm by omega]; exact h2)
end
structure Item where
  k : Nat
  at_ : Nat
  a : RT
def Item.has (x : Item) (k p : Nat) : Prop := x.k = k ∧ (p = x.at_ ∨ p ∈ plc x.a)
def loadQ (Q : List Item) : Nat := (Q.map fun x => sz x.a + 1).sum
def qOf (Q : List Item) : List (Nat × Nat) := Q.map fun x => (x.k, x.at_)
def kidsI (k : Nat) (t : RT) : List Item := (dls t).map fun d => ⟨k, d.1, d.2⟩
theorem qOf_kids (k : Nat) (t : RT) : qOf (kidsI k t) = (dls t).map fun d => (k, d.1) := by unfold qOf kidsI; rw [List.map_map]; rfl
theorem loadQ_append (a b : List Item) : loadQ (a ++ b) = loadQ a + loadQ b := by unfold loadQ; simp
theorem loadQ_kids (k : Nat) (t : RT) : loadQ (kidsI k t) ≤ sz t := by
  have := load_dls t
  unfold loadQ kidsI
  rw [List.map_map]
  exact this
theorem loadQ_len (Q : List Item) : Q.length ≤ loadQ Q := by
  induction Q with
  | nil => simp [loadQ]
  | cons x Q ih =>
    show Q.length + 1 ≤ loadQ ([x] ++ Q)
    rw [loadQ_append]
    have : 1 ≤ loadQ [x] := by simp [loadQ]
    omega
/-- what waits, and what is done -/
structure Inv (n : Nat) (ex : Nat → List RN) (F : ByteArray → Bool) (ms : Int) (κ0 κs κ : Nat → Nat → Mem) (Q : List Item) : Prop where
  tree : ∀ x ∈ Q, x.k < n ∧ IsT (ex x.k) (x.at_ + 1) (x.at_ + 1 + sz x.a) x.a
  old : ∀ x ∈ Q, ∀ p ∈ plc x.a, κ x.k p = κ0 x.k p
  at1 : ∀ x ∈ Q, κ x.k x.at_ = ((κ0 x.k x.at_).1, tim ms (κ0 x.k x.at_))
  fin1 : ∀ x ∈ Q, κs x.k x.at_ = (val F ms (κ0 x.k) x.a, tim ms (κ0 x.k x.at_))
  finp : ∀ x ∈ Q, ∀ p ∈ plc x.a, κs x.k p = app (κ0 x.k) (fin F ms (κ0 x.k) x.a) p
  rest : ∀ k p, (∀ x ∈ Q, ¬ x.has k p) → κ k p = κs k p
  apart : Q.Pairwise fun x y => x.k = y.k → x.at_ + 1 + sz x.a ≤ y.at_ ∨ y.at_ + 1 + sz y.a ≤ x.at_
theorem Inv.nil {n : Nat} {ex : Nat → List RN} {F : ByteArray → Bool} {ms : Int} {κ0 κs κ : Nat → Nat → Mem} (h : Inv n ex F ms κ0 κs κ []) : κ = κs := by
  funext k p; exact h.rest k p (fun x hx => by cases hx)
theorem kapp_other {κ : Nat → Nat → Mem} {k l p : Nat} {us : List (Nat × Mem)} (h : l ≠ k) : kapp κ k us l p = κ l p := by unfold kapp; rw [if_neg h]
theorem Item.has_in {ex : Nat → List RN} {x : Item} {k p : Nat} (ht : IsT (ex x.k) (x.at_ + 1) (x.at_ + 1 + sz x.a) x.a) (h : x.has k p) : x.at_ ≤ p ∧ p < x.at_ + 1 + sz x.a := by
  have := sz_pos x.a
  rcases h.2 with rfl | hp
  · omega
  · have := plc_in ht p hp; omega
theorem Inv.pop {n : Nat} {ex : Nat → List RN} {F : ByteArray → Bool} {ms : Int} {κ0 κs κ : Nat → Nat → Mem} {x : Item} {Q : List Item} (h : Inv n ex F ms κ0 κs κ (x :: Q)) :
    Inv n ex F ms κ0 κs (kapp (kapp κ x.k (upd F ms (κ x.k) x.a)) x.k [(x.at_, (val F ms (κ x.k) x.a, (kapp κ x.k (upd F ms (κ x.k) x.a) x.k x.at_).2))]) (Q ++ kidsI x.k x.a) := by
  have hx : x ∈ x :: Q := by simp
  have hs : ∀ y ∈ Q, y ∈ x :: Q := fun y hy => by simp [hy]
  have ht := (h.tree x hx).2
  have K := kids ht F ms (κ0 x.k)
  have ev : val F ms (κ x.k) x.a = val F ms (κ0 x.k) x.a := val_congr x.a (h.old x hx)
  have eu : upd F ms (κ x.k) x.a = upd F ms (κ0 x.k) x.a := upd_congr x.a (h.old x hx)
  rw [ev, eu]
  have hin := plc_in ht
  have hup : ∀ u ∈ upd F ms (κ0 x.k) x.a, u.1 ∈ plc x.a := upd_pos x.a
  have e1 : kapp κ x.k (upd F ms (κ0 x.k) x.a) x.k x.at_ = ((κ0 x.k x.at_).1, tim ms (κ0 x.k x.at_)) := by
    rw [kapp_self, app_out _ _ (fun u hu e => by have := hin _ (hup u hu); omega)]
    exact h.at1 x hx
  rw [e1]
  generalize hκ : kapp (kapp κ x.k (upd F ms (κ0 x.k) x.a)) x.k [(x.at_, (val F ms (κ0 x.k) x.a, tim ms (κ0 x.k x.at_)))] = κ2
  have c1 : κ2 x.k x.at_ = (val F ms (κ0 x.k) x.a, tim ms (κ0 x.k x.at_)) := by
    rw [← hκ, kapp_self]; simp [app, put1]
  have c2 : ∀ p ∈ plc x.a, κ2 x.k p = app (κ0 x.k) (upd F ms (κ0 x.k) x.a) p := by
    intro p hp
    have := hin p hp
    rw [← hκ, kapp_self, app_out _ _ (fun u hu e => by simp at hu; subst hu; simp at e; omega), kapp_self]
    exact app_at _ _ _ (h.old x hx p hp)
  have c3 : ∀ k p, ¬ x.has k p → κ2 k p = κ k p := by
    intro k p hn
    by_cases hk : k = x.k
    · subst hk
      rw [← hκ, kapp_self, app_out _ _ (fun u hu e => by simp at hu; subst hu; simp at e; exact hn ⟨rfl, .inl e.symm⟩), kapp_self, app_out _ _ (fun u hu e => hn ⟨rfl, .inr (by rw [← e]; exact hup u hu)⟩)]
    · rw [← hκ, kapp_other hk, kapp_other hk]
  have hap := List.pairwise_cons.1 h.apart
  have far : ∀ y ∈ Q, ∀ p, y.has y.k p → ¬ x.has y.k p := fun y hy p hp hxp => by
    have b1 := Item.has_in (ex := ex) (h.tree y (hs y hy)).2 hp
    have b2 := Item.has_in (ex := ex) ht hxp
    have := hap.1 y hy hxp.1
    omega
  have kid : ∀ y ∈ kidsI x.k x.a, ∃ d ∈ dls x.a, y = ⟨x.k, d.1, d.2⟩ := fun y hy => by
    obtain ⟨d, hd, e⟩ := List.mem_map.1 hy
    exact ⟨d, hd, e.symm⟩
  refine ⟨?_, ?_, ?_, ?_, ?_, ?_, ?_⟩
  · intro y hy
    rcases List.mem_append.1 hy with hy | hy
    · exact h.tree y (hs y hy)
    · obtain ⟨d, hd, rfl⟩ := kid y hy
      exact ⟨(h.tree x hx).1, (K.tree d hd).1⟩
  · intro y hy p hp
    rcases List.mem_append.1 hy with hy | hy
    · rw [c3 _ _ (far y hy p ⟨rfl, .inr hp⟩)]; exact h.old y (hs y hy) p hp
    · obtain ⟨d, hd, rfl⟩ := kid y hy
      show κ2 x.k p = κ0 x.k p
      rw [c2 p ((K.low d hd).2 p hp)]; exact K.upd_in d hd p hp
  · intro y hy
    rcases List.mem_append.1 hy with hy | hy
    · rw [c3 _ _ (far y hy _ ⟨rfl, .inl rfl⟩)]; exact h.at1 y (hs y hy)
    · obtain ⟨d, hd, rfl⟩ := kid y hy
      show κ2 x.k d.1 = _
      rw [c2 _ (K.low d hd).1]; exact K.upd_at d hd
  · intro y hy
    rcases List.mem_append.1 hy with hy | hy
    · exact h.fin1 y (hs y hy)
    · obtain ⟨d, hd, rfl⟩ := kid y hy
      show κs x.k d.1 = _
      rw [h.finp x hx _ (K.low d hd).1]; exact K.fin_at d hd
  · intro y hy p hp
    rcases List.mem_append.1 hy with hy | hy
    · exact h.finp y (hs y hy) p hp
    · obtain ⟨d, hd, rfl⟩ := kid y hy
      show κs x.k p = _
      rw [h.finp x hx _ ((K.low d hd).2 p hp)]; exact K.fin_in d hd p hp
  · intro k p hno
    by_cases hxp : x.has k p
    · obtain ⟨hk, hp⟩ := hxp
      subst hk
      rcases hp with rfl | hp
      · rw [c1]; exact (h.fin1 x hx).symm
      · rw [c2 p hp, h.finp x hx p hp]
        refine K.rest p hp (fun d hd => ?_)
        have := hno ⟨x.k, d.1, d.2⟩ (List.mem_append_right _ (List.mem_map.2 ⟨d, hd, rfl⟩))
        exact ⟨fun e => this ⟨rfl, .inl e⟩, fun e => this ⟨rfl, .inr e⟩⟩
    · rw [c3 k p hxp]
      refine h.rest k p (fun y hy => ?_)
      rcases List.mem_cons.1 hy with rfl | hy
      · exact hxp
      · exact hno y (List.mem_append_left _ hy)
  · rw [List.pairwise_append]
    refine ⟨hap.2, ?_, fun y hy z hz => ?_⟩
    · unfold kidsI
      rw [List.pairwise_map]
      exact K.pair.imp (fun {a b} h _ => .inl h)
    · obtain ⟨d, hd, rfl⟩ := kid z hz
      intro e
      have b := K.tree d hd
      have := hap.1 y hy e.symm
      show y.at_ + 1 + sz y.a ≤ d.1 ∨ d.1 + 1 + sz d.2 ≤ y.at_
      omega
/-- the state behind the first phase -/
def firstQ (tr : Nat → RT) (l : List Int) : List Item := l.flatMap fun i => kidsI i.toNat (tr i.toNat)
def κfin (n : Nat) (tr : Nat → RT) (F : ByteArray → Bool) (ms : Int) (κ0 : Nat → Nat → Mem) : Nat → Nat → Mem := fun k p => if k < n then app (κ0 k) (fin F ms (κ0 k) (tr k)) p else κ0 k p
def κone (tr : Nat → RT) (F : ByteArray → Bool) (ms : Int) (κ0 : Nat → Nat → Mem) (l : List Int) : Nat → Nat → Mem := fun k p => if (k : Int) ∈ l then app (κ0 k) (upd F ms (κ0 k) (tr k)) p else κ0 k p
theorem firstQ_snoc (tr : Nat → RT) (l : List Int) (i : Nat) : firstQ tr (l ++ [(i : Int)]) = firstQ tr l ++ kidsI i (tr i) := by unfold firstQ; simp
theorem κone_snoc {tr : Nat → RT} {F : ByteArray → Bool} {ms : Int} {κ0 : Nat → Nat → Mem} {l : List Int} {i : Nat} (hi : (i : Int) ∉ l) :
    κone tr F ms κ0 (l ++ [(i : Int)]) = kapp (κone tr F ms κ0 l) i (upd F ms (κ0 i) (tr i)) := by
  funext k p
  by_cases hk : k = i
  · subst hk
    rw [kapp_self]
    unfold κone
    rw [if_pos (by simp)]
    refine app_at _ _ _ ?_
    rw [if_neg hi]
  · rw [kapp_other hk]
    unfold κone
    have : ((k : Int) ∈ l ++ [(i : Int)]) ↔ (k : Int) ∈ l := by simp; omega
    simp [this]
theorem κone_at {tr : Nat → RT} {F : ByteArray → Bool} {ms : Int} {κ0 : Nat → Nat → Mem} {l : List Int} {i : Nat} (hi : (i : Int) ∉ l) : κone tr F ms κ0 l i = κ0 i := by
  funext p; unfold κone; rw [if_neg hi]
theorem inv_first {n : Nat} {ND : Nat → List Int} {ol : List Int} {ex : Nat → List RN} {tr : Nat → RT} {F : ByteArray → Bool} {ms : Int} {κ0 : Nat → Nat → Mem} (h : OrdOk ND n ol) (hl : ol.length = n)
    (ht : ∀ k, k < n → ∃ e, IsT (ex k) 0 e (tr k)) : Inv n ex F ms κ0 (κfin n tr F ms κ0) (κone tr F ms κ0 ol) (firstQ tr ol) := by
  have all := h.all hl
  have mem : ∀ k : Nat, (k : Int) ∈ ol ↔ k < n := fun k => ⟨fun hk => by have := h.2.1 _ hk; omega, all k⟩
  have K : ∀ k, k < n → ∃ e, Kids (ex k) 0 e F ms (κ0 k) (tr k) := fun k hk => by
    obtain ⟨e, he⟩ := ht k hk
    exact ⟨e, kids he F ms (κ0 k)⟩
  have kid : ∀ x ∈ firstQ tr ol, ∃ k, k < n ∧ ∃ d ∈ dls (tr k), x = ⟨k, d.1, d.2⟩ := fun x hx => by
    obtain ⟨i, hi, hx⟩ := List.mem_flatMap.1 hx
    have := h.2.1 i hi
    obtain ⟨d, hd, e⟩ := List.mem_map.1 hx
    exact ⟨i.toNat, by omega, d, hd, e.symm⟩
  have e1 : ∀ k, k < n → ∀ p, κone tr F ms κ0 ol k p = app (κ0 k) (upd F ms (κ0 k) (tr k)) p := fun k hk p => by unfold κone; rw [if_pos ((mem k).2 hk)]
  have e2 : ∀ k, k < n → ∀ p, κfin n tr F ms κ0 k p = app (κ0 k) (fin F ms (κ0 k) (tr k)) p := fun k hk p => by unfold κfin; rw [if_pos hk]
  refine ⟨?_, ?_, ?_, ?_, ?_, ?_, ?_⟩
  · intro x hx
    obtain ⟨k, hk, d, hd, rfl⟩ := kid x hx
    obtain ⟨e, Kk⟩ := K k hk
    exact ⟨hk, (Kk.tree d hd).1⟩
  · intro x hx p hp
    obtain ⟨k, hk, d, hd, rfl⟩ := kid x hx
    obtain ⟨e, Kk⟩ := K k hk
    show κone tr F ms κ0 ol k p = κ0 k p
    rw [e1 k hk]; exact Kk.upd_in d hd p hp
  · intro x hx
    obtain ⟨k, hk, d, hd, rfl⟩ := kid x hx
    obtain ⟨e, Kk⟩ := K k hk
    show κone tr F ms κ0 ol k d.1 = _
    rw [e1 k hk]; exact Kk.upd_at d hd
  · intro x hx
    obtain ⟨k, hk, d, hd, rfl⟩ := kid x hx
    obtain ⟨e, Kk⟩ := K k hk
    show κfin n tr F ms κ0 k d.1 = _
    rw [e2 k hk]; exact Kk.fin_at d hd
  · intro x hx p hp
    obtain ⟨k, hk, d, hd, rfl⟩ := kid x hx
    obtain ⟨e, Kk⟩ := K k hk
    show κfin n tr F ms κ0 k p = _
    rw [e2 k hk]; exact Kk.fin_in d hd p hp
  · intro k p hno
    by_cases hk : k < n
    · rw [e1 k hk, e2 k hk]
      obtain ⟨e, Kk⟩ := K k hk
      by_cases hp : p ∈ plc (tr k)
      · refine Kk.rest p hp (fun d hd => ?_)
        have := hno ⟨k, d.1, d.2⟩ (List.mem_flatMap.2 ⟨(k : Int), all k hk, List.mem_map.2 ⟨d, by simpa using hd, by simp⟩⟩)
        exact ⟨fun e => this ⟨rfl, .inl e⟩, fun e => this ⟨rfl, .inr e⟩⟩
      · rw [app_out _ _ (fun u hu e => hp (by rw [← e]; exact upd_pos _ u hu)), app_out _ _ (fun u hu e => hp (by rw [← e]; exact fin_pos _ u hu))]
    · unfold κone κfin
      rw [if_neg (fun h => hk ((mem k).1 h)), if_neg hk]
  · unfold firstQ
    rw [List.pairwise_flatMap]
    refine ⟨fun i hi => ?_, ?_⟩
    · have := h.2.1 i hi
      obtain ⟨e, Kk⟩ := K i.toNat (by omega)
      unfold kidsI
      rw [List.pairwise_map]
      exact Kk.pair.imp (fun {a b} h _ => .inl h)
    · refine (List.nodup_iff_pairwise_ne.1 h.1).imp_of_mem (fun {i j} hi hj hne x hx y hy e => ?_)
      obtain ⟨d, hd, rfl⟩ := List.mem_map.1 hx
      obtain ⟨d', hd', rfl⟩ := List.mem_map.1 hy
      have := h.2.1 i hi
      have := h.2.1 j hj
      have e : i.toNat = j.toNat := e
      omega
theorem loadQ_first {tr : Nat → RT} {M : Nat} : ∀ (l : List Int), (∀ i ∈ l, sz (tr i.toNat) ≤ M) → loadQ (firstQ tr l) ≤ l.length * M
  | [], _ => by simp [firstQ, loadQ]
  | i :: l, h => by
    have ih := loadQ_first l (fun j hj => h j (by simp [hj]))
    have h1 := loadQ_kids i.toNat (tr i.toNat)
    have h2 := h i (by simp)
    show loadQ (kidsI i.toNat (tr i.toNat) ++ firstQ tr l) ≤ (l.length + 1) * M
    rw [loadQ_append, Nat.add_mul]
    omega
end Go.Proofs.Ytpamgeemmbbkkaa.Pl
namespace Go.Proofs.Ytpamgeemmbbkkaa
open Go.RowKit
/-- a relay: its rules, their order, values and what is kept; below B lies what is never written -/
structure RIn (w : World) (B r gv b : Nat) (A : Option Addr) (n c : Nat) (l : List MRul) (AO : Option Addr) (cO : Nat) (ol : List Int) (vs : List Bool) (nK : Nat) (κ : Nat → Nat → Pl.Mem) : Prop where
  rel : Blk w r 153 #[.slice A n c, .slice AO n cO, .slice (some ⟨gv, 0, none⟩) n n, .map (some b)]
  val : Bools w gv n vs
  rules : Ruls w B A n l
  ord : Reads w B 1 AO n (ints ol)
  map : KMap w b nK κ
  low : B ≤ gv ∧ B ≤ b ∧ B ≤ w.heap.size
  small : n ≤ 16
section
variable {w w' : World} {B s r gv b : Nat} {A : Option Addr} {n c : Nat} {l : List MRul} {AO : Option Addr} {cO : Nat} {ol : List Int} {vs : List Bool} {ms : Int} {Af : Option Addr} {nf cf : Nat} {fs : List ByteArray} {vL : Value} {q : List (Nat × Nat)} {nK : Nat} {κ : Nat → Nat → Pl.Mem}
theorem RIn.go (h : RIn w B r gv b A n c l AO cO ol vs nK κ) (hb : Below w.heap.size w w') : RIn w' B r gv b A n c l AO cO ol vs nK κ :=
  ⟨h.rel.go hb, h.val.go hb, h.rules.below (hb.mono h.low.2.2), h.ord.below (hb.mono h.low.2.2), h.map.fr (S := fun _ => False) (Fr.of_below hb) (fun h => h), ⟨h.low.1, h.low.2.1, Nat.le_trans h.low.2.2 hb.size⟩, h.small⟩
/-- a step's record beside it -/
theorem RIn.ev (h : RIn w B r gv b A n c l AO cO ol vs nK κ) (hs : Blk w s 162 #[.pointer (some ⟨r, 0, none⟩), .int .i64 ms, .slice Af nf cf, .slice none 0 0, vL]) (hf : Reads w B 1 Af nf (txts fs)) (hnf : nf ≤ 1000) (hB : B ≤ s) (hq : PQ w B vL q) :
    EvIn w B s r gv b A n c l (.slice AO n cO) vs ms Af nf cf fs vL q nK κ :=
  ⟨hs, h.rel, h.val, hf, h.rules, ⟨by have := h.small; omega, hnf⟩, h.map, hq, ⟨hB, h.low.2.1, h.low.2.2⟩⟩
/-- and back -/
theorem EvIn.rin (h : EvIn w B s r gv b A n c l (.slice AO n cO) vs ms Af nf cf fs vL q nK κ) (ho : Reads w B 1 AO n (ints ol)) (hB : B ≤ gv) (hn : n ≤ 16) : RIn w B r gv b A n c l AO cO ol vs nK κ :=
  ⟨h.rel, h.val, h.rules, ho, h.map, ⟨hB, h.low.2.1, h.low.2.2⟩, hn⟩
theorem Bools.set_ {g : Nat} (h : Bools w g n vs) (i : Nat) (x : Bool) : Bools (w.setCell ⟨g, i, none⟩ (.bool x)) g n (vs.set i x) := by
  refine ⟨by simpa using h.1, ?_⟩
  have := h.2.set_ i (.bool x)
  have e : (vs.map Value.bool).toArray.setIfInBounds i (.bool x) = ((vs.set i x).map Value.bool).toArray := by
    rw [List.map_set]; simp
  rw [e] at this
  exact this
/-- a rule's value is stored -/
theorem EvIn.setVal {O : Value} (h : EvIn w B s r gv b A n c l O vs ms Af nf cf fs vL q nK κ) (hB : B ≤ gv) (i : Nat) (x : Bool) : EvIn (w.setCell ⟨gv, i, none⟩ (.bool x)) B s r gv b A n c l O (vs.set i x) ms Af nf cf fs vL q nK κ := by
  have hbel : Below B w (w.setCell ⟨gv, i, none⟩ (.bool x)) := (Below.refl B w).setCell hB _
  have hgs : s ≠ gv := fun e => by subst e; exact h.st.ne_ h.val.2 (by decide) rfl
  have hgr : r ≠ gv := fun e => by subst e; exact h.rel.ne_ h.val.2 (by decide) rfl
  have hgb : b ≠ gv := fun e => h.map.ne h.val.2 e.symm
  have f : Fr (fun i => i = gv) w (w.setCell ⟨gv, i, none⟩ (.bool x)) := (Fr.refl _ w).set_ _ _ (.inr rfl)
  refine ⟨f.blk h.st hgs, f.blk h.rel hgr, h.val.set_ i x, h.fl.below hbel, h.rules.below hbel, h.small, h.map.fr f hgb, h.que.fr f (fun g e e2 => ?_), ⟨h.low.1, h.low.2.1, by simpa using h.low.2.2⟩⟩
  obtain ⟨_, cur, hc⟩ := h.que.own e
  subst e2
  exact hc.ne_ h.val.2 (by decide) rfl
/-- the step's record is written: the queue's cut -/
theorem EvIn.setQ {O v' : Value} {q' : List (Nat × Nat)} (h : EvIn w B s r gv b A n c l O vs ms Af nf cf fs vL q nK κ) (hq : PQ w B v' q') (hv : ∀ g, v'.ownBlock = some g → vL.ownBlock = some g) : EvIn (w.setCell ⟨s, 4, none⟩ v') B s r gv b A n c l O vs ms Af nf cf fs v' q' nK κ := by
  have hbel : Below B w (w.setCell ⟨s, 4, none⟩ v') := (Below.refl B w).setCell h.low.1 _
  have f : Fr (fun i => i = s) w (w.setCell ⟨s, 4, none⟩ v') := (Fr.refl _ w).set_ _ _ (.inr rfl)
  refine ⟨h.st.set_ 4 v', f.blk h.rel (fun e => by subst e; exact h.rel.ne_ h.st (by decide) rfl), ⟨h.val.1, f.blk h.val.2 (fun e => by subst e; exact h.val.2.ne_ h.st (by decide) rfl)⟩, h.fl.below hbel, h.rules.below hbel, h.small, h.map.fr f (fun e => h.sb e.symm), hq.fr f (fun g e e2 => ?_), ⟨h.low.1, h.low.2.1, by simpa using h.low.2.2⟩⟩
  obtain ⟨_, cur, hc⟩ := h.que.own (hv g e)
  subst e2
  exact hc.ne_ h.st (by decide) rfl
end
end Go.Proofs.Ytpamgeemmbbkkaa
