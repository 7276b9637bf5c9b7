/- The search for a source from the place of a fault, plain: trees of reached nodes. No program. -/
import Derived.Test.YtpamgeemmbbkkaaPNet
namespace Go.Proofs.Ytpamgeemmbbkkaa.Pl
/-- an edge between two nodes; a breaker lets one unit through, anything else a thousand -/
structure Edg where
  a : Int
  b : Int
  name : ByteArray
  breaker : Bool
  flow : Int
/-- what can still flow over an edge from a node -/
def roomE (e : Edg) (u : Int) : Int := (if e.breaker then 1 else 1000) - (if u = e.b then -e.flow else e.flow)
/-- an edge leads on from u to v -/
def Leads (e : Edg) (u v : Int) : Prop := (e.a = u ∧ e.b = v ∨ e.b = u ∧ e.a = v) ∧ 0 < roomE e u
/-- a field: its edges are between different nodes, the place is a node -/
structure FieldOk (E : List Edg) (place n : Int) : Prop where
  ends : ∀ e ∈ E, 0 ≤ e.a ∧ e.a < n ∧ 0 ≤ e.b ∧ e.b < n ∧ e.a ≠ e.b
  place : 0 ≤ place ∧ place < n
/-- nodes in the order in which they were reached, and how -/
structure Tree (E : List Edg) (place : Int) (n : Nat) (by_ : List Int) (o : List Int) : Prop where
  len : by_.length = n
  head : ∃ r, o = place :: r
  nodup : o.Nodup
  inn : ∀ v ∈ o, 0 ≤ v ∧ v < n
  root : by_[place.toNat]? = some (-2)
  out : ∀ v : Nat, v < n → ((v : Int) ∉ o ↔ by_[v]? = some (-1))
  way : ∀ (i : Nat) (v : Int), o[i]? = some v → 0 < i → ∃ (k : Nat) (e : Edg) (j : Nat) (u : Int), by_[v.toNat]? = some (k : Int) ∧ E[k]? = some e ∧ j < i ∧ o[j]? = some u ∧ Leads e u v
/-- the first d nodes are done: none is a source, and nothing leads out of them but to reached ones -/
def Done (E : List Edg) (src : List Bool) (o : List Int) (d : Nat) : Prop :=
  ∀ (i : Nat) (u : Int), i < d → o[i]? = some u → src[u.toNat]? = some false ∧ ∀ e ∈ E, ∀ v, Leads e u v → v ∈ o
theorem roomE_other {e : Edg} {u v : Int} (h : Leads e u v) : v = e.a + e.b - u := by
  obtain ⟨h | h, _⟩ := h <;> omega
theorem Tree.start {E : List Edg} {place : Int} {n : Nat} (hp : 0 ≤ place ∧ place < n) : Tree E place n ((List.replicate n (-1)).set place.toNat (-2)) [place] := by
  have hl : place.toNat < n := by omega
  refine ⟨by simp, ⟨[], rfl⟩, by simp, by simpa using hp, by simp [hl], fun v hv => ?_, fun i v hi h0 => ?_⟩
  · rw [List.getElem?_set]
    by_cases h : place.toNat = v
    · have : (v : Int) = place := by omega
      simp [h, this]
    · have : ¬ (v : Int) = place := by omega
      simp [h, this, hv]
  · cases i with
    | zero => omega
    | succ i => simp at hi
/-- a node is reached for the first time -/
theorem Tree.add {E : List Edg} {place : Int} {n : Nat} {by_ o : List Int} (h : Tree E place n by_ o) {k : Nat} {e : Edg} {i : Nat} {u v : Int} (hk : E[k]? = some e) (hi : o[i]? = some u) (hl : Leads e u v) (hv : 0 ≤ v ∧ v < n) (hn : by_[v.toNat]? = some (-1)) :
    Tree E place n (by_.set v.toNat k) (o ++ [v]) := by
  have hvo : v ∉ o := by
    have := (h.out v.toNat (by omega)).2 hn
    rwa [show ((v.toNat : Nat) : Int) = v by omega] at this
  obtain ⟨r, hr⟩ := h.head
  have hpo : place ∈ o := by rw [hr]; simp
  have hpv : place ≠ v := fun e => hvo (e ▸ hpo)
  have hp := h.inn place hpo
  have hil : i < o.length := (List.getElem?_eq_some_iff.1 hi).1
  refine ⟨by simp [h.len], ⟨r ++ [v], by rw [hr]; rfl⟩, ?_, ?_, ?_, fun w hw => ?_, fun j w hj h0 => ?_⟩
  · rw [List.nodup_append]
    exact ⟨h.nodup, by simp, fun a ha b hb => by simp at hb; subst hb; exact fun e => hvo (e ▸ ha)⟩
  · intro w hw
    rcases List.mem_append.1 hw with hw | hw
    · exact h.inn w hw
    · simp at hw; subst hw; exact hv
  · rw [List.getElem?_set_ne (by omega)]; exact h.root
  · by_cases hwv : v.toNat = w
    · have : (w : Int) = v := by omega
      rw [this]
      simp [hwv, h.len, hw]
    · have : ¬ (w : Int) = v := by omega
      rw [List.getElem?_set_ne hwv, ← h.out w hw]
      simp [this]
  · rcases Nat.lt_or_ge j o.length with hjl | hjl
    · rw [List.getElem?_append_left hjl] at hj
      obtain ⟨k', e', j', u', h1, h2, h3, h4, h5⟩ := h.way j w hj h0
      have hwo : w ∈ o := List.mem_of_getElem? hj
      have hwv : w ≠ v := fun e => hvo (e ▸ hwo)
      have hw := h.inn w hwo
      exact ⟨k', e', j', u', by rw [List.getElem?_set_ne (by omega)]; exact h1, h2, h3, by rw [List.getElem?_append_left (by omega)]; exact h4, h5⟩
    · rw [List.getElem?_append_right hjl] at hj
      have hj0 : j - o.length = 0 := by
        rcases Nat.eq_zero_or_pos (j - o.length) with h | h
        · exact h
        · rw [List.getElem?_eq_none (by simp; omega)] at hj; cases hj
      rw [hj0] at hj
      simp at hj
      subst hj
      have hvl : v.toNat < by_.length := by rw [h.len]; omega
      exact ⟨k, e, i, u, by simp [hvl], hk, by omega, by rw [List.getElem?_append_left hil]; exact hi, hl⟩
theorem Done.add {E : List Edg} {src : List Bool} {o : List Int} {d : Nat} (h : Done E src o d) (hd : d ≤ o.length) (v : Int) : Done E src (o ++ [v]) d := by
  intro i u hi hu
  rw [List.getElem?_append_left (by omega)] at hu
  obtain ⟨a, b⟩ := h i u hi hu
  exact ⟨a, fun e he w hw => List.mem_append_left _ (b e he w hw)⟩
theorem Tree.short {E : List Edg} {place : Int} {n : Nat} {by_ o : List Int} (h : Tree E place n by_ o) : o.length ≤ n := by
  have hm : (o.map Int.toNat).Nodup := by
    have : ∀ l : List Int, (∀ v ∈ l, 0 ≤ v) → l.Nodup → (l.map Int.toNat).Nodup := by
      intro l
      induction l with
      | nil => simp
      | cons a l ih =>
        intro h0 hn
        rw [List.nodup_cons] at hn
        rw [List.map_cons, List.nodup_cons]
        refine ⟨fun hm => ?_, ih (fun v hv => h0 v (by simp [hv])) hn.2⟩
        obtain ⟨b, hb, e⟩ := List.mem_map.1 hm
        have h1 := h0 a (by simp)
        have h2 := h0 b (by simp [hb])
        exact hn.1 (by rw [show a = b by omega]; exact hb)
    exact this o (fun v hv => (h.inn v hv).1) h.nodup
  have hs : (o.map Int.toNat) ⊆ List.range n := by
    intro x hx
    obtain ⟨v, hv, rfl⟩ := List.mem_map.1 hx
    have := h.inn v hv
    simp; omega
  have := (List.nodup_range (n := n)).length_le_of_subset (l₂ := List.range n)
  have h2 : (o.map Int.toNat).length ≤ (List.range n).length := hm.length_le_of_subset hs
  simpa using h2
/-- what a search leaves: nothing found, or a source -/
def Searched (E : List Edg) (src : List Bool) (place : Int) (n : Nat) (by_ : List Int) (at_ : Int) : Prop :=
  ∃ o, Tree E place n by_ o ∧ ((at_ = -1 ∧ Done E src o o.length) ∨ (at_ ∈ o ∧ src[at_.toNat]? = some true))
/-- nodes that can be reached from the place -/
inductive Rch (E : List Edg) (place : Int) : Int → Prop where
  | start : Rch E place place
  | step {u v : Int} {e : Edg} : Rch E place u → e ∈ E → Leads e u v → Rch E place v
theorem Tree.rch {E : List Edg} {place : Int} {n : Nat} {by_ o : List Int} (h : Tree E place n by_ o) : ∀ v ∈ o, Rch E place v := by
  have : ∀ (i : Nat) (v : Int), o[i]? = some v → Rch E place v := by
    intro i
    induction i using Nat.strongRecOn with
    | ind i ih =>
      intro v hv
      rcases Nat.eq_zero_or_pos i with h0 | h0
      · subst h0
        obtain ⟨r, hr⟩ := h.head
        rw [hr] at hv
        simp at hv
        subst hv
        exact .start
      · obtain ⟨k, e, j, u, _, hk, hj, hu, hl⟩ := h.way i v hv h0
        exact .step (ih j hj u hu) (List.mem_of_getElem? hk) hl
  intro v hv
  obtain ⟨i, hi, e⟩ := List.getElem_of_mem hv
  exact this i v (by rw [← e]; exact List.getElem?_eq_getElem hi)
theorem Done.closed {E : List Edg} {src : List Bool} {place : Int} {n : Nat} {by_ o : List Int} (h : Tree E place n by_ o) (hd : Done E src o o.length) : ∀ v, Rch E place v → v ∈ o ∧ src[v.toNat]? = some false := by
  intro v hv
  have hin : v ∈ o := by
    induction hv with
    | start => obtain ⟨r, hr⟩ := h.head; rw [hr]; simp
    | step _ he hl ih =>
      obtain ⟨i, hi, e⟩ := List.getElem_of_mem ih
      exact (hd i _ hi (by rw [← e]; exact List.getElem?_eq_getElem hi)).2 _ he _ hl
  obtain ⟨i, hi, e⟩ := List.getElem_of_mem hin
  exact ⟨hin, (hd i v hi (by rw [← e]; exact List.getElem?_eq_getElem hi)).1⟩
/-- a search says whether a source can be reached -/
theorem Searched.iff {E : List Edg} {src : List Bool} {place : Int} {n : Nat} {by_ : List Int} {at_ : Int} (h : Searched E src place n by_ at_) : at_ < 0 ↔ ∀ v, Rch E place v → src[v.toNat]? ≠ some true := by
  obtain ⟨o, ht, h⟩ := h
  rcases h with ⟨h, hd⟩ | ⟨h1, h2⟩
  · subst h
    constructor
    · intro _ v hv e
      have := (Done.closed ht hd v hv).2
      rw [this] at e
      cases e
    · intro _; omega
  · have hr := ht.rch _ h1
    have := (ht.inn _ h1).1
    constructor
    · intro h; omega
    · intro h; exact absurd h2 (h _ hr)
end Go.Proofs.Ytpamgeemmbbkkaa.Pl
