/- The search for a source from the place of a fault, plain: trees of reached nodes. No program. Flows from the place of a fault to sources, plain: what every cut bounds, and what a search without an end shows. No program. -/
import Derived.Test.YtpamgeemmbbkkaaPNet
namespace Go.Proofs.Ytpamgeemmbbkkaa.Pl
/-- an edge between two nodes; a breaker lets one unit through, anything else a thousand -/
structure Edg where
  a : Int
  b : Int
  name : ByteArray
  breaker : Bool
  flow : Int
/-- what can still flow over an edge from a node -/
def roomE (e : Edg) (u : Int) : Int := (if e.breaker then 1 else 1000) - (if u = e.b then -e.flow else e.flow)
/-- an edge leads on from u to v -/
def Leads (e : Edg) (u v : Int) : Prop := (e.a = u ∧ e.b = v ∨ e.b = u ∧ e.a = v) ∧ 0 < roomE e u
/-- a field: its edges are between different nodes, the place is a node -/
structure FieldOk (E : List Edg) (place n : Int) : Prop where
  ends : ∀ e ∈ E, 0 ≤ e.a ∧ e.a < n ∧ 0 ≤ e.b ∧ e.b < n ∧ e.a ≠ e.b
  place : 0 ≤ place ∧ place < n
/-- nodes in the order in which they were reached, and how -/
structure Tree (E : List Edg) (place : Int) (n : Nat) (by_ : List Int) (o : List Int) : Prop where
  len : by_.length = n
  head : ∃ r, o = place :: r
  nodup : o.Nodup
  inn : ∀ v ∈ o, 0 ≤ v ∧ v < n
  root : by_[place.toNat]? = some (-2)
  out : ∀ v : Nat, v < n → ((v : Int) ∉ o ↔ by_[v]? = some (-1))
  way : ∀ (i : Nat) (v : Int), o[i]? = some v → 0 < i → ∃ (k : Nat) (e : Edg) (j : Nat) (u : Int), by_[v.toNat]? = some (k : Int) ∧ E[k]? = some e ∧ j < i ∧ o[j]? = some u ∧ Leads e u v
/-- the first d nodes are done: none is a source, and nothing leads out of them but to reached ones -/
def Done (E : List Edg) (src : List Bool) (o : List Int) (d : Nat) : Prop :=
  ∀ (i : Nat) (u : Int), i < d → o[i]? = some u → src[u.toNat]? = some false ∧ ∀ e ∈ E, ∀ v, Leads e u v → v ∈ o
theorem roomE_other {e : Edg} {u v : Int} (h : Leads e u v) : v = e.a + e.b - u := by
  obtain ⟨h | h, _⟩ := h <;> omega
theorem Tree.start {E : List Edg} {place : Int} {n : Nat} (hp : 0 ≤ place ∧ place < n) : Tree E place n ((List.replicate n (-1)).set place.toNat (-2)) [place] := by
  have hl : place.toNat < n := by omega
  refine ⟨by simp, ⟨[], rfl⟩, by simp, by simpa using hp, by simp [hl], fun v hv => ?_, fun i v hi h0 => ?_⟩
  · rw [List.getElem?_set]
    by_cases h : place.toNat = v
    · have : (v : Int) = place := by omega
      simp [h, this]
    · have : ¬ (v : Int) = place := by omega
      simp [h, this, hv]
  · cases i with
    | zero => omega
    | succ i => simp at hi
/-- a node is reached for the first time -/
theorem Tree.add {E : List Edg} {place : Int} {n : Nat} {by_ o : List Int} (h : Tree E place n by_ o) {k : Nat} {e : Edg} {i : Nat} {u v : Int} (hk : E[k]? = some e) (hi : o[i]? = some u) (hl : Leads e u v) (hv : 0 ≤ v ∧ v < n) (hn : by_[v.toNat]? = some (-1)) :
    Tree E place n (by_.set v.toNat k) (o ++ [v]) := by
  have hvo : v ∉ o := by
    have := (h.out v.toNat (by omega)).2 hn
    rwa [show ((v.toNat : Nat) : Int) = v by omega] at this
  obtain ⟨r, hr⟩ := h.head
  have hpo : place ∈ o := by rw [hr]; simp
  have hpv : place ≠ v := fun e => hvo (e ▸ hpo)
  have hp := h.inn place hpo
  have hil : i < o.length := (List.getElem?_eq_some_iff.1 hi).1
  refine ⟨by simp [h.len], ⟨r ++ [v], by rw [hr]; rfl⟩, ?_, ?_, ?_, fun w hw => ?_, fun j w hj h0 => ?_⟩
  · rw [List.nodup_append]
    exact ⟨h.nodup, by simp, fun a ha b hb => by simp at hb; subst hb; exact fun e => hvo (e ▸ ha)⟩
  · intro w hw
    rcases List.mem_append.1 hw with hw | hw
    · exact h.inn w hw
    · simp at hw; subst hw; exact hv
  · rw [List.getElem?_set_ne (by omega)]; exact h.root
  · by_cases hwv : v.toNat = w
    · have : (w : Int) = v := by omega
      rw [this]
      simp [hwv, h.len, hw]
    · have : ¬ (w : Int) = v := by omega
      rw [List.getElem?_set_ne hwv, ← h.out w hw]
      simp [this]
  · rcases Nat.lt_or_ge j o.length with hjl | hjl
    · rw [List.getElem?_append_left hjl] at hj
      obtain ⟨k', e', j', u', h1, h2, h3, h4, h5⟩ := h.way j w hj h0
      have hwo : w ∈ o := List.mem_of_getElem? hj
      have hwv : w ≠ v := fun e => hvo (e ▸ hwo)
      have hw := h.inn w hwo
      exact ⟨k', e', j', u', by rw [List.getElem?_set_ne (by omega)]; exact h1, h2, h3, by rw [List.getElem?_append_left (by omega)]; exact h4, h5⟩
    · rw [List.getElem?_append_right hjl] at hj
      have hj0 : j - o.length = 0 := by
        rcases Nat.eq_zero_or_pos (j - o.length) with h | h
        · exact h
        · rw [List.getElem?_eq_none (by simp; omega)] at hj; cases hj
      rw [hj0] at hj
      simp at hj
      subst hj
      have hvl : v.toNat < by_.length := by rw [h.len]; omega
      exact ⟨k, e, i, u, by simp [hvl], hk, by omega, by rw [List.getElem?_append_left hil]; exact hi, hl⟩
theorem Done.add {E : List Edg} {src : List Bool} {o : List Int} {d : Nat} (h : Done E src o d) (hd : d ≤ o.length) (v : Int) : Done E src (o ++ [v]) d := by
  intro i u hi hu
  rw [List.getElem?_append_left (by omega)] at hu
  obtain ⟨a, b⟩ := h i u hi hu
  exact ⟨a, fun e he w hw => List.mem_append_left _ (b e he w hw)⟩
theorem Tree.short {E : List Edg} {place : Int} {n : Nat} {by_ o : List Int} (h : Tree E place n by_ o) : o.length ≤ n := by
  have hm : (o.map Int.toNat).Nodup := by
    have : ∀ l : List Int, (∀ v ∈ l, 0 ≤ v) → l.Nodup → (l.map Int.toNat).Nodup := by
      intro l
      induction l with
      | nil => simp
      | cons a l ih =>
        intro h0 hn
        rw [List.nodup_cons] at hn
        rw [List.map_cons, List.nodup_cons]
        refine ⟨fun hm => ?_, ih (fun v hv => h0 v (by simp [hv])) hn.2⟩
        obtain ⟨b, hb, e⟩ := List.mem_map.1 hm
        have h1 := h0 a (by simp)
        have h2 := h0 b (by simp [hb])
        exact hn.1 (by rw [show a = b by omega]; exact hb)
    exact this o (fun v hv => (h.inn v hv).1) h.nodup
  have hs : (o.map Int.toNat) ⊆ List.range n := by
    intro x hx
    obtain ⟨v, hv, rfl⟩ := List.mem_map.1 hx
    have := h.inn v hv
    simp; omega
  have := (List.nodup_range (n := n)).length_le_of_subset (l₂ := List.range n)
  have h2 : (o.map Int.toNat).length ≤ (List.range n).length := hm.length_le_of_subset hs
  simpa using h2
/-- what a search leaves: nothing found, or a source -/
def Searched (E : List Edg) (src : List Bool) (place : Int) (n : Nat) (by_ : List Int) (at_ : Int) : Prop :=
  ∃ o, Tree E place n by_ o ∧ ((at_ = -1 ∧ Done E src o o.length) ∨ (at_ ∈ o ∧ src[at_.toNat]? = some true))
/-- nodes that can be reached from the place -/
inductive Rch (E : List Edg) (place : Int) : Int → Prop where
  | start : Rch E place place
  | step {u v : Int} {e : Edg} : Rch E place u → e ∈ E → Leads e u v → Rch E place v
theorem Tree.rch {E : List Edg} {place : Int} {n : Nat} {by_ o : List Int} (h : Tree E place n by_ o) : ∀ v ∈ o, Rch E place v := by
  have : ∀ (i : Nat) (v : Int), o[i]? = some v → Rch E place v := by
    intro i
    induction i using Nat.strongRecOn with
    | ind i ih =>
      intro v hv
      rcases Nat.eq_zero_or_pos i with h0 | h0
      · subst h0
        obtain ⟨r, hr⟩ := h.head
        rw [hr] at hv
        simp at hv
        subst hv
        exact .start
      · obtain ⟨k, e, j, u, _, hk, hj, hu, hl⟩ := h.way i v hv h0
        exact .step (ih j hj u hu) (List.mem_of_getElem? hk) hl
  intro v hv
  obtain ⟨i, hi, e⟩ := List.getElem_of_mem hv
  exact this i v (by rw [← e]; exact List.getElem?_eq_getElem hi)
theorem Done.closed {E : List Edg} {src : List Bool} {place : Int} {n : Nat} {by_ o : List Int} (h : Tree E place n by_ o) (hd : Done E src o o.length) : ∀ v, Rch E place v → v ∈ o ∧ src[v.toNat]? = some false := by
  intro v hv
  have hin : v ∈ o := by
    induction hv with
    | start => obtain ⟨r, hr⟩ := h.head; rw [hr]; simp
    | step _ he hl ih =>
      obtain ⟨i, hi, e⟩ := List.getElem_of_mem ih
      exact (hd i _ hi (by rw [← e]; exact List.getElem?_eq_getElem hi)).2 _ he _ hl
  obtain ⟨i, hi, e⟩ := List.getElem_of_mem hin
  exact ⟨hin, (hd i v hi (by rw [← e]; exact List.getElem?_eq_getElem hi)).1⟩
/-- a search says whether a source can be reached -/
theorem Searched.iff {E : List Edg} {src : List Bool} {place : Int} {n : Nat} {by_ : List Int} {at_ : Int} (h : Searched E src place n by_ at_) : at_ < 0 ↔ ∀ v, Rch E place v → src[v.toNat]? ≠ some true := by
  obtain ⟨o, ht, h⟩ := h
  rcases h with ⟨h, hd⟩ | ⟨h1, h2⟩
  · subst h
    constructor
    · intro _ v hv e
      have := (Done.closed ht hd v hv).2
      rw [this] at e
      cases e
    · intro _; omega
  · have hr := ht.rch _ h1
    have := (ht.inn _ h1).1
    constructor
    · intro h; omega
    · intro h; exact absurd h2 (h _ hr)
end Go.Proofs.Ytpamgeemmbbkkaa.Pl
namespace Go.Proofs.Ytpamgeemmbbkkaa.Pl
def capE (e : Edg) : Int := if e.breaker then 1 else 1000
/-- what flows out of a node over an edge -/
def outE (e : Edg) (v : Int) : Int := (if e.a = v then e.flow else 0) - (if e.b = v then e.flow else 0)
def netF (E : List Edg) (v : Int) : Int := (E.map fun e => outE e v).sum
/-- what flows out of a set of nodes over an edge -/
def crossE (S : Int → Bool) (e : Edg) : Int := (if S e.a then e.flow else 0) - (if S e.b then e.flow else 0)
def crossF (S : Int → Bool) (E : List Edg) : Int := (E.map fun e => crossE S e).sum
def sumN (f : Int → Int) : Nat → Int
  | 0 => 0
  | n + 1 => sumN f n + f n
theorem sumN_add (f g : Int → Int) : ∀ n, sumN (fun v => f v + g v) n = sumN f n + sumN g n
  | 0 => rfl
  | n + 1 => by simp only [sumN, sumN_add f g n]; omega
theorem sumN_sub (f g : Int → Int) : ∀ n, sumN (fun v => f v - g v) n = sumN f n - sumN g n
  | 0 => rfl
  | n + 1 => by simp only [sumN, sumN_sub f g n]; omega
theorem sumN_congr {f g : Int → Int} : ∀ {n : Nat}, (∀ v : Int, 0 ≤ v → v < n → f v = g v) → sumN f n = sumN g n
  | 0, _ => rfl
  | n + 1, h => by
    simp only [sumN]
    rw [sumN_congr (fun v h0 h1 => h v h0 (by omega)), h n (by omega) (by omega)]
theorem sumN_zero : ∀ n, sumN (fun _ => 0) n = 0
  | 0 => rfl
  | n + 1 => by simp only [sumN, sumN_zero n]; omega
/-- a sum with one place that counts -/
theorem sumN_one (c x : Int) (h0 : 0 ≤ c) : ∀ n : Nat, sumN (fun v => if v = c then x else 0) n = if c < n then x else 0
  | 0 => by simp [sumN]; omega
  | n + 1 => by
    simp only [sumN, sumN_one c x h0 n]
    by_cases h1 : c < n
    · rw [if_pos h1, if_neg (by omega), if_pos (by omega)]; omega
    · by_cases h2 : (n : Int) = c
      · rw [if_neg h1, if_pos h2, if_pos (by omega)]; omega
      · rw [if_neg h1, if_neg h2, if_neg (by omega)]; omega
theorem sumN_pick (S : Int → Bool) (c x : Int) (n : Nat) (h0 : 0 ≤ c) (h1 : c < n) : sumN (fun v => if S v then (if c = v then x else 0) else 0) n = if S c then x else 0 := by
  rw [sumN_congr (g := fun v => if v = c then (if S c then x else 0) else 0), sumN_one _ _ h0, if_pos h1]
  intro v _ _
  by_cases h : c = v
  · subst h; simp
  · have h2 : ¬ v = c := fun e => h e.symm
    simp [h, h2]
/-- what flows out of a set is the sum of what flows out of its nodes -/
theorem cross_net (S : Int → Bool) (n : Nat) : ∀ (E : List Edg), (∀ e ∈ E, 0 ≤ e.a ∧ e.a < n ∧ 0 ≤ e.b ∧ e.b < n) → sumN (fun v => if S v then netF E v else 0) n = crossF S E
  | [], _ => by
    rw [sumN_congr (g := fun _ => 0) (by intro v _ _; simp [netF]), sumN_zero]; rfl
  | e :: E, h => by
    have ih := cross_net S n E (fun x hx => h x (by simp [hx]))
    obtain ⟨a0, a1, b0, b1⟩ := h e (by simp)
    have : crossF S (e :: E) = crossE S e + crossF S E := by simp [crossF]
    rw [this, ← ih]
    rw [sumN_congr (g := fun v => ((if S v then (if e.a = v then e.flow else 0) else 0) - (if S v then (if e.b = v then e.flow else 0) else 0)) + (if S v then netF E v else 0)), sumN_add, sumN_sub, sumN_pick S _ _ n a0 a1, sumN_pick S _ _ n b0 b1]
    · rfl
    · intro v _ _
      simp only [netF, List.map_cons, List.sum_cons, outE]
      by_cases hs : S v = true
      · simp [hs]
      · simp [hs]
/-- a flow of K units out of the place -/
structure Flo (E : List Edg) (src : List Bool) (place : Int) (n : Nat) (K : Int) : Prop where
  cap : ∀ e ∈ E, -capE e ≤ e.flow ∧ e.flow ≤ capE e
  keep : ∀ v : Int, 0 ≤ v → v < n → src[v.toNat]? = some false → v ≠ place → netF E v = 0
  out : src[place.toNat]? = some false → netF E place = K
/-- does an edge leave the set? -/
def leaves (S : Int → Bool) (e : Edg) : Bool := S e.a != S e.b
theorem Flo.cross {E : List Edg} {src : List Bool} {place : Int} {n : Nat} {K : Int} (h : Flo E src place n K) (ho : FieldOk E place n) {S : Int → Bool} (hp : S place = true) (hs : ∀ v : Int, 0 ≤ v → v < n → S v = true → src[v.toNat]? = some false) : crossF S E = K := by
  rw [← cross_net S n E (fun e he => ⟨(ho.ends e he).1, (ho.ends e he).2.1, (ho.ends e he).2.2.1, (ho.ends e he).2.2.2.1⟩)]
  have hp0 := ho.place
  rw [sumN_congr (g := fun v => if v = place then K else 0), sumN_one _ _ hp0.1, if_pos hp0.2]
  intro v h0 h1
  by_cases hv : v = place
  · subst hv
    rw [if_pos hp, if_pos rfl, h.out (hs v h0 h1 hp)]
  · rw [if_neg hv]
    by_cases hsv : S v = true
    · rw [if_pos hsv, h.keep v h0 h1 (hs v h0 h1 hsv) hv]
    · rw [if_neg hsv]
theorem crossE_le {S : Int → Bool} {e : Edg} (h : -capE e ≤ e.flow ∧ e.flow ≤ capE e) : crossE S e ≤ if leaves S e then capE e else 0 := by
  unfold crossE leaves
  cases S e.a <;> cases S e.b <;> simp <;> omega
/-- what leaves a set is at most what its edges let through -/
def capF (S : Int → Bool) (E : List Edg) : Int := (E.map fun e => if leaves S e then capE e else 0).sum
theorem crossF_le {S : Int → Bool} : ∀ {E : List Edg}, (∀ e ∈ E, -capE e ≤ e.flow ∧ e.flow ≤ capE e) → crossF S E ≤ capF S E
  | [], _ => by simp [crossF, capF]
  | e :: E, h => by
    have h1 := crossE_le (S := S) (h e (by simp))
    have h2 := crossF_le (S := S) (E := E) (fun x hx => h x (by simp [hx]))
    have e1 : crossF S (e :: E) = crossE S e + crossF S E := by simp [crossF]
    have e2 : capF S (e :: E) = (if leaves S e then capE e else 0) + capF S E := by simp [capF]
    omega
/-- where both are equal, every edge that leaves is full -/
theorem crossF_full {S : Int → Bool} : ∀ {E : List Edg}, (∀ e ∈ E, -capE e ≤ e.flow ∧ e.flow ≤ capE e) → capF S E ≤ crossF S E → ∀ e ∈ E, leaves S e = true → crossE S e = capE e
  | [], _, _ => by simp
  | e :: E, h, hc => by
    have h1 := crossE_le (S := S) (h e (by simp))
    have h2 := crossF_le (S := S) (E := E) (fun x hx => h x (by simp [hx]))
    have e1 : crossF S (e :: E) = crossE S e + crossF S E := by simp [crossF]
    have e2 : capF S (e :: E) = (if leaves S e then capE e else 0) + capF S E := by simp [capF]
    intro x hx hl
    rcases List.mem_cons.1 hx with rfl | hx
    · rw [if_pos hl] at h1 e2; omega
    · exact crossF_full (fun x hx => h x (by simp [hx])) (by omega) x hx hl
/-- the breakers that leave a set -/
def cutF (S : Int → Bool) (E : List Edg) : List Edg := E.filter fun e => e.breaker && leaves S e
theorem capF_eq {S : Int → Bool} : ∀ {E : List Edg}, (∀ e ∈ E, leaves S e = true → e.breaker = true) → capF S E = (cutF S E).length
  | [], _ => rfl
  | e :: E, h => by
    have ih := capF_eq (S := S) (E := E) (fun x hx => h x (by simp [hx]))
    have e2 : capF S (e :: E) = (if leaves S e then capE e else 0) + capF S E := by simp [capF]
    rw [e2, ih]
    by_cases hl : leaves S e = true
    · have hb := h e (by simp) hl
      simp [cutF, hl, hb, capE]; omega
    · simp [cutF, hl]
/-- a search that found no source -/
theorem flow_end {E : List Edg} {src : List Bool} {place : Int} {n : Nat} {K : Int} (h : Flo E src place n K) (ho : FieldOk E place n) (hK : K < 1000)
    {S : Int → Bool} (hp : S place = true) (hs : ∀ v : Int, 0 ≤ v → v < n → S v = true → src[v.toNat]? = some false)
    (hc : ∀ e ∈ E, ∀ u v, S u = true → Leads e u v → S v = true) : (∀ e ∈ E, leaves S e = true → e.breaker = true) ∧ ((cutF S E).length : Int) = K := by
  have hX := h.cross ho hp hs
  have hfull : ∀ e ∈ E, leaves S e = true → crossE S e = capE e := by
    intro e he hl
    have hab := (ho.ends e he).2.2.2.2
    have hcp := h.cap e he
    unfold leaves at hl
    unfold crossE
    cases ha : S e.a
    · cases hb : S e.b
      · rw [ha, hb] at hl; cases hl
      · have hn : ¬ 0 < roomE e e.b := fun hr => by
          have := hc e he e.b e.a hb ⟨.inr ⟨rfl, rfl⟩, hr⟩
          rw [ha] at this; cases this
        have : roomE e e.b = capE e + e.flow := by unfold roomE capE; rw [if_pos rfl]; omega
        simp; omega
    · cases hb : S e.b
      · have hn : ¬ 0 < roomE e e.a := fun hr => by
          have := hc e he e.a e.b ha ⟨.inl ⟨rfl, rfl⟩, hr⟩
          rw [hb] at this; cases this
        have : roomE e e.a = capE e - e.flow := by unfold roomE capE; rw [if_neg hab]
        simp; omega
      · rw [ha, hb] at hl; cases hl
  have hge : ∀ (l : List Edg), (∀ e ∈ l, e ∈ E) → crossF S l = capF S l := by
    intro l
    induction l with
    | nil => intro _; rfl
    | cons e l ih =>
      intro hl
      have e1 : crossF S (e :: l) = crossE S e + crossF S l := by simp [crossF]
      have e2 : capF S (e :: l) = (if leaves S e then capE e else 0) + capF S l := by simp [capF]
      rw [e1, e2, ih (fun x hx => hl x (by simp [hx]))]
      by_cases hle : leaves S e = true
      · rw [if_pos hle, hfull e (hl e (by simp)) hle]
      · rw [if_neg hle]
        have : crossE S e = 0 := by
          unfold leaves at hle; unfold crossE
          cases ha : S e.a <;> cases hb : S e.b <;> simp [ha, hb] at hle ⊢
        omega
  have hcap := hge E (fun _ h => h)
  have hcap0 : ∀ (l : List Edg), 0 ≤ capF S l := by
    intro l
    induction l with
    | nil => simp [capF]
    | cons e l ih =>
      have e2 : capF S (e :: l) = (if leaves S e then capE e else 0) + capF S l := by simp [capF]
      rw [e2]
      have : 0 ≤ if leaves S e then capE e else 0 := by unfold capE; split <;> (try split) <;> omega
      omega
  have hbr : ∀ e ∈ E, leaves S e = true → e.breaker = true := by
    intro e he hl
    cases hb : e.breaker with
    | true => rfl
    | false =>
      exfalso
      have hbig : ∀ (l : List Edg), e ∈ l → 1000 ≤ capF S l := by
        intro l
        induction l with
        | nil => simp
        | cons x l ih =>
          intro hm
          have e2 : capF S (x :: l) = (if leaves S x then capE x else 0) + capF S l := by simp [capF]
          rw [e2]
          rcases List.mem_cons.1 hm with rfl | hm
          · have := hcap0 l
            rw [if_pos hl]; unfold capE; rw [hb]; simp; omega
          · have := ih hm
            have : 0 ≤ if leaves S x then capE x else 0 := by unfold capE; split <;> (try split) <;> omega
            omega
      have := hbig E he
      omega
  exact ⟨hbr, by rw [← capF_eq hbr]; omega⟩
/-- every set that holds the place and no source and that only breakers leave has at least K of them; with K, each is full, and what a search reaches lies in the set -/
theorem flow_cut {E : List Edg} {src : List Bool} {place : Int} {n : Nat} {K : Int} (h : Flo E src place n K) (ho : FieldOk E place n)
    {S : Int → Bool} (hp : S place = true) (hs : ∀ v : Int, 0 ≤ v → v < n → S v = true → src[v.toNat]? = some false)
    (hb : ∀ e ∈ E, leaves S e = true → e.breaker = true) : K ≤ (cutF S E).length ∧ (((cutF S E).length : Int) = K → ∀ v, Rch E place v → S v = true) := by
  have hX := h.cross ho hp hs
  have hle := crossF_le (S := S) h.cap
  rw [capF_eq hb] at hle
  refine ⟨by omega, fun hk v hv => ?_⟩
  have hf := crossF_full (S := S) h.cap (by rw [capF_eq hb]; omega)
  induction hv with
  | start => exact hp
  | @step u v e _ he hl ih =>
    cases hsv : S v with
    | true => rfl
    | false =>
      exfalso
      have hab := (ho.ends e he).2.2.2.2
      obtain ⟨h1 | h1, hr⟩ := hl
      · obtain ⟨rfl, rfl⟩ := h1
        have hlv : leaves S e = true := by unfold leaves; rw [ih, hsv]; rfl
        have := hf e he hlv
        unfold crossE at this
        rw [ih, hsv] at this
        have hr' : roomE e e.a = capE e - e.flow := by unfold roomE capE; rw [if_neg hab]
        simp at this; omega
      · obtain ⟨rfl, rfl⟩ := h1
        have hlv : leaves S e = true := by unfold leaves; rw [ih, hsv]; rfl
        have := hf e he hlv
        unfold crossE at this
        rw [ih, hsv] at this
        have hr' : roomE e e.b = capE e + e.flow := by unfold roomE capE; rw [if_pos rfl]; omega
        simp at this; omega
end Go.Proofs.Ytpamgeemmbbkkaa.Pl
