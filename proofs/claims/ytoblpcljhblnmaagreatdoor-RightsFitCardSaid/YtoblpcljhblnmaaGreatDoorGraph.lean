/- Plain laws for graph.parts: components found by searches; nothing of the program stands here. graph.parts, graph.Check, graph.Components as the plain laws say. Condition: the edges read; at most 24 nodes and 64 edges between nodes. graph.Check, graph.Components of edges between nodes. Condition: the edges read; at most 24 nodes and 64 edges between nodes. -/
import Derived.Test.YtoblpcljhblnmaaGreatDoorPName
import Derived.Deep.LoopGhost
import Derived.Test.YtoblpcljhblnmaaGreatDoorQueue
import Derived.Test.YtoblpcljhblnmaaGreatDoorRepI
namespace Go.Proofs.YtoblpcljhblnmaaGreatDoor.Pl
def lab (out : List Int) (v : Int) : Int := out.getD v.toNat (-1)
inductive Lnk (E : List (Int × Int)) (wo : Int) : Int → Int → Prop
  | refl (a : Int) : Lnk E wo a a
  | fwd {a b c : Int} (h : Lnk E wo a b) (k : Nat) (hw : (k : Int) ≠ wo) (he : E[k]? = some (b, c)) : Lnk E wo a c
  | bwd {a b c : Int} (h : Lnk E wo a b) (k : Nat) (hw : (k : Int) ≠ wo) (he : E[k]? = some (c, b)) : Lnk E wo a c
theorem Lnk.trans {E : List (Int × Int)} {wo a b c : Int} (h1 : Lnk E wo a b) (h2 : Lnk E wo b c) : Lnk E wo a c := by
  induction h2 with
  | refl => exact h1
  | fwd _ k hw he ih => exact ih.fwd k hw he
  | bwd _ k hw he ih => exact ih.bwd k hw he
theorem Lnk.symm {E : List (Int × Int)} {wo a b : Int} (h : Lnk E wo a b) : Lnk E wo b a := by
  induction h with
  | refl => exact .refl _
  | fwd _ k hw he ih => exact ((Lnk.refl _).bwd k hw he).trans ih
  | bwd _ k hw he ih => exact ((Lnk.refl _).fwd k hw he).trans ih
def EdgesIn (n : Nat) (E : List (Int × Int)) : Prop := ∀ x ∈ E, 0 ≤ x.1 ∧ x.1 < n ∧ 0 ≤ x.2 ∧ x.2 < n
structure GOut (E : List (Int × Int)) (wo : Int) (n m i : Nat) (out : List Int) : Prop where
  len : out.length = n
  rng : ∀ v : Int, 0 ≤ v → v < n → lab out v = -1 ∨ (0 ≤ lab out v ∧ lab out v < m)
  low : ∀ v : Int, 0 ≤ v → v < i → 0 ≤ lab out v
  closed : ∀ (k : Nat) (a b : Int), (k : Int) ≠ wo → E[k]? = some (a, b) → (0 ≤ lab out a → lab out b = lab out a) ∧ (0 ≤ lab out b → lab out a = lab out b)
  same : ∀ u v : Int, 0 ≤ u → u < n → 0 ≤ v → v < n → lab out u = lab out v → 0 ≤ lab out u → Lnk E wo u v
  all : ∀ c : Int, 0 ≤ c → c < m → ∃ v : Int, 0 ≤ v ∧ v < n ∧ lab out v = c ∧ ∀ u : Int, 0 ≤ u → u < v → 0 ≤ lab out u ∧ lab out u < c
  few : m ≤ i
structure GSt (E : List (Int × Int)) (wo : Int) (n m s : Nat) (at_ : Int) (k : Nat) (out todo : List Int) : Prop where
  len : out.length = n
  rng : ∀ v : Int, 0 ≤ v → v < n → lab out v = -1 ∨ (0 ≤ lab out v ∧ lab out v ≤ m)
  low : ∀ v : Int, 0 ≤ v → v < s → 0 ≤ lab out v ∧ lab out v < m
  closed : ∀ (j : Nat) (a b : Int), (j : Int) ≠ wo → E[j]? = some (a, b) → (0 ≤ lab out a → lab out a < m → lab out b = lab out a) ∧ (0 ≤ lab out b → lab out b < m → lab out a = lab out b)
  same : ∀ u v : Int, 0 ≤ u → u < n → 0 ≤ v → v < n → lab out u = lab out v → 0 ≤ lab out u → lab out u < m → Lnk E wo u v
  all : ∀ c : Int, 0 ≤ c → c < m → ∃ v : Int, 0 ≤ v ∧ v < n ∧ lab out v = c ∧ ∀ u : Int, 0 ≤ u → u < v → 0 ≤ lab out u ∧ lab out u < c
  few : m ≤ s
  sn : s < n
  first : lab out (s : Int) = m
  new : ∀ v : Int, 0 ≤ v → v < n → lab out v = m → Lnk E wo s v
  queue : ∀ v ∈ todo, 0 ≤ v ∧ v < n ∧ lab out v = m
  done : ∀ (j : Nat) (a b : Int), (j : Int) ≠ wo → E[j]? = some (a, b) → (lab out a = m → a ∈ todo ∨ lab out b = m ∨ (a = at_ ∧ k ≤ j)) ∧ (lab out b = m → b ∈ todo ∨ lab out a = m ∨ (b = at_ ∧ k ≤ j))
theorem lab_at {out : List Int} {v : Nat} (h : v < out.length) : lab out (v : Int) = out[v] := by
  unfold lab
  rw [Int.toNat_natCast, List.getD_eq_getElem?_getD, List.getElem?_eq_getElem h]
  rfl
theorem lab_set {out : List Int} {v u : Int} {x : Int} (hv : 0 ≤ v) (hn : v < out.length) (hu : 0 ≤ u) : lab (out.set v.toNat x) u = if u = v then x else lab out u := by
  unfold lab
  rw [List.getD_eq_getElem?_getD]
  by_cases h : u = v
  · subst h
    rw [if_pos rfl, List.getElem?_set_self (by omega)]
    rfl
  · rw [if_neg h, List.getElem?_set_ne (by omega), ← List.getD_eq_getElem?_getD]
section
variable {E : List (Int × Int)} {wo : Int} {n m i s k : Nat} {at_ : Int} {out todo : List Int}
theorem edge_in (hE : EdgesIn n E) {j : Nat} {a b : Int} (he : E[j]? = some (a, b)) : 0 ≤ a ∧ a < n ∧ 0 ≤ b ∧ b < n := hE _ (List.mem_of_getElem? he)
theorem GOut.start : GOut E wo n 0 0 (List.replicate n (-1)) := by
  have hl : ∀ v : Int, lab (List.replicate n (-1 : Int)) v = -1 := fun v => by
    unfold lab
    rw [List.getD_eq_getElem?_getD, List.getElem?_replicate]
    split <;> rfl
  exact ⟨List.length_replicate, fun v _ _ => .inl (hl v), fun v h0 h1 => by omega, fun j a b _ _ => by rw [hl, hl]; exact ⟨fun h => by omega, fun h => by omega⟩, fun u v _ _ _ _ _ h => by rw [hl] at h; omega, fun c h0 h1 => by omega, Nat.le_refl _⟩
theorem GOut.skip (h : GOut E wo n m i out) (hl : 0 ≤ lab out (i : Int)) : GOut E wo n m (i + 1) out :=
  ⟨h.len, h.rng, fun v h0 h1 => by
    by_cases e : v = i
    · subst e; exact hl
    · exact h.low v h0 (by omega), h.closed, h.same, h.all, Nat.le_succ_of_le h.few⟩
theorem GOut.begin (hE : EdgesIn n E) (h : GOut E wo n m i out) (hi : i < n) (hl : lab out (i : Int) < 0) : GSt E wo n m i (-1) 0 (out.set i (m : Int)) [(i : Int)] := by
  have hs : ∀ u : Int, 0 ≤ u → lab (out.set i (m : Int)) u = if u = i then (m : Int) else lab out u := fun u hu => by
    have := lab_set (out := out) (v := (i : Int)) (u := u) (x := (m : Int)) (by omega) (by rw [h.len]; omega) hu
    rwa [Int.toNat_natCast] at this
  have hne : ∀ u : Int, 0 ≤ u → u < n → lab out u ≠ m := fun u h0 h1 => by
    rcases h.rng u h0 h1 with e | e <;> omega
  refine ⟨by rw [List.length_set]; exact h.len, fun v h0 h1 => ?_, fun v h0 h1 => ?_, fun j a b hw he => ?_, fun u v u0 u1 v0 v1 e l0 l1 => ?_, fun c h0 h1 => ?_, h.few, hi, ?_, fun v h0 h1 e => ?_, fun v hv => ?_, fun j a b hw he => ?_⟩
  · rw [hs v h0]
    split
    · omega
    · have := h.rng v h0 h1; omega
  · rw [hs v h0, if_neg (by omega)]
    have h7 := h.low v h0 h1
    rcases h.rng v h0 (by omega) with r | r
    · omega
    · exact r
  · obtain ⟨a0, a1, b0, b1⟩ := edge_in hE he
    have := h.closed j a b hw he
    rw [hs a a0, hs b b0]
    by_cases ea : a = i
    · rw [if_pos ea]
      refine ⟨fun _ h9 => by omega, fun h8 h9 => ?_⟩
      by_cases eb : b = i
      · rw [if_pos eb] at h9; omega
      · rw [if_neg eb] at h8 h9
        have := this.2 h8
        rw [ea] at this
        omega
    · rw [if_neg ea]
      by_cases eb : b = i
      · rw [if_pos eb]
        refine ⟨fun h8 h9 => ?_, fun _ h9 => by omega⟩
        have := this.1 h8
        rw [eb] at this
        omega
      · rw [if_neg eb]
        exact ⟨fun h8 _ => this.1 h8, fun h8 _ => this.2 h8⟩
  · rw [hs u u0] at e l0 l1
    rw [hs v v0] at e
    by_cases eu : u = i
    · rw [if_pos eu] at l1; omega
    · rw [if_neg eu] at e l0 l1
      by_cases ev : v = i
      · rw [if_pos ev] at e; omega
      · rw [if_neg ev] at e
        exact h.same u v u0 u1 v0 v1 e l0
  · obtain ⟨v, v0, v1, e, ho⟩ := h.all c h0 h1
    refine ⟨v, v0, v1, ?_, fun u u0 u1 => ?_⟩
    · rw [hs v v0, if_neg (fun e2 => by subst e2; omega)]
      exact e
    · have h8 := ho u u0 u1
      rw [hs u u0, if_neg (fun e2 => by subst e2; omega)]
      exact h8
  · rw [hs _ (by omega), if_pos rfl]
  · rw [hs v h0] at e
    by_cases ev : v = i
    · subst ev; exact .refl _
    · rw [if_neg ev] at e; exact absurd e (hne v h0 h1)
  · rw [List.mem_singleton] at hv
    subst hv
    exact ⟨by omega, by omega, by rw [hs _ (by omega), if_pos rfl]⟩
  · obtain ⟨a0, a1, b0, b1⟩ := edge_in hE he
    rw [hs a a0, hs b b0]
    refine ⟨fun e => ?_, fun e => ?_⟩
    · by_cases ea : a = i
      · exact .inl (by simp [ea])
      · rw [if_neg ea] at e; exact absurd e (hne a a0 a1)
    · by_cases eb : b = i
      · exact .inl (by simp [eb])
      · rw [if_neg eb] at e; exact absurd e (hne b b0 b1)
theorem GSt.pop {q : List Int} (h : GSt E wo n m s (-1) k out (at_ :: q)) (hE : EdgesIn n E) : GSt E wo n m s at_ 0 out q :=
  ⟨h.len, h.rng, h.low, h.closed, h.same, h.all, h.few, h.sn, h.first, h.new, fun v hv => h.queue v (List.mem_cons_of_mem _ hv), fun j a b hw he => by
    obtain ⟨a0, a1, b0, b1⟩ := edge_in hE he
    obtain ⟨d1, d2⟩ := h.done j a b hw he
    refine ⟨fun e => ?_, fun e => ?_⟩
    · rcases d1 e with d | d | d
      · rcases List.mem_cons.1 d with d | d
        · exact .inr (.inr ⟨d, Nat.zero_le _⟩)
        · exact .inl d
      · exact .inr (.inl d)
      · omega
    · rcases d2 e with d | d | d
      · rcases List.mem_cons.1 d with d | d
        · exact .inr (.inr ⟨d, Nat.zero_le _⟩)
        · exact .inl d
      · exact .inr (.inl d)
      · omega⟩
theorem GSt.pass (h : GSt E wo n m s at_ k out todo) {a b : Int} (he : E[k]? = some (a, b)) (hx : (k : Int) = wo ∨ (a ≠ at_ ∧ b ≠ at_) ∨ (lab out a = m ∧ lab out b = m)) : GSt E wo n m s at_ (k + 1) out todo :=
  ⟨h.len, h.rng, h.low, h.closed, h.same, h.all, h.few, h.sn, h.first, h.new, h.queue, fun j a' b' hw he' => by
    obtain ⟨d1, d2⟩ := h.done j a' b' hw he'
    by_cases ej : j = k
    · subst ej
      rw [he] at he'
      injection he' with he'
      injection he' with e1 e2
      subst e1 e2
      rcases hx with hx | hx | hx
      · exact absurd hx hw
      · refine ⟨fun e => ?_, fun e => ?_⟩
        · rcases d1 e with d | d | d
          · exact .inl d
          · exact .inr (.inl d)
          · exact absurd d.1 hx.1
        · rcases d2 e with d | d | d
          · exact .inl d
          · exact .inr (.inl d)
          · exact absurd d.1 hx.2
      · exact ⟨fun _ => .inr (.inl hx.2), fun _ => .inr (.inl hx.1)⟩
    · refine ⟨fun e => ?_, fun e => ?_⟩
      · rcases d1 e with d | d | d
        · exact .inl d
        · exact .inr (.inl d)
        · exact .inr (.inr ⟨d.1, by omega⟩)
      · rcases d2 e with d | d | d
        · exact .inl d
        · exact .inr (.inl d)
        · exact .inr (.inr ⟨d.1, by omega⟩)⟩
theorem GSt.seen (h : GSt E wo n m s at_ k out todo) (hE : EdgesIn n E) {a b : Int} (hw : (k : Int) ≠ wo) (he : E[k]? = some (a, b)) (hat : lab out at_ = m) (hx : (a = at_ ∧ 0 ≤ lab out b) ∨ (b = at_ ∧ 0 ≤ lab out a)) : lab out a = m ∧ lab out b = m := by
  obtain ⟨a0, a1, b0, b1⟩ := edge_in hE he
  obtain ⟨c1, c2⟩ := h.closed k a b hw he
  rcases hx with ⟨e, h0⟩ | ⟨e, h0⟩
  · subst e
    rcases h.rng b b0 b1 with r | r
    · omega
    · rcases Int.lt_or_eq_of_le r.2 with r2 | r2
      · have := c2 h0 r2; omega
      · exact ⟨hat, r2⟩
  · subst e
    rcases h.rng a a0 a1 with r | r
    · omega
    · rcases Int.lt_or_eq_of_le r.2 with r2 | r2
      · have := c1 h0 r2; omega
      · exact ⟨r2, hat⟩
theorem GSt.hit (h : GSt E wo n m s at_ k out todo) (hE : EdgesIn n E) {a b tq : Int} (hw : (k : Int) ≠ wo) (he : E[k]? = some (a, b)) (hat : lab out at_ = m) (ht : (a = at_ ∧ tq = b) ∨ (b = at_ ∧ tq = a)) (hl : lab out tq < 0) (a0' : 0 ≤ at_) (an : at_ < n) :
    GSt E wo n m s at_ (k + 1) (out.set tq.toNat (m : Int)) (todo ++ [tq]) := by
  obtain ⟨a0, a1, b0, b1⟩ := edge_in hE he
  have t0 : 0 ≤ tq ∧ tq < n := by rcases ht with ⟨_, rfl⟩ | ⟨_, rfl⟩ <;> omega
  have hs : ∀ u : Int, 0 ≤ u → lab (out.set tq.toNat (m : Int)) u = if u = tq then (m : Int) else lab out u := fun u hu => lab_set t0.1 (by rw [h.len]; exact t0.2) hu
  have hmo : ∀ u : Int, 0 ≤ u → lab out u = m → lab (out.set tq.toNat (m : Int)) u = m := fun u hu e => by
    rw [hs u hu]; split
    · rfl
    · exact e
  refine ⟨by rw [List.length_set]; exact h.len, fun v h0 h1 => ?_, fun v h0 h1 => ?_, fun j a' b' hw' he' => ?_, fun u v u0 u1 v0 v1 e l0 l1 => ?_, fun c h0 h1 => ?_, h.few, h.sn, hmo _ (by omega) h.first, fun v h0 h1 e => ?_, fun v hv => ?_, fun j a' b' hw' he' => ?_⟩
  · rw [hs v h0]
    split
    · omega
    · exact h.rng v h0 h1
  · have h8 := h.low v h0 h1
    rw [hs v h0, if_neg (fun e2 => by subst e2; omega)]
    exact h8
  · obtain ⟨p0, p1, q0, q1⟩ := edge_in hE he'
    obtain ⟨c1, c2⟩ := h.closed j a' b' hw' he'
    rw [hs a' p0, hs b' q0]
    by_cases ea : a' = tq
    · rw [if_pos ea]
      refine ⟨fun _ h9 => by omega, fun h8 h9 => ?_⟩
      by_cases eb : b' = tq
      · rw [if_pos eb] at h9; omega
      · rw [if_neg eb] at h8 h9
        have := c2 h8 h9
        rw [ea] at this
        omega
    · rw [if_neg ea]
      by_cases eb : b' = tq
      · rw [if_pos eb]
        refine ⟨fun h8 h9 => ?_, fun _ h9 => by omega⟩
        have := c1 h8 h9
        rw [eb] at this
        omega
      · rw [if_neg eb]
        exact ⟨c1, c2⟩
  · rw [hs u u0] at e l0 l1
    rw [hs v v0] at e
    by_cases eu : u = tq
    · rw [if_pos eu] at l1; omega
    · rw [if_neg eu] at e l0 l1
      by_cases ev : v = tq
      · rw [if_pos ev] at e; omega
      · rw [if_neg ev] at e
        exact h.same u v u0 u1 v0 v1 e l0 l1
  · obtain ⟨v, v0, v1, e, ho⟩ := h.all c h0 h1
    refine ⟨v, v0, v1, ?_, fun u u0 u1 => ?_⟩
    · rw [hs v v0, if_neg (fun e2 => by subst e2; omega)]
      exact e
    · have h8 := ho u u0 u1
      rw [hs u u0, if_neg (fun e2 => by subst e2; omega)]
      exact h8
  · rw [hs v h0] at e
    by_cases ev : v = tq
    · subst ev
      have hsa := h.new at_ a0' an hat
      rcases ht with ⟨e1, e2⟩ | ⟨e1, e2⟩
      · subst e1 e2; exact hsa.fwd k hw he
      · subst e1 e2; exact hsa.bwd k hw he
    · rw [if_neg ev] at e; exact h.new v h0 h1 e
  · rw [List.mem_append, List.mem_singleton] at hv
    rcases hv with hv | hv
    · obtain ⟨v0, v1, e⟩ := h.queue v hv
      exact ⟨v0, v1, hmo v v0 e⟩
    · subst hv
      exact ⟨t0.1, t0.2, by rw [hs _ t0.1, if_pos rfl]⟩
  · obtain ⟨p0, p1, q0, q1⟩ := edge_in hE he'
    obtain ⟨d1, d2⟩ := h.done j a' b' hw' he'
    by_cases ej : j = k
    · subst ej
      rw [he] at he'
      injection he' with he'
      injection he' with e1 e2
      subst e1 e2
      have hto : lab (out.set tq.toNat (m : Int)) tq = m := by rw [hs _ t0.1, if_pos rfl]
      have hatm := hmo at_ a0' hat
      rcases ht with ⟨e1, e2⟩ | ⟨e1, e2⟩
      · subst e1 e2; exact ⟨fun _ => .inr (.inl hto), fun _ => .inr (.inl hatm)⟩
      · subst e1 e2; exact ⟨fun _ => .inr (.inl hatm), fun _ => .inr (.inl hto)⟩
    · refine ⟨fun e => ?_, fun e => ?_⟩
      · by_cases ea : a' = tq
        · exact .inl (by simp [ea])
        · rw [hs a' p0, if_neg ea] at e
          rcases d1 e with d | d | d
          · exact .inl (List.mem_append_left _ d)
          · exact .inr (.inl (hmo b' q0 d))
          · exact .inr (.inr ⟨d.1, by omega⟩)
      · by_cases eb : b' = tq
        · exact .inl (by simp [eb])
        · rw [hs b' q0, if_neg eb] at e
          rcases d2 e with d | d | d
          · exact .inl (List.mem_append_left _ d)
          · exact .inr (.inl (hmo a' p0 d))
          · exact .inr (.inr ⟨d.1, by omega⟩)
theorem GSt.scanned (h : GSt E wo n m s at_ E.length out todo) : GSt E wo n m s (-1) 0 out todo :=
  ⟨h.len, h.rng, h.low, h.closed, h.same, h.all, h.few, h.sn, h.first, h.new, h.queue, fun j a b hw he => by
    have hj : j < E.length := by
      rcases Nat.lt_or_ge j E.length with hj | hj
      · exact hj
      · rw [List.getElem?_eq_none hj] at he; cases he
    obtain ⟨d1, d2⟩ := h.done j a b hw he
    refine ⟨fun e => ?_, fun e => ?_⟩
    · rcases d1 e with d | d | d
      · exact .inl d
      · exact .inr (.inl d)
      · omega
    · rcases d2 e with d | d | d
      · exact .inl d
      · exact .inr (.inl d)
      · omega⟩
theorem GSt.end_ (h : GSt E wo n m s (-1) k out []) (hE : EdgesIn n E) : GOut E wo n (m + 1) (s + 1) out := by
  have hd : ∀ (j : Nat) (a b : Int), (j : Int) ≠ wo → E[j]? = some (a, b) → (lab out a = m → lab out b = m) ∧ (lab out b = m → lab out a = m) := fun j a b hw he => by
    obtain ⟨a0, a1, b0, b1⟩ := edge_in hE he
    obtain ⟨d1, d2⟩ := h.done j a b hw he
    refine ⟨fun e => ?_, fun e => ?_⟩
    · rcases d1 e with d | d | d
      · cases d
      · exact d
      · omega
    · rcases d2 e with d | d | d
      · cases d
      · exact d
      · omega
  have hsn := h.sn
  refine ⟨h.len, fun v h0 h1 => ?_, fun v h0 h1 => ?_, fun j a b hw he => ?_, fun u v u0 u1 v0 v1 e l0 => ?_, fun c h0 h1 => ?_, Nat.succ_le_succ h.few⟩
  · rcases h.rng v h0 h1 with r | r
    · exact .inl r
    · exact .inr ⟨r.1, by omega⟩
  · by_cases e : v = s
    · subst e; rw [h.first]; omega
    · exact (h.low v h0 (by omega)).1
  · obtain ⟨a0, a1, b0, b1⟩ := edge_in hE he
    obtain ⟨c1, c2⟩ := h.closed j a b hw he
    obtain ⟨d1, d2⟩ := hd j a b hw he
    refine ⟨fun l0 => ?_, fun l0 => ?_⟩
    · rcases h.rng a a0 a1 with r | r
      · omega
      · rcases Int.lt_or_eq_of_le r.2 with r2 | r2
        · exact c1 l0 r2
        · rw [d1 r2, r2]
    · rcases h.rng b b0 b1 with r | r
      · omega
      · rcases Int.lt_or_eq_of_le r.2 with r2 | r2
        · exact c2 l0 r2
        · rw [d2 r2, r2]
  · rcases h.rng u u0 u1 with r | r
    · omega
    · rcases Int.lt_or_eq_of_le r.2 with r2 | r2
      · exact h.same u v u0 u1 v0 v1 e l0 r2
      · exact (h.new u u0 u1 r2).symm.trans (h.new v v0 v1 (by rw [← e]; exact r2))
  · by_cases e : c = m
    · exact ⟨s, by omega, by omega, by rw [h.first, e], fun u u0 u1 => by rw [e]; exact h.low u u0 u1⟩
    · exact h.all c h0 (by omega)
end
def blanks (out : List Int) : Nat := out.countP (fun x => decide (x < 0))
theorem blanks_set {out : List Int} {v : Nat} {m : Nat} (h : v < out.length) (hl : out[v] < 0) : blanks (out.set v (m : Int)) + 1 = blanks out := by
  unfold blanks
  induction out generalizing v with
  | nil => simp at h
  | cons x out ih =>
    cases v with
    | zero =>
      rw [List.set_cons_zero, List.countP_cons, List.countP_cons]
      simp only [List.getElem_cons_zero] at hl
      rw [if_neg (by simp), if_pos (by simpa using hl)]
    | succ v =>
      have := ih (by simpa using h) (by simpa using hl)
      rw [List.set_cons_succ, List.countP_cons, List.countP_cons]
      omega
theorem blanks_le (out : List Int) : blanks out ≤ out.length := List.countP_le_length
end Go.Proofs.YtoblpcljhblnmaaGreatDoor.Pl
namespace Go.Proofs.YtoblpcljhblnmaaGreatDoor
open Go.RowKit
set_option maxRecDepth 100000
def edgs2 (E : List (Int × Int)) : List Value := E.flatMap fun x => [.int .i64 x.1, .int .i64 x.2]
theorem edgs2_len : ∀ E : List (Int × Int), (edgs2 E).length = E.length * 2
  | [] => rfl
  | x :: E => by
    have := edgs2_len E
    unfold edgs2 at this ⊢
    rw [List.flatMap_cons, List.length_append, this, List.length_cons]
    simp
    omega
theorem edgs2_at : ∀ {E : List (Int × Int)} {k : Nat} (hk : k < E.length), (edgs2 E)[k * 2]? = some (.int .i64 E[k].1) ∧ (edgs2 E)[k * 2 + 1]? = some (.int .i64 E[k].2)
  | x :: E, 0, _ => ⟨rfl, rfl⟩
  | x :: E, k + 1, hk => by
    have ih := edgs2_at (E := E) (k := k) (by simpa using hk)
    have e1 : (k + 1) * 2 = k * 2 + 1 + 1 := by omega
    rw [e1]
    exact ih
theorem edg2_at {w : World} {B n : Nat} {A : Option Addr} {E : List (Int × Int)} (h : Reads w B 2 A n (edgs2 E)) {k : Nat} (hk : k < n) :
    ∃ b o, A = some ⟨b, o, none⟩ ∧ b < B ∧ ∃ hl : k < E.length, w.cell? ⟨b, o + k * 2, none⟩ = some (.int .i64 E[k].1) ∧ w.cell? ⟨b, o + k * 2 + 1, none⟩ = some (.int .i64 E[k].2) := by
  obtain ⟨b, o, rfl, hb, hc⟩ := h.where_ (by omega) (by decide)
  have hl : k < E.length := by
    have h1 := h.1
    rw [edgs2_len] at h1
    omega
  obtain ⟨h1, h2⟩ := edgs2_at hl
  exact ⟨b, o, rfl, hb, hl, hc _ _ h1, hc _ _ h2⟩
theorem edgs2_n {w : World} {B n : Nat} {A : Option Addr} {E : List (Int × Int)} (h : Reads w B 2 A n (edgs2 E)) : E.length = n := by
  have h1 := h.1
  rw [edgs2_len] at h1
  omega
def PartsSaid (E : List (Int × Int)) (wo : Int) (n : Nat) (w : World) (e : Ending) (w' : World) : Prop :=
  ∃ (g : Nat) (out : List Int) (m : Nat), e = .returned (.slice (some ⟨g, 0, none⟩) n n) ∧ w.heap.size ≤ g ∧ IBlk w' g 3 out ∧ Pl.GOut E wo n m n out ∧ Below w.heap.size w w'
set_option maxHeartbeats 6400000 in
theorem parts_any (n : Nat) (A : Option Addr) (ne c : Nat) (E : List (Int × Int)) (wo : Int) (w : World) (hn : n ≤ 1000) (hne : ne ≤ 1000) (hr : Reads w w.heap.size 2 A ne (edgs2 E)) (hE : Pl.EdgesIn n E) :
    Calls Tryz.prog 172 #[.int .i64 n, .slice A ne c, .int .i64 wo] w (PartsSaid E wo n w) := by
  have HR := Lib.hid hr
  have HE := Lib.hid hE
  have HEN := Lib.hid (edgs2_n hr)
  clear hr hE
  go_enter Tryz.func172, Tryz.ntmps172
  go_wp2_with fail
  refine (repI0_any (-1) w.heap.size n (by omega) _ (by simp)).mono ?_
  rintro e w1 ⟨g, rfl, hg, hi, hb⟩
  have hgw : w.heap.size ≤ g := by have h7 : (w.alloc (.cells #[.int .i64 (-1)] 3)).heap.size = w.heap.size + 1 := by simp
                                   omega
  have IB := Lib.hid hi
  have D := Lib.hid (((Below.refl w.heap.size w).alloc (Nat.le_refl _) (.cells #[.int .i64 (-1)] 3)).trans (hb.mono (by simp)))
  have GO : Hid (Pl.GOut E wo n 0 0 (List.replicate n (-1))) := Pl.GOut.start
  clear hg hi hb
  go_wp2_with fail
  go_loopw [8, 19] (fun mv i wr => ∃ (k m : Nat) (out : List Int), k ≤ n ∧ i = .int .i64 k ∧ mv = .int .i64 m ∧ Hid (IBlk wr g 3 out) ∧ Hid (Pl.GOut E wo n m k out) ∧ Hid (Below w.heap.size w wr)) (fun _ i _ => n - (intOf i).toNat)
  case atStart => exact ⟨0, 0, _, Nat.zero_le _, rfl, rfl, IB, GO, D⟩
  case round =>
    clear IB GO D
    obtain ⟨k, m, out, hk, rfl, rfl, IB, GO, D⟩ := hrel
    by_cases hlt : k < n
    · have hko : k < out.length := by rw [GO.out.len]; exact hlt
      have hmk := GO.out.few
      have c1 := IB.out.cell k hko
      have HLB : Hid (Pl.lab out (k : Int) = out.getD k 0) := by
        show _ = _
        rw [Pl.lab_at hko, List.getD_eq_getElem?_getD, List.getElem?_eq_getElem hko]
        rfl
      generalize out.getD k 0 = lk at *
      have hkn : (k : Int) < (n : Int) := by omega
      by_cases hl : 0 ≤ lk
      · go_wp2_with fail
        go_roundw
        case rel => exact ⟨k + 1, m, out, by omega, by go_num, rfl, IB, Lib.hid (GO.out.skip (by rw [HLB.out]; exact hl)), D⟩
        case measure => simp [intOf]; omega
      · have hl2 : lk < 0 := by omega
        have GS := Lib.hid (GO.out.begin HE.out hlt (by rw [HLB.out]; exact hl2))
        have hd9 : decide (0 ≤ lk) = false := decide_eq_false hl
        have fz := IB.out.frozen
        have lt := IB.out.lt
        clear hl hl2 HLB
        go_wp2_with fail
        have I3 := Lib.hid ((IB.out.set_ k (m : Int)).alloc (.cells #[.int .i64 (k : Int)] 3))
        have D2 := D.out.setCell (p := ⟨g, k, none⟩) hgw (.int .i64 (m : Int))
        have D3 := Lib.hid (D2.alloc D2.size (.cells #[.int .i64 (k : Int)] 3))
        have Q3 := Lib.hid (QIn.new_ (wr.setCell ⟨g, k, none⟩ (.int .i64 (m : Int))) (k : Int) wr.heap.size (by simp))
        have hgt : w.heap.size ≤ wr.heap.size := D.out.size
        have hgg : wr.heap.size ≠ g := by omega
        have hbl : 1 + Pl.blanks (out.set k (m : Int)) ≤ n + 1 := by
          have := Pl.blanks_le (out.set k (m : Int))
          rw [List.length_set, GO.out.len] at this
          omega
        have HGT := Lib.hid (And.intro hgt hgg)
        clear c1 fz lt D2 hgt hgg IB
        generalize (wr.setCell ⟨g, k, none⟩ (.int .i64 (m : Int))).alloc (.cells #[.int .i64 (k : Int)] 3) = w3 at *
        generalize wr.heap.size = g0 at *
        generalize out.set k (m : Int) = out3 at *
        clear GO hko
        go_loopg [10] (n + 1) (fun gg v wr => ∃ (o2 q : List Int) (gt : Nat), q.length + Pl.blanks o2 ≤ gg ∧ q.length + Pl.blanks o2 ≤ n + 1 ∧ Hid (QIn wr gt v q) ∧ Hid (w.heap.size ≤ gt ∧ gt ≠ g) ∧ Hid (IBlk wr g 3 o2) ∧ Hid (Pl.GSt E wo n m k (-1) 0 o2 q) ∧ Hid (Below w.heap.size w wr))
        case atStart => exact ⟨out3, [(k : Int)], g0, hbl, hbl, Q3, HGT, I3, GS, D3⟩
        case round =>
          clear Q3 HGT I3 GS D3 hbl
          obtain ⟨o2, q, gt, hgq, hgn9, HQ, HGT, IB, GS, D⟩ := hrel
          cases q with
          | nil =>
            have GN := Lib.hid (GS.out.end_ HE.out)
            have hln := HQ.out.len
            simp only [List.length_nil] at hln
            have hm9 : IntKind.i64.wrap ((m : Int) + 1) = (m : Int) + 1 := IntWalk.i64_in _ (by omega)
            go_wp2_with fail
            go_roundw
            case rel => exact ⟨k + 1, m + 1, o2, by omega, by go_num, by go_num, IB, GN, D⟩
            case measure => simp [intOf]; omega
          | cons at_ q =>
            obtain ⟨t0, t1, t2⟩ := GS.out.queue at_ (by simp)
            have GP := Lib.hid (GS.out.pop HE.out)
            obtain ⟨oq, vq, hix, c0, hsl, hq2⟩ := HQ.out.front
            have hln := HQ.out.len
            have HQ2 := Lib.hid hq2
            have hlen0 : (0 : Int) < (((at_ :: q).length : Nat) : Int) := by simp
            have hqb : q.length + Pl.blanks o2 < gk := by rw [List.length_cons] at hgq; omega
            have hqn : q.length + Pl.blanks o2 ≤ n := by rw [List.length_cons] at hgn9; omega
            generalize (at_ :: q).length = qn at *
            clear hq2 HQ hgq hgn9
            have HT2 := Lib.hid t2
            clear t2 GS
            go_wp2_with fail
            clear hix c0 hsl hln hlen0
            obtain ⟨N0, hN0⟩ : ∃ N0, N0 = q.length + Pl.blanks o2 := ⟨_, rfl⟩
            rw [← hN0] at hqb hqn
            have HN0 := Lib.hid hN0
            clear hN0
            generalize decide (0 < qn) = b35
            go_loopw [10, 43] (fun v i wr => ∃ (j : Nat) (o3 q3 : List Int) (gt3 : Nat), j ≤ ne ∧ i = .int .i64 j ∧ Hid (QIn wr gt3 v q3) ∧ Hid (w.heap.size ≤ gt3 ∧ gt3 ≠ g) ∧ Hid (IBlk wr g 3 o3) ∧ Hid (Pl.GSt E wo n m k at_ j o3 q3) ∧ Hid (Pl.lab o3 at_ = m) ∧ Hid (q3.length + Pl.blanks o3 = N0) ∧ Hid (Below w.heap.size w wr)) (fun _ i _ => ne - (intOf i).toNat)
            case atStart => exact ⟨0, o2, q, gt, Nat.zero_le _, rfl, HQ2, HGT, IB, GP, HT2, HN0.out.symm, D⟩
            case round =>
              clear HQ2 HGT IB GP HT2 HN0 D
              obtain ⟨j, o3, q3, gt3, hj, rfl, HQ, HGT, IB, GS, HT, HNN, D⟩ := hrel
              by_cases hlt2 : j < ne
              · obtain ⟨be, oe, rfl, _, hle, e0, e1⟩ := edg2_at (HR.out.go D.out) (k := j) hlt2
                have HEK : Hid (E[j]? = some (E[j].1, E[j].2)) := List.getElem?_eq_getElem hle
                obtain ⟨a0, a1, b0, b1⟩ := HE.out _ (List.getElem_mem hle)
                generalize E[j].1 = a at *
                generalize E[j].2 = b at *
                have hb5 := (Below.refl wr.heap.size wr).alloc (Nat.le_refl _) (.cells #[.int .i64 a, .int .i64 b] 223)
                have QB := Lib.hid (HQ.out.go hb5)
                have IB2 := Lib.hid (IB.out.go hb5)
                have D2 := Lib.hid (D.out.trans (hb5.mono D.out.size))
                have XB := Lib.hid (Blk.new_ wr wr.heap.size 223 #[.int .i64 a, .int .i64 b] rfl)
                have hgn : wr.heap.size ≠ g := by have := IB.out.lt; omega
                have hgn3 : wr.heap.size ≠ gt3 := by have := HQ.out.lt; omega
                clear hb5 hgn hgn3 HQ IB D
                have xc := XB.out.cell
                have xl := XB.out.lt
                have hjn : (j : Int) < (ne : Int) := by omega
                by_cases hw : (j : Int) = wo
                · have hw2 : ((j : Int) == wo) = true := by simpa using hw
                  have GN := Lib.hid (GS.out.pass HEK.out (.inl hw))
                  clear hw
                  go_wp2_with fail
                  go_roundw
                  case rel => exact ⟨j + 1, o3, q3, gt3, by omega, by go_num, QB, HGT, IB2, GN, HT, HNN, D2⟩
                  case measure => simp [intOf]; omega
                have hw2 : ((j : Int) == wo) = false := by simpa using hw
                by_cases hx : a ≠ at_ ∧ b ≠ at_
                · have ha2 : (a != at_) = true := by simpa using hx.1
                  have hb2 : (b != at_) = true := by simpa using hx.2
                  have GN := Lib.hid (GS.out.pass HEK.out (.inr (.inl hx)))
                  clear hw hx
                  go_wp2_with fail
                  go_roundw
                  case rel => exact ⟨j + 1, o3, q3, gt3, by omega, by go_num, QB, HGT, IB2, GN, HT, HNN, D2⟩
                  case measure => simp [intOf]; omega
                have hab : IntKind.i64.wrap (a + b) = a + b := IntWalk.i64_in _ (by omega)
                obtain ⟨tq, hto, htc⟩ : ∃ tq, a + b - at_ = tq ∧ ((a = at_ ∧ tq = b) ∨ (b = at_ ∧ tq = a)) := by
                  by_cases h : a = at_
                  · exact ⟨_, rfl, .inl ⟨h, by omega⟩⟩
                  · have : b = at_ := by
                      rcases Classical.em (b = at_) with h2 | h2
                      · exact h2
                      · exact absurd ⟨h, h2⟩ hx
                    exact ⟨_, rfl, .inr ⟨this, by omega⟩⟩
                have hto0 : 0 ≤ tq ∧ tq < n := by omega
                obtain ⟨hto1, hto2⟩ := hto0
                have HTS : Hid ((a != at_) = false ∨ ((a != at_) = true ∧ (b != at_) = false)) := by
                  show _ ∨ _
                  by_cases h : a = at_
                  · exact .inl (by rw [bne_eq_false_iff_eq]; exact h)
                  · rcases htc with ⟨h', _⟩ | ⟨h', _⟩
                    · exact absurd h' h
                    · exact .inr ⟨by rw [bne_iff_ne]; exact h, by rw [bne_eq_false_iff_eq]; exact h'⟩
                have HTC := Lib.hid htc
                have HWO := Lib.hid hw
                have htl : tq.toNat < o3.length := by rw [GS.out.len]; omega
                have htn : (tq.toNat : Int) = tq := by omega
                have ct := IB2.out.cell tq.toNat htl
                have HLB : Hid (Pl.lab o3 tq = o3.getD tq.toNat 0) := by
                  show _ = _
                  have := Pl.lab_at htl
                  rw [htn] at this
                  rw [this, List.getD_eq_getElem?_getD, List.getElem?_eq_getElem htl]
                  rfl
                have HGE : Hid (o3[tq.toNat]'htl = o3.getD tq.toNat 0) := by show _ = _; rw [List.getD_eq_getElem?_getD, List.getElem?_eq_getElem htl]; rfl
                clear hx htc hw
                obtain ⟨lt9, hl9⟩ : ∃ l, l = o3.getD tq.toNat 0 := ⟨_, rfl⟩
                rw [← hl9] at ct HLB HGE
                clear hl9
                by_cases hl : 0 ≤ lt9
                · have hd9 : decide (lt9 < 0) = false := decide_eq_false (by omega)
                  have hsn := GS.out.seen HE.out HWO.out HEK.out HT.out (by
                    rcases HTC.out with ⟨h1, h2⟩ | ⟨h1, h2⟩
                    · exact .inl ⟨h1, by rw [← h2, HLB.out]; exact hl⟩
                    · exact .inr ⟨h1, by rw [← h2, HLB.out]; exact hl⟩)
                  have GN := Lib.hid (GS.out.pass HEK.out (.inr (.inr hsn)))
                  clear hl hsn
                  rcases HTS.out with h1 | ⟨h1, h2⟩
                  all_goals
                    go_wp2_with fail
                    go_roundw
                    case rel => exact ⟨j + 1, o3, q3, gt3, by omega, by go_num, QB, HGT, IB2, GN, HT, HNN, D2⟩
                    case measure => simp [intOf]; omega
                · have hl2 : lt9 < 0 := by omega
                  have GN := Lib.hid (GS.out.hit HE.out HWO.out HEK.out HT.out HTC.out (by rw [HLB.out]; exact hl2) t0 t1)
                  have HTN : Hid (Pl.lab (o3.set tq.toNat (m : Int)) at_ = m) := by
                    show _ = _
                    rw [Pl.lab_set hto1 (by rw [GS.out.len]; omega) t0]
                    split
                    · rfl
                    · exact HT.out
                  have HNB : Hid ((q3 ++ [tq]).length + Pl.blanks (o3.set tq.toNat (m : Int)) = N0) := by
                    show _ = _
                    have h7 := Pl.blanks_set (m := m) htl (by rw [HGE.out]; exact hl2)
                    have h8 := HNN.out
                    rw [List.length_append, List.length_singleton]
                    omega
                  have HQL : Hid (q3.length ≤ 1000000) := by
                    show _ ≤ _
                    have h8 := HNN.out
                    omega
                  have hgg3 : gt3 ≠ g := HGT.out.2
                  have fz := IB2.out.frozen
                  have ltg := IB2.out.lt
                  have Ae := (Below.refl ((wr.alloc (.cells #[.int .i64 a, .int .i64 b] 223)).setCell ⟨g, tq.toNat, none⟩ (.int .i64 (m : Int))).heap.size ((wr.alloc (.cells #[.int .i64 a, .int .i64 b] 223)).setCell ⟨g, tq.toNat, none⟩ (.int .i64 (m : Int)))).alloc (Nat.le_refl _) (.cells #[.int .i64 tq] 3)
                  have Ie := Lib.hid ((IB2.out.set_ tq.toNat (m : Int)).alloc (.cells #[.int .i64 tq] 3))
                  have Fd := D2.out.setCell (p := ⟨g, tq.toNat, none⟩) hgw (.int .i64 (m : Int))
                  have Fe := Lib.hid (Fd.alloc Fd.size (.cells #[.int .i64 tq] 3))
                  obtain ⟨v4, g6, w4, hap, hq4, hgr4, hg6⟩ := ((QB.out.far (p := ⟨g, tq.toNat, none⟩) hgg3 (.int .i64 (m : Int))).go Ae).push tq (wr.heap.size + 1) (by rw [(Blk.new_ _ _ _ _ (by simp)).cell]; rfl) HQL.out
                  have Q4 := Lib.hid hq4
                  have I4 := Lib.hid (Ie.out.grown hgr4 (by intro e; injection e with e; exact hgg3 e.symm))
                  have F4 := Lib.hid (Fe.out.grown hgr4 Fe.out.size (by rintro j ⟨⟩; exact HGT.out.1))
                  have HG6 : Hid (w.heap.size ≤ g6 ∧ g6 ≠ g) := by
                    rcases hg6 with h | h
                    · rw [h]; exact HGT.out
                    · rw [h]
                      refine ⟨Fe.out.size, ?_⟩
                      have := Ie.out.lt
                      omega
                  clear hq4 hgr4 hg6 Fd Ae HLB HGE HNN HTC HEK HT GS
                  rcases HTS.out with h1 | ⟨h1, h2⟩
                  all_goals
                    go_wp2_with (at_builtin; go_must (refine wpList_append_run rfl (.tmp 79) (.tmp 81) 57 rfl _ _ _ rfl rfl hap ?_))
                    go_roundw
                    case rel => exact ⟨j + 1, o3.set tq.toNat (m : Int), q3 ++ [tq], g6, by omega, by go_num, Q4, HG6, I4, GN, HTN, HNB, F4⟩
                    case measure => simp [intOf]; omega
              · have hje : j = ne := by omega
                subst hje
                rw [← HEN.out] at GS
                have GN := Lib.hid GS.out.scanned
                go_wp2_with fail
                go_roundg N0
                case rel => exact ⟨o3, q3, gt3, by rw [HNN.out]; exact Nat.le_refl _, by rw [HNN.out]; omega, HQ, HGT, IB, GN, D⟩
                case measure => omega
    · have : k = n := by omega
      subst this
      go_wp2_with fail
      go_ret
      exact ⟨g, out, m, rfl, hgw, IB.out, GO.out, D.out⟩
end Go.Proofs.YtoblpcljhblnmaaGreatDoor
namespace Go.Proofs.YtoblpcljhblnmaaGreatDoor
open Go.RowKit
set_option maxRecDepth 100000
set_option maxHeartbeats 1600000 in
theorem gcheck_ok (n : Nat) (A : Option Addr) (ne c : Nat) (E : List (Int × Int)) (w : World) (hn : n ≤ 24) (hne : ne ≤ 64) (hr : Reads w w.heap.size 2 A ne (edgs2 E)) (hE : Pl.EdgesIn n E) :
    Calls Tryz.prog 171 #[.int .i64 n, .slice A ne c] w fun e w' => e = .returned (.int .i64 0) ∧ Below w.heap.size w w' := by
  have HR := Lib.hid hr
  have HE := Lib.hid hE
  have h1 : ¬ (24 : Int) < (n : Int) := by omega
  have h2 : ¬ (64 : Int) < (ne : Int) := by omega
  clear hr hE
  go_enter Tryz.func171, Tryz.ntmps171
  go_wp2_with fail
  go_loopw [20] (fun i wr => ∃ k : Nat, k ≤ ne ∧ i = .int .i64 k ∧ Hid (Below w.heap.size w wr)) (fun i _ => ne - (intOf i).toNat)
  case atStart => exact ⟨0, Nat.zero_le _, rfl, Below.refl _ _⟩
  case round =>
    obtain ⟨k, hk, rfl, D⟩ := hrel
    by_cases hlt : k < ne
    · obtain ⟨be, oe, rfl, _, hle, e0, e1⟩ := edg2_at (HR.out.go D.out) (k := k) hlt
      obtain ⟨a0, a1, b0, b1⟩ := HE.out _ (List.getElem_mem hle)
      generalize E[k].1 = a at *
      generalize E[k].2 = b at *
      have hb5 := (Below.refl wr.heap.size wr).alloc (Nat.le_refl _) (.cells #[.int .i64 a, .int .i64 b] 223)
      have D2 := Lib.hid (D.out.trans (hb5.mono D.out.size))
      have xb := Blk.new_ wr wr.heap.size 223 #[.int .i64 a, .int .i64 b] rfl
      have xc := xb.cell
      have xl := xb.lt
      have hkn : (k : Int) < (ne : Int) := by omega
      have q1 : decide (a < 0) = false := decide_eq_false (by omega)
      have q2 : decide ((n : Int) ≤ a) = false := decide_eq_false (by omega)
      have q3 : decide (b < 0) = false := decide_eq_false (by omega)
      have q4 : decide ((n : Int) ≤ b) = false := decide_eq_false (by omega)
      clear hb5 xb
      go_wp2_with fail
      go_roundw
      case rel => exact ⟨k + 1, by omega, by go_num, D2⟩
      case measure => simp [intOf]; omega
    · go_wp2_with fail
      go_ret
      exact ⟨rfl, D.out⟩
def CompSaid (E : List (Int × Int)) (n : Nat) (w : World) (e : Ending) (w' : World) : Prop :=
  ∃ (g : Nat) (out : List Int) (m : Nat), e = .returned (.tuple #[.slice (some ⟨g, 0, none⟩) n n, .int .i64 0]) ∧ w.heap.size ≤ g ∧ IBlk w' g 3 out ∧ Pl.GOut E (-1) n m n out ∧ Below w.heap.size w w'
theorem comp_any (n : Nat) (A : Option Addr) (ne c : Nat) (E : List (Int × Int)) (w : World) (hn : n ≤ 24) (hne : ne ≤ 64) (hr : Reads w w.heap.size 2 A ne (edgs2 E)) (hE : Pl.EdgesIn n E) :
    Calls Tryz.prog 130 #[.int .i64 n, .slice A ne c] w (CompSaid E n w) := by
  have HC := Lib.hid (gcheck_ok n A ne c E w hn hne hr hE)
  have HR := Lib.hid hr
  have HE := Lib.hid hE
  clear hr hE
  go_enter Tryz.func130, Tryz.ntmps130
  go_wp2_with fail
  refine HC.out.mono ?_
  rintro e w1 ⟨rfl, hb⟩
  have D := Lib.hid hb
  clear hb HC
  go_wp2_with fail
  refine (parts_any n A ne c E (-1) w1 (by omega) (by omega) (HR.out.go D.out) HE.out).mono ?_
  rintro e w2 ⟨g, out, m, rfl, hg, hi, hgo, hb⟩
  have D2 := Lib.hid (D.out.trans (hb.mono D.out.size))
  have hg2 : w.heap.size ≤ g := Nat.le_trans D.out.size hg
  have IB := Lib.hid hi
  have GO := Lib.hid hgo
  clear hb hg hi hgo
  go_wp2_with fail
  go_ret2
  exact ⟨g, out, m, rfl, hg2, IB.out, GO.out, D2.out⟩
end Go.Proofs.YtoblpcljhblnmaaGreatDoor
