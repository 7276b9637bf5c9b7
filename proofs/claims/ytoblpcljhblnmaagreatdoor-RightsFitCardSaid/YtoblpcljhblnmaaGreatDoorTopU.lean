/- Buses and islands are told by the network alone; a solution of the matrix of a network is 0 (plain). No condition. -/
import Derived.Test.YtoblpcljhblnmaaGreatDoorTop
import Derived.Test.YtoblpcljhblnmaaGreatDoorPMat
namespace Go.Proofs.YtoblpcljhblnmaaGreatDoor.Pl
theorem lab_lnk {E : List (Int × Int)} {wo : Int} {n m : Nat} {out : List Int} (h : GOut E wo n m n out) {a b : Int} (hl : Lnk E wo a b) (a0 : 0 ≤ a) (an : a < n) : lab out b = lab out a := by
  have h0 := (h.at_ a0 an).1
  induction hl with
  | refl => rfl
  | fwd _ k hw he ih => rw [(h.closed k _ _ hw he).1 (by omega), ih]
  | bwd _ k hw he ih => rw [(h.closed k _ _ hw he).2 (by omega), ih]
theorem lab_new {E : List (Int × Int)} {wo : Int} {n m : Nat} {out : List Int} (h : GOut E wo n m n out) {v : Int} (v0 : 0 ≤ v) (vn : v < n) (hnew : ∀ u : Int, 0 ≤ u → u < v → lab out u ≠ lab out v) :
    (∀ u : Int, 0 ≤ u → u < v → lab out u < lab out v) ∧ ∀ j : Int, 0 ≤ j → j < lab out v → ∃ u : Int, 0 ≤ u ∧ u < v ∧ lab out u = j := by
  have hv := h.at_ v0 vn
  obtain ⟨x, x0, xn, hx, hb⟩ := h.all _ hv.1 hv.2
  have e : x = v := by
    rcases Int.lt_trichotomy x v with h1 | h1 | h1
    · exact absurd hx (hnew x x0 h1)
    · exact h1
    · have := (hb v v0 h1).2; omega
  subst e
  refine ⟨fun u u0 uv => (hb u u0 uv).2, fun j j0 jl => ?_⟩
  obtain ⟨y, y0, yn, hy, hc⟩ := h.all j j0 (by omega)
  refine ⟨y, y0, ?_, hy⟩
  rcases Int.lt_trichotomy y x with h1 | h1 | h1
  · exact h1
  · subst h1; omega
  · have := (hc x x0 h1).2; omega
theorem gout_lab {E : List (Int × Int)} {wo : Int} {n m m' : Nat} {out out' : List Int} (h : GOut E wo n m n out) (h' : GOut E wo n m' n out') : ∀ k : Nat, k < n → lab out (k : Int) = lab out' (k : Int) := by
  intro k
  induction k using Nat.strongRecOn with
  | _ k ih =>
    intro hk
    by_cases h1 : ∃ u : Int, 0 ≤ u ∧ u < k ∧ lab out u = lab out k
    · obtain ⟨u, u0, uk, hu⟩ := h1
      have hl := h.same u k u0 (by omega) (by omega) (by omega) hu (h.at_ u0 (by omega)).1
      have h2 := lab_lnk h' hl u0 (by omega)
      have h3 := ih u.toNat (by omega) (by omega)
      rw [show ((u.toNat : Nat) : Int) = u by omega] at h3
      omega
    · by_cases h2 : ∃ u : Int, 0 ≤ u ∧ u < k ∧ lab out' u = lab out' k
      · obtain ⟨u, u0, uk, hu⟩ := h2
        have hl := h'.same u k u0 (by omega) (by omega) (by omega) hu (h'.at_ u0 (by omega)).1
        have h2 := lab_lnk h hl u0 (by omega)
        have h3 := ih u.toNat (by omega) (by omega)
        rw [show ((u.toNat : Nat) : Int) = u by omega] at h3
        omega
      · have hI : ∀ u : Int, 0 ≤ u → u < k → lab out u = lab out' u := fun u u0 uk => by
          have h3 := ih u.toNat (by omega) (by omega)
          rwa [show ((u.toNat : Nat) : Int) = u by omega] at h3
        obtain ⟨a1, a2⟩ := lab_new h (v := k) (by omega) (by omega) fun u u0 uk e => h1 ⟨u, u0, uk, e⟩
        obtain ⟨b1, b2⟩ := lab_new h' (v := k) (by omega) (by omega) fun u u0 uk e => h2 ⟨u, u0, uk, e⟩
        have c1 := (h.at_ (v := k) (by omega) (by omega)).1
        have c2 := (h'.at_ (v := k) (by omega) (by omega)).1
        rcases Int.lt_trichotomy (lab out k) (lab out' k) with h3 | h3 | h3
        · obtain ⟨u, u0, uk, e⟩ := b2 _ c1 h3
          have := a1 u u0 uk
          rw [hI u u0 uk] at this
          omega
        · exact h3
        · obtain ⟨u, u0, uk, e⟩ := a2 _ c2 h3
          have := b1 u u0 uk
          rw [← hI u u0 uk] at this
          omega
theorem gout_uniq {E : List (Int × Int)} {wo : Int} {n m m' : Nat} {out out' : List Int} (h : GOut E wo n m n out) (h' : GOut E wo n m' n out') : out = out' ∧ m = m' := by
  have hl := gout_lab h h'
  constructor
  · apply List.ext_getElem (by rw [h.len, h'.len])
    intro i h1 h2
    rw [h.len] at h1
    have := hl i h1
    rw [lab_at (by rw [h.len]; exact h1), lab_at (by rw [h'.len]; exact h1)] at this
    exact this
  · have key : ∀ {m m' : Nat} {out out' : List Int}, GOut E wo n m n out → GOut E wo n m' n out' → ¬ m < m' := fun {m m' out out'} h h' hlt => by
      obtain ⟨v, v0, vn, hv, _⟩ := h'.all m (by omega) (by omega)
      have h1 := gout_lab h h' v.toNat (by omega)
      rw [show ((v.toNat : Nat) : Int) = v by omega] at h1
      have := (h.at_ v0 vn).2
      omega
    have := key h h'
    have := key h' h
    omega
theorem TopOk.uniq {N : Net} {bus bus' isl isl' : List Int} {mb mb' mi mi' : Nat} (h : TopOk N bus isl mb mi) (h' : TopOk N bus' isl' mb' mi') : bus = bus' ∧ isl = isl' ∧ mb = mb' ∧ mi = mi' := by
  obtain ⟨e1, e2⟩ := gout_uniq h.buses h'.buses
  subst e1 e2
  obtain ⟨e3, e4⟩ := gout_uniq h.isles h'.isles
  exact ⟨rfl, e3, rfl, e4⟩
theorem lap_free {E : List (Int × Int)} {n m : Nat} {isl : List Int} (h : GOut E (-1) n m n isl) {qs : List Rat} (hq : ∀ q ∈ qs, 0 < q) (hl : qs.length = E.length) :
    Free (freeL isl).length (lapM (freeL isl) ((E.zip qs).map fun x => (x.1.1, x.1.2, x.2))) := by
  intro x hx j hj
  have hmem : ∀ (k : Nat) (a b : Int), E[k]? = some (a, b) → atBus (freeL isl) x a = atBus (freeL isl) x b := fun k a b hk => by
    obtain ⟨hk1, hk2⟩ := List.getElem?_eq_some_iff.1 hk
    have hk3 : k < qs.length := by omega
    have h1 := lap_ker (free := freeL isl) (es := (E.zip qs).map fun x => (x.1.1, x.1.2, x.2)) (fun e he => by
      obtain ⟨y, hy, rfl⟩ := List.mem_map.1 he
      exact hq _ (List.of_mem_zip hy).2) hx (a, b, qs[k]) (by
      rw [List.mem_map]
      refine ⟨((a, b), qs[k]), ?_, rfl⟩
      rw [← hk2]
      have := List.getElem_mem (l := E.zip qs) (n := k) (by rw [List.length_zip]; omega)
      rwa [List.getElem_zip] at this)
    exact h1
  have hlnk : ∀ a b : Int, Lnk E (-1) a b → atBus (freeL isl) x b = atBus (freeL isl) x a := fun a b hl => by
    induction hl with
    | refl => rfl
    | fwd _ k _ he ih => rw [← hmem k _ _ he, ih]
    | bwd _ k _ he ih => rw [hmem k _ _ he, ih]
  have hnd := freeTo_nodup isl isl.length
  have hp := place_at hnd (i := j) hj
  have hv := mem_freeTo.1 (List.getElem_mem (l := freeL isl) hj)
  obtain ⟨v, hv9⟩ : ∃ v, v = (freeL isl)[j] := ⟨_, rfl⟩
  have hp2 : place (freeL isl) v = j := by rw [hv9]; exact hp
  rw [← hv9, h.len] at hv
  obtain ⟨v0, vn, _⟩ := hv
  have hc := h.at_ v0 vn
  obtain ⟨u, u0, un, hu, hb⟩ := h.all _ hc.1 hc.2
  have hun : u ∉ freeL isl := fun hm => by
    obtain ⟨_, _, i, hi, he⟩ := mem_freeTo.1 hm
    have h1 := (hb i (by omega) (by omega)).2
    have e1 : lab isl (i : Int) = isl.getD i (-1) := by unfold lab; rw [Int.toNat_natCast]
    have e2 : lab isl u = isl.getD u.toNat (-1) := rfl
    omega
  have hl := h.same u v u0 un v0 vn hu (by omega)
  have h2 := hlnk u v hl
  unfold atBus at h2
  rw [hp2, if_pos (by omega), place_no hun, if_neg (by omega)] at h2
  exact h2
end Go.Proofs.YtoblpcljhblnmaaGreatDoor.Pl
