/- The reference's Cut, plain: the search over all sets by their size, and why it ends at what least answers. No program. -/
import Derived.Test.YtpamgeemmbbkkaaPCut
namespace Go.Proofs.Ytpamgeemmbbkkaa.Pl
section
variable (iso : List ByteArray → Bool) (nl : List ByteArray → Nat)
/-- the better of two: the first one, unless the second has fewer nodes near -/
def updP (best out : Option (List ByteArray)) : Option (List ByteArray) :=
  match out with
  | none => best
  | some o => match best with
    | none => some o
    | some b => if nl o < nl b then some o else some b
def goP (f : List ByteArray → List ByteArray → Option (List ByteArray)) (set : List ByteArray) : List ByteArray → Option (List ByteArray) → Option (List ByteArray)
  | [], best => best
  | s :: rest, best => goP f set rest (updP nl best (f rest (set ++ [s])))
/-- the reference's choose -/
def chooseP : Nat → List ByteArray → List ByteArray → Option (List ByteArray)
  | 0, _, set => if iso set then some set else none
  | k + 1, all, set => goP nl (chooseP k) set all none
def cutGo (all : List ByteArray) : Nat → Nat → Option (List ByteArray)
  | _, 0 => none
  | size, fuel + 1 => match chooseP iso nl size all [] with
    | some o => some o
    | none => cutGo all (size + 1) fuel
/-- the reference's Cut -/
def cutP (all : List ByteArray) : Option (List ByteArray) := cutGo iso nl all 0 (all.length + 1)
def SpecP (k : Nat) (all set : List ByteArray) (r : Option (List ByteArray)) : Prop :=
  (r = none → ∀ Y : List ByteArray, Y.Sublist all → Y.length = k → iso (set ++ Y) = false) ∧
  (∀ b, r = some b → iso b = true ∧ (∃ Y : List ByteArray, Y.Sublist all ∧ Y.length = k ∧ b = set ++ Y) ∧ ∀ Y : List ByteArray, Y.Sublist all → Y.length = k → iso (set ++ Y) = true → nl b ≤ nl (set ++ Y))
theorem goP_spec {k : Nat} {f : List ByteArray → List ByteArray → Option (List ByteArray)} (hf : ∀ all set, SpecP iso nl k all set (f all set)) (set : List ByteArray) : ∀ (all : List ByteArray) (best : Option (List ByteArray)), (∀ b, best = some b → iso b = true) →
    (goP nl f set all best = none → best = none ∧ ∀ Y : List ByteArray, Y.Sublist all → Y.length = k + 1 → iso (set ++ Y) = false) ∧
    (∀ b, goP nl f set all best = some b → iso b = true ∧ (best = some b ∨ ∃ Y : List ByteArray, Y.Sublist all ∧ Y.length = k + 1 ∧ b = set ++ Y) ∧ (∀ b0, best = some b0 → nl b ≤ nl b0) ∧ ∀ Y : List ByteArray, Y.Sublist all → Y.length = k + 1 → iso (set ++ Y) = true → nl b ≤ nl (set ++ Y))
  | [], best, hb => by
    refine ⟨fun h => ⟨h, fun Y hY hk => ?_⟩, fun b h => ⟨hb b h, .inl h, fun b0 h0 => ?_, fun Y hY hk => ?_⟩⟩
    · rw [List.sublist_nil.1 hY] at hk; simp at hk
    · have h : best = some b := h
      rw [h] at h0; injection h0 with h0; rw [h0]; exact Nat.le_refl _
    · rw [List.sublist_nil.1 hY] at hk; simp at hk
  | s :: rest, best, hb => by
    have hs := hf rest (set ++ [s])
    have hsplit : ∀ Y : List ByteArray, Y.Sublist (s :: rest) → Y.length = k + 1 → (Y.Sublist rest ∨ ∃ Y', Y'.Sublist rest ∧ Y'.length = k ∧ set ++ Y = (set ++ [s]) ++ Y') := by
      intro Y hY hk
      cases hY with
      | cons _ h => exact .inl h
      | cons_cons _ h => exact .inr ⟨_, h, by simpa using hk, by simp⟩
    have hub : ∀ b, updP nl best (f rest (set ++ [s])) = some b → iso b = true ∧ (best = some b ∨ ∃ Y : List ByteArray, Y.Sublist (s :: rest) ∧ Y.length = k + 1 ∧ b = set ++ Y) ∧ (∀ b0, best = some b0 → nl b ≤ nl b0) ∧ ∀ o, f rest (set ++ [s]) = some o → nl b ≤ nl o := by
      intro b h
      unfold updP at h
      cases ho : f rest (set ++ [s]) with
      | none =>
        rw [ho] at h
        have h : best = some b := h
        exact ⟨hb b h, .inl h, fun b0 h0 => by rw [h] at h0; injection h0 with h0; rw [h0]; exact Nat.le_refl _, fun o h1 => by cases h1⟩
      | some o =>
        rw [ho] at h
        obtain ⟨h1, ⟨Y, hY, hk, hoe⟩, _⟩ := hs.2 o ho
        have hoy : ∃ Y : List ByteArray, Y.Sublist (s :: rest) ∧ Y.length = k + 1 ∧ o = set ++ Y := ⟨s :: Y, hY.cons_cons s, by simp [hk], by rw [hoe]; simp⟩
        cases hbe : best with
        | none =>
          rw [hbe] at h
          injection h with h
          subst h
          exact ⟨h1, .inr hoy, fun b0 h0 => (by cases h0), fun o' h' => by injection h' with h'; rw [h']; exact Nat.le_refl _⟩
        | some b1 =>
          rw [hbe] at h
          simp only at h
          split at h
          · rename_i hlt
            injection h with h
            subst h
            exact ⟨h1, .inr hoy, fun b0 h0 => by injection h0 with h0; subst h0; omega, fun o' h' => by injection h' with h'; rw [h']; exact Nat.le_refl _⟩
          · rename_i hlt
            injection h with h
            subst h
            exact ⟨hb _ hbe, .inl rfl, fun b0 h0 => by injection h0 with h0; rw [h0]; exact Nat.le_refl _, fun o' h' => by injection h' with h'; subst h'; omega⟩
    have hun : updP nl best (f rest (set ++ [s])) = none → best = none ∧ f rest (set ++ [s]) = none := by
      intro h
      unfold updP at h
      cases ho : f rest (set ++ [s]) with
      | none => rw [ho] at h; exact ⟨h, rfl⟩
      | some o =>
        rw [ho] at h
        cases hbe : best with
        | none => rw [hbe] at h; cases h
        | some b1 => rw [hbe] at h; simp only at h; split at h <;> cases h
    obtain ⟨g1, g2⟩ := goP_spec hf set rest (updP nl best (f rest (set ++ [s]))) (fun b h => (hub b h).1)
    refine ⟨fun h => ?_, fun b h => ?_⟩
    · obtain ⟨h1, h2⟩ := g1 h
      obtain ⟨h3, h4⟩ := hun h1
      refine ⟨h3, fun Y hY hk => ?_⟩
      rcases hsplit Y hY hk with h5 | ⟨Y', h5, h6, h7⟩
      · exact h2 Y h5 hk
      · rw [h7]; exact hs.1 h4 Y' h5 h6
    · obtain ⟨h1, h2, h3, h4⟩ := g2 b h
      refine ⟨h1, ?_, fun b0 h0 => ?_, fun Y hY hk hi => ?_⟩
      · rcases h2 with h2 | ⟨Y, hY, hk, he⟩
        · exact (hub b h2).2.1
        · exact .inr ⟨Y, hY.cons s, hk, he⟩
      · cases hu : updP nl best (f rest (set ++ [s])) with
        | none => have := (hun hu).1; rw [this] at h0; cases h0
        | some b1 => exact Nat.le_trans (h3 b1 hu) ((hub b1 hu).2.2.1 b0 h0)
      · rcases hsplit Y hY hk with h5 | ⟨Y', h5, h6, h7⟩
        · exact h4 Y h5 hk hi
        · rw [h7] at hi ⊢
          cases ho : f rest (set ++ [s]) with
          | none => have := hs.1 ho Y' h5 h6; rw [this] at hi; cases hi
          | some o =>
            have h8 := (hs.2 o ho).2.2 Y' h5 h6 hi
            cases hu : updP nl best (f rest (set ++ [s])) with
            | none => have := (hun hu).2; rw [ho] at this; cases this
            | some b1 =>
              have h9 := (hub b1 hu).2.2.2 o ho
              have h10 := h3 b1 hu
              omega
theorem chooseP_spec : ∀ (k : Nat) (all set : List ByteArray), SpecP iso nl k all set (chooseP iso nl k all set)
  | 0, all, set => by
    unfold chooseP
    constructor
    · intro h Y hY hk
      rw [List.eq_nil_of_length_eq_zero hk, List.append_nil]
      cases hi : iso set with
      | false => rfl
      | true => rw [hi] at h; cases h
    · intro b h
      split at h
      · rename_i hi
        injection h with h
        subst h
        refine ⟨hi, ⟨[], by simp, rfl, by simp⟩, fun Y hY hk _ => ?_⟩
        rw [List.eq_nil_of_length_eq_zero hk, List.append_nil]; exact Nat.le_refl _
      · cases h
  | k + 1, all, set => by
    obtain ⟨h1, h2⟩ := goP_spec iso nl (chooseP_spec k) set all none (fun b h => by cases h)
    refine ⟨fun h => (h1 h).2, fun b h => ?_⟩
    obtain ⟨a, b', _, d⟩ := h2 b h
    refine ⟨a, ?_, d⟩
    rcases b' with b' | b'
    · cases b'
    · exact b'
/-- no set isolates: no cut -/
theorem cutP_none {all : List ByteArray} (h : ∀ Y : List ByteArray, Y.Sublist all → iso Y = false) : cutP iso nl all = none := by
  have : ∀ fuel size, cutGo iso nl all size fuel = none := by
    intro fuel
    induction fuel with
    | zero => intro _; rfl
    | succ fuel ih =>
      intro size
      unfold cutGo
      cases hc : chooseP iso nl size all [] with
      | none => exact ih _
      | some o =>
        obtain ⟨h1, ⟨Y, hY, _, he⟩, _⟩ := (chooseP_spec iso nl size all []).2 o hc
        rw [he, List.nil_append, h Y hY] at h1
        cases h1
  exact this _ _
/-- one set is the best one -/
theorem cutP_some {all out : List ByteArray} (ho : out.Sublist all) (hi : iso out = true) (hmin : ∀ Y : List ByteArray, Y.Sublist all → iso Y = true → out.length ≤ Y.length)
    (hbest : ∀ Y : List ByteArray, Y.Sublist all → iso Y = true → Y.length = out.length → nl Y ≤ nl out → Y = out) : cutP iso nl all = some out := by
  have hlen := ho.length_le
  have : ∀ fuel size, size ≤ out.length → out.length < size + fuel → cutGo iso nl all size fuel = some out := by
    intro fuel
    induction fuel with
    | zero => intro size h1 h2; omega
    | succ fuel ih =>
      intro size h1 h2
      unfold cutGo
      have hsp := chooseP_spec iso nl size all []
      cases hc : chooseP iso nl size all [] with
      | none =>
        have hne : size ≠ out.length := fun e => by
          have := hsp.1 hc out ho e.symm
          rw [List.nil_append, hi] at this; cases this
        exact ih (size + 1) (by omega) (by omega)
      | some o =>
        obtain ⟨h3, ⟨Y, hY, hk, he⟩, h5⟩ := hsp.2 o hc
        rw [List.nil_append] at he
        subst he
        have h6 := hmin _ hY h3
        have h7 : o.length = out.length := by omega
        have h8 := h5 out ho (by omega) (by rw [List.nil_append]; exact hi)
        rw [List.nil_append] at h8
        simp only
        rw [hbest _ hY h3 h7 h8]
  exact this _ 0 (Nat.zero_le _) (by omega)
end
end Go.Proofs.Ytpamgeemmbbkkaa.Pl
