/- The fixed example of package choose, plain: its breaker is the smallest set, and the place at the line's end is connected. No program. -/
import Derived.Test.YtpamgeemmbbkkaaPFieldB
namespace Go.Proofs.Ytpamgeemmbbkkaa.Pl
theorem three {E : List Edg} {x y z : Int × Int × ByteArray × Bool} (h : E.map shp = [x, y, z]) : ∃ a b c, E = [a, b, c] ∧ shp a = x ∧ shp b = y ∧ shp c = z := by
  match E, h with
  | [a, b, c], h => simp at h; exact ⟨a, b, c, rfl, h.1, h.2.1, h.2.2⟩
  | [], h => simp at h
  | [_], h => simp at h
  | [_, _], h => simp at h
  | _ :: _ :: _ :: _ :: _, h => simp at h
/-- one breaker between the source and the fault in the middle of a line -/
theorem works_least {E0 : List Edg} {nS nL : ByteArray} (hE : E0.map shp = [(0, 1, nS, true), (3, 1, nL, false), (3, 2, nL, false)]) {out : List ByteArray} {is : Bool}
    (h : Leasted E0 [true, false, false, false] 3 4 out is) : is = true ∧ out = [nS] := by
  obtain ⟨E, ⟨hs, K, hF, hk⟩, ho⟩ := h
  rw [hE] at hs
  have hlen : E0.length = 3 := by have := congrArg List.length hE; simpa using this
  obtain ⟨e1, e2, e3, rfl, h1, h2, h3⟩ := three hs
  simp only [shp, Prod.mk.injEq] at h1 h2 h3
  obtain ⟨a1, b1, n1, k1⟩ := h1
  obtain ⟨a2, b2, n2, k2⟩ := h2
  obtain ⟨a3, b3, n3, k3⟩ := h3
  have hok : FieldOk [e1, e2, e3] 3 ((4 : Nat) : Int) := by
    refine ⟨fun e he => ?_, by omega⟩
    simp at he
    rcases he with rfl | rfl | rfl
    · rw [a1, b1]; omega
    · rw [a2, b2]; omega
    · rw [a3, b3]; omega
  cases is with
  | false =>
    simp at hk
    exfalso
    have hc := flow_cut (S := fun v => decide (1 ≤ v)) hF hok (by decide) (fun v h0 h1 h2 => by
      have : v = 1 ∨ v = 2 ∨ v = 3 := by have := of_decide_eq_true h2; omega
      rcases this with rfl | rfl | rfl <;> rfl) (fun e he hl => by
      simp at he
      rcases he with rfl | rfl | rfl
      · exact k1
      · unfold leaves at hl; rw [a2, b2] at hl; simp at hl
      · unfold leaves at hl; rw [a3, b3] at hl; simp at hl)
    have hcl : (cutF (fun v => decide (1 ≤ v)) [e1, e2, e3]).length = 1 := by
      unfold cutF
      simp [k1, k2, k3, leaves, a1, b1]
    rw [hcl] at hc
    omega
  | true =>
    simp at hk
    obtain ⟨o, hor, rfl⟩ := ho rfl
    have hns : ∀ v : Int, v ∈ o → [true, false, false, false][v.toNat]? ≠ some true := fun v hv => hk.2 v ((hor v).1 hv)
    have h3o : (3 : Int) ∈ o := (hor 3).2 .start
    have h0o : (0 : Int) ∉ o := fun h => hns 0 h rfl
    have hfe := flow_end (S := fun v => decide (v ∈ o)) hF hok (by omega) (by simpa using h3o) (fun v h0 h1 hv => by
      have hv : v ∈ o := of_decide_eq_true hv
      have := hns v hv
      have hv3 : v = 0 ∨ v = 1 ∨ v = 2 ∨ v = 3 := by omega
      rcases hv3 with rfl | rfl | rfl | rfl
      · exact absurd rfl this
      · rfl
      · rfl
      · rfl) (fun e he u v hu hl => by
      have hu : u ∈ o := of_decide_eq_true hu
      exact decide_eq_true ((hor v).2 (.step ((hor u).1 hu) he hl)))
    have h1o : (1 : Int) ∈ o := by
      rcases Classical.em ((1 : Int) ∈ o) with h | h
      · exact h
      · have := hfe.1 e2 (by simp) (by unfold leaves; rw [a2, b2]; simp [h3o, h])
        rw [k2] at this; cases this
    refine ⟨rfl, ?_⟩
    unfold cutF
    simp [k1, k2, k3, leaves, a1, b1, h0o, h1o, n1]
end Go.Proofs.Ytpamgeemmbbkkaa.Pl
