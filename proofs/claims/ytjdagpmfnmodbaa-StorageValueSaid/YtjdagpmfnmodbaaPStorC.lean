/- The examples of the laws of storage, and the loop of the law StorageValue, plain. No program. -/
import Derived.Test.YtjdagpmfnmodbaaPStorB
namespace Go.Proofs.Ytjdagpmfnmodbaa.Pl
theorem cConv_is {lo1 va1 lo2 va2 : Int} {ps qs : List (Int × Int)} (L : List (Int × Int)) (h1 : ccheck lo1 va1 ps = 0) (h2 : ccheck lo2 va2 qs = 0) (hp : L.Perm (ps ++ qs)) (hs : Sorted2 L) : cConv lo1 va1 ps lo2 va2 qs = cMade (lo1 + lo2) (va1 + va2) L := (cConv_of h1 h2 hp hs).symm
theorem sValue_ex : sValue 2 0 5 0 0 [4] = ((0, 0, [(2, 4)]), 0) := by
  have e : cConv 0 0 [] (-0) (-0 * 4) (sline (-0) 2 4) = ((0, 0, [(2, 4)]), 0) := (cConv_is [(2, 4)] rfl rfl (List.Perm.refl _) (List.pairwise_singleton _ _)).trans rfl
  have s0 : sK 2 0 5 0 [4] 1 = ((0, 0, [(2, 4)]), 0) := by
    show stStep 2 0 5 (0, 0, []) 4 = _
    unfold stStep
    simp only
    rw [e]
    rfl
  show (if sCheckP 2 0 5 0 0 [4] ≠ 0 then _ else sK 2 0 5 0 [4] 1) = _
  rw [s0]
  rfl
theorem sRun_ex : sRun 1 0 1 0 0 [4] [1] = ([1], 4, 0) := by rfl
theorem sBest_ex : sBest 10 10 10 0 0 [2, 5] = ([10, -10], -30, 0) := by
  have e1 : cConv 0 0 [] (-10) (-10 * 2) (sline (-10) 10 2) = ((-10, -20, [(20, 2)]), 0) := (cConv_is [(20, 2)] rfl rfl (List.Perm.refl _) (List.pairwise_singleton _ _)).trans rfl
  have s1 : sK 10 10 10 0 [2, 5] 1 = ((0, 0, [(10, 2)]), 0) := by
    show stStep 10 10 10 (0, 0, []) 2 = _
    unfold stStep
    simp only
    rw [e1]
    rfl
  have e2 : cConv 0 0 [(10, 2)] (-10) (-10 * 5) (sline (-10) 10 5) = ((-10, -50, [(10, 2), (20, 5)]), 0) := (cConv_is [(10, 2), (20, 5)] rfl rfl (List.Perm.refl _) (by unfold Sorted2; simp)).trans rfl
  have s2 : sK 10 10 10 0 [2, 5] 2 = ((0, -30, [(10, 5)]), 0) := by
    show (if (sK 10 10 10 0 [2, 5] 1).2 ≠ 0 then _ else stStep 10 10 10 (sK 10 10 10 0 [2, 5] 1).1 5) = _
    rw [s1]
    show stStep 10 10 10 (0, 0, [(10, 2)]) 5 = _
    unfold stStep
    simp only
    rw [e2]
    rfl
  have s2' : sK 10 10 10 0 [2, 5] ([2, 5] : List Int).length = ((0, -30, [(10, 5)]), 0) := s2
  have hE : sEnd 10 10 10 0 0 [2, 5] = ((0, -30, [(10, 5)]), 0) := by unfold sEnd; rw [s2']; rfl
  have hL : sLast 10 10 10 0 0 [2, 5] = 0 := by unfold sLast; rw [hE]; rfl
  have l2 : sLevel 10 10 10 0 0 [2, 5] 2 = 0 := by unfold sLevel; rw [hL]; rfl
  have l1 : sLevel 10 10 10 0 0 [2, 5] 1 = 10 := by
    unfold sLevel
    rw [hL]
    show sprev 10 10 (sK 10 10 10 0 [2, 5] 1).1 5 0 = 10
    rw [s1]
    rfl
  have l0 : sLevel 10 10 10 0 0 [2, 5] 0 = 0 := by
    unfold sLevel
    rw [hL]
    show sprev 10 10 (0, 0, []) 2 (sprev 10 10 (sK 10 10 10 0 [2, 5] 1).1 5 0) = 0
    rw [s1]
    rfl
  have hC : sCharges 10 10 10 0 0 [2, 5] = [10, -10] := by
    show [sLevel 10 10 10 0 0 [2, 5] 1 - sLevel 10 10 10 0 0 [2, 5] 0, sLevel 10 10 10 0 0 [2, 5] 2 - sLevel 10 10 10 0 0 [2, 5] 1] = _
    rw [l0, l1, l2]
    rfl
  unfold sBest
  rw [s2', hE, hC]
  rfl
/-- what is left behind the pieces -/
theorem vacc_left {ps : List (Int × Int)} (h : ∀ p ∈ ps, 1 ≤ p.1) (va x : Int) (hx : 0 ≤ x) : (vacc va x ps).2 = x - min x (total ps) := by
  induction ps using snocInd with
  | h0 => simp [vacc, total]; omega
  | h1 ps p ih =>
    have hp := h p (by simp)
    have i := ih fun q hq => h q (by simp [hq])
    have t := total_pos fun q hq => h q (List.mem_append_left [p] hq)
    rw [vacc_snoc, total_snoc]
    simp only [cstep]
    rw [i]
    omega
end Go.Proofs.Ytjdagpmfnmodbaa.Pl
