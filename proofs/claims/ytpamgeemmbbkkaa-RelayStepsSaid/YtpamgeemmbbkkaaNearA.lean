/- The reference's Near: what its inner function 'add' does to the list of reached nodes. Condition: the list is the call's own. -/
import Derived.Test.YtpamgeemmbbkkaaBlk06
import Derived.Test.YtpamgeemmbbkkaaPNear
import Derived.Test.YtpamgeemmbbkkaaBlk02
import Derived.Test.YtpamgeemmbbkkaaBlk03
import Derived.BigQuiet
namespace Go.Proofs.Ytpamgeemmbbkkaa
open Go.RowKit
set_option maxRecDepth 100000
/-- a list of integers that is a variable: its slice lies in block ga, its row behind it -/
def VRow (w : World) (ga : Nat) (A : Option Addr) (m c : Nat) (l : List Int) : Prop :=
  Blk w ga 45 #[.slice A m c] ∧ w.ownsRow (ga + 1) 3 1 (.slice A m c) m (ints l) ∧ l.length = m
/-- only the variable ga, the row of its slice and new blocks were written -/
structure Only2 (ga : Nat) (A : Option Addr) (m c : Nat) (A' : Option Addr) (m' c' : Nat) (w w' : World) : Prop where
  os : w'.os = w.os
  tape : w'.tape = w.tape
  output : w'.output = w.output
  size : w.heap.size ≤ w'.heap.size
  block : ∀ b, b < w.heap.size → b ≠ ga → some b ≠ (Value.slice A m c).ownBlock → w'.heap[b]? = w.heap[b]?
  own : ∀ b, (Value.slice A' m' c').ownBlock = some b → (Value.slice A m c).ownBlock = some b ∨ w.heap.size ≤ b
theorem Only2.refl (ga : Nat) (A : Option Addr) (m c : Nat) (w : World) : Only2 ga A m c A m c w w := ⟨rfl, rfl, rfl, Nat.le_refl _, fun _ _ _ _ => rfl, fun _ h => .inl h⟩
theorem Only2.trans {ga : Nat} {A A' A2 : Option Addr} {m c m' c' m2 c2 : Nat} {w w' w2 : World} (h : Only2 ga A m c A' m' c' w w') (h2 : Only2 ga A' m' c' A2 m2 c2 w' w2) : Only2 ga A m c A2 m2 c2 w w2 := by
  refine ⟨h2.os.trans h.os, h2.tape.trans h.tape, h2.output.trans h.output, Nat.le_trans h.size h2.size, fun b hb hne hn => ?_, fun b hb => ?_⟩
  · refine (h2.block b (Nat.lt_of_lt_of_le hb h.size) hne fun e => ?_).trans (h.block b hb hne hn)
    rcases h.own b e.symm with h3 | h3
    · exact hn h3.symm
    · omega
  · rcases h2.own b hb with h3 | h3
    · exact h.own b h3
    · exact .inr (Nat.le_trans h.size h3)
theorem Only2.of_below {ga : Nat} {A : Option Addr} {m c : Nat} {w w' : World} (h : Below w.heap.size w w') : Only2 ga A m c A m c w w' := ⟨h.os, h.tape, h.output, h.size, fun b hb _ _ => h.block b hb, fun _ h => .inl h⟩
theorem Only2.blk {ga : Nat} {A A' : Option Addr} {m c m' c' : Nat} {w w' : World} (h : Only2 ga A m c A' m' c' w w') {g : Nat} {t : TypeId} {cs : Array Value} (hb : Blk w g t cs) (hne : g ≠ ga) (hn : some g ≠ (Value.slice A m c).ownBlock) : Blk w' g t cs := (h.block g hb.lt hne hn).trans hb
theorem Only2.below {ga B : Nat} {A A' : Option Addr} {m c m' c' : Nat} {w w' : World} (h : Only2 ga A m c A' m' c' w w') (hB : B ≤ ga) (hBw : B ≤ w.heap.size) (ho : ∀ b, (Value.slice A m c).ownBlock = some b → B ≤ b) : Below B w w' :=
  ⟨h.os, h.tape, h.output, h.size, fun b hb => h.block b (by omega) (by omega) fun e => by have := ho b e.symm; omega⟩
theorem VRow.go {w w' : World} {ga : Nat} {A : Option Addr} {m c : Nat} {l : List Int} (h : VRow w ga A m c l) (hb : Below w.heap.size w w') : VRow w' ga A m c l := ⟨h.1.go hb, own_go h.2.1 hb, h.2.2⟩
/-- an append to the variable, and the store -/
theorem VRow.push {w w' : World} {ga : Nat} {A : Option Addr} {m c : Nat} {l : List Int} (h : VRow w ga A m c l) {x : Int} {v' : Value} (ho : w'.ownsRow (ga + 1) 3 1 v' (m + 1) (ints l ++ [.int .i64 x])) (hg : w.grownBy w' (Value.slice A m c).ownBlock) (hn : v'.ownBlock = (Value.slice A m c).ownBlock ∨ v'.ownBlock = some w.heap.size) :
    ∃ A' c', v' = .slice A' (m + 1) c' ∧ VRow (w'.setCell ⟨ga, 0, none⟩ v') ga A' (m + 1) c' (l ++ [x]) ∧ Only2 ga A m c A' (m + 1) c' w (w'.setCell ⟨ga, 0, none⟩ v') := by
  obtain ⟨A', c', rfl, _⟩ := own_slice ho
  have hne : some ga ≠ (Value.slice A m c).ownBlock := own_ne h.2.1 (.inl (Nat.lt_succ_self _))
  have hk := (h.1.grown hg hne).set_ 0 (.slice A' (m + 1) c')
  refine ⟨A', c', rfl, ⟨hk, ?_, by rw [List.length_append, h.2.2]; rfl⟩, ⟨hg.os, hg.tape, hg.output, by simpa using hg.size, fun b hb hne2 hn2 => ?_, fun b hb => ?_⟩⟩
  · have := own_far ho (p := ⟨ga, 0, none⟩) (Nat.lt_succ_self _) (.slice A' (m + 1) c')
    unfold ints at this ⊢
    rw [List.map_append]
    exact this
  · exact (Below.heap_setCell w' ⟨ga, 0, none⟩ _ b (by simpa using hne2)).trans (hg.block b hb hn2)
  · rcases hn with h3 | h3
    · exact .inl (by rw [← h3]; exact hb)
    · rw [h3] at hb; injection hb with hb; exact .inr (by omega)
set_option maxHeartbeats 3200000 in
theorem near1_any (M : MNet) (gn ga gk : Nat) (A : Option Addr) (m c : Nat) (l : List Int) (k : Nat) (x y : ByteArray) (w : World) (hM : NetIn w w.heap.size M) (hn : Blk w gn 29 (netC M)) (hv : VRow w ga A m c l) (hk : Blk w gk 3 #[.int .i64 k]) (hkm : k < m) (hm : m ≤ 1000)
    (d1 : gn < ga) (d2 : gk ≠ ga) (d3 : some gk ≠ (Value.slice A m c).ownBlock) :
    Calls Try.prog 70 #[.string x, .string y, .pointer (some ⟨gn, 0, none⟩), .pointer (some ⟨ga, 0, none⟩), .pointer (some ⟨gk, 0, none⟩)] w fun e w' => e = .returned (.tuple #[]) ∧ ∃ A' m' c', VRow w' ga A' m' c' (Pl.nearAdd l (l.getD k 0) (Pl.idxT M.N.nodes x) (Pl.idxT M.N.nodes y)) ∧ m ≤ m' ∧ Only2 ga A m c A' m' c' w w' := by
  have C0 := Lib.hid (fun (x : ByteArray) (w1 : World) (hb : Below w.heap.size w w1) => node_any M x w1 (hM.go hb))
  have HV := Lib.hid hv
  have HN := Lib.hid hn
  have HK := Lib.hid hk
  have HU : Hid (∃ u, u = l.getD k 0) := ⟨_, rfl⟩
  obtain ⟨u, hu⟩ := HU.out
  rw [← hu]
  have HUU := Lib.hid hu
  have HKW : Hid (gk < w.heap.size) := hk.lt
  have HD : Hid (gn ≠ ga ∧ gk ≠ ga ∧ some gk ≠ (Value.slice A m c).ownBlock) := ⟨by omega, d2, d3⟩
  clear hM hn hk hu HU d1 d2 d3 hv
  unfold vNet at *
  obtain ⟨N, A0, n0, c0, A1, n1, c1, A2, n2, c2, A3, n3, c3, A4, n4, c4, A5, n5, c5⟩ := M
  unfold netC at *
  simp only at *
  have e0 := Wd.cell (HN.out.cell 0 : w.cell? ⟨gn, 0, none⟩ = some (.slice A0 n0 c0))
  have e1 := Wd.cell (HN.out.cell 1 : w.cell? ⟨gn, 1, none⟩ = some (.slice A1 n1 c1))
  have e2 := Wd.cell (HN.out.cell 2 : w.cell? ⟨gn, 2, none⟩ = some (.slice A2 n2 c2))
  have e3 := Wd.cell (HN.out.cell 3 : w.cell? ⟨gn, 3, none⟩ = some (.slice A3 n3 c3))
  have e4 := Wd.cell (HN.out.cell 4 : w.cell? ⟨gn, 4, none⟩ = some (.slice A4 n4 c4))
  have e5 := Wd.cell (HN.out.cell 5 : w.cell? ⟨gn, 5, none⟩ = some (.slice A5 n5 c5))
  go_enter Try.func70, Try.ntmps70
  go_wp2_with fail
  refine wp_region_wd (by kernel_rfl) (by kernel_rfl) ?_
  repeat (go_big_quiet_step ((go_at_call 12; exact Calls.wd (C0.out _ _ (Wd.ok _)))))
  refine wpQuiet_nil ?_
  rintro _ ⟨w6, rfl⟩
  have V1 := Lib.hid (HV.out.go w6.ok)
  have K1 := Lib.hid (HK.out.go w6.ok)
  have O1 : Hid (Only2 ga A m c A m c w w6.val) := Only2.of_below w6.ok
  clear e0 e1 e2 e3 e4 e5 HV HN HK C0
  generalize hix : Pl.idxT N.nodes x = i at *
  generalize hiy : Pl.idxT N.nodes y = j at *
  have HIX := Lib.hid hix
  have HIY := Lib.hid hiy
  clear hix hiy
  generalize w6.val = w1 at *
  obtain ⟨g1, cap1, hv, hg1, hg2⟩ := V1.out.2.1.form (by omega)
  injection hv with hv1 hv2 hv3
  subst hv1 hv3
  obtain ⟨b9, o9, e9, hl9, ck⟩ := (Reads.of_own V1.out.2.1).int_at (k := k) (by omega)
  injection e9 with e9
  injection e9 with e9 e10
  subst e9 e10
  have hlu : l[k] = u := by have h := HUU.out; rw [List.getD_eq_getElem?_getD, List.getElem?_eq_getElem hl9] at h; exact h.symm
  rw [hlu, Nat.zero_add] at ck
  clear hlu
  have kv : w1.cell? ⟨ga, 0, none⟩ = some (.slice (some ⟨g1, 0, none⟩) m c) := V1.out.1.cell 0
  have kk : w1.cell? ⟨gk, 0, none⟩ = some (.int .i64 k) := K1.out.cell 0
  have kz := V1.out.1.frozen
  have hga : ga < w1.heap.size := V1.out.1.lt
  have hk0 : (0 : Int) ≤ (k : Int) := by omega
  have hk1 : (k : Int) < (m : Int) := by omega
  have KN : Hid (some gk ≠ (Value.slice (some ⟨g1, 0, none⟩) m c).ownBlock) := HD.out.2.2
  have CJ := Lib.hid (hasInt_any (some ⟨g1, 0, none⟩) m c l j w1 (by omega) (Reads.of_own V1.out.2.1))
  have CI := Lib.hid (hasInt_any (some ⟨g1, 0, none⟩) m c l i w1 (by omega) (Reads.of_own V1.out.2.1))
  have hgkl : gk < w1.heap.size := K1.out.lt
  by_cases hp2 : j = u
  · have hb2 : (j == u) = true := by simp [hp2]
    by_cases hp1 : i = u
    · have hij : j = i := by rw [hp1, hp2]
      rw [hij] at CJ HIY hb2 ⊢
      clear hp2 CI hij
      have hb1 : (i == u) = true := by simp [hp1]
      by_cases hq : i ∈ l
      · have HNA : Hid (Pl.nearAdd l u i i = l) := by show _ = _; unfold Pl.nearAdd Pl.addI; simp [hq]
        rw [decide_eq_true hq] at CJ
        clear hp1 hq
        go_wp2_with fail
        refine CJ.out.mono ?_
        rintro e w1 ⟨rfl, rfl⟩
        go_wp2_with fail
        refine CJ.out.mono ?_
        rintro e w1 ⟨rfl, rfl⟩
        go_wp2_with fail
        refine ⟨rfl, .tuple #[], by simp [results, Try.results70, go_sem], rfl, some ⟨g1, 0, none⟩, m, c, ?_, by omega, O1.out⟩
        rw [HIX.out, HIY.out, HNA.out]
        exact V1.out
      · have HNA : Hid (Pl.nearAdd l u i i = l ++ [i]) := by show _ = _; unfold Pl.nearAdd Pl.addI; simp [hp1, show u ∉ l by rw [← hp1]; exact hq]
        rw [decide_eq_false hq] at CJ
        clear hp1 hq
        go_wp2_with fail
        refine CJ.out.mono ?_
        rintro e w1 ⟨rfl, rfl⟩
        obtain ⟨j0, hj0, hjz0, hjz1, hjz2⟩ := info_parts info_int
        have AZ := (Below.refl w1.heap.size w1).alloc (Nat.le_refl _) (.cells #[.int .i64 i] 3)
        have VZ := Lib.hid (V1.out.go AZ)
        have KZ := Lib.hid (K1.out.go AZ)
        have OZ := Lib.hid (O1.out.trans (Only2.of_below AZ))
        clear AZ
        go_wp2_with (at_builtin; go_must (refine wpList_append_any _ rfl (.tmp 27) (.tmp 29) 45 rfl (ga + 1) 3 j0 _ 1 8 Try.underlying45 hj0 hjz0 hjz1 hjz2 rfl (by decide) (.slice (some ⟨g1, 0, none⟩) m c) m (ints l) rfl VZ.out.2.1 (w1.heap.size + 1) (some ⟨w1.heap.size, 0, none⟩) 1 1 [.int .i64 i] rfl (by have := Reads.lit w1 #[.int .i64 i] 3 1 1 w1.heap.size rfl rfl; simpa using this) (by intro u hu; simp at hu; subst hu; rfl) (by unfold maxLen; omega) (by omega) (by simp; omega) ?_; intro v' w6 hown hgr hnew; have hga6 : ga < w6.heap.size := (by have h1 := hgr.size; simp at h1; omega); have k6 := (VZ.out.1.grown hgr (own_ne VZ.out.2.1 (.inl (Nat.lt_succ_self _)))).cell; have z6 := (VZ.out.1.grown hgr (own_ne VZ.out.2.1 (.inl (Nat.lt_succ_self _)))).frozen; obtain ⟨A6, c6, rfl, hvr, hon⟩ := VZ.out.push hown hgr hnew; have V6 := Lib.hid hvr; have O6 := Lib.hid (OZ.out.trans hon); have K6 := Lib.hid (hon.blk KZ.out HD.out.2.1 KN.out); clear hvr hon hown hgr hnew; obtain ⟨g6, c9, hv9, _, _⟩ := V6.out.2.1.form (by omega); injection hv9 with hv9 hv10 hv11; subst hv9 hv11; obtain ⟨b9, o9, e9, hl9', ck6⟩ := (Reads.of_own V6.out.2.1).int_at (k := k) (by omega); injection e9 with e9; injection e9 with e9 e10; subst e9 e10; have hlu6 : (l ++ [i])[k] = u := (by have h := HUU.out; rw [List.getD_eq_getElem?_getD] at h; rw [List.getElem_append_left (by have := V1.out.2.2; omega), h, List.getElem?_eq_getElem (by have := V1.out.2.2; omega)]; rfl); rw [hlu6, Nat.zero_add] at ck6; clear hlu6; have v6 : (w6.setCell ⟨ga, 0, none⟩ (.slice (some ⟨g6, 0, none⟩) (m + 1) c6)).cell? ⟨ga, 0, none⟩ = some (.slice (some ⟨g6, 0, none⟩) (m + 1) c6) := V6.out.1.cell 0; have kk6 : (w6.setCell ⟨ga, 0, none⟩ (.slice (some ⟨g6, 0, none⟩) (m + 1) c6)).cell? ⟨gk, 0, none⟩ = some (.int .i64 k) := K6.out.cell 0; have hk2 : (k : Int) < (m : Int) + 1 := (by omega)))
        have CH6 := hasInt_any (some ⟨g6, 0, none⟩) (m + 1) c6 (l ++ [i]) i _ (by omega) (Reads.of_own V6.out.2.1)
        rw [decide_eq_true (by simp)] at CH6
        refine CH6.mono ?_
        rintro e w7 ⟨rfl, rfl⟩
        go_wp2_with fail
        refine ⟨rfl, .tuple #[], by simp [results, Try.results70, go_sem], rfl, some ⟨g6, 0, none⟩, (m + 1), c6, ?_, by omega, O6.out⟩
        rw [HIX.out, HIY.out, HNA.out]
        exact V6.out
    · have hb1 : (i == u) = false := by simp [hp1]
      by_cases hq : i ∈ l
      · have HNA : Hid (Pl.nearAdd l u i j = l) := by show _ = _; unfold Pl.nearAdd Pl.addI; simp [hp1, hq]
        rw [decide_eq_true hq] at CI
        clear hp1 hp2 hq
        go_wp2_with fail
        refine CI.out.mono ?_
        rintro e w1 ⟨rfl, rfl⟩
        go_wp2_with fail
        refine ⟨rfl, .tuple #[], by simp [results, Try.results70, go_sem], rfl, some ⟨g1, 0, none⟩, m, c, ?_, by omega, O1.out⟩
        rw [HIX.out, HIY.out, HNA.out]
        exact V1.out
      · have HNA : Hid (Pl.nearAdd l u i j = l ++ [i]) := by show _ = _; unfold Pl.nearAdd Pl.addI; simp [hp1, hp2, hq]
        rw [decide_eq_false hq] at CI
        clear hp1 hp2 hq
        go_wp2_with fail
        refine CI.out.mono ?_
        rintro e w1 ⟨rfl, rfl⟩
        obtain ⟨j0, hj0, hjz0, hjz1, hjz2⟩ := info_parts info_int
        have AZ := (Below.refl w1.heap.size w1).alloc (Nat.le_refl _) (.cells #[.int .i64 i] 3)
        have VZ := Lib.hid (V1.out.go AZ)
        have KZ := Lib.hid (K1.out.go AZ)
        have OZ := Lib.hid (O1.out.trans (Only2.of_below AZ))
        clear AZ
        go_wp2_with (at_builtin; go_must (refine wpList_append_any _ rfl (.tmp 43) (.tmp 45) 45 rfl (ga + 1) 3 j0 _ 1 8 Try.underlying45 hj0 hjz0 hjz1 hjz2 rfl (by decide) (.slice (some ⟨g1, 0, none⟩) m c) m (ints l) rfl VZ.out.2.1 (w1.heap.size + 1) (some ⟨w1.heap.size, 0, none⟩) 1 1 [.int .i64 i] rfl (by have := Reads.lit w1 #[.int .i64 i] 3 1 1 w1.heap.size rfl rfl; simpa using this) (by intro u hu; simp at hu; subst hu; rfl) (by unfold maxLen; omega) (by omega) (by simp; omega) ?_; intro v' w6 hown hgr hnew; have hga6 : ga < w6.heap.size := (by have h1 := hgr.size; simp at h1; omega); have k6 := (VZ.out.1.grown hgr (own_ne VZ.out.2.1 (.inl (Nat.lt_succ_self _)))).cell; have z6 := (VZ.out.1.grown hgr (own_ne VZ.out.2.1 (.inl (Nat.lt_succ_self _)))).frozen; obtain ⟨A6, c6, rfl, hvr, hon⟩ := VZ.out.push hown hgr hnew; have V6 := Lib.hid hvr; have O6 := Lib.hid (OZ.out.trans hon); have K6 := Lib.hid (hon.blk KZ.out HD.out.2.1 KN.out); clear hvr hon hown hgr hnew))
        refine ⟨rfl, .tuple #[], by simp [results, Try.results70, go_sem], rfl, A6, (m + 1), c6, ?_, by omega, O6.out⟩
        rw [HIX.out, HIY.out, HNA.out]
        exact V6.out
  · have hb2 : (j == u) = false := by simp [hp2]
    by_cases hp1 : i = u
    · have hb1 : (i == u) = true := by simp [hp1]
      by_cases hq : j ∈ l
      · have HNA : Hid (Pl.nearAdd l u i j = l) := by show _ = _; unfold Pl.nearAdd Pl.addI; simp [hq, hp2]
        rw [decide_eq_true hq] at CJ
        clear hp1 hq hp2
        go_wp2_with fail
        refine CJ.out.mono ?_
        rintro e w1 ⟨rfl, rfl⟩
        go_wp2_with fail
        refine ⟨rfl, .tuple #[], by simp [results, Try.results70, go_sem], rfl, some ⟨g1, 0, none⟩, m, c, ?_, by omega, O1.out⟩
        rw [HIX.out, HIY.out, HNA.out]
        exact V1.out
      · have HNA : Hid (Pl.nearAdd l u i j = l ++ [j]) := by show _ = _; unfold Pl.nearAdd Pl.addI; simp [hp1, hq, hp2]
        rw [decide_eq_false hq] at CJ
        clear hp1 hq hp2
        go_wp2_with fail
        refine CJ.out.mono ?_
        rintro e w1 ⟨rfl, rfl⟩
        obtain ⟨j0, hj0, hjz0, hjz1, hjz2⟩ := info_parts info_int
        have AZ := (Below.refl w1.heap.size w1).alloc (Nat.le_refl _) (.cells #[.int .i64 j] 3)
        have VZ := Lib.hid (V1.out.go AZ)
        have KZ := Lib.hid (K1.out.go AZ)
        have OZ := Lib.hid (O1.out.trans (Only2.of_below AZ))
        clear AZ
        go_wp2_with (at_builtin; go_must (refine wpList_append_any _ rfl (.tmp 27) (.tmp 29) 45 rfl (ga + 1) 3 j0 _ 1 8 Try.underlying45 hj0 hjz0 hjz1 hjz2 rfl (by decide) (.slice (some ⟨g1, 0, none⟩) m c) m (ints l) rfl VZ.out.2.1 (w1.heap.size + 1) (some ⟨w1.heap.size, 0, none⟩) 1 1 [.int .i64 j] rfl (by have := Reads.lit w1 #[.int .i64 j] 3 1 1 w1.heap.size rfl rfl; simpa using this) (by intro u hu; simp at hu; subst hu; rfl) (by unfold maxLen; omega) (by omega) (by simp; omega) ?_; intro v' w6 hown hgr hnew; have hga6 : ga < w6.heap.size := (by have h1 := hgr.size; simp at h1; omega); have k6 := (VZ.out.1.grown hgr (own_ne VZ.out.2.1 (.inl (Nat.lt_succ_self _)))).cell; have z6 := (VZ.out.1.grown hgr (own_ne VZ.out.2.1 (.inl (Nat.lt_succ_self _)))).frozen; obtain ⟨A6, c6, rfl, hvr, hon⟩ := VZ.out.push hown hgr hnew; have V6 := Lib.hid hvr; have O6 := Lib.hid (OZ.out.trans hon); have K6 := Lib.hid (hon.blk KZ.out HD.out.2.1 KN.out); clear hvr hon hown hgr hnew; obtain ⟨g6, c9, hv9, _, _⟩ := V6.out.2.1.form (by omega); injection hv9 with hv9 hv10 hv11; subst hv9 hv11; obtain ⟨b9, o9, e9, hl9', ck6⟩ := (Reads.of_own V6.out.2.1).int_at (k := k) (by omega); injection e9 with e9; injection e9 with e9 e10; subst e9 e10; have hlu6 : (l ++ [j])[k] = u := (by have h := HUU.out; rw [List.getD_eq_getElem?_getD] at h; rw [List.getElem_append_left (by have := V1.out.2.2; omega), h, List.getElem?_eq_getElem (by have := V1.out.2.2; omega)]; rfl); rw [hlu6, Nat.zero_add] at ck6; clear hlu6; have v6 : (w6.setCell ⟨ga, 0, none⟩ (.slice (some ⟨g6, 0, none⟩) (m + 1) c6)).cell? ⟨ga, 0, none⟩ = some (.slice (some ⟨g6, 0, none⟩) (m + 1) c6) := V6.out.1.cell 0; have kk6 : (w6.setCell ⟨ga, 0, none⟩ (.slice (some ⟨g6, 0, none⟩) (m + 1) c6)).cell? ⟨gk, 0, none⟩ = some (.int .i64 k) := K6.out.cell 0; have hk2 : (k : Int) < (m : Int) + 1 := (by omega)))
        refine ⟨rfl, .tuple #[], by simp [results, Try.results70, go_sem], rfl, some ⟨g6, 0, none⟩, (m + 1), c6, ?_, by omega, O6.out⟩
        rw [HIX.out, HIY.out, HNA.out]
        exact V6.out
    · have hb1 : (i == u) = false := by simp [hp1]
      have HNA : Hid (Pl.nearAdd l u i j = l) := by show _ = _; unfold Pl.nearAdd Pl.addI; simp [hp1, hp2]
      clear hp1 hp2
      go_wp2_with fail
      refine ⟨rfl, .tuple #[], by simp [results, Try.results70, go_sem], rfl, some ⟨g1, 0, none⟩, m, c, ?_, by omega, O1.out⟩
      rw [HIX.out, HIY.out, HNA.out]
      exact V1.out
end Go.Proofs.Ytpamgeemmbbkkaa
