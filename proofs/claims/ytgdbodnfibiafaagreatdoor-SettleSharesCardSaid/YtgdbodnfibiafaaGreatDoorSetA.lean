/- Package settle: the comparison of fractions; the sort of places by their fractions, greatest first, equal ones as they stood. Condition: the words read; at most 10^6 amounts. -/
import Derived.Test.YtgdbodnfibiafaaGreatDoorRatB
import Derived.Test.YtgdbodnfibiafaaGreatDoorSrtS
import Derived.Test.YtgdbodnfibiafaaGreatDoorPBal
namespace Go.Proofs.YtgdbodnfibiafaaGreatDoor
open Go.RowKit
set_option maxRecDepth 100000
namespace Pl
theorem cmpR_lt {a b : Rat} : cmpR a b < 0 ↔ a < b := by
  unfold cmpR
  rw [Int.sign_neg_iff, Rat.lt_iff]
  omega
theorem cmpR_zero {a b : Rat} : cmpR a b = 0 ↔ a = b := by
  unfold cmpR
  rw [Int.sign_eq_zero_iff_zero, Rat.eq_iff_mul_eq_mul]
  omega
theorem cmpR_pos {a b : Rat} : 0 < cmpR a b ↔ b < a := by
  have h1 := @cmpR_lt a b
  have h2 := @cmpR_zero a b
  constructor
  · intro h
    have : ¬ a < b := fun h3 => by have := h1.2 h3; omega
    have : a ≠ b := fun h3 => by have := h2.2 h3; omega
    grind
  · intro h
    have e1 : ¬ cmpR a b < 0 := fun h3 => by have := h1.1 h3; grind
    have e2 : cmpR a b ≠ 0 := fun h3 => by have := h2.1 h3; grind
    omega
/-- the comparison that the program makes -/
def dcf (fs : List Rat) (x y : Int) : Int := cmpR (fs.getD y.toNat 0) (fs.getD x.toNat 0)
/-- the order that comes of it: equal ones stay as they stood -/
def scf2 (fs : List Rat) (x y : Int) : Int := if dcf fs x y = 0 ∧ x < y then -1 else dcf fs x y
theorem scf2_lt {fs : List Rat} {x y : Int} : scf2 fs x y < 0 ↔ (fs.getD y.toNat 0 < fs.getD x.toNat 0 ∨ (fs.getD x.toNat 0 = fs.getD y.toNat 0 ∧ x < y)) := by
  have h1 := @cmpR_lt (fs.getD y.toNat 0) (fs.getD x.toNat 0)
  have h2 := @cmpR_zero (fs.getD y.toNat 0) (fs.getD x.toNat 0)
  have h3 : fs.getD y.toNat 0 = fs.getD x.toNat 0 ↔ fs.getD x.toNat 0 = fs.getD y.toNat 0 := ⟨Eq.symm, Eq.symm⟩
  unfold scf2 dcf
  rw [← h1, ← h3, ← h2]
  generalize cmpR (fs.getD y.toNat 0) (fs.getD x.toNat 0) = c
  split
  · rename_i h
    exact ⟨fun _ => .inr h, fun _ => by omega⟩
  · rename_i h
    exact ⟨fun h4 => .inl h4, fun h4 => h4.elim id fun h5 => absurd h5 h⟩
theorem scf2_later {fs : List Rat} {x y : Int} (h : y < x) : scf2 fs x y = dcf fs x y := by
  unfold scf2
  rw [if_neg (by omega)]
theorem scf2_swo (fs : List Rat) : Sort.SWO (Srt.ltOf (scf2 fs)) := by
  constructor
  · intro x; unfold Srt.ltOf; rw [decide_eq_false_iff_not, scf2_lt]; grind
  · intro x y z; unfold Srt.ltOf; simp only [decide_eq_true_eq, scf2_lt]; grind
  · intro x y z; unfold Srt.ltOf; simp only [decide_eq_false_iff_not, scf2_lt]; grind
theorem iota_getS (n i : Nat) (h : i < n) : (iota n).toArray[i]! = (i : Int) := by
  rw [getElem!_pos _ i (by simpa [iota_len] using h)]
  simp [iota]
/-- the sorted places -/
theorem desc_of {l : List Rat} {d : Array Int} (hz : d.size = l.length) (hp : Sort.PermIn 0 l.length (iota l.length).toArray d) (hs : Sort.SortedIn (Srt.ltOf (scf2 (l.map fr))) 0 l.length d) : Desc l d.toList ∧ Stab l d.toList := by
  have hperm : d.toList.Perm ((List.range l.length).map Int.ofNat) := by
    have h := hp.2.2
    rw [show d.extract 0 l.length = d from by rw [← hz]; simp, show (iota l.length).toArray.extract 0 l.length = (iota l.length).toArray from by
      apply Array.ext'
      simp [iota_len, List.take_of_length_le]] at h
    exact h
  have hmem : ∀ i, i < l.length → 0 ≤ d.toList.getD i 0 ∧ (d.toList.getD i 0).toNat < l.length := fun i hi => by
    have hl : i < d.toList.length := by simpa [hz] using hi
    have := hperm.mem_iff.1 (List.getElem_mem hl)
    rw [List.mem_map] at this
    obtain ⟨k, hk, e⟩ := this
    rw [List.mem_range] at hk
    rw [getD_at hl, ← e]
    exact ⟨Int.natCast_nonneg _, by simpa using hk⟩
  have hmap : ∀ k, k < l.length → (l.map fr).getD k 0 = fr (l.getD k 0) := fun k hk => by
    rw [getD_at (by simpa using hk), getD_at hk]; simp
  have key : ∀ i j, i < j → j < l.length → ¬ (fr (l.getD (d.toList.getD i 0).toNat 0) < fr (l.getD (d.toList.getD j 0).toNat 0) ∨ (fr (l.getD (d.toList.getD j 0).toNat 0) = fr (l.getD (d.toList.getD i 0).toNat 0) ∧ d.toList.getD j 0 < d.toList.getD i 0)) := fun i j hij hj => by
    have h := hs i j (Nat.zero_le _) hij hj
    have g : ∀ k, k < l.length → d.toList.getD k 0 = d[k]! := fun k hk => by
      rw [getD_at (by simpa [hz] using hk), getElem!_pos d k (by omega)]
      simp
    rw [← g i (by omega), ← g j hj] at h
    unfold Srt.ltOf at h
    simp only [decide_eq_false_iff_not, scf2_lt] at h
    rwa [hmap _ (hmem i (by omega)).2, hmap _ (hmem j hj).2] at h
  have hnd : d.toList.Nodup := by
    rw [hperm.nodup_iff, List.nodup_iff_pairwise_ne, List.pairwise_map]
    exact (List.nodup_range (n := l.length)).imp fun hab e => hab (Int.ofNat.inj e)
  refine ⟨⟨hperm, fun i j hij hj => ?_⟩, fun i j hij hj he => ?_⟩
  · have := key i j hij hj
    grind
  · have h1 := key i j hij hj
    have h2 : d.toList.getD i 0 ≠ d.toList.getD j 0 := fun e => by
      rw [getD_at (by simpa [hz] using (by omega : i < l.length)), getD_at (by simpa [hz] using hj)] at e
      have := (List.getElem_inj hnd).1 e
      omega
    have h3 : ¬ d.toList.getD j 0 < d.toList.getD i 0 := fun h3 => h1 (.inr ⟨he, h3⟩)
    omega
end Pl
theorem enters_round1 : ∀ args w, Sem.run Tryz.prog (callFunc 40 args) w = .ok (.enter 40 args) w := by intro args w; go_simp
theorem RatsIs.cells {w : World} {B n gr : Nat} {L : List (Rat × Rt)} (h : RatsIs w B (some ⟨gr, 0, none⟩) n L) {k : Nat} (hl : k < L.length) : w.cell? ⟨gr, k * 4, none⟩ = some (.bool L[k].2.N.b) ∧ w.cell? ⟨gr, k * 4 + 1, none⟩ = some (.slice L[k].2.N.A L[k].2.N.n L[k].2.N.c) ∧ w.cell? ⟨gr, k * 4 + 2, none⟩ = some (.bool L[k].2.D.b) ∧ w.cell? ⟨gr, k * 4 + 3, none⟩ = some (.slice L[k].2.D.A L[k].2.D.n L[k].2.D.c) := by
  obtain ⟨b, o, e, _, _, x0, x1, x2, x3, _⟩ := h.at (k := k) (by rw [← h.len]; exact hl)
  injection e with e
  injection e with e e2
  subst e e2
  simp only [Nat.zero_add] at x0 x1 x2 x3
  exact ⟨x0, x1, x2, x3⟩
set_option maxHeartbeats 3200000 in
theorem round1_any (br gr n c : Nat) (L : List (Rat × Rt)) (fs : List Rat) (x y : Nat) (w : World) (hx : x < n) (hy : y < n) (cb : Blk w br 40 #[.slice (some ⟨gr, 0, none⟩) n c]) (hr : RatsIs w w.heap.size (some ⟨gr, 0, none⟩) n L) (hL : L.map (·.1) = fs) (hs : ∀ z ∈ L, Pl.rsz z.1 ≤ 400000) :
    Calls Tryz.prog 40 #[.int .i64 (x : Int), .int .i64 (y : Int), .pointer (some ⟨br, 0, none⟩)] w fun e w' => e = .returned (.int .i64 (Pl.dcf fs x y)) ∧ Below w.heap.size w w' := by
  have hlx : x < L.length := by rw [hr.len]; exact hx
  have hly : y < L.length := by rw [hr.len]; exact hy
  have ev : Pl.dcf fs x y = Pl.cmpR L[y].1 L[x].1 := by
    unfold Pl.dcf
    rw [← hL, Int.toNat_natCast, Int.toNat_natCast, Pl.getD_at (by simpa using hly), Pl.getD_at (by simpa using hlx)]
    simp
  rw [ev]
  have SX := hs _ (List.getElem_mem hlx)
  have SY := hs _ (List.getElem_mem hly)
  have HX := Lib.hid (hr.each _ (List.getElem_mem hlx))
  have HY := Lib.hid (hr.each _ (List.getElem_mem hly))
  have HRS := Lib.hid hr
  have BR := Lib.hid cb
  have D := Lib.hid (Below.refl w.heap.size w)
  have hx' : (x : Int) < (n : Int) := by omega
  have hy' : (y : Int) < (n : Int) := by omega
  clear hr hL hs ev cb
  go_enter Tryz.func40, Tryz.ntmps40
  go_upto_region 1 with fail
  have hb5 := (Below.refl w.heap.size w).drew
  replace BR := Lib.hid (BR.out.go hb5)
  replace HRS := Lib.hid (HRS.out.go hb5)
  replace HX := Lib.hid (HX.out.go hb5)
  replace HY := Lib.hid (HY.out.go hb5)
  replace D := Lib.hid (D.out.trans (hb5.mono D.out.size))
  clear hb5
  have HB0 := Lib.hid (Below.refl w.drew.heap.size w.drew)
  have hlt_BR := BR.out.lt
  have hlt_D := D.out.size
  generalize hw9 : w.drew = w1 at *
  have hSw : (fun w' : World => Below w1.heap.size w1 w') w1 := HB0.out
  refine wp_region_mid (fun w' : World => Below w1.heap.size w1 w') 10 (by kernel_rfl) ?_
  rw [hw9]
  clear hw9
  refine wpAnyM_takeB 0 [2, 3, 8, 9] rfl (by kernel_rfl) (by kernel_rfl) (by kernel_rfl) (by kernel_rfl) (by kernel_rfl) (fun _ _ _ h => h) hSw (by kernel_rfl) (fun w' hSx => by have c0 := (BR.out.go hSx).cell; obtain ⟨c1, c2, c3, c4⟩ := (HRS.out.go hSx).cells hlx; obtain ⟨c5, c6, c7, c8⟩ := (HRS.out.go hSx).cells hly; go_simp; first | done | with_reducible rfl) ?_
  simp only [Act.put, List.setIfInBounds_toArray]
  refine wpAnyM_takeB 1 [2, 3, 8, 9] rfl (by kernel_rfl) (by kernel_rfl) (by kernel_rfl) (by kernel_rfl) (by kernel_rfl) (fun _ _ _ h => h) hSw (by kernel_rfl) (fun w' hSx => by have c0 := (BR.out.go hSx).cell; obtain ⟨c1, c2, c3, c4⟩ := (HRS.out.go hSx).cells hlx; obtain ⟨c5, c6, c7, c8⟩ := (HRS.out.go hSx).cells hly; go_simp; first | done | with_reducible rfl) ?_
  simp only [Act.put]
  refine wpAnyM_takeB 2 [3, 8, 9] rfl (by kernel_rfl) (by kernel_rfl) (by kernel_rfl) (by kernel_rfl) (by kernel_rfl) (fun _ _ _ h => h) hSw (by kernel_rfl) (fun w' hSx => by have c0 := (BR.out.go hSx).cell; obtain ⟨c1, c2, c3, c4⟩ := (HRS.out.go hSx).cells hlx; obtain ⟨c5, c6, c7, c8⟩ := (HRS.out.go hSx).cells hly; go_simp; first | done | with_reducible rfl) ?_
  simp only [Act.put]
  refine wpAnyM_takeB 3 [8, 9] rfl (by kernel_rfl) (by kernel_rfl) (by kernel_rfl) (by kernel_rfl) (by kernel_rfl) (fun _ _ _ h => h) hSw (by kernel_rfl) (fun w' hSx => by have c0 := (BR.out.go hSx).cell; obtain ⟨c1, c2, c3, c4⟩ := (HRS.out.go hSx).cells hlx; obtain ⟨c5, c6, c7, c8⟩ := (HRS.out.go hSx).cells hly; go_simp; first | done | with_reducible rfl) ?_
  simp only [Act.put]
  refine wpAnyM_takeB 4 [6, 7, 8, 9] rfl (by kernel_rfl) (by kernel_rfl) (by kernel_rfl) (by kernel_rfl) (by kernel_rfl) (fun _ _ _ h => h) hSw (by kernel_rfl) (fun w' hSx => by have c0 := (BR.out.go hSx).cell; obtain ⟨c1, c2, c3, c4⟩ := (HRS.out.go hSx).cells hlx; obtain ⟨c5, c6, c7, c8⟩ := (HRS.out.go hSx).cells hly; go_simp; first | done | with_reducible rfl) ?_
  simp only [Act.put]
  refine wpAnyM_takeB 5 [6, 7, 8, 9] rfl (by kernel_rfl) (by kernel_rfl) (by kernel_rfl) (by kernel_rfl) (by kernel_rfl) (fun _ _ _ h => h) hSw (by kernel_rfl) (fun w' hSx => by have c0 := (BR.out.go hSx).cell; obtain ⟨c1, c2, c3, c4⟩ := (HRS.out.go hSx).cells hlx; obtain ⟨c5, c6, c7, c8⟩ := (HRS.out.go hSx).cells hly; go_simp; first | done | with_reducible rfl) ?_
  simp only [Act.put]
  refine wpAnyM_takeB 6 [7, 8, 9] rfl (by kernel_rfl) (by kernel_rfl) (by kernel_rfl) (by kernel_rfl) (by kernel_rfl) (fun _ _ _ h => h) hSw (by kernel_rfl) (fun w' hSx => by have c0 := (BR.out.go hSx).cell; obtain ⟨c1, c2, c3, c4⟩ := (HRS.out.go hSx).cells hlx; obtain ⟨c5, c6, c7, c8⟩ := (HRS.out.go hSx).cells hly; go_simp; first | done | with_reducible rfl) ?_
  simp only [Act.put]
  refine wpAnyM_takeB 7 [8, 9] rfl (by kernel_rfl) (by kernel_rfl) (by kernel_rfl) (by kernel_rfl) (by kernel_rfl) (fun _ _ _ h => h) hSw (by kernel_rfl) (fun w' hSx => by have c0 := (BR.out.go hSx).cell; obtain ⟨c1, c2, c3, c4⟩ := (HRS.out.go hSx).cells hlx; obtain ⟨c5, c6, c7, c8⟩ := (HRS.out.go hSx).cells hly; go_simp; first | done | with_reducible rfl) ?_
  simp only [Act.put]
  refine wpAnyM_ready [8] (by kernel_rfl) (by simp) ?_
  refine AllReadyM.cons (by rfl) (fun K hK => ?_) AllReadyM.nil
  go_simp
  refine (rcmp_any ((HY.out.go HB0.out)) ((HX.out.go HB0.out)) SY SX).mono ?_
  rintro e wq1 ⟨rfl, hb5⟩
  clear HX HY
  replace HB0 := Lib.hid (Below.trans HB0.out (hb5.mono HB0.out.size))
  clear hb5
  clear hSw
  have hSw : (fun w' : World => Below w1.heap.size w1 w') wq1 := HB0.out
  refine hK.out _ _ hSw ?_
  clear hK K
  refine wpAnyM_takeB 9 [] rfl (by kernel_rfl) (by kernel_rfl) (by kernel_rfl) (by kernel_rfl) (by kernel_rfl) (fun _ _ _ h => h) hSw (by kernel_rfl) (fun w' hSx => by have c0 := (BR.out.go hSx).cell; obtain ⟨c1, c2, c3, c4⟩ := (HRS.out.go hSx).cells hlx; obtain ⟨c5, c6, c7, c8⟩ := (HRS.out.go hSx).cells hly; go_simp; first | done | with_reducible rfl) ?_
  simp only [Act.put]
  refine wpAnyM_done (by kernel_rfl) ?_ _
  simp only [List.getElem_toArray, List.getElem_cons_succ, List.getElem_cons_zero]
  replace BR := Lib.hid (BR.out.go HB0.out)
  replace HRS := Lib.hid (HRS.out.go HB0.out)
  replace D := Lib.hid (D.out.trans (HB0.out.mono D.out.size))
  clear HB0 hSw
  go_wp2_with fail
  go_ret
  exact ⟨rfl, D.out⟩
end Go.Proofs.YtgdbodnfibiafaaGreatDoor
