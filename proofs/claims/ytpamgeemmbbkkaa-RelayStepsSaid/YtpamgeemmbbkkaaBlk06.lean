/- The reference's small functions on lists and networks: SameTexts, HasText, HasInt, Node, Branch. Condition: what they are given reads. The search for a rule by its name: relaylang.rule. Condition: the program reads. -/
import Derived.Test.YtpamgeemmbbkkaaNetChk
import Derived.Test.YtpamgeemmbbkkaaBlk05
import Derived.Test.YtpamgeemmbbkkaaBlk02
namespace Go.Proofs.Ytpamgeemmbbkkaa
open Go.RowKit
set_option maxRecDepth 100000
theorem lst_beq (x y : ByteArray) : (x.toList == y.toList) = decide (Pl.lst x = Pl.lst y) := by
  rw [ByteArray.toList_eq, ByteArray.toList_eq, Bool.eq_iff_iff, beq_iff_eq, decide_eq_true_eq]; rfl
theorem idxT_eq (zs : List ByteArray) (x : ByteArray) : Pl.idxT zs x = Pl.idxOf (fun z : ByteArray => z.toList == x.toList) zs := by
  unfold Pl.idxT
  congr 1
  funext z
  exact (lst_beq z x).symm
def Pl.sameT (xs ys : List ByteArray) : Bool := decide (xs.map Pl.lst = ys.map Pl.lst)
theorem Pl.sameT_iff {xs ys : List ByteArray} : Pl.sameT xs ys = true ↔ xs = ys := by
  unfold Pl.sameT
  rw [decide_eq_true_eq]
  constructor
  · intro h
    induction xs generalizing ys with
    | nil => cases ys with
      | nil => rfl
      | cons y ys => simp at h
    | cons x xs ih => cases ys with
      | nil => simp at h
      | cons y ys =>
        simp only [List.map_cons, List.cons.injEq] at h
        rw [Pl.lst_inj h.1, ih h.2]
  · exact congrArg _
theorem hasText_any (A : Option Addr) (n c : Nat) (zs : List ByteArray) (x : ByteArray) (w : World) (hn : n ≤ 9223372036854775807) (h : Reads w w.heap.size 1 A n (txts zs)) :
    Calls Try.prog 71 #[.slice A n c, .string x] w fun e w' => e = .returned (.bool (Pl.inB zs x)) ∧ w' = w := by
  have hl := Lib.hid (txts_len h)
  have HR := Lib.hid h
  have HY : Hid (Pl.inB zs x = zs.any (fun z => z.toList == x.toList)) := (by show _ = _; unfold Pl.inB; congr 1; funext z; exact (lst_beq z x).symm)
  generalize Pl.inB zs x = R at *
  clear h
  go_enter Try.func71, Try.ntmps71
  go_wp2_with fail
  go_loopw [9] (fun i wr => ∃ k : Nat, k ≤ n ∧ i = .int .i64 k ∧ Hid (∀ j (hj : j < zs.length), j < k → (fun z => z.toList == x.toList) zs[j] = false) ∧ wr = w) (fun i _ => n - (intOf i).toNat)
  case atStart => exact ⟨0, Nat.zero_le _, rfl, fun j _ h => absurd h (by omega), rfl⟩
  case round =>
    obtain ⟨k, hk, rfl, HN, rfl⟩ := hrel
    by_cases hkn : k < n
    · obtain ⟨b, o, rfl, _, hlk, ck⟩ := txts_at HR.out hkn
      have HZK : Hid (∀ v, (fun z => z.toList == x.toList) zs[k] = v → (fun z => z.toList == x.toList) zs[k] = v) := fun _ h => h
      cases hv : (fun z => z.toList == x.toList) zs[k]
      · have HV := Lib.hid hv
        simp only at hv
        have hlk2 := hlk
        go_wp2_with fail
        go_roundw
        case rel => exact ⟨k + 1, by omega, by go_num, (fun j hj hjk => by
          by_cases e : j = k
          · subst e; exact HV.out
          · exact HN.out j hj (by omega)), by first | rfl | trivial⟩
        case measure => simp [intOf]; omega
      · have HV := Lib.hid hv
        simp only at hv
        go_wp2_with fail
        go_ret
        have e : (zs.any fun z => z.toList == x.toList) = true := List.any_eq_true.2 ⟨_, List.getElem_mem hlk, HV.out⟩
        exact ⟨by rw [HY.out, e]; rfl, rfl⟩
    · go_wp2_with fail
      go_ret
      have e : (zs.any fun z => z.toList == x.toList) = false := List.any_eq_false.2 fun z hz => by
        obtain ⟨j, hj, rfl⟩ := List.getElem_of_mem hz
        have := HN.out j hj (by have := hl.out; omega)
        simpa using this
      exact ⟨by rw [HY.out, e]; rfl, rfl⟩
theorem hasInt_any (A : Option Addr) (n c : Nat) (zs : List Int) (x : Int) (w : World) (hn : n ≤ 9223372036854775807) (h : Reads w w.heap.size 1 A n (ints zs)) :
    Calls Try.prog 32 #[.slice A n c, .int .i64 x] w fun e w' => e = .returned (.bool (decide (x ∈ zs))) ∧ w' = w := by
  have hl := Lib.hid (Reads.int_len h)
  have HR := Lib.hid h
  have HY : Hid (decide (x ∈ zs) = zs.any (fun z => z == x)) := (by show _ = _; rw [Bool.eq_iff_iff, decide_eq_true_eq, List.any_eq_true]; exact ⟨fun h => ⟨x, h, by simp⟩, fun ⟨z, hz, e⟩ => by simp at e; rw [← e]; exact hz⟩)
  generalize decide (x ∈ zs) = R at *
  clear h
  go_enter Try.func32, Try.ntmps32
  go_wp2_with fail
  go_loopw [9] (fun i wr => ∃ k : Nat, k ≤ n ∧ i = .int .i64 k ∧ Hid (∀ j (hj : j < zs.length), j < k → (fun z => z == x) zs[j] = false) ∧ wr = w) (fun i _ => n - (intOf i).toNat)
  case atStart => exact ⟨0, Nat.zero_le _, rfl, fun j _ h => absurd h (by omega), rfl⟩
  case round =>
    obtain ⟨k, hk, rfl, HN, rfl⟩ := hrel
    by_cases hkn : k < n
    · obtain ⟨b, o, rfl, hlk, ck⟩ := Reads.int_at HR.out hkn
      have HZK : Hid (∀ v, (fun z => z == x) zs[k] = v → (fun z => z == x) zs[k] = v) := fun _ h => h
      cases hv : (fun z => z == x) zs[k]
      · have HV := Lib.hid hv
        simp only at hv
        have hlk2 := hlk
        go_wp2_with fail
        go_roundw
        case rel => exact ⟨k + 1, by omega, by go_num, (fun j hj hjk => by
          by_cases e : j = k
          · subst e; exact HV.out
          · exact HN.out j hj (by omega)), by first | rfl | trivial⟩
        case measure => simp [intOf]; omega
      · have HV := Lib.hid hv
        simp only at hv
        go_wp2_with fail
        go_ret
        have e : (zs.any fun z => z == x) = true := List.any_eq_true.2 ⟨_, List.getElem_mem hlk, HV.out⟩
        exact ⟨by rw [HY.out, e]; rfl, rfl⟩
    · go_wp2_with fail
      go_ret
      have e : (zs.any fun z => z == x) = false := List.any_eq_false.2 fun z hz => by
        obtain ⟨j, hj, rfl⟩ := List.getElem_of_mem hz
        have := HN.out j hj (by have := hl.out; omega)
        simpa using this
      exact ⟨by rw [HY.out, e]; rfl, rfl⟩
set_option maxHeartbeats 800000 in
theorem sameTexts_any (A A' : Option Addr) (n c n' c' : Nat) (xs ys : List ByteArray) (w : World) (hn : n ≤ 9223372036854775807) (h : Reads w w.heap.size 1 A n (txts xs)) (h' : Reads w w.heap.size 1 A' n' (txts ys)) :
    Calls Try.prog 17 #[.slice A n c, .slice A' n' c'] w fun e w' => e = .returned (.bool (Pl.sameT xs ys)) ∧ Below w.heap.size w w' := by
  have hl := txts_len h
  have hl' := txts_len h'
  have HR := Lib.hid h
  have HR' := Lib.hid h'
  have HY : Hid (Pl.sameT xs ys = decide (xs.map Pl.lst = ys.map Pl.lst)) := rfl
  generalize Pl.sameT xs ys = R at *
  clear h h'
  go_enter Try.func17, Try.ntmps17
  by_cases hnn : n = n'
  · subst hnn
    have hle : xs.length = ys.length := by omega
    have HL := Lib.hid hl
    have HL' := Lib.hid hl'
    clear hl hl' hle
    go_wp2_with fail
    go_loopw [13] (fun i wr => ∃ k : Nat, k ≤ n ∧ i = .int .i64 k ∧ Hid (∀ j (hj : j < xs.length) (hj' : j < ys.length), j < k → xs[j] = ys[j]) ∧ Hid (Below w.heap.size w wr)) (fun i _ => n - (intOf i).toNat)
    case atStart => exact ⟨0, Nat.zero_le _, rfl, (fun j _ _ h => absurd h (by omega)), Below.refl _ _⟩
    case round =>
      obtain ⟨k, hk, rfl, HN, GR⟩ := hrel
      by_cases hkn : k < n
      · obtain ⟨b, o, rfl, _, hlk, ck⟩ := txts_at (HR.out.below GR.out) hkn
        obtain ⟨b', o', rfl, _, hlk', ck'⟩ := txts_at (HR'.out.below GR.out) hkn
        have HX : Hid (∃ x y, x = xs[k] ∧ y = ys[k]) := ⟨_, _, rfl, rfl⟩
        obtain ⟨x, y, hx, hy⟩ := HX.out
        rw [← hx] at ck
        rw [← hy] at ck'
        have HXE := Lib.hid hx
        have HYE := Lib.hid hy
        clear hx hy HX
        have j0 : (0 : Int) ≤ (k : Int) := by omega
        have j1 : (k : Int) < (n : Int) := by omega
        by_cases hv : x = y
        · have hvb : (x.toList == y.toList) = true := by rw [hv]; simp
          have HV := Lib.hid hv
          clear hv
          go_wp2_with fail
          go_quiet (fail)
          have GS := Lib.hid (below_drewN_s GR.out nq)
          go_wp2_with fail
          go_roundw
          case rel => exact ⟨k + 1, by omega, by go_num, (fun j hj hj' hjk => by
            by_cases e : j = k
            · subst e; rw [← HXE.out, ← HYE.out]; exact HV.out
            · exact HN.out j hj hj' (by omega)), GS⟩
          case measure => simp [intOf]; omega
        · have hvb : (x.toList == y.toList) = false := by rw [lst_beq]; exact decide_eq_false (fun e => hv (Pl.lst_inj e))
          have HV : Hid (¬ x = y) := hv
          clear hv
          go_wp2_with fail
          go_quiet (fail)
          have GS := Lib.hid (below_drewN_s GR.out nq)
          go_wp2_with fail
          go_ret
          have e : ¬ xs.map Pl.lst = ys.map Pl.lst := fun e => by
            have e := congrArg (fun l => l[k]?) e
            simp only [List.getElem?_map, List.getElem?_eq_getElem hlk, List.getElem?_eq_getElem hlk', Option.map_some, Option.some.injEq] at e
            exact HV.out (by rw [HXE.out, HYE.out]; exact Pl.lst_inj e)
          exact ⟨by rw [HY.out, decide_eq_false e]; rfl, GS.out⟩
      · go_wp2_with fail
        go_ret
        have e : xs = ys := List.ext_getElem (by have := HL.out; have := HL'.out; omega) fun j hj hj' => HN.out j hj hj' (by have := HL.out; omega)
        exact ⟨by rw [HY.out, decide_eq_true (congrArg _ e)]; rfl, GR.out⟩
  · have HN : Hid (¬ xs.map Pl.lst = ys.map Pl.lst) := fun e => hnn (by have := congrArg List.length e; simp at this; omega)
    have hnb : ((n : Int) == (n' : Int)) = false := by simp; omega
    have hnb2 : ¬ (n : Int) = (n' : Int) := by omega
    go_wp2_with fail
    go_ret
    exact ⟨by rw [HY.out, decide_eq_false HN.out]; rfl, Below.refl _ _⟩
set_option maxHeartbeats 800000 in
theorem node_any (M : MNet) (nm : ByteArray) (w : World) (hM : NetIn w w.heap.size M) :
    Calls Try.prog 12 #[vNet M, .string nm] w fun e w' => e = .returned (.int .i64 (Pl.idxT M.N.nodes nm)) ∧ Below w.heap.size w w' := by
  have F0 := Lib.hid ((Below.refl w.heap.size w).alloc (Nat.le_refl _) (.cells (netC M) 29))
  have B0 := Lib.hid (Blk.new_ w w.heap.size 29 (netC M) rfl)
  have HY := Lib.hid (idxT_eq M.N.nodes nm)
  generalize Pl.idxT M.N.nodes nm = R at *
  have HR := Lib.hid hM.r0
  have hz0 := hM.z0
  clear hM
  unfold vNet at *
  obtain ⟨N, A0, n0, c0, A1, n1, c1, A2, n2, c2, A3, n3, c3, A4, n4, c4, A5, n5, c5⟩ := M
  unfold netC at *
  simp only at *
  generalize N.nodes = zs at *
  have hl := Lib.hid (txts_len HR.out)
  have k0 := B0.out.cell
  go_enter Try.func12, Try.ntmps12
  go_wp2_with fail
  clear k0
  go_loopw [10] (fun i wr => ∃ k : Nat, k ≤ n0 ∧ i = .int .i64 k ∧ Hid (∀ j (hj : j < zs.length), j < k → (fun z : ByteArray => z.toList == nm.toList) zs[j] = false) ∧ Hid (Below w.heap.size w wr)) (fun i _ => n0 - (intOf i).toNat)
  case atStart => exact ⟨0, Nat.zero_le _, rfl, (fun j _ h => absurd h (by omega)), F0⟩
  case round =>
    obtain ⟨k, hk, rfl, HN, GR⟩ := hrel
    by_cases hkn : k < n0
    · obtain ⟨b, o, rfl, _, hlk, ck⟩ := txts_at (HR.out.below GR.out) hkn
      cases hv : (fun z : ByteArray => z.toList == nm.toList) zs[k]
      · have HV := Lib.hid hv
        simp only at hv
        go_wp2_with fail
        go_roundw
        case rel => exact ⟨k + 1, by omega, by go_num, (fun j hj hjk => by
          by_cases e : j = k
          · subst e; exact HV.out
          · exact HN.out j hj (by omega)), GR⟩
        case measure => simp [intOf]; omega
      · have HV := Lib.hid hv
        simp only at hv
        go_wp2_with fail
        go_ret
        exact ⟨by rw [HY.out, Pl.idxOf_hit _ zs k hlk HV.out HN.out]; rfl, GR.out⟩
    · go_wp2_with fail
      go_ret
      exact ⟨by rw [HY.out, Pl.idxOf_miss _ zs fun j hj => HN.out j hj (by have := hl.out; omega)]; rfl, GR.out⟩
set_option maxHeartbeats 800000 in
theorem branch_any (M : MNet) (nm : ByteArray) (w : World) (hM : NetIn w w.heap.size M) :
    Calls Try.prog 11 #[vNet M, .string nm] w fun e w' => e = .returned (.int .i64 (Pl.idxOf (fun z : Pl.Bra => z.name.toList == nm.toList) M.N.branches)) ∧ Below w.heap.size w w' := by
  have F0 := Lib.hid ((Below.refl w.heap.size w).alloc (Nat.le_refl _) (.cells (netC M) 29))
  have B0 := Lib.hid (Blk.new_ w w.heap.size 29 (netC M) rfl)
  have HY : Hid (∀ R, R = Pl.idxOf (fun z : Pl.Bra => z.name.toList == nm.toList) M.N.branches → R = Pl.idxOf (fun z : Pl.Bra => z.name.toList == nm.toList) M.N.branches) := fun _ h => h
  have HZ : Hid (∃ R, R = Pl.idxOf (fun z : Pl.Bra => z.name.toList == nm.toList) M.N.branches) := ⟨_, rfl⟩
  obtain ⟨R, hR⟩ := HZ.out
  rw [← hR]
  have HYR := Lib.hid hR
  clear hR HY HZ
  have HR := Lib.hid hM.r2
  have hz2 := hM.z2
  clear hM
  unfold vNet at *
  obtain ⟨N, A0, n0, c0, A1, n1, c1, A2, n2, c2, A3, n3, c3, A4, n4, c4, A5, n5, c5⟩ := M
  unfold netC at *
  simp only at *
  generalize N.branches = zs at *
  have hl := Lib.hid HR.out.2
  have k0 := B0.out.cell
  go_enter Try.func11, Try.ntmps11
  go_wp2_with fail
  clear k0
  go_loopw [10] (fun i wr => ∃ k : Nat, k ≤ n2 ∧ i = .int .i64 k ∧ Hid (∀ j (hj : j < zs.length), j < k → (fun z : Pl.Bra => z.name.toList == nm.toList) zs[j] = false) ∧ Hid (Below w.heap.size w wr)) (fun i _ => n2 - (intOf i).toNat)
  case atStart => exact ⟨0, Nat.zero_le _, rfl, (fun j _ h => absurd h (by omega)), F0⟩
  case round =>
    obtain ⟨k, hk, rfl, HN, GR⟩ := hrel
    by_cases hkn : k < n2
    · obtain ⟨b, o, rfl, hlk, q0, q1, q2, q3, q4, q5, q6, q7, q8⟩ := bra_at (HR.out.below GR.out) hkn
      have GS := Lib.hid (GR.out.alloc GR.out.size (.cells (braC zs[k]).toArray 42))
      unfold braC at GS
      cases hv : (fun z : Pl.Bra => z.name.toList == nm.toList) zs[k]
      · have HV := Lib.hid hv
        simp only at hv
        go_wp2_with fail
        go_roundw
        case rel => exact ⟨k + 1, by omega, by go_num, (fun j hj hjk => by
          by_cases e : j = k
          · subst e; exact HV.out
          · exact HN.out j hj (by omega)), GS⟩
        case measure => simp [intOf]; omega
      · have HV := Lib.hid hv
        simp only at hv
        go_wp2_with fail
        go_ret
        exact ⟨by rw [HYR.out, Pl.idxOf_hit _ zs k hlk HV.out HN.out]; rfl, GS.out⟩
    · go_wp2_with fail
      go_ret
      exact ⟨by rw [HYR.out, Pl.idxOf_miss _ zs fun j hj => HN.out j hj (by have := hl.out; omega)]; rfl, GR.out⟩
end Go.Proofs.Ytpamgeemmbbkkaa
namespace Go.Proofs.Ytpamgeemmbbkkaa
open Go.RowKit
set_option maxRecDepth 100000
set_option maxHeartbeats 800000 in
theorem idxfn_rul (F : Nat) (lb : Array Value) (p : MRul → Bool) (eg : ∀ args w, Sem.run Try.prog (callFunc F args) w = .ok (.enter F args) w) (A : Option Addr) (n c : Nat) (l : List MRul) (w : World) (hn : n ≤ 9223372036854775807) (h : Ruls w w.heap.size A n l)
    (hp : ∀ x w', Below w.heap.size w w' → Calls Try.prog F (#[.agg #[.string x.nm, .slice x.A x.n x.c]] ++ lb) w' fun e w'' => e = .returned (.bool (p x)) ∧ Below w'.heap.size w' w'') :
    Calls Try.prog 78 #[.slice A n c, .func (.func F) #[] lb] w fun e w' => e = .returned (.int .i64 (Pl.idxOf p l)) ∧ Below w.heap.size w w' := by
  have HL := Lib.hid h.len
  have HP := Lib.hid hp
  clear hp
  go_enter Try.func78, Try.ntmps78
  go_wp2_with fail
  go_loopw [8] (fun i wr => ∃ k : Nat, k ≤ n ∧ i = .int .i64 k ∧ Hid (∀ j (hj : j < l.length), j < k → p l[j] = false) ∧ Below w.heap.size w wr) (fun i _ => n - (intOf i).toNat)
  case atStart => exact ⟨0, Nat.zero_le _, rfl, fun j _ h => absurd h (by omega), Below.refl _ _⟩
  case round =>
    obtain ⟨k, hk, rfl, HN, hbel⟩ := hrel
    have HB := Lib.hid hbel
    clear hbel
    by_cases hlt : k < n
    · obtain ⟨b, o, rfl, _, hl, q0, q1, _⟩ := rul_at (h.below HB.out) hlt
      have HC := Lib.hid (HP.out l[k] wr HB.out)
      go_wp2_with (go_at_fn F; refine HC.out.mono ?_; rintro e w' ⟨rfl, hb⟩)
      all_goals first
        | (go_roundw
           case rel =>
             have hv : p l[k] = false := by assumption
             exact ⟨k + 1, by omega, by go_num, fun j hj hjk => by
               by_cases e : j = k
               · subst e; exact hv
               · exact HN.out j hj (by omega), HB.out.trans (hb.mono HB.out.size)⟩
           case measure => simp [intOf]; omega)
        | (go_ret
           have hv : p l[k] = true := by assumption
           exact ⟨ret_int (Pl.idxOf_hit p l k hl hv HN.out).symm, HB.out.trans (hb.mono HB.out.size)⟩)
    · go_wp2_with fail
      go_ret
      exact ⟨ret_int (Pl.idxOf_miss p l fun j hj => HN.out j hj (by have := HL.out; omega)).symm, HB.out⟩
/-- the index of the rule of a name -/
def Pl.ruleI (l : List Pl.RRule) (nm : ByteArray) : Int := Pl.idxOf (fun z : Pl.RRule => z.name.toList == nm.toList) l
theorem ruleI_prl (l : List MRul) (nm : ByteArray) : Pl.idxOf (fun z : MRul => z.nm.toList == nm.toList) l = Pl.ruleI (prl l) nm := by
  unfold Pl.ruleI Pl.idxOf prl
  rw [List.findIdx?_map]
  rfl
theorem enters_rule1 : ∀ args w, Sem.run Try.prog (callFunc 79 args) w = .ok (.enter 79 args) w := by intro args w; go_simp
theorem rule1_any (nm : ByteArray) (bo : Nat) (x : MRul) (w : World) (hc : w.cell? ⟨bo, 0, none⟩ = some (.string nm)) :
    Calls Try.prog 79 #[.agg #[.string x.nm, .slice x.A x.n x.c], .pointer (some ⟨bo, 0, none⟩)] w fun e w' => e = .returned (.bool (x.nm.toList == nm.toList)) ∧ Below w.heap.size w w' := by
  have HX : Hid (∃ nn : ByteArray, nn = x.nm) := ⟨_, rfl⟩
  obtain ⟨nn, hnn⟩ := HX.out
  rw [← hnn]
  clear hnn HX
  have lt := cell_lt hc
  go_enter Try.func79, Try.ntmps79
  go_wp2_with fail
  all_goals
    go_ret
    exact ⟨rfl, (Below.refl _ _).alloc (Nat.le_refl _) _⟩
set_option maxHeartbeats 800000 in
theorem rule_any (A : Option Addr) (n c : Nat) (l : List MRul) (nm : ByteArray) (w : World) (hn : n ≤ 9223372036854775807) (h : Ruls w w.heap.size A n l) :
    Calls Try.prog 42 #[.slice A n c, .string nm] w fun e w' => e = .returned (.int .i64 (Pl.ruleI (prl l) nm)) ∧ Below w.heap.size w w' := by
  have d0 := (Below.refl w.heap.size w).alloc (Nat.le_refl _) (.cells #[.string nm] 9)
  have C0 := Lib.hid (idxfn_rul 79 #[.pointer (some ⟨w.heap.size, 0, none⟩)] (fun z : MRul => z.nm.toList == nm.toList) enters_rule1 A n c l (w.alloc (.cells #[.string nm] 9)) hn (h.go d0) fun x w' hb => rule1_any nm w.heap.size x w' (by
    have hc : (w.alloc (.cells #[.string nm] 9)).cell? ⟨w.heap.size, 0, none⟩ = some (.string nm) := (Blk.new_ w w.heap.size 9 #[.string nm] rfl).cell 0
    rw [hb.cell (p := ⟨w.heap.size, 0, none⟩) (cell_lt hc)]; exact hc))
  rw [ruleI_prl] at C0
  generalize Pl.ruleI (prl l) nm = R at *
  have F0 := Lib.hid d0
  clear d0 h
  go_enter Try.func42, Try.ntmps42
  go_wp2_with fail
  refine C0.out.mono ?_
  rintro e w1 ⟨rfl, hb⟩
  have F1 := Lib.hid (F0.out.trans (hb.mono F0.out.size))
  clear hb
  go_wp2_with fail
  go_ret
  exact ⟨rfl, F1.out⟩
end Go.Proofs.Ytpamgeemmbbkkaa
