/- relaylang.names: the names of flags and of measured values, sorted, without repetitions. Condition: the program is a small one and reads. -/
import Derived.Test.YtpamgeemmbbkkaaBlk02
import Derived.Test.YtpamgeemmbbkkaaShStr
import Derived.Test.YtpamgeemmbbkkaaBlk03
namespace Go.Proofs.Ytpamgeemmbbkkaa
open Go.RowKit
set_option maxRecDepth 100000
namespace Pl
def nodF (ex : List RN) : List (List UInt8) := (ex.filter fun x => decide (x.op = 0)).map fun x => lst x.name
def nodV (ex : List RN) : List (List UInt8) := (ex.filter fun x => decide (x.op = 1 ∨ x.op = 2)).map fun x => lst x.name
def fnames (l : List RRule) : List (List UInt8) := l.flatMap fun r => nodF r.expr
def vnames (l : List RRule) : List (List UInt8) := l.flatMap fun r => nodV r.expr
end Pl
theorem fnames_succ (l : List MRul) {k : Nat} (hk : k < l.length) : Pl.fnames (prl (l.take (k + 1))) = Pl.fnames (prl (l.take k)) ++ Pl.nodF l[k].ex := by
  unfold Pl.fnames prl
  rw [List.take_succ_eq_append_getElem hk, List.map_append, List.flatMap_append]
  simp only [List.map_cons, List.map_nil, List.flatMap_cons, List.flatMap_nil, List.append_nil]
theorem vnames_succ (l : List MRul) {k : Nat} (hk : k < l.length) : Pl.vnames (prl (l.take (k + 1))) = Pl.vnames (prl (l.take k)) ++ Pl.nodV l[k].ex := by
  unfold Pl.vnames prl
  rw [List.take_succ_eq_append_getElem hk, List.map_append, List.flatMap_append]
  simp only [List.map_cons, List.map_nil, List.flatMap_cons, List.flatMap_nil, List.append_nil]
theorem nodF_succ (ex : List Pl.RN) {j : Nat} (hj : j < ex.length) : Pl.nodF (ex.take (j + 1)) = Pl.nodF (ex.take j) ++ (if ex[j].op = 0 then [Pl.lst ex[j].name] else []) := by
  unfold Pl.nodF
  rw [List.take_succ_eq_append_getElem hj, List.filter_append, List.map_append]
  congr 1
  by_cases h : ex[j].op = 0 <;> simp [h]
theorem nodV_succ (ex : List Pl.RN) {j : Nat} (hj : j < ex.length) : Pl.nodV (ex.take (j + 1)) = Pl.nodV (ex.take j) ++ (if ex[j].op = 1 ∨ ex[j].op = 2 then [Pl.lst ex[j].name] else []) := by
  unfold Pl.nodV
  rw [List.take_succ_eq_append_getElem hj, List.filter_append, List.map_append]
  congr 1
  by_cases h : ex[j].op = 1 ∨ ex[j].op = 2 <;> simp [h]
/-- two rows of the call's own lie apart -/
def Apart (va vb : Value) : Prop := va.ownBlock = none ∨ vb.ownBlock = none ∨ va.ownBlock ≠ vb.ownBlock
theorem Apart.symm {va vb : Value} (h : Apart va vb) : Apart vb va := by
  rcases h with h | h | h
  · exact .inr (.inl h)
  · exact .inl h
  · exact .inr (.inr (fun e => h e.symm))
theorem Apart.grow {w : World} {base n : Nat} {e : TypeId} {size : Nat} {va vb v' : Value} {xs : List Value} (h : Apart va vb) (hb : w.ownsRow base e size vb n xs) (hn : v'.ownBlock = va.ownBlock ∨ v'.ownBlock = some w.heap.size) : Apart v' vb := by
  rcases hn with hn | hn
  · unfold Apart; rw [hn]; exact h
  · rcases h2 : vb.ownBlock with _ | g
    · exact .inr (.inl h2)
    · refine .inr (.inr ?_)
      rw [hn, h2]
      have := (hb.lt g h2).2
      intro e; injection e with e; omega
theorem Apart.row {w w' : World} {base n : Nat} {e : TypeId} {size : Nat} {va vb : Value} {xs : List Value} (h : Apart va vb) (hb : w.ownsRow base e size vb n xs) (hg : w.grownBy w' va.ownBlock) : w'.ownsRow base e size vb n xs := by
  rcases h with h | h | h
  · rw [h] at hg
    refine hb.kept hg ?_
    rcases h2 : vb.ownBlock with _ | g
    · exact .inl rfl
    · exact .inr (by simp)
  · exact hb.kept hg (.inl h)
  · exact hb.kept hg (.inr (fun e => h e.symm))
theorem own_same (A : Option Addr) (n c n' c' : Nat) : (Value.slice A n c).ownBlock = (Value.slice A n' c').ownBlock := by cases A <;> rfl
theorem compact_short {α : Type} [Inhabited α] [DecidableEq α] (zs : List α) : (Go.Lib.compact zs).length ≤ zs.length := by
  unfold Go.Lib.compact Go.Lib.compactUpTo
  rw [List.length_map]
  exact Nat.le_trans (List.length_filter_le _ _) (by simp)
theorem names_at (nd : ByteArray) : (Value.string nd) = encStr (Pl.lst nd) := rfl
set_option maxHeartbeats 6400000 in
theorem rnames_any (A : Option Addr) (n c : Nat) (l : List MRul) (w : World) (hn : n ≤ 16) (h : Ruls w w.heap.size A n l) (h64 : ∀ o ∈ l, o.n ≤ 64) :
    Calls Try.prog 45 #[.slice A n c] w fun e w' => ∃ (A1 : Option Addr) (m1 c1 : Nat) (A2 : Option Addr) (m2 c2 : Nat) (fl vl : List (List UInt8)), e = .returned (.tuple #[.slice A1 m1 c1, .slice A2 m2 c2]) ∧ Reads w' w'.heap.size 1 A1 m1 (strs fl) ∧ Reads w' w'.heap.size 1 A2 m2 (strs vl) ∧ m1 ≤ 2000 ∧ m2 ≤ 2000 ∧ (∀ s, s ∈ fl ↔ s ∈ Pl.fnames (prl l)) ∧ (∀ s, s ∈ vl ↔ s ∈ Pl.vnames (prl l)) ∧ Below w.heap.size w w' := by
  have H := Lib.hid h
  have HL := Lib.hid h.len
  have H64 := Lib.hid h64
  clear h h64
  obtain ⟨i0, hi0, hz0, hz1, hz2⟩ := info_parts info_str
  go_enter Try.func45, Try.ntmps45
  go_wp2_with fail
  go_loopw [2, 3, 10] (fun va vb i wr => ∃ (k : Nat) (Aa : Option Addr) (ma ca : Nat) (Ab : Option Addr) (mb cb : Nat), k ≤ n ∧ i = .int .i64 k ∧ va = .slice Aa ma ca ∧ vb = .slice Ab mb cb ∧ ma ≤ 64 * k ∧ mb ≤ 64 * k ∧ Hid (wr.ownsRow w.heap.size 9 1 (.slice Aa ma ca) ma (strs (Pl.fnames (prl (l.take k))))) ∧ Hid (wr.ownsRow w.heap.size 9 1 (.slice Ab mb cb) mb (strs (Pl.vnames (prl (l.take k))))) ∧ Hid (Apart (.slice Aa ma ca) (.slice Ab mb cb)) ∧ Hid (Below w.heap.size w wr)) (fun _ _ i _ => n - (intOf i).toNat)
  case atStart => exact ⟨0, none, 0, 0, none, 0, 0, Nat.zero_le _, rfl, rfl, rfl, by omega, by omega, World.ownsRow_nil _ _ _ _, World.ownsRow_nil _ _ _ _, .inl rfl, Below.refl _ _⟩
  case round =>
    obtain ⟨k, Aa, ma, ca, Ab, mb, cb, hk, rfl, rfl, rfl, hma, hmb, OA, OB, HAP, HB⟩ := hrel
    by_cases hkn : k < n
    · obtain ⟨b, o, rfl, _, hlk, q0, q1, hin⟩ := rul_at (H.out.go HB.out) hkn
      have HFS := Lib.hid (fnames_succ l hlk)
      have HVS := Lib.hid (vnames_succ l hlk)
      have he64 := H64.out _ (List.getElem_mem hlk)
      have HIN : Hid (Elems rnC 3 w w.heap.size l[k].A l[k].n l[k].ex) := (H.out.2 _ (List.getElem_mem hlk)).2.2.1
      clear hin
      generalize l[k] = ru at *
      obtain ⟨rnm, eA, en, ec, ex⟩ := ru
      simp only at *
      have k0 : (0 : Int) ≤ (k : Int) := by omega
      have k1 : (k : Int) < (n : Int) := by omega
      have AL : Hid (Below wr.heap.size wr (wr.alloc (.cells #[.string rnm, .slice eA en ec] 96))) := (Below.refl _ _).alloc (Nat.le_refl _) _
      have OA1 := Lib.hid (own_go OA.out AL.out)
      have OB1 := Lib.hid (own_go OB.out AL.out)
      have HB1 := Lib.hid (HB.out.trans (AL.out.mono HB.out.size))
      clear OA OB HB AL
      go_wp2_with fail
      clear q0 q1
      generalize wr.alloc (.cells #[.string rnm, .slice eA en ec] 96) = w1 at *
      go_loopw [2, 3, 17] (fun va vb i wq => ∃ (j : Nat) (Aa : Option Addr) (ma ca : Nat) (Ab : Option Addr) (mb cb : Nat), j ≤ en ∧ i = .int .i64 j ∧ va = .slice Aa ma ca ∧ vb = .slice Ab mb cb ∧ ma ≤ 64 * k + j ∧ mb ≤ 64 * k + j ∧ Hid (wq.ownsRow w.heap.size 9 1 (.slice Aa ma ca) ma (strs (Pl.fnames (prl (l.take k)) ++ Pl.nodF (ex.take j)))) ∧ Hid (wq.ownsRow w.heap.size 9 1 (.slice Ab mb cb) mb (strs (Pl.vnames (prl (l.take k)) ++ Pl.nodV (ex.take j)))) ∧ Hid (Apart (.slice Aa ma ca) (.slice Ab mb cb)) ∧ Hid (Below w.heap.size w wq)) (fun _ _ i _ => en - (intOf i).toNat)
      case atStart => exact ⟨0, Aa, ma, ca, Ab, mb, cb, Nat.zero_le _, rfl, rfl, rfl, by omega, by omega, Lib.hid (by simpa [Pl.nodF] using OA1.out), Lib.hid (by simpa [Pl.nodV] using OB1.out), HAP.out, HB1.out⟩
      case round =>
        clear OA1 OB1 HAP HB1 hma hmb
        obtain ⟨j, Aa, ma, ca, Ab, mb, cb, hj, rfl, rfl, rfl, hma, hmb, OA, OB, HAP, HB⟩ := hrel
        by_cases hjn : j < en
        · obtain ⟨b2, o2, rfl, _, hlj, z0, z1, z2⟩ := rn_at (HIN.out.below HB.out) hjn
          have HNF := Lib.hid (nodF_succ ex hlj)
          have HNV := Lib.hid (nodV_succ ex hlj)
          generalize ex[j] = xj at *
          obtain ⟨xo, xn, xv⟩ := xj
          simp only at *
          have j0 : (0 : Int) ≤ (j : Int) := by omega
          have j1 : (j : Int) < (en : Int) := by omega
          have AL : Hid (Below wr.heap.size wr (wr.alloc (.cells #[.int .i64 xo, .string xn, .int .i64 xv] 93))) := (Below.refl _ _).alloc (Nat.le_refl _) _
          have OA1 := Lib.hid (own_go OA.out AL.out)
          have OB1 := Lib.hid (own_go OB.out AL.out)
          have HB1 := Lib.hid (HB.out.trans (AL.out.mono HB.out.size))
          have XB := Lib.hid (Blk.new_ wr wr.heap.size 93 #[.int .i64 xo, .string xn, .int .i64 xv] rfl)
          clear OA OB HB AL
          have HW2 : Hid (∃ w2, w2 = wr.alloc (.cells #[.int .i64 xo, .string xn, .int .i64 xv] 93)) := ⟨_, rfl⟩
          have hcase : xo = 0 ∨ xo = 1 ∨ xo = 2 ∨ (xo ≠ 0 ∧ xo ≠ 1 ∧ xo ≠ 2) := by omega
          rcases hcase with rfl | rfl | rfl | ⟨c0, c1, c2⟩
          · have HFN : Hid (Pl.nodF (ex.take (j + 1)) = Pl.nodF (ex.take j) ++ [Pl.lst xn]) := by show _ = _; rw [HNF.out]; simp
            have HVN : Hid (Pl.nodV (ex.take (j + 1)) = Pl.nodV (ex.take j) ++ []) := by show _ = _; rw [HNV.out]; simp
            clear HNF HNV
            have d3 : Below (wr.alloc (.cells #[.int .i64 0, .string xn, .int .i64 xv] 93)).heap.size (wr.alloc (.cells #[.int .i64 0, .string xn, .int .i64 xv] 93)) ((wr.alloc (.cells #[.int .i64 0, .string xn, .int .i64 xv] 93)).alloc (.cells #[.string xn] 9)) := (Below.refl _ _).alloc (Nat.le_refl _) _
            have OA2 := Lib.hid (own_go OA1.out d3)
            have OB2 := Lib.hid (own_go OB1.out d3)
            have HB2 := Lib.hid (HB1.out.trans (d3.mono HB1.out.size))
            go_wp2_with (at_builtin; go_must (refine wpList_append_any _ rfl (.tmp 25) (.tmp 28) 22 rfl w.heap.size 9 i0 _ 1 16 Try.underlying22 hi0 hz0 hz1 hz2 rfl (by decide) (.slice Aa ma ca) ma (strs (Pl.fnames (prl (l.take k)) ++ Pl.nodF (ex.take j))) rfl OA2.out (wr.heap.size + 1 + 1) (some ⟨wr.heap.size + 1, 0, none⟩) 1 1 [.string xn] rfl (by have := Reads.lit (wr.alloc (.cells #[.int .i64 0, .string xn, .int .i64 xv] 93)) #[.string xn] 9 1 1 (wr.heap.size + 1) (by simp) rfl; simpa using this) (by intro u hu; simp at hu; subst hu; rfl) (by unfold maxLen; omega) (by omega) (by have := HB1.out.size; simp at this ⊢; omega) ?_); intro v' w6 hown6 hg6 hn6; have AP3 := Lib.hid (HAP.out.grow OB2.out hn6); have OB3x := Lib.hid (HAP.out.row OB2.out hg6); obtain ⟨A6, c6, rfl, _⟩ := own_slice hown6; have HO6 := Lib.hid hown6; have HB3 := Lib.hid (below_grown HB2.out hg6 OA2.out (Nat.le_refl _) HB2.out.size); clear hown6 hg6 hn6)
            have OA3 : Hid (w6.ownsRow w.heap.size 9 1 (.slice A6 (ma + 1) c6) (ma + 1) (strs (Pl.fnames (prl (l.take k)) ++ Pl.nodF (ex.take (j + 1))))) := by show World.ownsRow _ _ _ _ _ _ _; rw [HFN.out, ← List.append_assoc, strs_append]; exact HO6.out
            have OB3 : Hid (w6.ownsRow w.heap.size 9 1 (.slice Ab mb cb) mb (strs (Pl.vnames (prl (l.take k)) ++ Pl.nodV (ex.take (j + 1))))) := by show World.ownsRow _ _ _ _ _ _ _; rw [HVN.out, List.append_nil]; exact OB3x.out
            go_roundw
            case rel => exact ⟨j + 1, A6, ma + 1, c6, Ab, mb, cb, by omega, by go_num, rfl, rfl, by omega, by omega, OA3.out, OB3.out, AP3.out, HB3.out⟩
            case measure => simp [intOf]; omega
          · have HFN : Hid (Pl.nodF (ex.take (j + 1)) = Pl.nodF (ex.take j) ++ []) := by show _ = _; rw [HNF.out]; simp
            have HVN : Hid (Pl.nodV (ex.take (j + 1)) = Pl.nodV (ex.take j) ++ [Pl.lst xn]) := by show _ = _; rw [HNV.out]; simp
            clear HNF HNV
            have d3 : Below (wr.alloc (.cells #[.int .i64 1, .string xn, .int .i64 xv] 93)).heap.size (wr.alloc (.cells #[.int .i64 1, .string xn, .int .i64 xv] 93)) ((wr.alloc (.cells #[.int .i64 1, .string xn, .int .i64 xv] 93)).alloc (.cells #[.string xn] 9)) := (Below.refl _ _).alloc (Nat.le_refl _) _
            have OB2 := Lib.hid (own_go OB1.out d3)
            have OA2 := Lib.hid (own_go OA1.out d3)
            have HB2 := Lib.hid (HB1.out.trans (d3.mono HB1.out.size))
            go_wp2_with (at_builtin; go_must (refine wpList_append_any _ rfl (.tmp 33) (.tmp 36) 22 rfl w.heap.size 9 i0 _ 1 16 Try.underlying22 hi0 hz0 hz1 hz2 rfl (by decide) (.slice Ab mb cb) mb (strs (Pl.vnames (prl (l.take k)) ++ Pl.nodV (ex.take j))) rfl OB2.out (wr.heap.size + 1 + 1) (some ⟨wr.heap.size + 1, 0, none⟩) 1 1 [.string xn] rfl (by have := Reads.lit (wr.alloc (.cells #[.int .i64 1, .string xn, .int .i64 xv] 93)) #[.string xn] 9 1 1 (wr.heap.size + 1) (by simp) rfl; simpa using this) (by intro u hu; simp at hu; subst hu; rfl) (by unfold maxLen; omega) (by omega) (by have := HB1.out.size; simp at this ⊢; omega) ?_); intro v' w6 hown6 hg6 hn6; have AP3 := Lib.hid ((HAP.out.symm.grow OA2.out hn6).symm); have OA3x := Lib.hid (HAP.out.symm.row OA2.out hg6); obtain ⟨A6, c6, rfl, _⟩ := own_slice hown6; have HO6 := Lib.hid hown6; have HB3 := Lib.hid (below_grown HB2.out hg6 OB2.out (Nat.le_refl _) HB2.out.size); clear hown6 hg6 hn6)
            have OB3 : Hid (w6.ownsRow w.heap.size 9 1 (.slice A6 (mb + 1) c6) (mb + 1) (strs (Pl.vnames (prl (l.take k)) ++ Pl.nodV (ex.take (j + 1))))) := by show World.ownsRow _ _ _ _ _ _ _; rw [HVN.out, ← List.append_assoc, strs_append]; exact HO6.out
            have OA3 : Hid (w6.ownsRow w.heap.size 9 1 (.slice Aa ma ca) ma (strs (Pl.fnames (prl (l.take k)) ++ Pl.nodF (ex.take (j + 1))))) := by show World.ownsRow _ _ _ _ _ _ _; rw [HFN.out, List.append_nil]; exact OA3x.out
            go_roundw
            case rel => exact ⟨j + 1, Aa, ma, ca, A6, mb + 1, c6, by omega, by go_num, rfl, rfl, by omega, by omega, OA3.out, OB3.out, AP3.out, HB3.out⟩
            case measure => simp [intOf]; omega
          · have HFN : Hid (Pl.nodF (ex.take (j + 1)) = Pl.nodF (ex.take j) ++ []) := by show _ = _; rw [HNF.out]; simp
            have HVN : Hid (Pl.nodV (ex.take (j + 1)) = Pl.nodV (ex.take j) ++ [Pl.lst xn]) := by show _ = _; rw [HNV.out]; simp
            clear HNF HNV
            have d3 : Below (wr.alloc (.cells #[.int .i64 2, .string xn, .int .i64 xv] 93)).heap.size (wr.alloc (.cells #[.int .i64 2, .string xn, .int .i64 xv] 93)) ((wr.alloc (.cells #[.int .i64 2, .string xn, .int .i64 xv] 93)).alloc (.cells #[.string xn] 9)) := (Below.refl _ _).alloc (Nat.le_refl _) _
            have OB2 := Lib.hid (own_go OB1.out d3)
            have OA2 := Lib.hid (own_go OA1.out d3)
            have HB2 := Lib.hid (HB1.out.trans (d3.mono HB1.out.size))
            go_wp2_with (at_builtin; go_must (refine wpList_append_any _ rfl (.tmp 33) (.tmp 36) 22 rfl w.heap.size 9 i0 _ 1 16 Try.underlying22 hi0 hz0 hz1 hz2 rfl (by decide) (.slice Ab mb cb) mb (strs (Pl.vnames (prl (l.take k)) ++ Pl.nodV (ex.take j))) rfl OB2.out (wr.heap.size + 1 + 1) (some ⟨wr.heap.size + 1, 0, none⟩) 1 1 [.string xn] rfl (by have := Reads.lit (wr.alloc (.cells #[.int .i64 2, .string xn, .int .i64 xv] 93)) #[.string xn] 9 1 1 (wr.heap.size + 1) (by simp) rfl; simpa using this) (by intro u hu; simp at hu; subst hu; rfl) (by unfold maxLen; omega) (by omega) (by have := HB1.out.size; simp at this ⊢; omega) ?_); intro v' w6 hown6 hg6 hn6; have AP3 := Lib.hid ((HAP.out.symm.grow OA2.out hn6).symm); have OA3x := Lib.hid (HAP.out.symm.row OA2.out hg6); obtain ⟨A6, c6, rfl, _⟩ := own_slice hown6; have HO6 := Lib.hid hown6; have HB3 := Lib.hid (below_grown HB2.out hg6 OB2.out (Nat.le_refl _) HB2.out.size); clear hown6 hg6 hn6)
            have OB3 : Hid (w6.ownsRow w.heap.size 9 1 (.slice A6 (mb + 1) c6) (mb + 1) (strs (Pl.vnames (prl (l.take k)) ++ Pl.nodV (ex.take (j + 1))))) := by show World.ownsRow _ _ _ _ _ _ _; rw [HVN.out, ← List.append_assoc, strs_append]; exact HO6.out
            have OA3 : Hid (w6.ownsRow w.heap.size 9 1 (.slice Aa ma ca) ma (strs (Pl.fnames (prl (l.take k)) ++ Pl.nodF (ex.take (j + 1))))) := by show World.ownsRow _ _ _ _ _ _ _; rw [HFN.out, List.append_nil]; exact OA3x.out
            go_roundw
            case rel => exact ⟨j + 1, Aa, ma, ca, A6, mb + 1, c6, by omega, by go_num, rfl, rfl, by omega, by omega, OA3.out, OB3.out, AP3.out, HB3.out⟩
            case measure => simp [intOf]; omega
          · have e0 : (xo == 0) = false := by simp [c0]
            have e1 : (xo == 1) = false := by simp [c1]
            have e2 : (xo == 2) = false := by simp [c2]
            have HFN : Hid (Pl.nodF (ex.take (j + 1)) = Pl.nodF (ex.take j) ++ []) := by show _ = _; rw [HNF.out]; simp [c0]
            have HVN : Hid (Pl.nodV (ex.take (j + 1)) = Pl.nodV (ex.take j) ++ []) := by show _ = _; rw [HNV.out]; simp [c1, c2]
            clear HNF HNV
            clear c0 c1 c2
            have OA3 : Hid ((wr.alloc (.cells #[.int .i64 xo, .string xn, .int .i64 xv] 93)).ownsRow w.heap.size 9 1 (.slice Aa ma ca) ma (strs (Pl.fnames (prl (l.take k)) ++ Pl.nodF (ex.take (j + 1))))) := by show World.ownsRow _ _ _ _ _ _ _; rw [HFN.out, List.append_nil]; exact OA1.out
            have OB3 : Hid ((wr.alloc (.cells #[.int .i64 xo, .string xn, .int .i64 xv] 93)).ownsRow w.heap.size 9 1 (.slice Ab mb cb) mb (strs (Pl.vnames (prl (l.take k)) ++ Pl.nodV (ex.take (j + 1))))) := by show World.ownsRow _ _ _ _ _ _ _; rw [HVN.out, List.append_nil]; exact OB1.out
            have AP3 := HAP
            have HB3 := HB1
            go_wp2_with fail
            go_roundw
            case rel => exact ⟨j + 1, Aa, ma, ca, Ab, mb, cb, by omega, by go_num, rfl, rfl, by omega, by omega, OA3.out, OB3.out, AP3.out, HB3.out⟩
            case measure => simp [intOf]; omega
        · have hje : j = en := by omega
          have HEL : Hid (ex.length = en) := HIN.out.2
          rw [hje, List.take_of_length_le (l := ex) (by rw [HEL.out]; exact Nat.le_refl _), ← HFS.out] at OA
          rw [hje, List.take_of_length_le (l := ex) (by rw [HEL.out]; exact Nat.le_refl _), ← HVS.out] at OB
          have hj1 : ¬ ((j : Int) < (en : Int)) := by omega
          clear hje
          go_wp2_with fail
          go_roundw
          case rel => exact ⟨k + 1, Aa, ma, ca, Ab, mb, cb, by omega, by go_num, rfl, rfl, by omega, by omega, OA.out, OB.out, HAP.out, HB.out⟩
          case measure => simp [intOf]; omega
    · have hke : k = n := by omega
      rw [hke, List.take_of_length_le (by rw [HL.out]; exact Nat.le_refl _)] at OA OB
      have hk1 : ¬ ((k : Int) < (n : Int)) := by omega
      have hm1 : ma ≤ 1024 := by omega
      have hm2 : mb ≤ 1024 := by omega
      clear hke
      generalize hfe : Pl.fnames (prl l) = FN at *
      generalize hve : Pl.vnames (prl l) = VN at *
      have HFE := Lib.hid hfe
      have HVE := Lib.hid hve
      clear hfe hve
      have hla : FN.length = ma := by have := OA.out.1; simpa [strs] using this
      have hlb : VN.length = mb := by have := OB.out.1; simpa [strs] using this
      have SA := Lib.hid (fun (w1 : World) h => sort_own w.heap.size Aa ca FN w1 (by omega) h)
      have SB := Lib.hid (fun (w1 : World) h => sort_own w.heap.size Ab cb VN w1 (by omega) h)
      have CA := Lib.hid (fun (w1 : World) h => compact_own w.heap.size Aa ca (FN.mergeSort fun x y => decide (x ≤ y)) w1 (by rw [List.length_mergeSort]; omega) h)
      have CB := Lib.hid (fun (w1 : World) h => compact_own w.heap.size Ab cb (VN.mergeSort fun x y => decide (x ≤ y)) w1 (by rw [List.length_mergeSort]; omega) h)
      have hsa : (FN.mergeSort fun x y => decide (x ≤ y)).length = ma := by rw [List.length_mergeSort, hla]
      have hsb : (VN.mergeSort fun x y => decide (x ≤ y)).length = mb := by rw [List.length_mergeSort, hlb]
      rw [hsa] at CA
      rw [hsb] at CB
      rw [hla] at SA
      rw [hlb] at SB
      have HMA : Hid (∀ s, s ∈ Go.Lib.compact (FN.mergeSort fun x y => decide (x ≤ y)) ↔ s ∈ FN) := fun s => by rw [Pl.compact_mem]; exact List.mem_mergeSort
      have HMB : Hid (∀ s, s ∈ Go.Lib.compact (VN.mergeSort fun x y => decide (x ≤ y)) ↔ s ∈ VN) := fun s => by rw [Pl.compact_mem]; exact List.mem_mergeSort
      have HLA : Hid ((Go.Lib.compact (FN.mergeSort fun x y => decide (x ≤ y))).length ≤ 2000) := by have := compact_short (FN.mergeSort fun x y => decide (x ≤ y)); show _ ≤ _; omega
      have HLB : Hid ((Go.Lib.compact (VN.mergeSort fun x y => decide (x ≤ y))).length ≤ 2000) := by have := compact_short (VN.mergeSort fun x y => decide (x ≤ y)); show _ ≤ _; omega
      generalize (FN.mergeSort fun x y => decide (x ≤ y)) = SFN at *
      generalize (VN.mergeSort fun x y => decide (x ≤ y)) = SVN at *
      generalize Go.Lib.compact SFN = CF at *
      generalize Go.Lib.compact SVN = CV at *
      clear hsa hsb hla hlb
      go_wp2_with fail
      refine (SA.out _ OA.out).mono ?_
      rintro e w2 ⟨rfl, hown, hg⟩
      have O2 := Lib.hid hown
      have Q2 := Lib.hid (HAP.out.row OB.out hg)
      have B2 := Lib.hid (below_grown HB.out hg OA.out (Nat.le_refl _) HB.out.size)
      clear hown hg OA OB HB SA
      go_wp2_with fail
      refine (SB.out _ Q2.out).mono ?_
      rintro e w3 ⟨rfl, hown, hg⟩
      have Q3 := Lib.hid hown
      have O3 := Lib.hid (HAP.out.symm.row O2.out hg)
      have B3 := Lib.hid (below_grown B2.out hg Q2.out (Nat.le_refl _) B2.out.size)
      clear hown hg O2 Q2 B2 SB
      go_wp2_with fail
      refine (CA.out _ O3.out).mono ?_
      rintro e w4 ⟨rfl, hown, hg⟩
      have O4 := Lib.hid hown
      have Q4 := Lib.hid (HAP.out.row Q3.out hg)
      have B4 := Lib.hid (below_grown B3.out hg O3.out (Nat.le_refl _) B3.out.size)
      have AP4 : Hid (Apart (.slice Aa CF.length ca) (.slice Ab mb cb)) := by have := HAP.out; show Apart _ _; unfold Apart at this ⊢; rw [own_same Aa CF.length ca ma ca]; exact this
      clear hown hg O3 Q3 B3 CA HAP
      go_wp2_with fail
      refine (CB.out _ Q4.out).mono ?_
      rintro e w5 ⟨rfl, hown, hg⟩
      have Q5 := Lib.hid hown
      have O5 := Lib.hid (AP4.out.symm.row O4.out hg)
      have B5 := Lib.hid (below_grown B4.out hg Q4.out (Nat.le_refl _) B4.out.size)
      clear hown hg O4 Q4 B4 CB
      go_wp2_with fail
      go_ret2
      exact ⟨Aa, CF.length, ca, Ab, CV.length, cb, CF, CV, rfl, Reads.of_own O5.out, Reads.of_own Q5.out, HLA.out, HLB.out, (fun s => by rw [HFE.out]; exact HMA.out s), (fun s => by rw [HVE.out]; exact HMB.out s), B5.out⟩
end Go.Proofs.Ytpamgeemmbbkkaa
