/- ledger.Settle: where names and sums are valid the sums are settled by valid entries. Conditions: the names are valid and differ, the sums are in range and have the sum 0. -/
import Derived.Test.YtibhgcldogfonaaGreatDoorLedA
import Derived.Test.YtibhgcldogfonaaGreatDoorCloI
import Derived.Test.YtibhgcldogfonaaGreatDoorIdxInt
import Derived.Test.YtibhgcldogfonaaGreatDoorPSet
import Derived.Deep.RegionHeld3
namespace Go.Proofs.YtibhgcldogfonaaGreatDoor
open Go.RowKit
namespace Pl
theorem idx_cases (p : Int → Bool) (l : List Int) : (∃ (i : Nat) (h : i < l.length), p l[i] = true ∧ idxOf p l = i) ∨ ((∀ x ∈ l, p x = false) ∧ idxOf p l = -1) := by
  unfold idxOf
  cases h : l.findIdx? p with
  | none => exact .inr ⟨by rw [List.findIdx?_eq_none_iff] at h; exact h, rfl⟩
  | some i =>
    obtain ⟨h1, h2, _⟩ := List.findIdx?_eq_some_iff_getElem.1 h
    exact .inl ⟨i, h1, h2, rfl⟩
end Pl
theorem Reads.str_at {w : World} {B n : Nat} {A : Option Addr} {zs : List (List UInt8)} (h : Reads w B 1 A n (strs zs)) {k : Nat} (hk : k < n) :
    ∃ b o, A = some ⟨b, o, none⟩ ∧ b < B ∧ ∃ hl : k < zs.length, w.cell? ⟨b, o + k, none⟩ = some (.string ⟨(zs[k]'hl).toArray⟩) := by
  obtain ⟨b, o, rfl, hb, hc⟩ := h.where_ (by omega) (by omega)
  have hl : k < zs.length := by have := h.1; rw [strs_length] at this; omega
  exact ⟨b, o, rfl, hb, hl, hc k _ (by simp [strs, hl, encStr])⟩
theorem contains_reads (b o n k c : Nat) (zs : List (List UInt8)) (nm : ByteArray) (w : World) (hk : k ≤ n) (hn : n ≤ 1000000000) (h : Reads w w.heap.size 1 (some ⟨b, o, none⟩) n (strs zs)) :
    Calls Tryz.prog 16 #[.slice (some ⟨b, o, none⟩) k c, .string nm] w fun e w' => e = .returned (.bool (decide (Pl.bl nm ∈ zs.take k))) ∧ w' = w := by
  have hl : zs.length = n := by have := h.1; rw [strs_length] at this; omega
  have hh := Any.slices_Contains_string contS b o k c (zs.map fun l => ⟨l.toArray⟩) nm w (by simp; omega) (by omega) (fun j hj => by
    have hj2 : j < zs.length := by simpa using hj
    obtain ⟨b', o', e, _, _, hc⟩ := h.str_at (k := j) (by omega)
    injection e with e; injection e with e1 e2; subst e1 e2
    rw [hc]
    simp [List.getD_eq_getElem?_getD, hj2])
  change Calls Tryz.prog 16 _ _ _ at hh
  refine hh.mono ?_
  rintro e w1 ⟨rfl, rfl⟩
  refine ⟨?_, rfl⟩
  congr 2
  have hiff := Go.Lib.containsS_iff ((zs.map fun l => (⟨l.toArray⟩ : ByteArray)).take k) nm
  rw [Bool.eq_iff_iff, hiff, decide_eq_true_iff, ← List.map_take, List.mem_map]
  constructor
  · rintro ⟨l, hl, rfl⟩; exact hl
  · intro hm; exact ⟨_, hm, rfl⟩
theorem set1_any (z : Int) (w : World) : Calls Tryz.prog 19 #[.int .i64 z] w fun e w' => e = .returned (.bool (Pl.isNeg z)) ∧ w = w' := by
  go_enter Tryz.func19, Tryz.ntmps19
  go_wp2_with fail
  go_ret
  exact ⟨rfl, rfl⟩
theorem set2_any (z : Int) (w : World) : Calls Tryz.prog 20 #[.int .i64 z] w fun e w' => e = .returned (.bool (Pl.isPos z)) ∧ w = w' := by
  go_enter Tryz.func20, Tryz.ntmps20
  go_wp2_with fail
  go_ret
  exact ⟨rfl, rfl⟩
theorem enters_set1 : ∀ args w, Sem.run Tryz.prog (callFunc 19 args) w = .ok (.enter 19 args) w := by intro args w; go_simp
theorem enters_set2 : ∀ args w, Sem.run Tryz.prog (callFunc 20 args) w = .ok (.enter 20 args) w := by intro args w; go_simp
theorem own_apart {w w' : World} {base g n c size : Nat} {e : TypeId} {xs : List Value} {row : Option Nat} (h : w.ownsRow base e size (.slice (some ⟨g, 0, none⟩) n c) n xs) (hg : w.grownBy w' row) (hne : row ≠ some g) : w'.ownsRow base e size (.slice (some ⟨g, 0, none⟩) n c) n xs := by
  refine ⟨h.1, ?_⟩
  rcases h.2 with h2 | ⟨g', cap, cur, hv, hb, hh, r⟩
  · exact .inl h2
  · have e1 : g' = g := by injection hv with hv; injection hv with hv; injection hv with hv; exact hv.symm
    subst e1
    have hlt : g' < w.heap.size := by
      rcases Nat.lt_or_ge g' w.heap.size with h | h
      · exact h
      · rw [Array.getElem?_eq_none h] at hh; cases hh
    exact .inr ⟨g', cap, cur, hv, hb, (hg.block g' hlt fun e => hne e.symm).trans hh, r⟩
theorem size_blN (s : ByteArray) : s.size = (Pl.bl s).length := by unfold Pl.bl; rw [Array.length_toList]; rfl
def lenV : Value → Nat
  | .slice _ n _ => n
  | _ => 0
/-- what Settle returns -/
def SetSaid (zs : List (List UInt8)) (ss : List Int) (w : World) (e : Ending) (w' : World) : Prop :=
  ∃ (out : List Pl.LE) (left : List Int) (A : Option Addr) (c : Nat), e = .returned (.tuple #[.slice A out.length c, .int .i64 0]) ∧ Pl.lcheck out = 0 ∧ (∀ x ∈ left, x = 0) ∧ Pl.SInv zs ss left out ∧ w'.ownsRow w.heap.size 38 3 (.slice A out.length c) out.length (ents out) ∧ (∀ x ∈ out, EntIn x) ∧ Below w.heap.size w w'
set_option maxHeartbeats 3200000 in
set_option maxRecDepth 100000 in
theorem settle_good (A B : Option Addr) (n c d : Nat) (zs : List (List UInt8)) (ss : List Int) (w : World) (hz : Reads w w.heap.size 1 A n (strs zs)) (hs : Reads w w.heap.size 1 B n (ints ss)) (hcap : n ≤ c)
    (hn : ∀ t ∈ zs, Pl.nameB ⟨t.toArray⟩ = true) (hd : zs.Nodup) (h64 : n ≤ 64) (hb : ∀ x ∈ ss, -1000000000000 ≤ x ∧ x ≤ 1000000000000) (h0 : ss.sum = 0) :
    Calls Tryz.prog 5 #[.slice A n c, .slice B n d] w (SetSaid zs ss w) := by
  have hzl : zs.length = n := by have := hz.1; rw [strs_length] at this; omega
  have hsl : ss.length = n := hs.int_len
  have ZR := Lib.hid hz
  have SR := Lib.hid hs
  have HN := Lib.hid hn
  have HD := Lib.hid hd
  have HBD := Lib.hid hb
  have HZL := Lib.hid hzl
  have HSL := Lib.hid hsl
  have HS0 := Lib.hid h0
  have HCL := Lib.hid (fun w h => clone_ints B n d ss w (by omega) h)
  unfold CloneSaid at HCL
  have HPS : Hid (∀ k, k ≤ n → -64000000000000 ≤ (ss.take k).sum ∧ (ss.take k).sum ≤ 64000000000000) := fun k hk => by
    have key : ∀ l : List Int, (∀ x ∈ l, -1000000000000 ≤ x ∧ x ≤ 1000000000000) → -1000000000000 * (l.length : Int) ≤ l.sum ∧ l.sum ≤ 1000000000000 * (l.length : Int) := fun l => by
      induction l with
      | nil => intro _; simp
      | cons a l ih =>
        intro h
        have h1 := ih fun x hx => h x (by simp [hx])
        have h2 := h a (by simp)
        rw [List.sum_cons, List.length_cons]
        omega
    have := key (ss.take k) fun x hx => hb x (List.mem_of_mem_take hx)
    rw [List.length_take] at this
    omega
  obtain ⟨i0, hi0, hz0, hz1, hz2⟩ := info_parts info_ent
  have HMN : Hid (∀ a b : Int, (if b < a then b else a) = min a b) := ite_min
  have ee : ((n : Int) != (n : Int)) = false := by simp
  have e64 : ¬ (64 : Int) < (n : Int) := by omega
  clear hz hs hn hd hb hzl hsl h0
  go_enter Tryz.func5, Tryz.ntmps5
  go_wp2_with fail
  go_loopw [6, 26] (fun s i wr => ∃ k : Nat, k ≤ n ∧ s = .int .i64 (ss.take k).sum ∧ i = .int .i64 k ∧ Hid (Below w.heap.size w wr)) (fun _ i _ => n - (intOf i).toNat)
  case atStart => exact ⟨0, Nat.zero_le _, rfl, rfl, Below.refl _ _⟩
  case round =>
    obtain ⟨k, hk, rfl, rfl, HB⟩ := hrel
    by_cases hlt : k < n
    · obtain ⟨b, o, rfl, hbb, hl1, c1⟩ := (ZR.out.go HB.out).str_at hlt
      obtain ⟨b2, o2, rfl, hl2, c2⟩ := (SR.out.go HB.out).int_at hlt
      have hnm := HN.out _ (List.getElem_mem hl1)
      have hbd := HBD.out _ (List.getElem_mem hl2)
      have hps := HPS.out k hk
      have HST : Hid ((ss.take (k + 1)).sum = (ss.take k).sum + ss[k]) := by show _ = _; rw [List.take_succ_eq_append_getElem hl2, List.sum_append]; simp
      have hnin : zs[k] ∉ zs.take k := fun hm => by
        obtain ⟨i, hi, e⟩ := List.mem_take_iff_getElem.1 hm
        exact List.pairwise_iff_getElem.1 HD.out i k (by omega) hl1 (by omega) e
      have hsz : (⟨zs[k].toArray⟩ : ByteArray).size ≤ 9223372036854775807 := by
        unfold Pl.nameB at hnm
        rw [Bool.and_eq_true, decide_eq_true_iff] at hnm
        omega
      have HNA := Lib.hid (fun w => name_any ⟨zs[k].toArray⟩ w hsz)
      have HCO := Lib.hid (fun w h => contains_reads b o n k c zs ⟨zs[k].toArray⟩ w hk (by omega) h)
      have hdf : decide (Pl.bl ⟨zs[k].toArray⟩ ∈ zs.take k) = false := by rw [Pl.bl_mk]; exact decide_eq_false hnin
      rw [hnm] at HNA
      rw [hdf] at HCO
      have kc : (k : Int) ≤ (c : Int) := by omega
      clear hnm hdf hnin hsz hbb
      generalize zs[k] = z at *
      generalize ss[k] = sk at *
      generalize (ss.take k).sum = sm at *
      go_wp2_with fail
      refine (HNA.out _).mono ?_
      rintro e w2 ⟨rfl, hb⟩
      have HB2 := Lib.hid (HB.out.trans (hb.mono HB.out.size))
      have c3 := (hb.cell (cell_lt c2)).trans c2
      clear hb HB c1 c2 HNA
      go_wp2_with fail
      refine (HCO.out _ (ZR.out.go HB2.out)).mono ?_
      rintro e w3 ⟨rfl, hw3⟩
      rw [hw3]
      clear hw3 HCO
      have hww : IntKind.i64.wrap (sm + sk) = sm + sk := IntWalk.i64_in _ (by omega)
      have hb1 : ¬ sk < -1000000000000 := by omega
      have hb2 : ¬ 1000000000000 < sk := by omega
      go_wp2_with fail
      go_roundw
      case rel => exact ⟨k + 1, by omega, by rw [HST.out], by go_num, HB2.out⟩
      case measure => simp [intOf]; omega
    · have hke : k = n := by omega
      have hsm : (ss.take k).sum = 0 := by rw [List.take_of_length_le (by rw [HSL.out]; omega)]; exact HS0.out
      rw [hsm]
      clear hsm
      go_wp2_with fail
      refine (HCL.out _ (SR.out.go HB.out)).mono ?_
      rintro e w1 ⟨Al, cl, rfl, hown, hb⟩
      have HB1 := Lib.hid (HB.out.trans (hb.mono HB.out.size))
      have HOL := Lib.hid (own_base hown HB.out.size)
      clear hb hown HB HCL
      have HI0 : Hid (Pl.SInv zs ss ss []) := Pl.SInv.start HS0.out HBD.out
      have HLB : Hid (∀ g, (Value.slice Al n cl).ownBlock = some g → g < w1.heap.size) := fun g hg => (HOL.out.lt g hg).2
      go_wp2_with fail
      have HG : Hid (w.heap.size ≤ w1.heap.size) := HB1.out.size
      go_loopw [10] (fun v wr => ∃ (out : List Pl.LE) (left : List Int) (Ao : Option Addr) (co : Nat), v = .slice Ao out.length co ∧ Hid (Pl.SInv zs ss left out) ∧ Hid (∀ x ∈ out, EntIn x) ∧ Hid (wr.ownsRow w.heap.size 3 1 (.slice Al n cl) n (ints left)) ∧ Hid (wr.ownsRow w1.heap.size 38 3 (.slice Ao out.length co) out.length (ents out)) ∧ Hid (Below w.heap.size w wr) ∧ Hid (w1.heap.size ≤ wr.heap.size)) (fun v _ => n + 1 - lenV v)
      case atStart => exact ⟨[], ss, none, 0, rfl, HI0, fun x hx => absurd hx (by simp), HOL.out, World.ownsRow_nil _ _ _ _, HB1.out, Nat.le_refl _⟩
      case round =>
        clear HOL HB1 HI0
        obtain ⟨out, left, Ao, co, rfl, HI, HEI, HOL, HO, HB, HW1⟩ := hrel
        have HX1 := Lib.hid (idxfn_int Al n cl left 19 Pl.isNeg _ _ (by omega) enters_set1 (Lib.hid set1_any) (Reads.of_own HOL.out))
        have HX2 := Lib.hid (idxfn_int Al n cl left 20 Pl.isPos _ _ (by omega) enters_set2 (Lib.hid set2_any) (Reads.of_own HOL.out))
        have HLL : Hid (left.length = n) := by show _ = _; rw [HI.out.len, HSL.out]
        have HFIN : Hid (((∀ x ∈ left, Pl.isNeg x = false) ∨ ∀ x ∈ left, Pl.isPos x = false) → ∀ W, Below wr.heap.size wr W → SetSaid zs ss w (.returned (.tuple #[.slice Ao out.length co, .int .i64 0])) W) := fun he W hb => by
          obtain ⟨q1, q2⟩ := HI.out.done (by rw [HZL.out]; exact h64) (by rw [HZL.out, HSL.out]) he
          exact ⟨out, left, Ao, co, rfl, q1, q2, HI.out, own_base (own_go HO.out hb) (HG.out), HEI.out, HB.out.trans (hb.mono HB.out.size)⟩
        rcases Pl.idx_cases Pl.isNeg left with ⟨i, hi, hin, ei⟩ | ⟨hno, ei⟩
        · rw [ei] at HX1
          rcases Pl.idx_cases Pl.isPos left with ⟨k, hk, hkp, ek⟩ | ⟨hno, ek⟩
          · rw [ek] at HX2
            have hi2 : i < n := by rw [← HLL.out]; exact hi
            have hk2 : k < n := by rw [← HLL.out]; exact hk
            have hli : left[i] < 0 := by simpa [Pl.isNeg] using hin
            have hlk : 0 < left[k] := by simpa [Pl.isPos] using hkp
            have hik : ¬ i = k := fun e => by subst e; omega
            have hki : ¬ k = i := fun e => hik e.symm
            have hbi := HI.out.bd _ (List.getElem_mem hi)
            have hbk := HI.out.bd _ (List.getElem_mem hk)
            have HSTEP := Lib.hid (HI.out.step HN.out HD.out (by rw [HZL.out, HSL.out]) hi hk hli hlk (min (-left[i]) left[k]) rfl)
            have hiz : i < zs.length := by rw [HZL.out]; exact hi2
            have hkz : k < zs.length := by rw [HZL.out]; exact hk2
            obtain ⟨g, cap, cur, hv, hg1, hgh, _⟩ := (HOL.out.2).resolve_left (fun h => by have := h.2; omega)
            injection hv with hv1 _ hv2
            subst hv1 hv2
            have hgw : g < w1.heap.size := HLB.out g rfl
            have c1 := own_int_cell HOL.out i hi2
            have c2 := own_int_cell HOL.out k hk2
            rw [List.getD_eq_getElem?_getD, List.getElem?_eq_getElem hi] at c1
            rw [List.getD_eq_getElem?_getD, List.getElem?_eq_getElem hk] at c2
            simp only [Option.getD_some] at c1 c2
            have HAE : Hid (left.getD i 0 = left[i]) := by show _ = _; rw [List.getD_eq_getElem?_getD, List.getElem?_eq_getElem hi]; rfl
            have HBE : Hid (left.getD k 0 = left[k]) := by show _ = _; rw [List.getD_eq_getElem?_getD, List.getElem?_eq_getElem hk]; rfl
            obtain ⟨b, o, rfl, hbb, _, n1⟩ := (ZR.out.below HB.out).str_at hi2
            obtain ⟨b', o', hbo, _, _, n2⟩ := (ZR.out.below HB.out).str_at hk2
            injection hbo with hbo
            injection hbo with hb1 hb2 _
            subst hb1 hb2
            have hlen1 : out.length + 1 ≤ n := by
              have h1 := HSTEP.out.1.cnt.1
              rw [List.length_append, List.length_singleton, HSL.out] at h1
              omega
            have hni0 : ¬ (i : Int) < 0 := by omega
            have hnk0 : ¬ (k : Int) < 0 := by omega
            have HIN : Hid (Pl.nameB ⟨zs[i].toArray⟩ = true ∧ Pl.nameB ⟨zs[k].toArray⟩ = true) := ⟨HN.out _ (List.getElem_mem hiz), HN.out _ (List.getElem_mem hkz)⟩
            have li1 : (i : Int) < (n : Int) := by omega
            have lk1 : (k : Int) < (n : Int) := by omega
            have hmn := HMN.out
            have HBB := Lib.hid hbb
            clear ei ek hin hkp HFIN hgh hbb
            generalize zs[i] = zi at *
            generalize zs[k] = zk at *
            generalize left[i] = a at *
            generalize left[k] = bq at *
            have hneg : IntKind.i64.wrap (-a) = -a := IntWalk.i64_in _ (by omega)
            have HNN : Hid (1 ≤ min (-a) bq ∧ min (-a) bq ≤ -a ∧ min (-a) bq ≤ bq) := by show _ ∧ _ ∧ _; omega
            go_wp2_with fail
            refine HX1.out.mono ?_
            rintro e w5 ⟨rfl, rfl⟩
            go_wp2_with fail
            refine HX2.out.mono ?_
            rintro e w6 ⟨rfl, rfl⟩
            clear HX1 HX2
            go_wp2_with fail
            go_region
            have hD := (Below.refl wr.heap.size wr).drew
            have HBD' := Lib.hid (HB.out.trans (hD.mono HB.out.size))
            have HOLD := Lib.hid (own_go HOL.out hD)
            have HOD := Lib.hid (own_go HO.out hD)
            have HW1D : Hid (w1.heap.size ≤ wr.drew.heap.size) := HW1.out
            have m1 : wr.drew.cell? ⟨b, o + i, none⟩ = some (.string ⟨zi.toArray⟩) := n1
            have m2 : wr.drew.cell? ⟨b, o + k, none⟩ = some (.string ⟨zk.toArray⟩) := n2
            have HSF : Hid (∀ w', Below w.heap.size wr.drew w' → w'.cell? ⟨b, o + i, none⟩ = some (.string ⟨zi.toArray⟩) ∧ w'.cell? ⟨b, o + k, none⟩ = some (.string ⟨zk.toArray⟩)) := fun w' hb => ⟨(hb.cell (p := ⟨b, o + i, none⟩) HBB.out).trans m1, (hb.cell (p := ⟨b, o + k, none⟩) HBB.out).trans m2⟩
            clear hD HB HOL HO HW1 n1 n2 m1 m2 c1 c2
            generalize wr.drew = wd at *
            generalize hnn : min (-a) bq = nn at *
            have HNE := Lib.hid hnn
            clear hnn hmn
            have hcur : Hid (Below w.heap.size wd wd.drew) := (Below.refl _ _).drew
            have HCA : Hid (Below wd.heap.size wd (wd.alloc (.cells #[.string ⟨zi.toArray⟩, .string ⟨zk.toArray⟩, .int .i64 nn] 38)).drew) := ((Below.refl wd.heap.size wd).alloc (Nat.le_refl _) _).drew
            have HCB := Lib.hid (HCA.out.mono HBD'.out.size)
            go_wp2_with fail
            go_region_held3 (fun w' => w'.cell? ⟨b, o + i, none⟩ = some (.string ⟨zi.toArray⟩) ∧ w'.cell? ⟨b, o + k, none⟩ = some (.string ⟨zk.toArray⟩))
              (first | exact HSF.out _ hcur.out | exact HSF.out _ HCB.out)
              ((refine step_append_any _ (by rfl) _ _ _ (by rfl) w1.heap.size 38 i0 _ 3 40 Tryz.underlying31 hi0 hz0 hz1 hz2 rfl (by decide) (.slice Ao out.length co) out.length (ents out) (by rfl) (own_go HOD.out HCA.out) (wd.heap.size + 1) (some ⟨wd.heap.size, 0, none⟩) 1 1 [.string ⟨zi.toArray⟩, .string ⟨zk.toArray⟩, .int .i64 nn] (by rfl) (by have := Reads.lit wd #[.string ⟨zi.toArray⟩, .string ⟨zk.toArray⟩, .int .i64 nn] 38 1 3 wd.heap.size rfl rfl; exact this.drew.more (by simp)) (by intro u hu; simp at hu; rcases hu with rfl | rfl | rfl <;> rfl) (by unfold maxLen; omega) (by omega) (by have := HW1D.out; have := HCA.out.size; omega) ?_; intro v' w3 hown3 hg3 _; obtain ⟨A3, c3, rfl, _⟩ := own_slice hown3; have o3 := Lib.hid hown3; have HG3 := Lib.hid hg3; have hcur := Lib.hid (below_grown HCB.out hg3 (own_go HOD.out HCA.out) HG.out (Nat.le_trans HBD'.out.size HCA.out.size)); clear hown3 hg3))
            have HOA := Lib.hid (own_go HOD.out HCA.out)
            have hne : (Value.slice Ao out.length co).ownBlock ≠ some g := fun e => by have := (HOD.out.lt g e).1; omega
            have HOL3 := Lib.hid (own_apart (own_go HOLD.out HCA.out) HG3.out hne)
            have HB3 := Lib.hid (below_grown (HBD'.out.trans (HCA.out.mono HBD'.out.size)) HG3.out HOA.out HG.out (Nat.le_trans HBD'.out.size HCA.out.size))
            have hsz3 := HG3.out.size
            have HW3 : Hid (w1.heap.size ≤ w3.heap.size) := Nat.le_trans (Nat.le_trans HW1D.out HCA.out.size) hsz3
            clear hcur HCA HCB HOA HG3 HSF hne hsz3 HOLD HOD HBD' HW1D
            have d1 := own_int_cell HOL3.out i hi2
            have d2 := own_int_cell HOL3.out k hk2
            rw [HAE.out] at d1
            rw [HBE.out] at d2
            have f1 : w3.frozen? ⟨g, i, none⟩ = false := World.ownsRow.frozenAt HOL3.out i
            have f2 : w3.frozen? ⟨g, k, none⟩ = false := World.ownsRow.frozenAt HOL3.out k
            have lg3 : g < w3.heap.size := by have := HW3.out; omega
            have hnn := HNN.out
            have hw1 : IntKind.i64.wrap (a + nn) = a + nn := IntWalk.i64_in _ (by omega)
            have hw2 : IntKind.i64.wrap (bq - nn) = bq - nn := IntWalk.i64_in _ (by omega)
            have HLEN := Lib.hid hlen1
            clear hnn
            go_wp2_with fail
            go_roundw
            case rel =>
              have ho1 : (out ++ [((⟨zi.toArray⟩, ⟨zk.toArray⟩, nn) : Pl.LE)]).length = out.length + 1 := by simp
              refine ⟨out ++ [((⟨zi.toArray⟩, ⟨zk.toArray⟩, nn) : Pl.LE)], (left.set i (a + nn)).set k (bq - nn), A3, c3, by rw [ho1], Lib.hid HSTEP.out.1, fun x hx => ?_, own_int_set (own_int_set HOL3.out i (a + nn)) k (bq - nn), ?_, (HB3.out.setCell (p := ⟨g, i, none⟩) hg1 _).setCell (p := ⟨g, k, none⟩) hg1 _, by show w1.heap.size ≤ _; simpa using HW3.out⟩
              · rcases List.mem_append.1 hx with hx | hx
                · exact HEI.out x hx
                · rw [List.mem_singleton.1 hx]
                  obtain ⟨p1, p2⟩ := HIN.out
                  have s1 := (Pl.name_len p1).2
                  have s2 := (Pl.name_len p2).2
                  rw [← size_blN] at s1 s2
                  have hnn := HNN.out
                  exact ⟨by show (⟨zi.toArray⟩ : ByteArray).size ≤ _; omega, by show (⟨zk.toArray⟩ : ByteArray).size ≤ _; omega, by show _ ≤ nn; omega, by show nn ≤ _; omega⟩
              · rw [ho1, ents_append]
                exact own_far (own_far o3.out (p := ⟨g, i, none⟩) hgw _) (p := ⟨g, k, none⟩) hgw _
            case measure =>
              have := HLEN.out
              simp [lenV]
              omega
          · rw [ek] at HX2
            have hni0 : ¬ (i : Int) < 0 := by omega
            have HF := Lib.hid (HFIN.out (.inr hno))
            clear HFIN ei ek hno hin
            go_wp2_with fail
            refine HX1.out.mono ?_
            rintro e w5 ⟨rfl, rfl⟩
            go_wp2_with fail
            refine HX2.out.mono ?_
            rintro e w6 ⟨rfl, rfl⟩
            go_wp2_with fail
            go_ret2
            exact HF.out _ (Below.refl _ _)
        · rw [ei] at HX1
          have HF := Lib.hid (HFIN.out (.inl hno))
          generalize Pl.idxOf Pl.isPos left = J at *
          clear HFIN ei hno
          go_wp2_with fail
          refine HX1.out.mono ?_
          rintro e w5 ⟨rfl, rfl⟩
          go_wp2_with fail
          refine HX2.out.mono ?_
          rintro e w6 ⟨rfl, rfl⟩
          go_wp2_with fail
          go_ret2
          exact HF.out _ (Below.refl _ _)
end Go.Proofs.YtibhgcldogfonaaGreatDoor
