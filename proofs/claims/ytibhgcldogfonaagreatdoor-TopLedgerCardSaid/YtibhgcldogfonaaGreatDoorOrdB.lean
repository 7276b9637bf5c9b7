/- auction.ranked: the places of one side, in the order of their prices. No condition. -/
import Derived.Test.YtibhgcldogfonaaGreatDoorOrd
import Derived.Test.YtibhgcldogfonaaGreatDoorSrtEI
namespace Go.Proofs.YtibhgcldogfonaaGreatDoor
open Go.RowKit
theorem ins_nil (fv : Value) (w : World) : Calls Tryz.prog 55 #[.slice none 0 0, .int .i64 0, .int .i64 0, fv] w fun e w' => e = .returned (.tuple #[]) ∧ w = w' := by
  go_enter Tryz.func55, Tryz.ntmps55
  go_wp2_with fail
  go_loopw [8] (fun i wr => i = .int .i64 1 ∧ w = wr) (fun _ _ => 0)
  case atStart => exact ⟨rfl, rfl⟩
  case round =>
    obtain ⟨rfl, rfl⟩ := hrel
    go_wp2_with fail
    go_end0
    exact ⟨rfl, rfl⟩
theorem stable_nil (fv : Value) (w : World) : Calls Tryz.prog 44 #[.slice none 0 0, .int .i64 0, fv] w fun e w' => e = .returned (.tuple #[]) ∧ w = w' := by
  go_enter Tryz.func44, Tryz.ntmps44
  go_wp2_with fail
  go_loopw [7, 8] (fun va vb wr => va = .int .i64 0 ∧ vb = .int .i64 20 ∧ w = wr) (fun _ _ _ => 0)
  case atStart => exact ⟨rfl, rfl, rfl⟩
  case round =>
    obtain ⟨rfl, rfl, rfl⟩ := hrel
    go_wp2_with fail
    refine (ins_nil _ _).mono ?_
    rintro e w1 ⟨rfl, rfl⟩
    obtain ⟨wo, rfl⟩ : ∃ wo : World, wo = w := ⟨_, rfl⟩
    go_wp2_with fail
    go_loopw [6] (fun vs wr => vs = .int .i64 20 ∧ wo = wr) (fun _ _ => 0)
    case atStart => exact ⟨rfl, rfl⟩
    case round =>
      obtain ⟨rfl, rfl⟩ := hrel
      go_wp2_with fail
      go_end0
      exact ⟨rfl, rfl⟩
theorem sort_nil (fv : Value) (w : World) : Calls Tryz.prog 30 #[.slice none 0 0, fv] w fun e w' => e = .returned (.tuple #[]) ∧ w = w' := by
  go_enter Tryz.func30, Tryz.ntmps30
  go_wp2_with fail
  refine (stable_nil _ _).mono ?_
  rintro e w1 ⟨rfl, rfl⟩
  go_wp2_with fail
  go_end0
  exact ⟨rfl, rfl⟩
namespace Pl
theorem ocf_swo (b : Bool) (l : List Ord) : Sort.SWO (Srt.ltOf (ocf b l)) := by
  constructor
  · intro x; unfold Srt.ltOf ocf; split <;> simp
  · intro x y z; unfold Srt.ltOf ocf; simp only [decide_eq_true_eq]; split <;> omega
  · intro x y z; unfold Srt.ltOf ocf; simp only [decide_eq_false_iff_not]; split <;> omega
end Pl
/-- what ranked gives: the places of the side, permuted, in the order of their prices -/
def RankedSaid (b : Bool) (l : List Pl.Ord) (w : World) (e : Ending) (w' : World) : Prop :=
  ∃ A c d, e = .returned (.slice A d.length c) ∧ d.length ≤ c ∧ (∀ ad, A = some ad → w.heap.size ≤ ad.block) ∧ Reads w' w'.heap.size 1 A d.length (ints d) ∧ d.Perm (Pl.sideK b l l.length) ∧ (∀ i j, i < j → j < d.length → 0 ≤ Pl.ocf b l (d.getD j 0) (d.getD i 0)) ∧ Below w.heap.size w w'
theorem ranked_of {b : Bool} {l : List Pl.Ord} {S0 : List Int} {m : Nat} {d : Array Int} (hm : S0.length = m) (hz : d.size = m) (hp : Sort.PermIn 0 m S0.toArray d) (hs : Sort.SortedIn (Srt.ltOf (Pl.ocf b l)) 0 m d) :
    d.toList.Perm S0 ∧ ∀ i j, i < j → j < d.toList.length → 0 ≤ Pl.ocf b l (d.toList.getD j 0) (d.toList.getD i 0) := by
  subst hm
  refine ⟨?_, fun i j hij hj => ?_⟩
  · have h := hp.2.2
    rw [show d.extract 0 S0.length = d from by rw [← hz]; simp, show S0.toArray.extract 0 S0.length = S0.toArray from by
      apply Array.ext'
      simp [List.take_of_length_le]] at h
    first
      | exact h
      | exact h.symm
      | simpa using h
      | simpa using h.symm
  · have hj2 : j < S0.length := by rw [Array.length_toList] at hj; omega
    have h := hs i j (Nat.zero_le _) hij hj2
    have g : ∀ k, k < S0.length → d.toList.getD k 0 = d[k]! := fun k hk => by
      rw [List.getD_eq_getElem?_getD, List.getElem?_eq_getElem (by simpa [hz] using hk), getElem!_pos d k (by omega)]
      simp
    rw [g i (by omega), g j hj2]
    unfold Srt.ltOf at h
    simp only [decide_eq_false_iff_not] at h
    omega
set_option maxHeartbeats 1600000 in
set_option maxRecDepth 100000 in
theorem ranked_any (A : Option Addr) (n c : Nat) (l : List Pl.Ord) (b : Bool) (w : World) (hn : n ≤ 32) (hr : Reads w w.heap.size 4 A n (orders l)) (hp : ∀ z ∈ l, -1000000 ≤ z.price ∧ z.price ≤ 1000000) :
    Calls Tryz.prog 13 #[.slice A n c, .bool b] w (RankedSaid b l w) := by
  have L1 := Lib.hid hr.ord_len
  have HP := Lib.hid hp
  obtain ⟨i0, hi0, hz0, hz1, hz2⟩ := info_parts info_int
  clear hp
  go_enter Tryz.func13, Tryz.ntmps13
  go_wp2_with fail
  have HB0 := Lib.hid (((Below.refl w.heap.size w).alloc (Nat.le_refl _) (.cells #[.slice A n c] 22)).alloc (by simp) (.cells #[.bool b] 4))
  go_loopw [5, 10] (fun v i wr => ∃ k : Nat, k ≤ n ∧ i = .int .i64 k ∧ wr.ownsRow (w.heap.size + 2) 3 1 v (Pl.sideK b l k).length (ints (Pl.sideK b l k)) ∧ Blk wr w.heap.size 22 #[.slice A n c] ∧ Blk wr (w.heap.size + 1) 4 #[.bool b] ∧ Below w.heap.size w wr) (fun _ i _ => n - (intOf i).toNat)
  case atStart =>
    exact ⟨0, Nat.zero_le _, rfl, World.ownsRow_nil _ _ _ _, Blk.old_ (by simp) (Blk.new_ _ _ _ _ rfl), Blk.new_ _ _ _ _ (by simp), HB0.out⟩
  case round =>
    obtain ⟨k, hk, rfl, hown, bt, bb, hbel⟩ := hrel
    have HO := Lib.hid hown
    have BT := Lib.hid bt
    have BB := Lib.hid bb
    have HB := Lib.hid hbel
    have HM := Lib.hid (fun x h => Pl.sideK_mem b l k x h)
    have sl := Pl.sideK_len b l k
    have ct := BT.out.cell
    have cb := BB.out.cell
    have lt := BT.out.lt
    have lb := BB.out.lt
    have hsz := HB.out.size
    clear bt bb hbel
    by_cases hlt : k < n
    · obtain ⟨bk, o, rfl, hl1, c1, c2, c3, c4⟩ := (hr.below HB.out).ord_at hlt
      by_cases hx : l[k].buy = b
      · have HS := Lib.hid (Pl.sideK_hit b l k hl1 hx)
        generalize l[k] = z at *
        obtain ⟨nm, bz, pw, pr⟩ := z
        simp only at hx c1 c2 c3 c4
        subst hx
        have hbb : (bz == bz) = true := by simp
        generalize Pl.sideK bz l k = S0 at *
        obtain ⟨A2, c9, rfl, _⟩ := own_slice hown
        clear hown
        have HO2 := Lib.hid (HO.out.alloc (.cells #[.string nm, .bool bz, .int .i64 pw, .int .i64 pr] 24))
        go_wp2_with (at_builtin; go_must (refine wpList_append_grow _ rfl (.tmp 19) (.tmp 21) 25 rfl (w.heap.size + 2) 3 i0 _ 1 8 Tryz.underlying25 hi0 hz0 hz1 hz2 rfl (by decide) (.slice A2 S0.length c9) S0.length (ints S0) rfl HO2.out (by simp; omega) #[.int .i64 k] rfl rfl (by simp) (by simp [Value.oneCell']) (by unfold maxLen; omega) (by omega) ?_); intro v' w3 hown3 hg3 hsz3; have HO3 := Lib.hid hown3; have HG3 := Lib.hid hg3; clear hown3 hg3)
        go_roundw
        case rel =>
          refine ⟨k + 1, by omega, by go_num, ?_, (BT.out.alloc _).grown HG3.out (own_ne HO.out (.inl (by omega))), (BB.out.alloc _).grown HG3.out (own_ne HO.out (.inl (by omega))), below_grown (HB.out.alloc HB.out.size _) HG3.out HO2.out (by omega) (by simp; omega)⟩
          rw [HS.out]
          have := HO3.out
          rw [show (S0 ++ [(k : Int)]).length = S0.length + 1 from by simp]
          unfold ints at this ⊢
          rw [List.map_append]
          exact this
        case measure => simp [intOf]; omega
      · have HS := Lib.hid (Pl.sideK_miss b l k hl1 hx)
        generalize l[k] = z at *
        obtain ⟨nm, bz, pw, pr⟩ := z
        simp only at hx c1 c2 c3 c4
        have hbb : (bz == b) = false := by simpa using hx
        clear hx hown
        go_wp2_with fail
        go_roundw
        case rel =>
          refine ⟨k + 1, by omega, by go_num, ?_, BT.out.alloc _, BB.out.alloc _, HB.out.alloc HB.out.size _⟩
          rw [HS.out]
          exact HO.out.alloc _
        case measure => simp [intOf]; omega
    · have : k = n := by omega
      subst this
      have HLK : Hid (Pl.sideK b l l.length = Pl.sideK b l k) := by show _ = _; rw [L1.out]
      generalize Pl.sideK b l k = S0 at *
      rcases hown.2 with ⟨rfl, he⟩ | ⟨g, cap, cur, rfl, hg1, _, hcap, _⟩
      · have HE : Hid (S0 = []) := by show _ = _; have := hown.1; simp at this; simpa [ints] using he
        clear he hown
        go_wp2_with fail
        refine (sort_nil _ _).mono ?_
        rintro e w1 ⟨rfl, rfl⟩
        go_wp2_with fail
        go_ret
        exact ⟨none, 0, [], rfl, Nat.zero_le _, by simp, Reads.none_, by rw [HLK.out, HE.out], fun i j _ h => absurd h (by simp), HB.out⟩
      · have HCAP := Lib.hid hcap
        have ROW : Hid (Srt.Row Srt.encI 1 (w.heap.size + 2) 3 g S0.length cap wr S0.toArray) := ⟨by simp, fun _ => rfl, fun _ v hv => by simp [Srt.encI] at hv; subst hv; rfl, hg1, by rw [List.toList_toArray, flat_ints]; exact HO.out⟩
        have HCMP : Hid (Srt.CmpOk 31 #[.pointer (some ⟨w.heap.size + 1, 0, none⟩), .pointer (some ⟨w.heap.size, 0, none⟩)] Srt.valI (Pl.ocf b l) (fun x => 0 ≤ x ∧ x < (k : Int)) g wr) := by
          intro wt x y hkp qx qy
          exact ranked1_any w.heap.size (w.heap.size + 1) b A k c l w.heap.size x y wt ((Blk.kp BB.out hkp (by omega)).cell 0) ((Blk.kp BT.out hkp (by omega)).cell 0) ((hr.below HB.out).grown hkp (by omega) (fun g hg => by injection hg with hg; omega)) HP.out qx qy
        have HSORT := Lib.hid (Srt.sortI (w.heap.size + 2) g S0.length cap 31 _ (Pl.ocf b l) (fun x => 0 ≤ x ∧ x < (k : Int)) wr enters_ranked1 HCMP.out (Pl.ocf_swo b l) (by omega) S0.toArray wr (Srt.Kp.refl _ _) ROW.out (fun i hi => by
          rw [getElem!_pos S0.toArray i (by simpa using hi)]
          have := HM.out S0[i] (List.getElem_mem hi)
          simp only [List.getElem_toArray]
          exact ⟨this.1, this.2.1⟩))
        clear HCMP hown
        go_wp2_with fail
        refine HSORT.out.mono ?_
        rintro e w6 ⟨rfl, d', hrow, hperm, hsort, _, hkp⟩
        have HR := Lib.hid (ranked_of rfl hrow.size hperm hsort)
        have HO6 : Hid (w6.ownsRow (w.heap.size + 2) 3 1 (.slice (some ⟨g, 0, none⟩) S0.length cap) S0.length (ints d'.toList)) := by have := hrow.own; rwa [flat_ints] at this
        have HB6 := Lib.hid (below_kp HB.out hkp (by omega) (by omega))
        have HL6 : Hid (d'.toList.length = S0.length) := by show _ = _; rw [Array.length_toList]; exact hrow.size
        clear hrow hperm hsort hkp HSORT ROW
        go_wp2_with fail
        go_ret
        exact ⟨some ⟨g, 0, none⟩, cap, d'.toList, by rw [HL6.out]; rfl, by rw [HL6.out]; exact HCAP.out, fun ad h => by injection h with h; subst h; show w.heap.size ≤ g; omega, by rw [HL6.out]; exact Reads.of_own HO6.out, by rw [HLK.out]; exact HR.out.1, HR.out.2, HB6.out⟩
end Go.Proofs.YtibhgcldogfonaaGreatDoor
