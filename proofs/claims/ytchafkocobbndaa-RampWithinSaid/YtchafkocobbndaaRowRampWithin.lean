/- ramp.reach and Range, plain: the powers of a schedule lie in the ranges. No program. slices.Clone at limits; ramp.reach and Range give what their plain functions give. No condition. The law RampWithin: for all limits, ramps and powers the call returns true, and old memory is left as it is. Condition: what the sort of pieces says. RampWithin: whatever the arguments are, the call returns true, and all read afterwards as they read before. No condition. -/
import Derived.Test.YtchafkocobbndaaPRampC
import Derived.Test.YtchafkocobbndaaRampA
import Derived.Test.YtchafkocobbndaaCloI
import Derived.Test.YtchafkocobbndaaQuiet
import Derived.Test.YtchafkocobbndaaConcat
import Derived.StillTailTactics
import Derived.BigRegion
import Derived.Test.YtchafkocobbndaaRampX
import Derived.Test.YtchafkocobbndaaLawRow
import Derived.Test.YtchafkocobbndaaSortP
namespace Go.Proofs.Ytchafkocobbndaa.Pl
section
variable (beg up down : Int) (ls : List (Int × Int))
/-- the range after k periods, forward -/
def rFw : Nat → Int × Int
  | 0 => (beg, beg)
  | k + 1 => (max (ls.getD k (0, 0)).1 ((rFw k).1 - down), min (ls.getD k (0, 0)).2 ((rFw k).2 + up))
/-- no range among the first k is empty -/
def rFok : Nat → Bool
  | 0 => true
  | k + 1 => rFok k && decide ((rFw beg up down ls (k + 1)).1 ≤ (rFw beg up down ls (k + 1)).2)
/-- the ranges from the last one, backward -/
def rBk (n : Nat) : Nat → Int × Int
  | 0 => rFw beg up down ls n
  | m + 1 => (max (rFw beg up down ls (n - (m + 1))).1 ((rBk n m).1 - up), min (rFw beg up down ls (n - (m + 1))).2 ((rBk n m).2 + down))
/-- the first k ranges written forward -/
def rMix (n k : Nat) : List (Int × Int) := (List.range n).map fun i => if i < k then rFw beg up down ls (i + 1) else ls.getD i (0, 0)
/-- the ranges from k on written backward -/
def rEnd (n k : Nat) : List (Int × Int) := (List.range n).map fun i => if i < k then rFw beg up down ls (i + 1) else rBk beg up down ls n (n - 1 - i)
end
section
variable {beg up down : Int} {ls : List (Int × Int)} {ps : List Int} {n : Nat}
theorem rMix_len (k : Nat) : (rMix beg up down ls n k).length = n := by unfold rMix; simp
theorem rEnd_len (k : Nat) : (rEnd beg up down ls n k).length = n := by unfold rEnd; simp
theorem rMix_zero : rMix beg up down ls ls.length 0 = ls := by
  refine List.ext_getElem (by simp [rMix]) fun i h1 h2 => ?_
  simp only [rMix, List.getElem_map, List.getElem_range]
  rw [if_neg (by omega), List.getD_eq_getElem?_getD, List.getElem?_eq_getElem h2]
  rfl
theorem rMix_set (k : Nat) : (rMix beg up down ls n k).set k (rFw beg up down ls (k + 1)) = rMix beg up down ls n (k + 1) := by
  refine List.ext_getElem (by simp [rMix]) fun i h1 h2 => ?_
  rw [List.getElem_set]
  simp only [rMix, List.getElem_map, List.getElem_range]
  by_cases e : k = i
  · subst e; rw [if_pos rfl, if_pos (Nat.lt_succ_self k)]
  · rw [if_neg e]
    by_cases h : i < k
    · rw [if_pos h, if_pos (Nat.lt_succ_of_lt h)]
    · rw [if_neg h, if_neg (fun h2 => (Nat.lt_succ_iff_lt_or_eq.1 h2).elim h (fun h3 => e h3.symm))]
theorem rMix_at {i k : Nat} (hi : i < n) : (rMix beg up down ls n k).getD i (0, 0) = if i < k then rFw beg up down ls (i + 1) else ls.getD i (0, 0) := by
  unfold rMix
  rw [List.getD_eq_getElem?_getD, List.getElem?_map, List.getElem?_range hi]
  rfl
theorem rEnd_at {i k : Nat} (hi : i < n) : (rEnd beg up down ls n k).getD i (0, 0) = if i < k then rFw beg up down ls (i + 1) else rBk beg up down ls n (n - 1 - i) := by
  unfold rEnd
  rw [List.getD_eq_getElem?_getD, List.getElem?_map, List.getElem?_range hi]
  rfl
theorem rEnd_set (j : Nat) : (rEnd beg up down ls n (j + 1)).set j (rBk beg up down ls n (n - 1 - j)) = rEnd beg up down ls n j := by
  refine List.ext_getElem (by simp [rEnd]) fun i h1 h2 => ?_
  rw [List.getElem_set]
  simp only [rEnd, List.getElem_map, List.getElem_range]
  by_cases e : j = i
  · subst e; rw [if_pos rfl, if_neg (Nat.lt_irrefl _)]
  · rw [if_neg e]
    by_cases h : i < j
    · rw [if_pos h, if_pos (Nat.lt_succ_of_lt h)]
    · rw [if_neg h, if_neg (fun h2 => (Nat.lt_succ_iff_lt_or_eq.1 h2).elim h (fun h3 => e h3.symm))]
/-- the last range is what the forward pass has left -/
theorem rMix_end (h : 0 < n) : rMix beg up down ls n n = rEnd beg up down ls n (n - 1) := by
  refine List.ext_getElem (by simp [rMix, rEnd]) fun i h1 h2 => ?_
  rw [rMix_len] at h1
  simp only [rMix, rEnd, List.getElem_map, List.getElem_range]
  rw [if_pos h1]
  by_cases hi : i < n - 1
  · rw [if_pos hi]
  · rw [if_neg hi]
    have : i = n - 1 := by omega
    subst this
    rw [Nat.sub_self, rBk, show n - 1 + 1 = n by omega]
theorem fw_mem (hf : feasP beg up down ls ps n) (k : Nat) (hk : k ≤ n) : (rFw beg up down ls k).1 ≤ lastP beg ps k ∧ lastP beg ps k ≤ (rFw beg up down ls k).2 := by
  induction k with
  | zero => exact ⟨Int.le_refl _, Int.le_refl _⟩
  | succ k ih =>
    obtain ⟨i1, i2⟩ := ih (by omega)
    obtain ⟨f1, f2, f3, f4⟩ := hf k (by omega)
    have e : lastP beg ps (k + 1) = ps.getD k 0 := by unfold lastP; rw [if_neg (by omega)]; rfl
    rw [e, rFw]
    simp only
    omega
theorem fok_true (hf : feasP beg up down ls ps n) (k : Nat) (hk : k ≤ n) : rFok beg up down ls k = true := by
  induction k with
  | zero => rfl
  | succ k ih =>
    have := fw_mem hf (k + 1) hk
    rw [rFok, ih (by omega), Bool.true_and, decide_eq_true_iff]
    omega
theorem bk_mem (hf : feasP beg up down ls ps n) (m : Nat) (hm : m < n) : (rBk beg up down ls n m).1 ≤ ps.getD (n - 1 - m) 0 ∧ ps.getD (n - 1 - m) 0 ≤ (rBk beg up down ls n m).2 := by
  induction m with
  | zero =>
    have := fw_mem hf n (Nat.le_refl _)
    have e : lastP beg ps n = ps.getD (n - 1 - 0) 0 := by unfold lastP; rw [if_neg (by omega)]; rfl
    rw [e] at this
    exact this
  | succ m ih =>
    obtain ⟨i1, i2⟩ := ih (by omega)
    have h1 := fw_mem hf (n - (m + 1)) (by omega)
    have e : lastP beg ps (n - (m + 1)) = ps.getD (n - 1 - (m + 1)) 0 := by unfold lastP; rw [if_neg (by omega), show n - (m + 1) - 1 = n - 1 - (m + 1) by omega]
    rw [e] at h1
    obtain ⟨_, _, f3, f4⟩ := hf (n - 1 - m) (by omega)
    have e2 : lastP beg ps (n - 1 - m) = ps.getD (n - 1 - (m + 1)) 0 := by unfold lastP; rw [if_neg (by omega), show n - 1 - m - 1 = n - 1 - (m + 1) by omega]
    rw [e2] at f3 f4
    rw [rBk]
    simp only
    omega
theorem fw_bd (hl : ∀ p ∈ ls, 0 ≤ p.1 ∧ p.1 ≤ p.2 ∧ p.2 ≤ 100000) (hb : 0 ≤ beg ∧ beg ≤ 100000) (k : Nat) (hk : k ≤ ls.length) (hok : rFok beg up down ls k = true) : 0 ≤ (rFw beg up down ls k).1 ∧ (rFw beg up down ls k).1 ≤ (rFw beg up down ls k).2 ∧ (rFw beg up down ls k).2 ≤ 100000 := by
  cases k with
  | zero => exact ⟨hb.1, Int.le_refl _, hb.2⟩
  | succ k =>
    rw [rFok, Bool.and_eq_true, decide_eq_true_iff] at hok
    have hg : ls.getD k (0, 0) ∈ ls := by rw [List.getD_eq_getElem?_getD, List.getElem?_eq_getElem (by omega)]; exact List.getElem_mem _
    obtain ⟨a, b, c⟩ := hl _ hg
    refine ⟨?_, hok.2, ?_⟩ <;> rw [rFw] <;> simp only <;> omega
theorem fok_pre {k m : Nat} (hkm : k ≤ m) (h : rFok beg up down ls m = true) : rFok beg up down ls k = true := by
  induction m with
  | zero => rw [show k = 0 by omega]; rfl
  | succ m ih =>
    by_cases e : k = m + 1
    · rw [e]; exact h
    · rw [rFok, Bool.and_eq_true] at h
      exact ih (by omega) h.1
theorem bk_bd (hl : ∀ p ∈ ls, 0 ≤ p.1 ∧ p.1 ≤ p.2 ∧ p.2 ≤ 100000) (hb : 0 ≤ beg ∧ beg ≤ 100000) (hd : 0 ≤ down ∧ down ≤ 100000) (hu : 0 ≤ up ∧ up ≤ 100000) (hok : rFok beg up down ls ls.length = true) (m : Nat) (hm : m < ls.length) : -100000 ≤ (rBk beg up down ls ls.length m).1 ∧ (rBk beg up down ls ls.length m).1 ≤ 100000 ∧ -100000 ≤ (rBk beg up down ls ls.length m).2 ∧ (rBk beg up down ls ls.length m).2 ≤ 100000 := by
  induction m with
  | zero =>
    have := fw_bd hl hb ls.length (Nat.le_refl _) hok
    rw [rBk]; omega
  | succ m ih =>
    have i := ih (by omega)
    have := fw_bd hl hb (ls.length - (m + 1)) (by omega) (fok_pre (by omega) hok)
    rw [rBk]; simp only; omega
end
/-- ramp.Range -/
def rRange (beg up down : Int) (ls : List (Int × Int)) : List (Int × Int) × Int := if rCheckP ls beg up down ≠ 0 then ([], rCheckP ls beg up down) else if rFok beg up down ls ls.length = false then ([], 8) else (rEnd beg up down ls ls.length 0, 0)
end Go.Proofs.Ytchafkocobbndaa.Pl
namespace Go.Proofs.Ytchafkocobbndaa
open Go.RowKit
theorem info_limit : (Try.prog.info? 56).map (fun i => (i.zero, i.size, i.bytes)) = some (some (.agg #[.int .i64 0, .int .i64 0]), 2, 16) := by kernel_rfl
set_option maxRecDepth 100000 in
theorem clone_limits (A : Option Addr) (n c : Nat) (l : List (Int × Int)) (w : World) (hn : n ≤ 1000000) (hr : Reads w w.heap.size 2 A n (pairs l)) :
    Calls Try.prog 69 #[.slice A n c] w (CloneSaid 56 2 n (pairs l) w) := by
  obtain ⟨i0, hi0, hz0, hz1, hz2⟩ := info_parts info_limit
  rcases A with _ | ⟨b, o, s⟩
  · have h0 : n = 0 := by
      rcases Nat.eq_zero_or_pos n with h | h
      · exact h
      · obtain ⟨_, h, _⟩ := hr.2 h; cases h
    subst h0
    have hl : pairs l = [] := List.eq_nil_of_length_eq_zero (by simpa using hr.1)
    rw [hl]
    clear hl hr hi0 hz0 hz1 hz2
    have hnil : ∀ W, (binOp .eql 52 (.slice none 0 c) (.slice none 0 0)).run Try.prog W = .ok (.bool true) W := fun W => Lib.run_eql_slice_nil W _ _ none 0 c 0 0 Try.underlying52
    go_enter Try.func69, Try.ntmps69
    go_wp2_with fail
    go_ret
    exact ⟨none, 0, rfl, World.ownsRow_nil _ _ _ _, Below.refl _ _⟩
  · have hnil : ∀ W, (binOp .eql 52 (.slice (some ⟨b, o, s⟩) n c) (.slice none 0 0)).run Try.prog W = .ok (.bool false) W := fun W => Lib.run_eql_slice_nil W _ _ (some ⟨b, o, s⟩) n c 0 0 Try.underlying52
    have HR : Hid (Reads (w.alloc (.cells #[] 56)) w.heap.size 2 (some ⟨b, o, s⟩) n (pairs l)) := hr.alloc (Nat.le_refl _) _
    have HO := Lib.hid (own_empty w 56 2 w.heap.size w.heap.size rfl (Nat.le_refl _))
    have HB := Lib.hid ((Below.refl w.heap.size w).alloc (Nat.le_refl _) (.cells #[] 56))
    go_enter Try.func69, Try.ntmps69
    go_wp2_with (at_builtin; go_must (refine wpList_append_any _ rfl (.tmp 5) (.tmp 6) 52 rfl w.heap.size 56 i0 _ 2 16 Try.underlying52 hi0 hz0 hz1 hz2 rfl (by decide) (.slice (some ⟨w.heap.size, 0, none⟩) 0 0) 0 [] rfl HO.out w.heap.size (some ⟨b, o, s⟩) n c (pairs l) rfl HR.out (pairs_one l) (by unfold maxLen; omega) (by omega) (by simp) ?_); intro v' w3 hown3 hg3 _; have HO3 := Lib.hid hown3; have HG3 := Lib.hid hg3; clear hown3 hg3)
    have HO4 := HO3.out
    rw [Nat.zero_add, List.nil_append] at HO4
    obtain ⟨A', c', rfl, _⟩ := own_slice HO4
    go_ret
    exact ⟨A', c', rfl, HO4, below_grown HB.out HG3.out HO.out (Nat.le_refl _) (by simp)⟩
theorem pairs_put (l : List (Int × Int)) (k : Nat) (hk : k < l.length) (x y : Int) : ((pairs l).set (k * 2) (.int .i64 x)).set (k * 2 + 1) (.int .i64 y) = pairs (l.set k (x, y)) := by
  induction l generalizing k with
  | nil => simp at hk
  | cons p l ih =>
    have e : ∀ q : Int × Int, pairs (q :: l) = .int .i64 q.1 :: .int .i64 q.2 :: pairs l := fun q => rfl
    cases k with
    | zero => simp [e]
    | succ k =>
      have := ih k (by simpa using hk)
      rw [show (k + 1) * 2 = k * 2 + 1 + 1 from by omega, e, List.set_cons_succ, List.set_cons_succ, List.set_cons_succ, List.set_cons_succ, this]
      rfl
theorem own_rput {w : World} {base n c g : Nat} {e : TypeId} {l : List (Int × Int)} (h : w.ownsRow base e 2 (.slice (some ⟨g, 0, none⟩) n c) n (pairs l)) (k : Nat) (hk : k < l.length) (x y : Int) :
    ((w.setCell ⟨g, k * 2, none⟩ (.int .i64 x)).setCell ⟨g, k * 2 + 1, none⟩ (.int .i64 y)).ownsRow base e 2 (.slice (some ⟨g, 0, none⟩) n c) n (pairs (l.set k (x, y))) := by
  rw [← pairs_put l k hk]
  exact own_set (own_set h _ _) _ _
theorem own_pair_cells {w : World} {base n c g : Nat} {e : TypeId} {l : List (Int × Int)} (h : w.ownsRow base e 2 (.slice (some ⟨g, 0, none⟩) n c) n (pairs l)) (k : Nat) (hk : k < n) :
    w.cell? ⟨g, k * 2, none⟩ = some (.int .i64 (l.getD k (0, 0)).1) ∧ w.cell? ⟨g, k * 2 + 1, none⟩ = some (.int .i64 (l.getD k (0, 0)).2) := by
  obtain ⟨b, o, e1, hl, h1, h2⟩ := (Reads.of_own h).pair_at hk
  injection e1 with e1
  injection e1 with e1 e2 _
  subst e1 e2
  rw [Nat.zero_add] at h1 h2
  rw [List.getD_eq_getElem?_getD, List.getElem?_eq_getElem hl]
  exact ⟨h1, h2⟩
/-- what reach returns: the ranges, and whether none is empty -/
def ReachSaid (x : List (Int × Int) × Bool) (w : World) (e : Ending) (w' : World) : Prop :=
  ∃ A c, e = .returned (.tuple #[.slice A x.1.length c, .bool x.2]) ∧ Reads w' w'.heap.size 2 A x.1.length (pairs x.1) ∧ Below w.heap.size w w'
set_option maxHeartbeats 6400000 in
set_option maxRecDepth 100000 in
theorem reach_any (A : Option Addr) (n c : Nat) (ls : List (Int × Int)) (beg up down : Int) (w : World) (hck : Pl.rCheckP ls beg up down = 0) (hr : Reads w w.heap.size 2 A n (pairs ls)) :
    Calls Try.prog 42 #[.slice A n c, .int .i64 beg, .int .i64 up, .int .i64 down] w (ReachSaid (if Pl.rFok beg up down ls ls.length = true then Pl.rEnd beg up down ls ls.length 0 else [], Pl.rFok beg up down ls ls.length) w) := by
  obtain ⟨hn24, hlim, ⟨b0, b1⟩, ⟨u0, u1⟩, ⟨d0, d1⟩⟩ := Pl.rCheckP_ok hck
  have HL := Lib.hid hr.pair_len
  have hn : n ≤ 24 := by rw [← HL.out]; exact hn24
  have HR := Lib.hid hr
  have HFB := Lib.hid (fun k hk hok => Pl.fw_bd (beg := beg) (up := up) (down := down) hlim ⟨b0, b1⟩ k hk hok)
  have HBB := Lib.hid (fun hok m hm => Pl.bk_bd (beg := beg) (up := up) (down := down) hlim ⟨b0, b1⟩ ⟨d0, d1⟩ ⟨u0, u1⟩ hok m hm)
  have HLM : Hid (∀ k, k < n → 0 ≤ (ls.getD k (0, 0)).1 ∧ (ls.getD k (0, 0)).2 ≤ 100000) := fun k hk => by
    have hg : ls.getD k (0, 0) ∈ ls := by rw [List.getD_eq_getElem?_getD, List.getElem?_eq_getElem (by have := HL.out; omega)]; exact List.getElem_mem _
    have := hlim _ hg
    omega
  have HCL := Lib.hid (fun w h => clone_limits A n c ls w (by omega) h)
  have HMX : Hid (∀ a b : Int, (if a < b then b else a) = max a b) := ite_max
  have HMN : Hid (∀ a b : Int, (if b < a then b else a) = min a b) := ite_min
  unfold CloneSaid at HCL
  have HXT : Hid (Pl.rFok beg up down ls n = true → ((if Pl.rFok beg up down ls ls.length = true then Pl.rEnd beg up down ls ls.length 0 else []), Pl.rFok beg up down ls ls.length) = (Pl.rEnd beg up down ls n 0, true)) := fun h => by rw [HL.out, h, if_pos rfl]
  have HXF : Hid (Pl.rFok beg up down ls n = false → ((if Pl.rFok beg up down ls ls.length = true then Pl.rEnd beg up down ls ls.length 0 else []), Pl.rFok beg up down ls ls.length) = ([], false)) := fun h => by rw [HL.out, h, if_neg (by decide)]
  generalize ((if Pl.rFok beg up down ls ls.length = true then Pl.rEnd beg up down ls ls.length 0 else []), Pl.rFok beg up down ls ls.length) = X at *
  rw [HL.out] at HBB
  clear hck hlim hn24 hr
  go_enter Try.func42, Try.ntmps42
  go_wp2_with fail
  refine (HCL.out _ HR.out).mono ?_
  rintro e w1 ⟨Ar, cr, rfl, hown, hb⟩
  have HB1 := Lib.hid hb
  have HOW := Lib.hid hown
  have HAG : Hid (∀ g, Ar = some ⟨g, 0, none⟩ → 0 < n → w.heap.size ≤ g ∧ g < w1.heap.size) := fun g hg hn0 => by
    obtain ⟨g', cap, hv, h1, h2⟩ := hown.form hn0
    injection hv with hv _ _
    rw [hg] at hv
    injection hv with hv
    injection hv with hv _ _
    subst hv
    exact ⟨h1, h2⟩
  have HAF : Hid (0 < n → ∃ g, Ar = some ⟨g, 0, none⟩) := fun hn0 => by
    obtain ⟨g', cap, hv, _, _⟩ := hown.form hn0
    injection hv with hv _ _
    exact ⟨g', hv⟩
  clear hb hown HCL
  have AL := (Below.refl w1.heap.size w1).alloc (Nat.le_refl _) (.cells #[.int .i64 beg, .int .i64 beg] 56)
  have HB2 := Lib.hid (HB1.out.trans (AL.mono HB1.out.size))
  have BL := Lib.hid (Blk.new_ w1 w1.heap.size 56 #[.int .i64 beg, .int .i64 beg] rfl)
  have HOW2 := Lib.hid (own_go HOW.out AL)
  go_wp2_with fail
  have hwg : w.heap.size ≤ w1.heap.size := HB1.out.size
  clear AL HB1 HOW
  generalize w1.alloc (.cells #[.int .i64 beg, .int .i64 beg] 56) = w2 at *
  generalize w1.heap.size = gl at *
  go_loopw [21] (fun i wr => ∃ k : Nat, k ≤ n ∧ i = .int .i64 k ∧ Hid (Pl.rFok beg up down ls k = true) ∧ Hid (wr.ownsRow w.heap.size 56 2 (.slice Ar n cr) n (pairs (Pl.rMix beg up down ls n k))) ∧ Hid (Blk wr gl 56 #[.int .i64 (Pl.rFw beg up down ls k).1, .int .i64 (Pl.rFw beg up down ls k).2]) ∧ Hid (Below w.heap.size w wr)) (fun i _ => n - (intOf i).toNat)
  case atStart =>
    refine ⟨0, Nat.zero_le _, rfl, rfl, ?_, BL, HB2⟩
    have e := Pl.rMix_zero (beg := beg) (up := up) (down := down) (ls := ls)
    rw [HL.out] at e
    show World.ownsRow _ _ _ _ _ _ _
    rw [e]
    exact HOW2.out
  case round =>
    clear HOW2 BL HB2
    obtain ⟨k, hk, rfl, HOK, HOW, BL, HB⟩ := hrel
    by_cases hlt : k < n
    · obtain ⟨g, rfl⟩ := HAF.out (by omega)
      obtain ⟨hg0, hg1⟩ := HAG.out g rfl (by omega)
      obtain ⟨f0, f1, f2⟩ := HFB.out k (by rw [HL.out]; exact hk) HOK.out
      obtain ⟨l0, l1⟩ := HLM.out k hlt
      obtain ⟨r0, r1⟩ := own_pair_cells HOW.out k hlt
      rw [Pl.rMix_at hlt, if_neg (Nat.lt_irrefl k)] at r0 r1
      have OP := Lib.hid (fun x y => own_rput HOW.out k (by rw [Pl.rMix_len]; exact hlt) x y)
      have ESET := Lib.hid (Pl.rMix_set (beg := beg) (up := up) (down := down) (ls := ls) (n := n) k)
      have EF : Hid (Pl.rFw beg up down ls (k + 1) = (max (ls.getD k (0, 0)).1 ((Pl.rFw beg up down ls k).1 - down), min (ls.getD k (0, 0)).2 ((Pl.rFw beg up down ls k).2 + up))) := rfl
      have EO : Hid (Pl.rFok beg up down ls (k + 1) = (Pl.rFok beg up down ls k && decide ((Pl.rFw beg up down ls (k + 1)).1 ≤ (Pl.rFw beg up down ls (k + 1)).2))) := rfl
      rw [HOK.out, Bool.true_and, EF.out] at EO
      rw [EF.out] at ESET
      obtain ⟨lk, hlk⟩ : ∃ x, x = ls.getD k (0, 0) := ⟨_, rfl⟩
      rw [← hlk] at l0 l1 r0 r1 ESET EF EO
      clear hlk
      obtain ⟨x0, x1⟩ := lk
      have BL' := BL
      generalize Pl.rFw beg up down ls k = F at *
      obtain ⟨F0, F1⟩ := F
      simp only at f0 f1 f2 l0 l1 r0 r1 ESET EF EO BL
      have c0 := BL.out.cell 0
      have c1 := BL.out.cell 1
      have wl : IntKind.i64.wrap (F0 - down) = F0 - down := IntWalk.i64_in _ (by omega)
      have wh : IntKind.i64.wrap (F1 + up) = F1 + up := IntWalk.i64_in _ (by omega)
      have k0 : (0 : Int) ≤ (k : Int) := by omega
      have k1 : (k : Int) < (n : Int) := by omega
      have imax := HMX.out
      have imin := HMN.out
      obtain ⟨cur, bg⟩ := Srt.own_blkc HOW.out
      have fg := bg.frozen
      have lgg := bg.lt
      clear bg BL'
      go_wp2_with fail
      go_still_tail 24, (by kernel_rfl)
      have HOWd : Hid (wr.drew.ownsRow w.heap.size 56 2 (.slice (some ⟨g, 0, none⟩) n cr) n (pairs (Pl.rMix beg up down ls n k))) := HOW.out
      have BLd : Hid (Blk wr.drew gl 56 #[.int .i64 F0, .int .i64 F1]) := BL.out
      have HBd : Hid (Below w.heap.size w wr.drew) := HB.out.drew
      have r0d : wr.drew.cell? ⟨g, k * 2, none⟩ = some (.int .i64 x0) := r0
      have r1d : wr.drew.cell? ⟨g, k * 2 + 1, none⟩ = some (.int .i64 x1) := r1
      have fgd : ∀ i, wr.drew.frozen? ⟨g, i, none⟩ = false := fg
      have OPd : Hid (∀ x y, ((wr.drew.setCell ⟨g, k * 2, none⟩ (.int .i64 x)).setCell ⟨g, k * 2 + 1, none⟩ (.int .i64 y)).ownsRow w.heap.size 56 2 (.slice (some ⟨g, 0, none⟩) n cr) n (pairs ((Pl.rMix beg up down ls n k).set k (x, y)))) := fun x y => own_rput HOWd.out k (by rw [Pl.rMix_len]; exact hlt) x y
      change wpList _ _ _ _ _ wr.drew
      clear HOW BL HB r0 r1 fg OP c0 c1
      generalize wr.drew = w3 at *
      have hne : g ≠ gl := by omega
      have hne2 : gl ≠ g := by omega
      have c0 := BLd.out.cell 0
      have c1 := BLd.out.cell 1
      have fL := BLd.out.frozen
      have OX := Lib.hid (own_other (own_other (OPd.out (max x0 (F0 - down)) (min x1 (F1 + up))) hne 0 (.int .i64 (max x0 (F0 - down)))) hne 1 (.int .i64 (min x1 (F1 + up))))
      rw [ESET.out] at OX
      have BX := Lib.hid ((((BLd.out.far (p := ⟨g, k * 2, none⟩) hne2 (.int .i64 (max x0 (F0 - down)))).far (p := ⟨g, k * 2 + 1, none⟩) hne2 (.int .i64 (min x1 (F1 + up)))).set_ 0 (.int .i64 (max x0 (F0 - down)))).set_ 1 (.int .i64 (min x1 (F1 + up))))
      have HX := Lib.hid ((((HBd.out.setCell (p := ⟨g, k * 2, none⟩) hg0 (.int .i64 (max x0 (F0 - down)))).setCell (p := ⟨g, k * 2 + 1, none⟩) hg0 (.int .i64 (min x1 (F1 + up)))).setCell (p := ⟨gl, 0, none⟩) hwg (.int .i64 (max x0 (F0 - down)))).setCell (p := ⟨gl, 1, none⟩) hwg (.int .i64 (min x1 (F1 + up))))
      clear OPd HOWd ESET
      by_cases hok : max x0 (F0 - down) ≤ min x1 (F1 + up)
      · rw [decide_eq_true hok] at EO
        have d1 : decide (min x1 (F1 + up) < max x0 (F0 - down)) = false := decide_eq_false (by omega)
        clear hok
        go_wp2_with fail
        go_roundw
        case rel => exact ⟨k + 1, by omega, by go_num, EO, OX, by show Blk _ _ _ _; rw [EF.out]; exact BX.out, HX⟩
        case measure => simp [intOf]; omega
      · rw [decide_eq_false hok] at EO
        have d1 : decide (min x1 (F1 + up) < max x0 (F0 - down)) = true := decide_eq_true (by omega)
        have HNO : Hid (Pl.rFok beg up down ls n = false) := by
          show _ = _
          cases hh : Pl.rFok beg up down ls n
          · rfl
          · have := Pl.fok_pre (k := k + 1) (by omega) hh
            rw [EO.out] at this; cases this
        clear hok
        go_wp2_with fail
        go_ret2
        rw [HXF.out HNO.out]
        exact ⟨none, 0, rfl, Reads.none_, HX.out⟩
    · have hkn : n = k := by omega
      subst hkn
      have w2' : IntKind.i64.wrap ((n : Int) - 2) = (n : Int) - 2 := IntWalk.i64_in _ (by omega)
      have HX := Lib.hid (HXT.out HOK.out)
      have HBK := Lib.hid (HBB.out HOK.out)
      clear BL HXT HXF HBB HFB
      go_wp2_with fail
      go_loopw [13] (fun i wr => ∃ q : Nat, q ≤ n ∧ (0 < n → 0 < q) ∧ i = .int .i64 ((q : Int) - 2) ∧ Hid (wr.ownsRow w.heap.size 56 2 (.slice Ar n cr) n (pairs (Pl.rEnd beg up down ls n (q - 1)))) ∧ Hid (Below w.heap.size w wr)) (fun i _ => (intOf i + 2).toNat)
      case atStart =>
        refine ⟨n, Nat.le_refl _, fun h => h, rfl, ?_, HB⟩
        show World.ownsRow _ _ _ _ _ _ _
        have e : Pl.rMix beg up down ls n n = Pl.rEnd beg up down ls n (n - 1) := by
          rcases Nat.eq_zero_or_pos n with h | h
          · rw [h]; rfl
          · exact Pl.rMix_end h
        rw [← e]
        exact HOW.out
      case round =>
        clear HOW HB
        obtain ⟨q, hq, hqp, rfl, HOW, HB⟩ := hrel
        by_cases hq2 : 2 ≤ q
        · obtain ⟨j, rfl⟩ : ∃ j, q = j + 2 := ⟨q - 2, by omega⟩
          have ej : ((j + 2 : Nat) : Int) - 2 = (j : Int) := by omega
          rw [ej]
          rw [show j + 2 - 1 = j + 1 by omega] at HOW
          obtain ⟨g, rfl⟩ := HAF.out (by omega)
          obtain ⟨hg0, hg1⟩ := HAG.out g rfl (by omega)
          obtain ⟨m, hm⟩ : ∃ m, n - 1 - (j + 1) = m := ⟨_, rfl⟩
          obtain ⟨r0, r1⟩ := own_pair_cells HOW.out j (by omega)
          obtain ⟨s0, s1⟩ := own_pair_cells HOW.out (j + 1) (by omega)
          rw [Pl.rEnd_at (by omega), if_pos (Nat.lt_succ_self j)] at r0 r1
          rw [Pl.rEnd_at (by omega), if_neg (Nat.lt_irrefl _), hm] at s0 s1
          have ESET := Lib.hid (Pl.rEnd_set (beg := beg) (up := up) (down := down) (ls := ls) (n := n) j)
          have EB : Hid (Pl.rBk beg up down ls n (n - 1 - j) = (max (Pl.rFw beg up down ls (j + 1)).1 ((Pl.rBk beg up down ls n m).1 - up), min (Pl.rFw beg up down ls (j + 1)).2 ((Pl.rBk beg up down ls n m).2 + down))) := by
            show _ = _
            rw [show n - 1 - j = m + 1 by omega, Pl.rBk, show n - (m + 1) = j + 1 by omega]
          rw [EB.out] at ESET
          obtain ⟨y0, y1, y2, y3⟩ := HBK.out m (by omega)
          clear EB hm
          generalize Pl.rFw beg up down ls (j + 1) = F at *
          generalize Pl.rBk beg up down ls n m = G at *
          obtain ⟨F0, F1⟩ := F
          obtain ⟨G0, G1⟩ := G
          simp only at r0 r1 s0 s1 y0 y1 y2 y3 ESET
          have wj1 : IntKind.i64.wrap ((j : Int) + 1) = (j : Int) + 1 := IntWalk.i64_in _ (by omega)
          have wjm : IntKind.i64.wrap ((j : Int) - 1) = (j : Int) - 1 := IntWalk.i64_in _ (by omega)
          have wl : IntKind.i64.wrap (G0 - up) = G0 - up := IntWalk.i64_in _ (by omega)
          have wh : IntKind.i64.wrap (G1 + down) = G1 + down := IntWalk.i64_in _ (by omega)
          have j0 : (0 : Int) ≤ (j : Int) := by omega
          have j1 : (j : Int) < (n : Int) := by omega
          have jp0 : (0 : Int) ≤ (j : Int) + 1 := by omega
          have jp1 : (j : Int) + 1 < (n : Int) := by omega
          have imax := HMX.out
          have imin := HMN.out
          obtain ⟨cur, bg⟩ := Srt.own_blkc HOW.out
          have fg := bg.frozen
          have lgg := bg.lt
          clear bg
          go_wp2_with fail
          have OX := Lib.hid (own_rput (w := wr.drew) HOW.out j (by rw [Pl.rEnd_len]; omega) (max F0 (G0 - up)) (min F1 (G1 + down)))
          rw [ESET.out] at OX
          have HX2 := Lib.hid ((HB.out.drew.setCell (p := ⟨g, j * 2, none⟩) hg0 (.int .i64 (max F0 (G0 - up)))).setCell (p := ⟨g, j * 2 + 1, none⟩) hg0 (.int .i64 (min F1 (G1 + down))))
          clear HOW HB
          go_region
          all_goals
            go_wp2_with fail
            refine ⟨⟨j + 1, by omega, fun _ => by omega, ?_, ?_, HX2⟩, ?_⟩
            · go_num
            · rw [show j + 1 - 1 = j by omega]; exact OX
            · simp [intOf]; omega
        · have hi : ¬ (0 : Int) ≤ (q : Int) - 2 := by omega
          have e1 : q - 1 = 0 := by omega
          rw [e1] at HOW
          go_wp2_with fail
          go_ret2
          rw [HX.out]
          have hlen : (Pl.rEnd beg up down ls n 0).length = n := Pl.rEnd_len _
          refine ⟨Ar, cr, by rw [hlen]; rfl, by rw [hlen]; exact Reads.of_own HOW.out, HB.out⟩
/-- what Range returns -/
def RangeSaid (x : List (Int × Int) × Int) (w : World) (e : Ending) (w' : World) : Prop :=
  ∃ A c, e = .returned (.tuple #[.slice A x.1.length c, .int .i64 x.2]) ∧ Reads w' w'.heap.size 2 A x.1.length (pairs x.1) ∧ Below w.heap.size w w'
set_option maxHeartbeats 1600000 in
set_option maxRecDepth 100000 in
theorem range_any (A : Option Addr) (n c : Nat) (ls : List (Int × Int)) (beg up down : Int) (w : World) (hr : Reads w w.heap.size 2 A n (pairs ls)) :
    Calls Try.prog 20 #[.slice A n c, .int .i64 beg, .int .i64 up, .int .i64 down] w (RangeSaid (Pl.rRange beg up down ls) w) := by
  have HR := Lib.hid hr
  have HC := Lib.hid (fun w h => rCheckP_any A n c ls beg up down w h)
  have HXX : Hid (Pl.rRange beg up down ls = if Pl.rCheckP ls beg up down ≠ 0 then ([], Pl.rCheckP ls beg up down) else if Pl.rFok beg up down ls ls.length = false then ([], 8) else (Pl.rEnd beg up down ls ls.length 0, 0)) := rfl
  clear hr
  by_cases h0 : Pl.rCheckP ls beg up down = 0
  · have HRE := Lib.hid (fun w h => reach_any A n c ls beg up down w h0 h)
    unfold ReachSaid at HRE
    rw [if_neg (by simpa using h0)] at HXX
    rw [h0] at HC
    clear h0
    cases hok : Pl.rFok beg up down ls ls.length
    · rw [hok, if_pos rfl] at HXX
      rw [hok, if_neg (by decide)] at HRE
      clear hok
      generalize Pl.rRange beg up down ls = X at *
      go_enter Try.func20, Try.ntmps20
      go_wp2_with fail
      refine (HC.out _ HR.out).mono ?_
      rintro e w1 ⟨rfl, hb⟩
      have HB1 := Lib.hid hb
      clear hb HC
      go_wp2_with fail
      refine (HRE.out _ (HR.out.go HB1.out)).mono ?_
      rintro e w2 ⟨Ar, cr, rfl, _, hb⟩
      have HB2 := Lib.hid (HB1.out.trans (hb.mono HB1.out.size))
      clear hb HRE
      go_wp2_with fail
      go_ret2
      rw [HXX.out]
      exact ⟨none, 0, rfl, Reads.none_, HB2.out⟩
    · rw [hok, if_neg (by decide)] at HXX
      rw [hok, if_pos rfl] at HRE
      clear hok
      generalize Pl.rRange beg up down ls = X at *
      generalize Pl.rEnd beg up down ls ls.length 0 = L at *
      simp only at HRE
      go_enter Try.func20, Try.ntmps20
      go_wp2_with fail
      refine (HC.out _ HR.out).mono ?_
      rintro e w1 ⟨rfl, hb⟩
      have HB1 := Lib.hid hb
      clear hb HC
      go_wp2_with fail
      refine (HRE.out _ (HR.out.go HB1.out)).mono ?_
      rintro e w2 ⟨Ar, cr, rfl, hrd, hb⟩
      have HB2 := Lib.hid (HB1.out.trans (hb.mono HB1.out.size))
      have HRD := Lib.hid hrd
      clear hb hrd HRE
      go_wp2_with fail
      go_ret2
      rw [HXX.out]
      exact ⟨Ar, cr, rfl, HRD.out, HB2.out⟩
  · rw [if_pos h0] at HXX
    have h2 : (Pl.rCheckP ls beg up down != 0) = true := by simpa using h0
    clear h0
    generalize Pl.rRange beg up down ls = X at *
    generalize Pl.rCheckP ls beg up down = u at *
    go_enter Try.func20, Try.ntmps20
    go_wp2_with fail
    refine (HC.out _ HR.out).mono ?_
    rintro e w1 ⟨rfl, hb⟩
    have HB1 := Lib.hid hb
    clear hb HC
    go_wp2_with fail
    go_ret2
    rw [HXX.out]
    exact ⟨none, 0, rfl, Reads.none_, HB1.out⟩
end Go.Proofs.Ytchafkocobbndaa
namespace Go.Proofs.Ytchafkocobbndaa.Pl
theorem distP_self (ts : List Int) (k : Nat) : distP ts ts k = 0 := by
  induction k with
  | zero => rfl
  | succ k ih =>
    have e : distP ts ts (k + 1) = distP ts ts k + max (ts.getD k 0 - ts.getD k 0) (ts.getD k 0 - ts.getD k 0) := rfl
    rw [e, ih]; omega
theorem distP_zero {ts ps : List Int} (k : Nat) : 0 ≤ distP ts ps k ∧ (distP ts ps k ≤ 0 → ∀ i, i < k → ps.getD i 0 = ts.getD i 0) := by
  induction k with
  | zero => exact ⟨Int.le_refl _, fun _ i hi => absurd hi (by omega)⟩
  | succ k ih =>
    obtain ⟨i1, i2⟩ := ih
    have e : distP ts ps (k + 1) = distP ts ps k + max (ps.getD k 0 - ts.getD k 0) (ts.getD k 0 - ps.getD k 0) := rfl
    rw [e]
    refine ⟨by omega, fun h i hi => ?_⟩
    by_cases hk : i = k
    · subst hk; omega
    · exact i2 (by omega) i (by omega)
theorem list_same {a b : List Int} {n : Nat} (ha : a.length = n) (hb : b.length = n) (h : ∀ i, i < n → a.getD i 0 = b.getD i 0) : a = b := by
  refine List.ext_getElem (by omega) fun i h1 h2 => ?_
  have := h i (by omega)
  rw [List.getD_eq_getElem?_getD, List.getElem?_eq_getElem h1, List.getD_eq_getElem?_getD, List.getElem?_eq_getElem h2] at this
  exact this
theorem rFeas_err {beg up down : Int} {ls : List (Int × Int)} {ps : List Int} (h : (rFeas beg up down ls ps).2 ≠ 0) : (rFeas beg up down ls ps).1 = false := by
  unfold rFeas at h ⊢
  split at h
  · rename_i h1; rw [if_pos h1]
  · rename_i h1
    rw [if_neg h1]
    split at h
    · rename_i h2; rw [if_pos h2]
    · exact absurd rfl h
theorem rFeas_good {beg up down : Int} {ls : List (Int × Int)} {ps : List Int} (h : (rFeas beg up down ls ps).2 = 0) : rCheckP ls beg up down = 0 ∧ ps.length = ls.length := by
  unfold rFeas at h
  split at h
  · rename_i h1; exact absurd h h1
  · rename_i h1
    split at h
    · cases h
    · rename_i h2
      exact ⟨by simpa using h1, by simpa using h2⟩
theorem within_none {beg up down : Int} {ls : List (Int × Int)} {ps : List Int} (hf : (rFeas beg up down ls ps).2 = 0) (h : (rRange beg up down ls).2 ≠ 0) : (rRange beg up down ls).1 = [] ∧ (rFeas beg up down ls ps).1 = false := by
  obtain ⟨h1, h2⟩ := rFeas_good hf
  unfold rRange at h ⊢
  rw [if_neg (by simpa using h1)] at h ⊢
  split at h
  · rename_i h3
    rw [if_pos h3]
    refine ⟨rfl, ?_⟩
    cases hc : (rFeas beg up down ls ps).1
    · rfl
    · obtain ⟨_, _, hp⟩ := rFeas_true (show rFeas beg up down ls ps = (true, 0) from Prod.ext hc hf)
      rw [fok_true hp _ (Nat.le_refl _)] at h3
      cases h3
  · exact absurd rfl h
theorem within_not {beg up down : Int} {ls : List (Int × Int)} {ps : List Int} (hf : (rFeas beg up down ls ps).2 = 0) (h : (rFeas beg up down ls ps).1 = false) : (rNear beg up down ls ps).2.2 ≠ 0 ∨ 0 < (rNear beg up down ls ps).2.1 := by
  obtain ⟨h1, h2⟩ := rFeas_good hf
  by_cases hn : (rNear beg up down ls ps).2.2 = 0
  · right
    have g := rNear_good hn
    obtain ⟨z1, z2⟩ := distP_zero (ts := ps) (ps := (rNear beg up down ls ps).1) ls.length
    rw [g.dist] at z1 z2
    rcases Int.lt_or_le 0 (rNear beg up down ls ps).2.1 with hlt | hle
    · exact hlt
    · exfalso
      have e := list_same g.plen h2 (z2 hle)
      have := g.feas
      rw [e] at this
      rw [this] at h
      cases h
  · exact .inl hn
theorem within_yes {beg up down : Int} {ls : List (Int × Int)} {ps : List Int} (hf : (rFeas beg up down ls ps).2 = 0) (h : (rFeas beg up down ls ps).1 = true) :
    rRange beg up down ls = (rEnd beg up down ls ls.length 0, 0) ∧ (∀ i, i < ls.length → ((rEnd beg up down ls ls.length 0).getD i (0, 0)).1 ≤ ps.getD i 0 ∧ ps.getD i 0 ≤ ((rEnd beg up down ls ls.length 0).getD i (0, 0)).2) ∧ (rNear beg up down ls ps).2.2 = 0 ∧ (rNear beg up down ls ps).2.1 = 0 := by
  have hT : rFeas beg up down ls ps = (true, 0) := Prod.ext h hf
  obtain ⟨h1, h2, hp⟩ := rFeas_true hT
  have hlim := (rCheckP_ok h1).2.1
  have hb : ∀ i, i < ls.length → 0 ≤ ps.getD i 0 ∧ ps.getD i 0 ≤ 100000 := fun i hi => by
    obtain ⟨a, b, _⟩ := hp i hi
    have hg : ls.getD i (0, 0) ∈ ls := by rw [List.getD_eq_getElem?_getD, List.getElem?_eq_getElem hi]; exact List.getElem_mem _
    have := hlim _ hg
    omega
  have h3 : has (rOut · 100000) ps = false := by
    unfold has
    rw [List.any_eq_false]
    intro p hpm
    obtain ⟨j, hj, rfl⟩ := List.getElem_of_mem hpm
    have := hb j (by omega)
    rw [List.getD_eq_getElem?_getD, List.getElem?_eq_getElem hj] at this
    simpa using rOut_false.2 this
  have ok := rOk_of h1 h2 h3
  have h4 := (ramp_above ok ls.length (Nat.le_refl _) hp).1
  have h5 : (rNear beg up down ls ps).2.2 = 0 := by
    unfold rNear
    rw [if_neg (by rw [h1]; simp), if_neg (by rw [h2]; simp), if_neg (by rw [h3]; decide), if_neg (by simpa using h4)]
  have g := rNear_good h5
  refine ⟨?_, fun i hi => ?_, h5, ?_⟩
  · unfold rRange
    rw [if_neg (by simpa using h1), if_neg (by rw [fok_true hp _ (Nat.le_refl _)]; decide)]
  · rw [rEnd_at hi, if_neg (by omega)]
    have := bk_mem hp (ls.length - 1 - i) (by omega)
    rw [show ls.length - 1 - (ls.length - 1 - i) = i by omega] at this
    exact this
  · have b1 := g.best ps hT
    rw [distP_self] at b1
    have b2 := (distP_zero (ts := ps) (ps := (rNear beg up down ls ps).1) ls.length).1
    rw [g.dist] at b2
    omega
end Go.Proofs.Ytchafkocobbndaa.Pl
namespace Go.Proofs.Ytchafkocobbndaa
open Go.RowKit
theorem feas_call2 (A B : Option Addr) (w : World) (hr : Reads w w.heap.size 2 A 1 (pairs [(0, 9)])) (hq : Reads w w.heap.size 1 B 1 (ints [5])) :
    Calls Try.prog 16 #[.slice A 1 1, .int .i64 0, .int .i64 5, .int .i64 5, .slice B 1 1] w fun e w' => e = .returned (.tuple #[.bool true, .int .i64 0]) ∧ Below w.heap.size w w' := by
  have h1 := rFeas_any A B 1 1 1 1 [(0, 9)] [5] 0 5 5 w hr hq
  rw [Pl.feas_ex] at h1
  exact h1
set_option maxHeartbeats 6400000 in
set_option maxRecDepth 100000 in
theorem rampWithin_walk (hsort : SortPOk) (A : Option Addr) (n c : Nat) (ls : List (Int × Int)) (beg up down : Int) (B : Option Addr) (m d : Nat) (ps : List Int) (w : World) (hr : Reads w w.heap.size 2 A n (pairs ls)) (hq : Reads w w.heap.size 1 B m (ints ps)) :
    Calls Try.prog 8 #[.slice A n c, .int .i64 beg, .int .i64 up, .int .i64 down, .slice B m d] w fun e w' => e = .returned (.bool true) ∧ Below w.heap.size w w' := by
  have HNX := Lib.hid (near_any hsort)
  have HNE := Lib.hid (fun w h1 h2 => rNear_any hsort A B n m c d ls ps beg up down w h1 h2)
  have HFE := Lib.hid (fun w h1 h2 => rFeas_any A B n m c d ls ps beg up down w h1 h2)
  have HRG := Lib.hid (fun w h1 => range_any A n c ls beg up down w h1)
  have HFX := Lib.hid feas_call2
  have L0 := Lib.hid hr.pair_len
  have L1 := Lib.hid hq.int_len
  have A0 := (Below.refl w.heap.size w).alloc (Nat.le_refl _) (.cells #[.int .i64 0, .int .i64 9] 56)
  have R1 := Lib.hid (Reads.lit w #[.int .i64 0, .int .i64 9] 56 1 2 w.heap.size rfl rfl)
  have S0 : Hid ((w.alloc (.cells #[.int .i64 0, .int .i64 9] 56)).heap.size = w.heap.size + 1) := by show _ = _; simp
  have HB0 := Lib.hid A0
  have HR0 := Lib.hid (hr.go A0)
  have HQ0 := Lib.hid (hq.go A0)
  have HFB := Lib.hid (Pl.rFeas_err (beg := beg) (up := up) (down := down) (ls := ls) (ps := ps))
  have HFN := Lib.hid (Pl.within_none (beg := beg) (up := up) (down := down) (ls := ls) (ps := ps))
  have HFO := Lib.hid (Pl.within_not (beg := beg) (up := up) (down := down) (ls := ls) (ps := ps))
  have HFY := Lib.hid (Pl.within_yes (beg := beg) (up := up) (down := down) (ls := ls) (ps := ps))
  have HFG := Lib.hid (Pl.rFeas_good (beg := beg) (up := up) (down := down) (ls := ls) (ps := ps))
  rw [L0.out] at HFY
  unfold SchedSaid at HNE
  unfold FeasSaid at HFE
  unfold RangeSaid at HRG
  clear hr hq A0
  go_enter Try.func8, Try.ntmps8
  go_wp2_with fail
  generalize w.alloc (.cells #[.int .i64 0, .int .i64 9] 56) = wb at *
  have A2 := (Below.refl wb.heap.size wb).alloc (Nat.le_refl _) (.cells #[.int .i64 5] 3)
  have R2 := Lib.hid (Reads.lit wb #[.int .i64 5] 3 1 1 (w.heap.size + 1) S0.out.symm rfl)
  have R12 := Lib.hid (R1.out.go A2)
  have HB2 := Lib.hid (HB0.out.trans (A2.mono HB0.out.size))
  have HR2 := Lib.hid (HR0.out.go A2)
  have HQ2 := Lib.hid (HQ0.out.go A2)
  clear A2 HB0 HR0 HQ0 R1 S0
  generalize wb.alloc (.cells #[.int .i64 5] 3) = wc at *
  refine (HFX.out _ _ wc R12.out R2.out).mono ?_
  rintro e1 w1 ⟨rfl, hb⟩
  have HB3 := Lib.hid (HB2.out.trans (hb.mono HB2.out.size))
  have HR3 := Lib.hid (HR2.out.go hb)
  have HQ3 := Lib.hid (HQ2.out.go hb)
  clear hb HB2 HR2 HQ2 R12 R2
  go_wp2_with fail
  refine (HNX.out w1).mono ?_
  rintro e1 w2 ⟨rfl, hb⟩
  have HB4 := Lib.hid (HB3.out.trans (hb.mono HB3.out.size))
  have HR4 := Lib.hid (HR3.out.go hb)
  have HQ4 := Lib.hid (HQ3.out.go hb)
  clear hb HB3 HR3 HQ3
  go_wp2_with fail
  refine (HRG.out w2 HR4.out).mono ?_
  rintro e1 w3 ⟨Ax, cx, rfl, hrx, hb⟩
  have HB5 := Lib.hid (HB4.out.trans (hb.mono HB4.out.size))
  have HR5 := Lib.hid (HR4.out.go hb)
  have HQ5 := Lib.hid (HQ4.out.go hb)
  have RX5 := Lib.hid hrx
  clear hb hrx HB4 HR4 HQ4 HRG
  go_wp2_with fail
  refine (HFE.out w3 HR5.out HQ5.out).mono ?_
  rintro e1 w4 ⟨rfl, hb⟩
  have HB6 := Lib.hid (HB5.out.trans (hb.mono HB5.out.size))
  have HR6 := Lib.hid (HR5.out.go hb)
  have HQ6 := Lib.hid (HQ5.out.go hb)
  have RX6 := Lib.hid (RX5.out.go hb)
  clear hb HB5 HR5 HQ5 RX5 HFE
  go_wp2_with fail
  refine (HNE.out w4 HR6.out HQ6.out).mono ?_
  rintro e1 w5 ⟨Ap, cp, rfl, _, hb⟩
  have HB7 := Lib.hid (HB6.out.trans (hb.mono HB6.out.size))
  have HQ7 := Lib.hid (HQ6.out.go hb)
  have RX7 := Lib.hid (RX6.out.go hb)
  clear hb HB6 HR6 HQ6 RX6 HNE
  generalize Pl.rNear beg up down ls ps = NE at *
  obtain ⟨pl, dn, er⟩ := NE
  generalize Pl.rFeas beg up down ls ps = FE at *
  obtain ⟨is, f⟩ := FE
  simp only at HFB HFN HFO HFY HFG ⊢
  by_cases hf : f = 0
  · have hmn : m = n := by have := (HFG.out hf).2; rw [L0.out, L1.out] at this; exact this
    subst hmn
    have hm24 : m ≤ 24 := by have := (Pl.rCheckP_ok (HFG.out hf).1).1; rw [L0.out] at this; exact this
    have hf2 : (f != 0) = false := by simpa using hf
    by_cases he : (Pl.rRange beg up down ls).2 = 0
    · have he2 : ((Pl.rRange beg up down ls).2 != 0) = false := by simpa using he
      cases is with
      | false =>
        have hor := HFO.out hf rfl
        by_cases her : er = 0
        · have her2 : (er != 0) = false := by simpa using her
          have hdn : decide (0 < dn) = true := decide_eq_true (by rcases hor with h | h; exact absurd her h; exact h)
          have hdn2 : decide (dn > 0) = true := hdn
          clear hf her hor
          generalize Pl.rRange beg up down ls = RG at *
          obtain ⟨xl, xe⟩ := RG
          simp only at he he2 ⊢
          clear he
          go_wp2_with fail
          go_ret
          exact ⟨rfl, HB7.out⟩
        · have her2 : (er != 0) = true := by simpa using her
          clear hf her hor
          generalize Pl.rRange beg up down ls = RG at *
          obtain ⟨xl, xe⟩ := RG
          simp only at he he2 ⊢
          clear he
          go_wp2_with fail
          go_ret
          exact ⟨rfl, HB7.out⟩
      | true =>
        obtain ⟨y1, y2, y3, y4⟩ := HFY.out hf rfl
        subst y3 y4
        rw [y1] at RX7 ⊢
        have HY := Lib.hid y2
        simp only [Pl.rEnd_len] at RX7 ⊢
        clear y1 y2 he he2 hf HFY HFO HFN HFB HFG
        generalize Pl.rEnd beg up down ls m 0 = XL at *
        go_wp2_with fail
        go_loopw [89] (fun i wr => ∃ k : Nat, k ≤ m ∧ i = .int .i64 k ∧ Hid (Below w5.heap.size w5 wr)) (fun i _ => m - (intOf i).toNat)
        case atStart => exact ⟨0, Nat.zero_le _, rfl, Below.refl _ _⟩
        case round =>
          obtain ⟨k, hk, rfl, HB⟩ := hrel
          by_cases hlt : k < m
          · obtain ⟨b, o, rfl, hl, hcp⟩ := (HQ7.out.go HB.out).int_at hlt
            obtain ⟨b5, o5, rfl, hl5, x0, x1⟩ := (RX7.out.go HB.out).pair_at hlt
            obtain ⟨z0, z1⟩ := HY.out k hlt
            have hpd : ps.getD k 0 = ps[k] := by rw [List.getD_eq_getElem?_getD, List.getElem?_eq_getElem hl]; rfl
            have hxd : XL.getD k (0, 0) = XL[k] := by rw [List.getD_eq_getElem?_getD, List.getElem?_eq_getElem hl5]; rfl
            rw [hpd, hxd] at z0 z1
            clear hpd hxd
            generalize ps[k] = pk at *
            generalize XL[k] = xk at *
            obtain ⟨xa, xb⟩ := xk
            simp only at x0 x1 z0 z1
            have d0 : decide ((m : Int) ≤ (k : Int)) = false := decide_eq_false (by omega)
            have d1 : decide ((k : Int) ≥ (m : Int)) = false := decide_eq_false (by omega)
            have d2 : decide (pk < xa) = false := decide_eq_false (by omega)
            have d3 : decide (xb < pk) = false := decide_eq_false (by omega)
            have k0 : (0 : Int) ≤ (k : Int) := by omega
            have k1 : (k : Int) < (m : Int) := by omega
            go_wp2_with fail
            go_roundw
            case rel => exact ⟨k + 1, by omega, by go_num, HB⟩
            case measure => simp [intOf]; omega
          · have : k = m := by omega
            subst this
            go_wp2_with fail
            go_ret
            exact ⟨rfl, HB7.out.trans (HB.out.mono HB7.out.size)⟩
    · have he2 : ((Pl.rRange beg up down ls).2 != 0) = true := by simpa using he
      obtain ⟨n1, n2⟩ := HFN.out hf he
      subst n2
      rw [n1] at RX7 ⊢
      clear hf he n1 HFY HFO HFN HFB HFG RX7
      generalize (Pl.rRange beg up down ls).2 = xe at *
      simp only [List.length_nil]
      go_wp2_with fail
      go_ret
      exact ⟨rfl, HB7.out⟩
  · have hf2 : (f != 0) = true := by simpa using hf
    have hi := HFB.out hf
    subst hi
    clear hf HFY HFO HFN HFB HFG
    generalize Pl.rRange beg up down ls = RG at *
    obtain ⟨xl, xe⟩ := RG
    go_wp2_with fail
    go_ret
    exact ⟨rfl, HB7.out⟩
end Go.Proofs.Ytchafkocobbndaa
namespace Go.Proofs.Ytchafkocobbndaa
open Go.ChangeShapes Go.WideShapes Go.ChangeAt Go.RowKit
set_option maxRecDepth 100000 in
theorem rampWithin_lifted (os : Os) (started : os.Started) (H : Type) (enc : TypeId × Value → H) :
    ReturnsInHanded {} Try.checked os 8 .any (Rows.rampWithinSpec.pre6 enc Try.prog Try.f8 Rows.rampWithinRow.domain false) (Rows.rampWithinSpec.post enc Try.prog Try.f8 false true false false) := by
  refine returnsInHanded_of_change (C := Try.checked) Try.own started (by kernel_rfl) Try.func8
    (ChangeSpec.witness6 (enc := enc) (C := Try.checked) false ⟨#[], #[.slice none 0 0, .int .i64 0, .int .i64 0, .int .i64 0, .slice none 0 0], []⟩ 8 (by kernel_rfl) (by kernel_rfl) (by kernel_rfl) (by kernel_rfl)) ?_
  intro W base args ds gs before hval0 hW _ _
  have hval : ∀ (j : Nat) t v, Try.f8.params[j]? = some t → args[j]? = some v → Value.okWide Try.prog W .any base t v := hval0
  have hW' := hW
  obtain ⟨p, q, hA0, hV, rfl, _, _⟩ := hW
  have hA : DataW.TrodAll enc Try.prog W 0 (fun _ => true) true Try.f8.params.toList args.toList ds p := hA0
  rw [Try.params8] at hA hval
  obtain ⟨v0, v1, v2, v3, v4, d0, d1, d2, d3, d4, p0, p1, p2, p3, p4, rfl, rfl, rfl, h0, h1, h2, h3, h4⟩ := trodAll_five hA
  obtain ⟨rfl, rfl⟩ := trodVars_none hV
  obtain ⟨A0, n0, c0, l0, rfl, q0, m0, r0⟩ := open_pairs_arg Try.underlying52 Try.underlying56 (by kernel_rfl) (by kernel_rfl) Try.underlying3 Try.underlying3 (hval 0 52 v0 rfl rfl) h0
  obtain ⟨z1, rfl, b1⟩ := open_int_arg Try.underlying3 (hval 1 3 v1 rfl rfl) h1
  obtain ⟨z2, rfl, b2⟩ := open_int_arg Try.underlying3 (hval 2 3 v2 rfl rfl) h2
  obtain ⟨z3, rfl, b3⟩ := open_int_arg Try.underlying3 (hval 3 3 v3 rfl rfl) h3
  obtain ⟨A4, n4, c4, z4, rfl, q4, m4, r4, b4⟩ := open_ints_arg Try.underlying23 Try.underlying3 (by kernel_rfl) (hval 4 23 v4 rfl rfl) h4
  refine (rampWithin_walk sortP_ok A0 n0 c0 l0 z1 z2 z3 A4 n4 c4 z4 W r0 r4).mono fun e W' ⟨he, hw⟩ => ?_
  refine ⟨_, he, law_post Try.laidOut ?_ rfl Try.underlying4 rfl rfl hW' hw⟩
  rw [Try.params8]
  intro t ht
  simp at ht
  rcases ht with rfl | rfl | rfl
  · exact ⟨by kernel_rfl, of_decide_eq_true (by kernel_rfl)⟩
  · exact ⟨by kernel_rfl, of_decide_eq_true (by kernel_rfl)⟩
  · exact ⟨by kernel_rfl, of_decide_eq_true (by kernel_rfl)⟩
theorem rampWithin_holds : Rows.RampWithinSaid :=
  OpenClaim.holds_of_wide 8 Try.f8 rfl rfl rfl rfl rfl rfl rfl ⟨rfl, rfl, rfl, rfl, rfl⟩ rfl rfl rfl rfl rfl (by kernel_rfl) Try.func8 (by kernel_rfl)
    (of_decide_eq_true (by kernel_rfl)) (by unfold Func.isWrapper; rw [if_neg (of_decide_eq_false (by kernel_rfl))]; exact ⟨rfl, rfl⟩)
    (fun os started H enc _ => rampWithin_lifted os started H enc)
end Go.Proofs.Ytchafkocobbndaa
