/- reserve.blocks: the comparison of blocks, and the sort of an owned row of blocks, empty or not. No condition. -/
import Derived.Test.YtpbomomgjhbljaaSrtER
import Derived.Test.YtpbomomgjhbljaaPRes
namespace Go.Proofs.Ytpbomomgjhbljaa
open Go.RowKit
theorem insR_nil (fv : Value) (w : World) : Calls Try.prog 128 #[.slice none 0 0, .int .i64 0, .int .i64 0, fv] w fun e w' => e = .returned (.tuple #[]) ∧ w = w' := by
  go_enter Try.func128, Try.ntmps128
  go_wp2_with fail
  go_loopw [8] (fun i wr => i = .int .i64 1 ∧ w = wr) (fun _ _ => 0)
  case atStart => exact ⟨rfl, rfl⟩
  case round =>
    obtain ⟨rfl, rfl⟩ := hrel
    go_wp2_with fail
    go_end0
    exact ⟨rfl, rfl⟩
theorem stableR_nil (fv : Value) (w : World) : Calls Try.prog 113 #[.slice none 0 0, .int .i64 0, fv] w fun e w' => e = .returned (.tuple #[]) ∧ w = w' := by
  go_enter Try.func113, Try.ntmps113
  go_wp2_with fail
  go_loopw [7, 8] (fun va vb wr => va = .int .i64 0 ∧ vb = .int .i64 20 ∧ w = wr) (fun _ _ _ => 0)
  case atStart => exact ⟨rfl, rfl, rfl⟩
  case round =>
    obtain ⟨rfl, rfl, rfl⟩ := hrel
    go_wp2_with fail
    refine (insR_nil _ _).mono ?_
    rintro e w1 ⟨rfl, rfl⟩
    obtain ⟨wo, rfl⟩ : ∃ wo : World, wo = w := ⟨_, rfl⟩
    go_wp2_with fail
    go_loopw [6] (fun vs wr => vs = .int .i64 20 ∧ wo = wr) (fun _ _ => 0)
    case atStart => exact ⟨rfl, rfl⟩
    case round =>
      obtain ⟨rfl, rfl⟩ := hrel
      go_wp2_with fail
      go_end0
      exact ⟨rfl, rfl⟩
theorem sortR_nil (fv : Value) (w : World) : Calls Try.prog 98 #[.slice none 0 0, fv] w fun e w' => e = .returned (.tuple #[]) ∧ w = w' := by
  go_enter Try.func98, Try.ntmps98
  go_wp2_with fail
  refine (stableR_nil _ _).mono ?_
  rintro e w1 ⟨rfl, rfl⟩
  go_wp2_with fail
  go_end0
  exact ⟨rfl, rfl⟩
namespace Pl
def rcf (x y : B4) : Int := if x.2.2.1 ≠ y.2.2.1 then x.2.2.1 - y.2.2.1 else if x.2.2.2 = false ∧ y.2.2.2 = true then -1 else if x.2.2.2 = true ∧ y.2.2.2 = false then 1 else 0
theorem rcf_lt (x y : B4) : rcf x y < 0 ↔ (x.2.2.1 < y.2.2.1 ∨ (x.2.2.1 = y.2.2.1 ∧ x.2.2.2 = false ∧ y.2.2.2 = true)) := by
  unfold rcf
  by_cases h : x.2.2.1 = y.2.2.1
  · rw [if_neg (by simpa using h)]
    cases x.2.2.2 <;> cases y.2.2.2 <;> simp [h]
  · rw [if_pos h]
    constructor
    · intro h2; exact .inl (by omega)
    · rintro (h2 | ⟨h2, _⟩)
      · omega
      · exact absurd h2 h
theorem rcf_swo : Sort.SWO (Srt.ltOf rcf) := by
  constructor
  · intro x; unfold Srt.ltOf; rw [decide_eq_false_iff_not, rcf_lt]; cases x.2.2.2 <;> simp
  · intro x y z; unfold Srt.ltOf; simp only [decide_eq_true_eq, rcf_lt]
    rintro (h1 | ⟨h1, h2, h3⟩) (h4 | ⟨h4, h5, h6⟩)
    · exact .inl (by omega)
    · exact .inl (by omega)
    · exact .inl (by omega)
    · rw [h3] at h5; cases h5
  · intro x y z; unfold Srt.ltOf; simp only [decide_eq_false_iff_not, rcf_lt]
    intro h1 h2 h3
    rcases h3 with h3 | ⟨h3, h4, h5⟩
    · rcases Int.lt_trichotomy y.2.2.1 z.2.2.1 with e | e | e
      · exact h2 (.inl e)
      · exact h1 (.inl (by omega))
      · exact h1 (.inl (by omega))
    · rcases Int.lt_trichotomy y.2.2.1 z.2.2.1 with e | e | e
      · exact h2 (.inl e)
      · cases hy : y.2.2.2
        · exact h2 (.inr ⟨e, hy, h5⟩)
        · exact h1 (.inr ⟨by omega, h4, hy⟩)
      · exact h1 (.inl (by omega))
theorem rsorted_of {S0 : List B4} {m : Nat} {d : Array B4} (hm : S0.length = m) (hz : d.size = m) (hp : Sort.PermIn 0 m S0.toArray d) (hs : Sort.SortedIn (Srt.ltOf rcf) 0 m d) :
    d.toList.Perm S0 ∧ d.toList.Pairwise rle := by
  subst hm
  refine ⟨?_, ?_⟩
  · have h := hp.2.2
    rw [show d.extract 0 S0.length = d from by rw [← hz]; simp, show S0.toArray.extract 0 S0.length = S0.toArray from by
      apply Array.ext'
      simp [List.take_of_length_le]] at h
    first
      | exact h
      | exact h.symm
      | simpa using h
      | simpa using h.symm
  · rw [List.pairwise_iff_getElem]
    intro i j hi hj hij
    have hj2 : j < S0.length := by rw [Array.length_toList] at hj; omega
    have h := hs i j (Nat.zero_le _) hij hj2
    rw [getElem!_pos d i (by omega), getElem!_pos d j (by omega)] at h
    unfold Srt.ltOf at h
    rw [decide_eq_false_iff_not, rcf_lt] at h
    simp only [Array.getElem_toList]
    unfold rle
    generalize d[i] = a at *
    generalize d[j] = b at *
    by_cases e : a.2.2.1 = b.2.2.1
    · refine .inr ⟨e, fun ha => ?_⟩
      cases hb : b.2.2.2
      · exact absurd (.inr ⟨e.symm, hb, ha⟩) h
      · rfl
    · refine .inl ?_
      by_cases e2 : b.2.2.1 < a.2.2.1
      · exact absurd (.inl e2) h
      · omega
def isortR (S : List B4) : List B4 := (Sort.insertionSort (Srt.ltOf rcf) S.toArray 0 S.length).toList
theorem isortR_nil : isortR [] = [] := by unfold isortR; first | rfl | kernel_rfl | simp [Sort.insertionSort]
end Pl
theorem enters_rblocks1 : ∀ args w, Sem.run Try.prog (callFunc 99 args) w = .ok (.enter 99 args) w := by intro args w; go_simp
set_option maxRecDepth 100000 in
theorem rblocks1_any (x y : Int × Int × Int × Bool) (w : World) (hx : -1000000 ≤ x.2.2.1 ∧ x.2.2.1 ≤ 1000000) (hy : -1000000 ≤ y.2.2.1 ∧ y.2.2.1 ≤ 1000000) :
    Calls Try.prog 99 #[Srt.valR x, Srt.valR y] w fun e w' => e = .returned (.int .i64 (Pl.rcf x y)) ∧ Below w.heap.size w w' := by
  obtain ⟨a, b, c, f⟩ := x
  obtain ⟨a', b', c', f'⟩ := y
  simp only at hx hy
  unfold Srt.valR Pl.rcf
  simp only
  by_cases h : c = c'
  · subst h
    cases f <;> cases f'
    all_goals
      go_enter Try.func99, Try.ntmps99
      go_wp2_with fail
      go_ret
      exact ⟨by first | rfl | (simp; done) | (apply ret_int; simp), ((Below.refl _ _).alloc (Nat.le_refl _) _).alloc (by simp) _⟩
  · have h1 : (c != c') = true := by simpa using h
    rw [if_pos h]
    go_enter Try.func99, Try.ntmps99
    go_wp2_with fail
    go_ret
    exact ⟨rfl, ((Below.refl _ _).alloc (Nat.le_refl _) _).alloc (by simp) _⟩
theorem info_rblock : (Try.prog.info? 118).map (fun i => (i.zero, i.size, i.bytes)) = some (some (.agg #[.int .i64 0, .int .i64 0, .int .i64 0, .bool false]), 4, 32) := by kernel_rfl
def SortRSaid (base : Nat) (Ab : Option Addr) (cb : Nat) (S : List Pl.B4) (w : World) (e : Ending) (w' : World) : Prop :=
  e = .returned (.tuple #[]) ∧ ∃ d : List Pl.B4, d.Perm S ∧ d.Pairwise Pl.rle ∧ (S.length < 20 → d = Pl.isortR S) ∧ w'.ownsRow base 118 4 (.slice Ab S.length cb) S.length (d.flatMap Srt.encR) ∧ w.grownBy w' (Value.slice Ab S.length cb).ownBlock
theorem sortR_own (base : Nat) (Ab : Option Addr) (cb : Nat) (S : List Pl.B4) (w : World) (hl : S.length ≤ 1000000) (hS : ∀ b ∈ S, -1000000 ≤ b.2.2.1 ∧ b.2.2.1 ≤ 1000000) (hown : w.ownsRow base 118 4 (.slice Ab S.length cb) S.length (S.flatMap Srt.encR)) :
    Calls Try.prog 98 #[.slice Ab S.length cb, .func (.func 99) #[] #[]] w (SortRSaid base Ab cb S w) := by
  rcases hown.2 with ⟨hv, he⟩ | ⟨g, cap, cur, hv, hg1, _, hcap, _⟩
  · injection hv with hv1 hv2 hv3
    have hS0 : S = [] := List.eq_nil_of_length_eq_zero hv2
    subst hS0 hv1 hv3
    refine (sortR_nil _ _).mono ?_
    rintro e w1 ⟨rfl, rfl⟩
    exact ⟨rfl, [], List.Perm.refl _, List.Pairwise.nil, fun _ => Pl.isortR_nil.symm, hown, World.grownBy.refl _ _⟩
  · injection hv with hv1 hv2 hv3
    subst hv1 hv3
    have hcmp : Srt.CmpOk 99 #[] Srt.valR Pl.rcf (fun x => -1000000 ≤ x.2.2.1 ∧ x.2.2.1 ≤ 1000000) g w := by
      intro wt x y hkp qx qy
      exact rblocks1_any x y wt qx qy
    have hrow : Srt.Row Srt.encR 4 base 118 g S.length cb w S.toArray := ⟨by simp, fun _ => rfl, fun _ v hv => by simp [Srt.encR] at hv; rcases hv with rfl | rfl | rfl | rfl <;> rfl, hg1, by rw [List.toList_toArray]; exact hown⟩
    refine (Srt.sortR base g S.length cb 99 _ Pl.rcf (fun x => -1000000 ≤ x.2.2.1 ∧ x.2.2.1 ≤ 1000000) w enters_rblocks1 hcmp Pl.rcf_swo hl S.toArray w (Srt.Kp.refl _ _) hrow (fun i hi => by
          rw [getElem!_pos _ i (by simpa using hi)]
          simp only [List.getElem_toArray]
          exact hS _ (List.getElem_mem hi))).mono ?_
    rintro e w6 ⟨rfl, d', hrow, hperm, hsort, hdx, hkp⟩
    obtain ⟨hpm, hsd⟩ := Pl.rsorted_of rfl hrow.size hperm hsort
    exact ⟨rfl, d'.toList, hpm, hsd, fun hh => by unfold Pl.isortR; rw [← hdx hh], hrow.own, hkp⟩
theorem Reads.b4_at {w : World} {B n : Nat} {A : Option Addr} {S : List Pl.B4} (h : Reads w B 4 A n (S.flatMap Srt.encR)) {k : Nat} (hk : k < n) :
    ∃ b o, A = some ⟨b, o, none⟩ ∧ ∃ hl : k < S.length, w.cell? ⟨b, o + k * 4, none⟩ = some (.int .i64 (S[k]'hl).1) ∧ w.cell? ⟨b, o + k * 4 + 1, none⟩ = some (.int .i64 (S[k]'hl).2.1) ∧ w.cell? ⟨b, o + k * 4 + 2, none⟩ = some (.int .i64 (S[k]'hl).2.2.1) ∧ w.cell? ⟨b, o + k * 4 + 3, none⟩ = some (.bool (S[k]'hl).2.2.2) := by
  have hfl : (S.flatMap Srt.encR).length = S.length * 4 := by
    clear h
    induction S with
    | nil => rfl
    | cons b S ih => rw [List.flatMap_cons, List.length_append, ih]; simp [Srt.encR]; omega
  obtain ⟨b, o, rfl, _, hc⟩ := h.where_ (by omega) (by omega)
  have hl : k < S.length := by have := h.1; rw [hfl] at this; omega
  refine ⟨b, o, rfl, hl, ?_, ?_, ?_, ?_⟩
  · have := hc (k * 4) (.int .i64 S[k].1) (by have := Srt.flat_at Srt.encR 4 (fun _ => rfl) S k 0 hl (by omega); rw [Nat.add_zero] at this; rw [this]; rfl)
    exact this
  · have := hc (k * 4 + 1) (.int .i64 S[k].2.1) (by rw [Srt.flat_at Srt.encR 4 (fun _ => rfl) S k 1 hl (by omega)]; rfl)
    rwa [← Nat.add_assoc] at this
  · have := hc (k * 4 + 2) (.int .i64 S[k].2.2.1) (by rw [Srt.flat_at Srt.encR 4 (fun _ => rfl) S k 2 hl (by omega)]; rfl)
    rwa [← Nat.add_assoc] at this
  · have := hc (k * 4 + 3) (.bool S[k].2.2.2) (by rw [Srt.flat_at Srt.encR 4 (fun _ => rfl) S k 3 hl (by omega)]; rfl)
    rwa [← Nat.add_assoc] at this
end Go.Proofs.Ytpbomomgjhbljaa
