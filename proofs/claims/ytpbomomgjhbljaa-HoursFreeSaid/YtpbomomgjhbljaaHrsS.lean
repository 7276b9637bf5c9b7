/- hours.Change: the comparison of blocks, and the sort of an owned row of blocks, empty or not. No condition. -/
import Derived.Test.YtpbomomgjhbljaaSrtEH
import Derived.Test.YtpbomomgjhbljaaPDispB
import Derived.Test.YtpbomomgjhbljaaPHrs
namespace Go.Proofs.Ytpbomomgjhbljaa
open Go.RowKit
theorem insH_nil (fv : Value) (w : World) : Calls Try.prog 114 #[.slice none 0 0, .int .i64 0, .int .i64 0, fv] w fun e w' => e = .returned (.tuple #[]) ∧ w = w' := by
  go_enter Try.func114, Try.ntmps114
  go_wp2_with fail
  go_loopw [8] (fun i wr => i = .int .i64 1 ∧ w = wr) (fun _ _ => 0)
  case atStart => exact ⟨rfl, rfl⟩
  case round =>
    obtain ⟨rfl, rfl⟩ := hrel
    go_wp2_with fail
    go_end0
    exact ⟨rfl, rfl⟩
theorem stableH_nil (fv : Value) (w : World) : Calls Try.prog 102 #[.slice none 0 0, .int .i64 0, fv] w fun e w' => e = .returned (.tuple #[]) ∧ w = w' := by
  go_enter Try.func102, Try.ntmps102
  go_wp2_with fail
  go_loopw [7, 8] (fun va vb wr => va = .int .i64 0 ∧ vb = .int .i64 20 ∧ w = wr) (fun _ _ _ => 0)
  case atStart => exact ⟨rfl, rfl, rfl⟩
  case round =>
    obtain ⟨rfl, rfl, rfl⟩ := hrel
    go_wp2_with fail
    refine (insH_nil _ _).mono ?_
    rintro e w1 ⟨rfl, rfl⟩
    obtain ⟨wo, rfl⟩ : ∃ wo : World, wo = w := ⟨_, rfl⟩
    go_wp2_with fail
    go_loopw [6] (fun vs wr => vs = .int .i64 20 ∧ wo = wr) (fun _ _ => 0)
    case atStart => exact ⟨rfl, rfl⟩
    case round =>
      obtain ⟨rfl, rfl⟩ := hrel
      go_wp2_with fail
      go_end0
      exact ⟨rfl, rfl⟩
theorem sortH_nil (fv : Value) (w : World) : Calls Try.prog 73 #[.slice none 0 0, fv] w fun e w' => e = .returned (.tuple #[]) ∧ w = w' := by
  go_enter Try.func73, Try.ntmps73
  go_wp2_with fail
  refine (stableH_nil _ _).mono ?_
  rintro e w1 ⟨rfl, rfl⟩
  go_wp2_with fail
  go_end0
  exact ⟨rfl, rfl⟩
namespace Pl
def hcf (x y : B3) : Int := x.2.2 - y.2.2
theorem hcf_swo : Sort.SWO (Srt.ltOf hcf) := by
  constructor
  · intro x; unfold Srt.ltOf hcf; simp
  · intro x y z; unfold Srt.ltOf hcf; simp only [decide_eq_true_eq]; omega
  · intro x y z; unfold Srt.ltOf hcf; simp only [decide_eq_false_iff_not]; omega
theorem hsorted_of {S0 : List B3} {m : Nat} {d : Array B3} (hm : S0.length = m) (hz : d.size = m) (hp : Sort.PermIn 0 m S0.toArray d) (hs : Sort.SortedIn (Srt.ltOf hcf) 0 m d) :
    d.toList.Perm S0 ∧ d.toList.Pairwise (fun a b => a.2.2 ≤ b.2.2) := by
  subst hm
  refine ⟨?_, ?_⟩
  · have h := hp.2.2
    rw [show d.extract 0 S0.length = d from by rw [← hz]; simp, show S0.toArray.extract 0 S0.length = S0.toArray from by
      apply Array.ext'
      simp [List.take_of_length_le]] at h
    first
      | exact h
      | exact h.symm
      | simpa using h
      | simpa using h.symm
  · rw [List.pairwise_iff_getElem]
    intro i j hi hj hij
    have hj2 : j < S0.length := by rw [Array.length_toList] at hj; omega
    have h := hs i j (Nat.zero_le _) hij hj2
    rw [getElem!_pos d i (by omega), getElem!_pos d j (by omega)] at h
    unfold Srt.ltOf hcf at h
    simp only [decide_eq_false_iff_not] at h
    simp only [Array.getElem_toList]
    omega
def isortH (S : List B3) : List B3 := (Sort.insertionSort (Srt.ltOf hcf) S.toArray 0 S.length).toList
theorem isortH_nil : isortH [] = [] := by unfold isortH; first | rfl | kernel_rfl | simp [Sort.insertionSort]
end Pl
theorem enters_change1 : ∀ args w, Sem.run Try.prog (callFunc 74 args) w = .ok (.enter 74 args) w := by intro args w; go_simp
set_option maxRecDepth 100000 in
theorem change1_any (x y : Int × Int × Int) (w : World) (hx : -1000000 ≤ x.2.2 ∧ x.2.2 ≤ 1000000) (hy : -1000000 ≤ y.2.2 ∧ y.2.2 ≤ 1000000) :
    Calls Try.prog 74 #[Srt.valH x, Srt.valH y] w fun e w' => e = .returned (.int .i64 (Pl.hcf x y)) ∧ Below w.heap.size w w' := by
  obtain ⟨a, b, c⟩ := x
  obtain ⟨a', b', c'⟩ := y
  simp only at hx hy
  unfold Srt.valH Pl.hcf
  simp only
  go_enter Try.func74, Try.ntmps74
  go_wp2_with fail
  go_ret
  exact ⟨rfl, ((Below.refl _ _).alloc (Nat.le_refl _) _).alloc (by simp) _⟩
theorem info_hblock : (Try.prog.info? 126).map (fun i => (i.zero, i.size, i.bytes)) = some (some (.agg #[.int .i64 0, .int .i64 0, .int .i64 0]), 3, 24) := by kernel_rfl
def SortHSaid (base : Nat) (Ab : Option Addr) (cb : Nat) (S : List Pl.B3) (w : World) (e : Ending) (w' : World) : Prop :=
  e = .returned (.tuple #[]) ∧ ∃ d : List Pl.B3, d.Perm S ∧ d.Pairwise (fun a b => a.2.2 ≤ b.2.2) ∧ (S.length < 20 → d = Pl.isortH S) ∧ w'.ownsRow base 126 3 (.slice Ab S.length cb) S.length (d.flatMap Srt.encH) ∧ w.grownBy w' (Value.slice Ab S.length cb).ownBlock
theorem sortH_own (base : Nat) (Ab : Option Addr) (cb : Nat) (S : List Pl.B3) (w : World) (hl : S.length ≤ 1000000) (hS : ∀ b ∈ S, -1000000 ≤ b.2.2 ∧ b.2.2 ≤ 1000000) (hown : w.ownsRow base 126 3 (.slice Ab S.length cb) S.length (S.flatMap Srt.encH)) :
    Calls Try.prog 73 #[.slice Ab S.length cb, .func (.func 74) #[] #[]] w (SortHSaid base Ab cb S w) := by
  rcases hown.2 with ⟨hv, he⟩ | ⟨g, cap, cur, hv, hg1, _, hcap, _⟩
  · injection hv with hv1 hv2 hv3
    have hS0 : S = [] := List.eq_nil_of_length_eq_zero hv2
    subst hS0 hv1 hv3
    refine (sortH_nil _ _).mono ?_
    rintro e w1 ⟨rfl, rfl⟩
    exact ⟨rfl, [], List.Perm.refl _, List.Pairwise.nil, fun _ => Pl.isortH_nil.symm, hown, World.grownBy.refl _ _⟩
  · injection hv with hv1 hv2 hv3
    subst hv1 hv3
    have hcmp : Srt.CmpOk 74 #[] Srt.valH Pl.hcf (fun x => -1000000 ≤ x.2.2 ∧ x.2.2 ≤ 1000000) g w := by
      intro wt x y hkp qx qy
      exact change1_any x y wt qx qy
    have hrow : Srt.Row Srt.encH 3 base 126 g S.length cb w S.toArray := ⟨by simp, fun _ => rfl, fun _ v hv => by simp [Srt.encH] at hv; rcases hv with rfl | rfl | rfl <;> rfl, hg1, by rw [List.toList_toArray]; exact hown⟩
    refine (Srt.sortH base g S.length cb 74 _ Pl.hcf (fun x => -1000000 ≤ x.2.2 ∧ x.2.2 ≤ 1000000) w enters_change1 hcmp Pl.hcf_swo hl S.toArray w (Srt.Kp.refl _ _) hrow (fun i hi => by
          rw [getElem!_pos _ i (by simpa using hi)]
          simp only [List.getElem_toArray]
          exact hS _ (List.getElem_mem hi))).mono ?_
    rintro e w6 ⟨rfl, d', hrow, hperm, hsort, hdx, hkp⟩
    obtain ⟨hpm, hsd⟩ := Pl.hsorted_of rfl hrow.size hperm hsort
    exact ⟨rfl, d'.toList, hpm, hsd, fun hh => by unfold Pl.isortH; rw [← hdx hh], hrow.own, hkp⟩
theorem Reads.b3h_at {w : World} {B n : Nat} {A : Option Addr} {S : List Pl.B3} (h : Reads w B 3 A n (S.flatMap Srt.encH)) {k : Nat} (hk : k < n) :
    ∃ b o, A = some ⟨b, o, none⟩ ∧ ∃ hl : k < S.length, w.cell? ⟨b, o + k * 3, none⟩ = some (.int .i64 (S[k]'hl).1) ∧ w.cell? ⟨b, o + k * 3 + 1, none⟩ = some (.int .i64 (S[k]'hl).2.1) ∧ w.cell? ⟨b, o + k * 3 + 2, none⟩ = some (.int .i64 (S[k]'hl).2.2) := by
  have hfl : (S.flatMap Srt.encH).length = S.length * 3 := by
    clear h
    induction S with
    | nil => rfl
    | cons b S ih => rw [List.flatMap_cons, List.length_append, ih]; simp [Srt.encH]; omega
  obtain ⟨b, o, rfl, _, hc⟩ := h.where_ (by omega) (by omega)
  have hl : k < S.length := by have := h.1; rw [hfl] at this; omega
  refine ⟨b, o, rfl, hl, ?_, ?_, ?_⟩
  · have := hc (k * 3) (.int .i64 S[k].1) (by have := Srt.flat_at Srt.encH 3 (fun _ => rfl) S k 0 hl (by omega); rw [Nat.add_zero] at this; rw [this]; rfl)
    exact this
  · have := hc (k * 3 + 1) (.int .i64 S[k].2.1) (by rw [Srt.flat_at Srt.encH 3 (fun _ => rfl) S k 1 hl (by omega)]; rfl)
    rwa [← Nat.add_assoc] at this
  · have := hc (k * 3 + 2) (.int .i64 S[k].2.2) (by rw [Srt.flat_at Srt.encH 3 (fun _ => rfl) S k 2 hl (by omega)]; rfl)
    rwa [← Nat.add_assoc] at this
end Go.Proofs.Ytpbomomgjhbljaa
