/- slices.Clone at 32-bit words: a new row with the same words. No condition. -/
import Derived.Test.YtflfbbdapbjaaaaDoorLgM
import Derived.Test.YtflfbbdapbjaaaaDoorOwn
import Derived.Test.YtflfbbdapbjaaaaDoorBaseC
import Derived.Lib.SliceRun
namespace Go.Proofs.YtflfbbdapbjaaaaDoor
open Go.RowKit
def CloneSaid (e : TypeId) (size n : Nat) (xs : List Value) (w : World) (x : Ending) (w' : World) : Prop :=
  ∃ A c, x = .returned (.slice A n c) ∧ w'.ownsRow w.heap.size e size (.slice A n c) n xs ∧ Below w.heap.size w w'
theorem own_empty (w : World) (e : TypeId) (size g base : Nat) (hg : g = w.heap.size) (hb : base ≤ w.heap.size) : (w.alloc (.cells #[] e)).ownsRow base e size (.slice (some ⟨g, 0, none⟩) 0 0) 0 [] := by
  subst hg
  exact World.ownsRow_lit w #[] 0 hb (by unfold maxLen; omega) (by simp)
theorem u32s_one (l : List Nat) : ∀ u ∈ u32s l, u.oneCell' = true := by
  intro u hu
  unfold u32s at hu
  obtain ⟨o, _, rfl⟩ := List.mem_map.1 hu
  rfl
set_option maxRecDepth 100000 in
theorem clone_u32 (A : Option Addr) (n c : Nat) (xs : List Value) (w : World) (hn : n ≤ 1000000) (hr : Reads w w.heap.size 1 A n xs) (h1 : ∀ u ∈ xs, u.oneCell' = true) :
    Calls Tryd.prog 39 #[.slice A n c] w (CloneSaid 57 1 n xs w) := by
  obtain ⟨i0, hi0, hz0, hz1, hz2⟩ := info_parts info_u32
  rcases A with _ | ⟨b, o, s⟩
  · have h0 : n = 0 := by
      rcases Nat.eq_zero_or_pos n with h | h
      · exact h
      · obtain ⟨_, h, _⟩ := hr.2 h; cases h
    subst h0
    have hl : xs = [] := List.eq_nil_of_length_eq_zero (by simpa using hr.1)
    rw [hl]
    clear hl hr hi0 hz0 hz1 hz2 h1
    have hnil : ∀ W, (binOp .eql 38 (.slice none 0 c) (.slice none 0 0)).run Tryd.prog W = .ok (.bool true) W := fun W => Lib.run_eql_slice_nil W _ _ none 0 c 0 0 Tryd.underlying38
    go_enter Tryd.func39, Tryd.ntmps39
    go_wp2_with fail
    go_ret
    exact ⟨none, 0, rfl, World.ownsRow_nil _ _ _ _, Below.refl _ _⟩
  · have hnil : ∀ W, (binOp .eql 38 (.slice (some ⟨b, o, s⟩) n c) (.slice none 0 0)).run Tryd.prog W = .ok (.bool false) W := fun W => Lib.run_eql_slice_nil W _ _ (some ⟨b, o, s⟩) n c 0 0 Tryd.underlying38
    have HR : Hid (Reads (w.alloc (.cells #[] 57)) w.heap.size 1 (some ⟨b, o, s⟩) n xs) := hr.alloc (Nat.le_refl _) _
    have HO := Lib.hid (own_empty w 57 1 w.heap.size w.heap.size rfl (Nat.le_refl _))
    have HB := Lib.hid ((Below.refl w.heap.size w).alloc (Nat.le_refl _) (.cells #[] 57))
    have H1 := Lib.hid h1
    clear h1
    go_enter Tryd.func39, Tryd.ntmps39
    go_wp2_with (at_builtin; go_must (refine wpList_append_any _ rfl (.tmp 5) (.tmp 6) 38 rfl w.heap.size 57 i0 _ 1 4 Tryd.underlying38 hi0 hz0 hz1 hz2 rfl (by decide) (.slice (some ⟨w.heap.size, 0, none⟩) 0 0) 0 [] rfl HO.out w.heap.size (some ⟨b, o, s⟩) n c xs rfl HR.out H1.out (by unfold maxLen; omega) (by omega) (by simp) ?_); intro v' w3 hown3 hg3 _; have HO3 := Lib.hid hown3; have HG3 := Lib.hid hg3; clear hown3 hg3)
    have HO4 := HO3.out
    rw [Nat.zero_add, List.nil_append] at HO4
    obtain ⟨A', c', rfl, _⟩ := own_slice HO4
    go_ret
    exact ⟨A', c', rfl, HO4, below_grown HB.out HG3.out HO.out (Nat.le_refl _) (by simp)⟩
theorem clone_words (A : Option Addr) (n c : Nat) (l : List Nat) (w : World) (hn : n ≤ 1000000) (hr : Reads w w.heap.size 1 A n (u32s l)) :
    Calls Tryd.prog 39 #[.slice A n c] w fun e w' => ∃ A' c', e = .returned (.slice A' n c') ∧ n ≤ c' ∧ Reads w' w'.heap.size 1 A' n (u32s l) ∧ Below w.heap.size w w' := by
  refine (clone_u32 A n c (u32s l) w hn hr (u32s_one l)).mono ?_
  rintro e w' ⟨A', c', rfl, ho, hb⟩
  refine ⟨A', c', rfl, ?_, Reads.of_own ho, hb⟩
  rcases ho.2 with ⟨h0, h1⟩ | ⟨g, cap, cur, hv, _, _, h1, _⟩
  · injection h0 with e1 e2 e3
    omega
  · injection hv with e1 e2 e3
    omega
end Go.Proofs.YtflfbbdapbjaaaaDoor
