/- More words for memory: a store into an owned row. No condition. -/
import Derived.Test.YtpbomomgjhbljaaBaseD
namespace Go.Proofs.Ytpbomomgjhbljaa
open Go.RowKit
theorem own_set {w : World} {base : Nat} {e : TypeId} {size n cap g : Nat} {xs : List Value} (h : w.ownsRow base e size (.slice (some ⟨g, 0, none⟩) n cap) n xs) (i : Nat) (u : Value) :
    (w.setCell ⟨g, i, none⟩ u).ownsRow base e size (.slice (some ⟨g, 0, none⟩) n cap) n (xs.set i u) := by
  obtain ⟨h1, h2⟩ := h
  refine ⟨by simpa using h1, ?_⟩
  rcases h2 with ⟨h2, _⟩ | ⟨g', cap', cur, hv, hg, hh, hn, hc, hs, ht⟩
  · cases h2
  · injection hv with e1 e2 e3
    injection e1 with e1
    injection e1 with e1
    subst e1 e3
    refine Or.inr ⟨g, cap, cur.setIfInBounds i u, rfl, hg, heap_setCell_same w g i cur e u hh, hn, hc, by simpa using hs, ?_⟩
    rw [Array.toList_setIfInBounds, List.take_set, ht]
theorem pairs_set (l : List (Int × Int)) (a b x : Int) : (pairs (l ++ [(a, b)])).set (l.length * 2) (.int .i64 x) = pairs (l ++ [(x, b)]) := by
  rw [pairs_snoc, pairs_snoc, ← pairs_length, List.set_append_right _ _ (Nat.le_refl _), Nat.sub_self]
  rfl
theorem own_last {w : World} {base : Nat} {e : TypeId} {n cap g : Nat} {l : List (Int × Int)} {a b : Int} (h : w.ownsRow base e 2 (.slice (some ⟨g, 0, none⟩) n cap) n (pairs (l ++ [(a, b)]))) (x : Int) :
    (w.setCell ⟨g, l.length * 2, none⟩ (.int .i64 x)).ownsRow base e 2 (.slice (some ⟨g, 0, none⟩) n cap) n (pairs (l ++ [(x, b)])) := by
  have := own_set h (l.length * 2) (.int .i64 x)
  rwa [pairs_set] at this
end Go.Proofs.Ytpbomomgjhbljaa
