/- A call's own map of names: which names were seen. No condition. -/
import Derived.Test.YtpamgeemmbbkkaaBaseC
import Derived.Test.YtpamgeemmbbkkaaPName
import Derived.Maps.OwnOps
import Derived.Maps.OwnSet
import Derived.Maps.Views
import Derived.StringKeys
namespace Go.Proofs.Ytpamgeemmbbkkaa
open Go.RowKit Go.Maps
set_option maxRecDepth 100000
theorem name_keyed : Keyed Try.prog 9 := string_keyed Try.underlying9
/-- the map at block b holds true at the names of the list, and nothing else -/
def Seen (w : World) (b n : Nat) (seen : List (List UInt8)) : Prop :=
  ∃ D : DataW Unit, w.ownsMap Try.prog 9 (plainElem Try.prog 4) b n D ∧ ∀ s : ByteArray, D.atKey (.string s.data.toList) (.lit (.bool false)) = .lit (.bool (decide (s.data.toList ∈ seen)))
theorem elem_bool (x : Bool) : (plainElem Try.prog 4 (.bool x) : Option (DataW Unit × List MemPlace)) = some (.lit (.bool x), []) := by
  unfold plainElem
  rw [Try.underlying4]
theorem elem_bool_inv {v : Value} {d : DataW Unit} {p : List MemPlace} (h : plainElem Try.prog 4 v = some (d, p)) : ∃ x, v = .bool x ∧ d = .lit (.bool x) := by
  unfold plainElem at h
  rw [Try.underlying4] at h
  cases v <;> simp at h
  exact ⟨_, rfl, h.1.symm⟩
theorem zero_bool (w : World) : (zeroValue 4).run Try.prog w = .ok (.bool false) w := by kernel_rfl
theorem Seen.made (w : World) : Seen (w.alloc (.map #[] 0)) w.heap.size 0 [] := ⟨_, World.ownsMap_made _ _ _ _, fun s => by simp; rfl⟩
theorem Seen.look {w : World} {b n : Nat} {seen : List (List UInt8)} (h : Seen w b n seen) (s : ByteArray) (hs : s.size ≤ maxLen) : (Instr.lookup 121 (.map (some b)) (.string s) false).run Try.prog w = .ok (.bool (decide (s.data.toList ∈ seen))) w := by
  obtain ⟨D, hown, hat⟩ := h
  obtain ⟨v, ps, hrun, hv⟩ := hown.lookup name_keyed Try.underlying121 (zero_bool w) (elem_bool false) (WideMaps.keyOf_string_mk (s := s) Try.underlying9 hs)
  obtain ⟨x, rfl, hx⟩ := elem_bool_inv hv
  rw [hat s] at hx
  injection hx with hx
  injection hx with hx
  rw [hx]
  exact hrun
theorem Seen.kept {w w' : World} {b n : Nat} {seen : List (List UInt8)} {row : Option Nat} (h : Seen w b n seen) (hg : w.grownBy w' row) (hne : some b ≠ row) : Seen w' b n seen := by
  obtain ⟨D, hown, hat⟩ := h
  exact ⟨D, hown.kept hg hne, hat⟩
theorem Seen.lt {w : World} {b n : Nat} {seen : List (List UInt8)} (h : Seen w b n seen) : b < w.heap.size := by
  obtain ⟨D, hown, _⟩ := h
  exact hown.lt
theorem Seen.go {w w' : World} {b n : Nat} {seen : List (List UInt8)} (h : Seen w b n seen) (hb : Below w.heap.size w w') : Seen w' b n seen := h.kept (row := none) ⟨hb.os, hb.tape, hb.output, hb.size, fun i hi _ => hb.block i hi⟩ (by simp)
theorem Seen.alloc {w : World} {b n : Nat} {seen : List (List UInt8)} (h : Seen w b n seen) (o : Obj) : Seen (w.alloc o) b n seen := h.kept (World.grownBy_alloc w o none) (by simp)
theorem Seen.drew {w : World} {b n : Nat} {seen : List (List UInt8)} (h : Seen w b n seen) : Seen w.drew b n seen := h
theorem Seen.put {w : World} {b n : Nat} {seen : List (List UInt8)} (h : Seen w b n seen) (hn : n < maxLen) (s : ByteArray) (hs : s.size ≤ maxLen) :
    ∃ w', (Instr.mapUpdate 121 (.map (some b)) (.string s) (.bool true)).run Try.prog w = .ok () w' ∧ Seen w' b (n + 1) (s.data.toList :: seen) ∧ w.grownBy w' (some b) := by
  obtain ⟨D, hown, hat⟩ := h
  obtain ⟨w', hrun, h1, h2⟩ := hown.update name_keyed Try.underlying121 hn (WideMaps.keyOf_string_mk (s := s) Try.underlying9 hs) (elem_bool true)
  refine ⟨w', hrun, ⟨_, h1, fun t => ?_⟩, h2⟩
  by_cases ht : t.data.toList = s.data.toList
  · rw [ht, Maps.atKey_put_same hown.isMap (by trivial)]
    simp
  · rw [Maps.atKey_put_other (by intro e; injection e with e; exact ht e), hat t]
    simp [ht]
end Go.Proofs.Ytpamgeemmbbkkaa
