/- Orders of an auction, plain: the places of one side. No program. -/
import Derived.Test.YtibhgcldogfonaaGreatDoorPSpread
namespace Go.Proofs.YtibhgcldogfonaaGreatDoor.Pl
structure Ord where
  name : ByteArray
  buy : Bool
  pow : Int
  price : Int
instance : Inhabited Ord := ⟨⟨⟨#[]⟩, false, 0, 0⟩⟩
/-- the places below k whose order is of the side b -/
def sideK (b : Bool) (l : List Ord) (k : Nat) : List Int := ((List.range k).filter fun i => (l.getD i default).buy == b).map Int.ofNat
theorem sideK_hit (b : Bool) (l : List Ord) (k : Nat) (hk : k < l.length) (h : l[k].buy = b) : sideK b l (k + 1) = sideK b l k ++ [(k : Int)] := by
  unfold sideK
  rw [List.range_succ, List.filter_append, List.map_append, List.filter_cons_of_pos (by rw [List.getD_eq_getElem?_getD, List.getElem?_eq_getElem hk]; simpa using h)]
  rfl
theorem sideK_miss (b : Bool) (l : List Ord) (k : Nat) (hk : k < l.length) (h : l[k].buy ≠ b) : sideK b l (k + 1) = sideK b l k := by
  unfold sideK
  rw [List.range_succ, List.filter_append, List.map_append, List.filter_cons_of_neg (by rw [List.getD_eq_getElem?_getD, List.getElem?_eq_getElem hk]; simpa using h)]
  simp
theorem sideK_mem (b : Bool) (l : List Ord) (k : Nat) (x : Int) (h : x ∈ sideK b l k) : 0 ≤ x ∧ x < k ∧ (l.getD x.toNat default).buy = b := by
  unfold sideK at h
  obtain ⟨i, hi, rfl⟩ := List.mem_map.1 h
  rw [List.mem_filter, List.mem_range] at hi
  obtain ⟨h1, h2⟩ := hi
  exact ⟨Int.natCast_nonneg i, by simpa using h1, by simpa using h2⟩
theorem sideK_len (b : Bool) (l : List Ord) (k : Nat) : (sideK b l k).length ≤ k := by
  unfold sideK
  rw [List.length_map]
  exact Nat.le_trans (List.length_filter_le _ _) (by simp)
/-- the comparison of a side: sellers by rising, buyers by falling prices -/
def ocf (b : Bool) (l : List Ord) (x y : Int) : Int := if b then (l.getD y.toNat default).price - (l.getD x.toNat default).price else (l.getD x.toNat default).price - (l.getD y.toNat default).price
end Go.Proofs.YtibhgcldogfonaaGreatDoor.Pl
