/- Two words for offers and worlds. No condition. -/
import Derived.Test.YtjdagpmfnmodbaaDispB
import Derived.Test.YtjdagpmfnmodbaaPDispB
import Derived.Test.YtjdagpmfnmodbaaOfferC
namespace Go.Proofs.Ytjdagpmfnmodbaa
open Go.RowKit
theorem Reads.drewS2 {w : World} {size n : Nat} {A : Option Addr} {xs : List Value} (h : Reads w w.heap.size size A n xs) : Reads w.drew w.drew.heap.size size A n xs := h
theorem plo_name {l : List MOff} {k : Nat} (hk : k < l.length) : Pl.nameK (plo l) k = l[k].nm := by
  unfold Pl.nameK
  rw [List.getD_eq_getElem?_getD, List.getElem?_eq_getElem (by rw [plo_len]; exact hk), plo_at hk]
  rfl
end Go.Proofs.Ytjdagpmfnmodbaa
