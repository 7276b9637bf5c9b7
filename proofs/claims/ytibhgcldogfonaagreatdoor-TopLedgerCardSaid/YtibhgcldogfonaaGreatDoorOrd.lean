/- Orders in memory; auction.ranked: the places of one side, in the order of their prices. No condition. -/
import Derived.Test.YtibhgcldogfonaaGreatDoorPOrd
import Derived.Test.YtibhgcldogfonaaGreatDoorOwn
namespace Go.Proofs.YtibhgcldogfonaaGreatDoor
open Go.RowKit
/-- cells of orders -/
def orders (l : List Pl.Ord) : List Value := l.flatMap fun s => [.string s.name, .bool s.buy, .int .i64 s.pow, .int .i64 s.price]
theorem orders_length (l : List Pl.Ord) : (orders l).length = l.length * 4 := by
  induction l with
  | nil => rfl
  | cons p l ih => simp [orders] at ih ⊢; omega
theorem orders_at (l : List Pl.Ord) (k : Nat) (hk : k < l.length) : (orders l)[k * 4]? = some (.string l[k].name) ∧ (orders l)[k * 4 + 1]? = some (.bool l[k].buy) ∧ (orders l)[k * 4 + 2]? = some (.int .i64 l[k].pow) ∧ (orders l)[k * 4 + 3]? = some (.int .i64 l[k].price) := by
  induction l generalizing k with
  | nil => simp at hk
  | cons p l ih =>
    cases k with
    | zero => exact ⟨rfl, rfl, rfl, rfl⟩
    | succ k =>
      have := ih k (by simpa using hk)
      rw [show (k + 1) * 4 = k * 4 + 4 from by omega]
      simpa [orders] using this
theorem Reads.ord_len {w : World} {B n : Nat} {A : Option Addr} {l : List Pl.Ord} (h : Reads w B 4 A n (orders l)) : l.length = n := by
  have := h.1; rw [orders_length] at this; omega
theorem Reads.ord_at {w : World} {B n : Nat} {A : Option Addr} {l : List Pl.Ord} (h : Reads w B 4 A n (orders l)) {k : Nat} (hk : k < n) :
    ∃ b o, A = some ⟨b, o, none⟩ ∧ ∃ hl : k < l.length, w.cell? ⟨b, o + k * 4, none⟩ = some (.string (l[k]'hl).name) ∧ w.cell? ⟨b, o + k * 4 + 1, none⟩ = some (.bool (l[k]'hl).buy) ∧ w.cell? ⟨b, o + k * 4 + 2, none⟩ = some (.int .i64 (l[k]'hl).pow) ∧ w.cell? ⟨b, o + k * 4 + 3, none⟩ = some (.int .i64 (l[k]'hl).price) := by
  obtain ⟨b, o, rfl, _, hc⟩ := h.where_ (by omega) (by omega)
  have hl : k < l.length := by have := h.ord_len; omega
  obtain ⟨h1, h2, h3, h4⟩ := orders_at l k hl
  exact ⟨b, o, rfl, hl, hc _ _ h1, by rw [Nat.add_assoc]; exact hc _ _ h2, by rw [Nat.add_assoc]; exact hc _ _ h3, by rw [Nat.add_assoc]; exact hc _ _ h4⟩
theorem enters_ranked1 : ∀ args w, Sem.run Tryz.prog (callFunc 31 args) w = .ok (.enter 31 args) w := by intro args w; go_simp
set_option maxHeartbeats 800000 in
set_option maxRecDepth 100000 in
/-- the comparison of ranked -/
theorem ranked1_any (bl bb : Nat) (bu : Bool) (A : Option Addr) (n c : Nat) (l : List Pl.Ord) (B : Nat) (x y : Int) (w : World) (cb : w.cell? ⟨bb, 0, none⟩ = some (.bool bu)) (cl : w.cell? ⟨bl, 0, none⟩ = some (.slice A n c))
    (hr : Reads w B 4 A n (orders l)) (hp : ∀ z ∈ l, -1000000 ≤ z.price ∧ z.price ≤ 1000000) (hx : 0 ≤ x ∧ x < n) (hy : 0 ≤ y ∧ y < n) :
    Calls Tryz.prog 31 #[.int .i64 x, .int .i64 y, .pointer (some ⟨bb, 0, none⟩), .pointer (some ⟨bl, 0, none⟩)] w fun e w' => e = .returned (.int .i64 (Pl.ocf bu l x y)) ∧ Below w.heap.size w w' := by
  obtain ⟨i, rfl⟩ := Int.eq_ofNat_of_zero_le hx.1
  obtain ⟨j, rfl⟩ := Int.eq_ofNat_of_zero_le hy.1
  have i1 : i < n := by omega
  have j1 : j < n := by omega
  obtain ⟨b, o, rfl, hl1, _, _, _, c1⟩ := hr.ord_at i1
  obtain ⟨_, _, e, hl2, _, _, _, c2⟩ := hr.ord_at j1
  injection e with e; injection e with e1 e2; subst e1 e2
  obtain ⟨u1, u2⟩ := hp _ (List.getElem_mem hl1)
  obtain ⟨v1, v2⟩ := hp _ (List.getElem_mem hl2)
  have HX : Hid (Pl.ocf bu l i j = if bu then l[j].price - l[i].price else l[i].price - l[j].price) := by
    show _ = _
    unfold Pl.ocf
    rw [Int.toNat_natCast, Int.toNat_natCast, List.getD_eq_getElem?_getD, List.getD_eq_getElem?_getD, List.getElem?_eq_getElem hl1, List.getElem?_eq_getElem hl2]
    rfl
  have k1 : (0 : Int) ≤ (i : Int) := by omega
  have k2 : (0 : Int) ≤ (j : Int) := by omega
  have k3 : (i : Int) < (n : Int) := by omega
  have k4 : (j : Int) < (n : Int) := by omega
  generalize Pl.ocf bu l i j = R at *
  generalize l[i].price = pi at *
  generalize l[j].price = pj at *
  clear hx hy hp hr
  cases bu
  all_goals
    go_enter Tryz.func31, Tryz.ntmps31
    go_wp2_with fail
    go_quiet (fail)
    go_wp2_with fail
    go_ret
    exact ⟨by rw [HX.out]; rfl, below_drewN_s (Below.refl _ _) _⟩
end Go.Proofs.YtibhgcldogfonaaGreatDoor
