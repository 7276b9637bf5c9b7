/- The examples of the auction's laws: sold, and the words to open a slice of orders. No condition. -/
import Derived.Test.YtpbomomgjhbljaaClo
import Derived.Test.YtpbomomgjhbljaaLawB
namespace Go.Proofs.Ytpbomomgjhbljaa
open Go.RowKit
namespace Pl
def soldL : List Ord := [⟨⟨#[65]⟩, true, 10, 8⟩, ⟨⟨#[66]⟩, false, 10, 5⟩]
theorem soldL_ok : acheck soldL = 0 := by kernel_rfl
theorem sold_of {fs : List Int} {q : Int} (h : Cleared soldL fs q) : q = 10 ∧ fs = [10, 10] := by
  have hl : fs.length = 2 := h.len
  obtain ⟨a, b, rfl⟩ : ∃ a b, fs = [a, b] := by
    match fs, hl with
    | [a, b], _ => exact ⟨a, b, rfl⟩
  have h1 : a = q := by have := h.buys; simp [sideS, soldL, sidep] at this; exact this
  have h2 : b = q := by have := h.sells; simp [sideS, soldL, sidep] at this; exact this
  obtain ⟨t, ht⟩ := h.ends
  have e1 := (ht 0 (by decide)).1 rfl
  have e2 := (ht 1 (by decide)).2 rfl
  have e1' : t < 8 → a = 10 := e1
  have e2' : 5 ≤ t → b = 10 := e2
  have : q = 10 := by omega
  subst this
  exact ⟨rfl, by rw [h1, h2]⟩
theorem sold_price {fs : List Int} {q : Int} (h : Cleared soldL fs q) : q = 10 ∧ cPrice soldL fs q = 6 := by
  obtain ⟨h1, h2⟩ := sold_of h
  subst h1 h2
  exact ⟨rfl, by decide⟩
end Pl
theorem soldL_reads (w : World) (g : Nat) (hg : g = w.heap.size) : Reads (w.alloc (.cells #[.string ⟨#[65]⟩, .bool true, .int .i64 10, .int .i64 8, .string ⟨#[66]⟩, .bool false, .int .i64 10, .int .i64 5] 32)) (w.alloc (.cells #[.string ⟨#[65]⟩, .bool true, .int .i64 10, .int .i64 8, .string ⟨#[66]⟩, .bool false, .int .i64 10, .int .i64 5] 32)).heap.size 4 (some ⟨g, 0, none⟩) 2 (orders Pl.soldL) :=
  Reads.lit w _ _ 2 4 g hg rfl
def SoldSaid (w : World) (e : Ending) (w' : World) : Prop := e = .returned (.bool true) ∧ Below w.heap.size w w'
set_option maxRecDepth 100000 in
theorem sold_any (w : World) : Calls Try.prog 19 #[] w (SoldSaid w) := by
  have HC := Lib.hid (fun A c w h hr => clear_good A 2 c Pl.soldL w h (by intro z hz; simp [Pl.soldL] at hz; rcases hz with rfl | rfl <;> decide) hr Pl.soldL_ok)
  have HB0 := Lib.hid ((Below.refl w.heap.size w).alloc (Nat.le_refl _) (.cells #[.string ⟨#[65]⟩, .bool true, .int .i64 10, .int .i64 8, .string ⟨#[66]⟩, .bool false, .int .i64 10, .int .i64 5] 32))
  go_enter Try.func19, Try.ntmps19
  go_wp2_with fail
  refine (HC.out _ _ _ (by decide) (soldL_reads w _ rfl)).mono ?_
  rintro e w1 ⟨A, fs, q, rfl, hc, _, _, _, hb⟩
  obtain ⟨h1, h2⟩ := Pl.sold_price hc
  rw [h2]
  subst h1
  have HB1 := Lib.hid (HB0.out.trans (hb.mono HB0.out.size))
  clear hb h2 hc
  unfold vRes
  go_wp2_with fail
  go_ret
  exact ⟨rfl, HB1.out.alloc HB1.out.size _⟩
set_option maxRecDepth 100000
section
open Go.ChangeShapes Go.WideShapes Go.ChangeAt Go.RowKit
variable {H : Type} {enc : TypeId × Value → H} {W : World} {base : Nat} {sp : Nat → Bool} {held : Bool}
def decOrd (s : Pl.Ord) : List Value := [.string s.name, .bool s.buy, .int .i64 s.pow, .int .i64 s.price]
/-- what an order of a program holds -/
def OrdIn (s : Pl.Ord) : Prop := s.name.size ≤ 9223372036854775807 ∧ (-9223372036854775808 ≤ s.pow ∧ s.pow ≤ 9223372036854775807) ∧ (-9223372036854775808 ≤ s.price ∧ s.price ≤ 9223372036854775807)
theorem open_order {f0 f1 f2 f3 : Field} (he : Try.prog.underlying 32 = some (.struct #[f0, f1, f2, f3])) (hone : Go.Deep.oneCellFields Try.prog #[f0, f1, f2, f3] = true) (hC : Try.prog.cellsOf 32 = 4)
    (h0 : Try.prog.underlying f0.type = some .string) (h1 : Try.prog.underlying f1.type = some .bool) (h2 : Try.prog.underlying f2.type = some (.int .i64)) (h3 : Try.prog.underlying f3.type = some (.int .i64))
    {n : Nat} {cs : List Value} {y : DataW H × List MemPlace} (h : DataW.trod enc Try.prog W base sp held n 32 cs = some y) : ∃ a, cs = decOrd a ∧ OrdIn a := by
  obtain ⟨hl, m, hf⟩ := open_struct_cells he hone h (by rw [hC]; rfl)
  obtain ⟨a, b, c, d, rfl⟩ := list4 (l := cs) (by simpa using hl)
  obtain ⟨_, y0, e0, t0⟩ := hf 0 f0 rfl
  obtain ⟨_, y1, e1, t1⟩ := hf 1 f1 rfl
  obtain ⟨_, y2, e2, t2⟩ := hf 2 f2 rfl
  obtain ⟨_, y3, e3, t3⟩ := hf 3 f3 rfl
  injection e0 with e0; subst e0
  injection e1 with e1; subst e1
  injection e2 with e2; subst e2
  injection e3 with e3; subst e3
  obtain ⟨s, rfl, hs⟩ := string_cell h0 t0
  obtain ⟨bb, rfl⟩ := bool_cell h1 t1
  obtain ⟨p, rfl, hp⟩ := int_cell h2 t2
  obtain ⟨q, rfl, hq⟩ := int_cell h3 t3
  exact ⟨⟨s, bb, p, q⟩, rfl, hs, hp, hq⟩
theorem open_orders_arg {f0 f1 f2 f3 : Field} (he : Try.prog.underlying 32 = some (.struct #[f0, f1, f2, f3])) (hone : Go.Deep.oneCellFields Try.prog #[f0, f1, f2, f3] = true) (hC : Try.prog.cellsOf 32 = 4)
    (h0 : Try.prog.underlying f0.type = some .string) (h1 : Try.prog.underlying f1.type = some .bool) (h2 : Try.prog.underlying f2.type = some (.int .i64)) (h3 : Try.prog.underlying f3.type = some (.int .i64))
    {r : Reach} {b0 : Nat} {v : Value} {d : DataW H} {p : List MemPlace} (hv : Value.okWide Try.prog W r b0 30 v) (h : DataW.Trod enc Try.prog W base sp held 30 v d p) :
    ∃ (A : Option Addr) (n c : Nat) (l : List Pl.Ord), v = .slice A n c ∧ n ≤ c ∧ c ≤ maxLen ∧ Reads W W.heap.size 4 A n (orders l) ∧ ∀ a ∈ l, OrdIn a := by
  obtain ⟨A, n, c, rfl⟩ := okWide_slice Try.underlying30 hv
  obtain ⟨fuel, hf⟩ := h
  exact open_slice_of decOrd OrdIn 4 (by omega) (fun _ => rfl) Try.underlying30 hC (fun n cs y h => open_order he hone hC h0 h1 h2 h3 h) hf
end
end Go.Proofs.Ytpbomomgjhbljaa
