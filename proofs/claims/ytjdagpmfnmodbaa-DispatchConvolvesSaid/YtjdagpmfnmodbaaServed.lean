/- The example of the dispatch's laws: served; arguments that are slices of offers, opened. No condition. -/
import Derived.Test.YtjdagpmfnmodbaaEqInt
import Derived.Test.YtjdagpmfnmodbaaDispC
import Derived.Test.YtjdagpmfnmodbaaTwo
import Derived.Test.YtjdagpmfnmodbaaLawOffer
namespace Go.Proofs.Ytjdagpmfnmodbaa
open Go.RowKit
namespace Pl
def servedL : List Off := [(⟨#[65]⟩, [(10, 5), (10, 8)]), (⟨#[66]⟩, [(10, 5), (10, 8)])]
theorem servedL_ok : dcheck servedL 22 = 0 := by kernel_rfl
theorem servedL_fill : (dfill 2 22 (isortB (blocksK servedL 2))).1 = [12, 10] ∧ (dfill 2 22 (isortB (blocksK servedL 2))).2.1 = 116 := ⟨by kernel_rfl, by kernel_rfl⟩
end Pl
/-- two offers 'two' in a slice -/
theorem two_offs {w : World} {A1 A2 : Option Addr} (h1 : Reads w w.heap.size 2 A1 2 (pairs twoSt)) (h2 : Reads w w.heap.size 2 A2 2 (pairs twoSt)) (a b : ByteArray) (ha : a.size ≤ 9223372036854775807) (hb : b.size ≤ 9223372036854775807) (g : Nat) (hg : g = w.heap.size) :
    Offs (w.alloc (.cells #[.string a, .slice A1 2 2, .string b, .slice A2 2 2] 33)) (some ⟨g, 0, none⟩) 2 [⟨a, A1, 2, 2, twoSt⟩, ⟨b, A2, 2, 2, twoSt⟩] := by
  refine ⟨Reads.lit w _ _ 2 2 g hg rfl, fun o ho => ?_⟩
  simp at ho
  have AL := (Below.refl w.heap.size w).alloc (Nat.le_refl _) (.cells #[.string a, .slice A1 2 2, .string b, .slice A2 2 2] 33)
  rcases ho with rfl | rfl
  · exact ⟨ha, Nat.le_refl _, h1.go AL⟩
  · exact ⟨hb, Nat.le_refl _, h2.go AL⟩
set_option maxHeartbeats 1600000 in
set_option maxRecDepth 100000 in
theorem served_any (w : World) : Calls Try.prog 15 #[] w fun e w' => e = .returned (.bool true) ∧ Below w.heap.size w w' := by
  have HBS := Lib.hid (fun A A1 A2 c w hc h => best_good A 2 c [⟨⟨#[65]⟩, A1, 2, 2, twoSt⟩, ⟨⟨#[66]⟩, A2, 2, 2, twoSt⟩] 22 w hc h Pl.servedL_ok)
  go_enter Try.func15, Try.ntmps15
  go_wp2_with fail
  refine (two_any _ _).mono ?_
  rintro e w1 ⟨A1, rfl, h1, hb1⟩
  unfold vOff
  go_wp2_with fail
  refine (two_any _ _).mono ?_
  rintro e w2 ⟨A2, rfl, h2, hb2⟩
  have HB2 := Lib.hid (hb1.trans (hb2.mono hb1.size))
  have H1 := Lib.hid (h1.go hb2)
  have H2 := Lib.hid h2
  clear h1 h2 hb1 hb2
  unfold vOff
  go_wp2_with fail
  have HB3 := Lib.hid (HB2.out.alloc HB2.out.size (.cells #[.string ⟨#[65]⟩, .slice A1 2 2, .string ⟨#[66]⟩, .slice A2 2 2] 33))
  have HO := Lib.hid (two_offs H1.out H2.out ⟨#[65]⟩ ⟨#[66]⟩ (by decide) (by decide) _ rfl)
  refine (HBS.out _ _ _ _ _ (by decide) HO.out).mono ?_
  rintro e w3 ⟨A3, ps, cost, p, rfl, _, hx, _, _, hr, hb⟩
  obtain ⟨e1, e2⟩ := hx (show (Pl.blocksK Pl.servedL 2).length < 20 from by decide)
  have e1' : ps = [12, 10] := e1.trans Pl.servedL_fill.1
  have e2' : cost = 116 := e2.trans Pl.servedL_fill.2
  subst e1' e2'
  have HB4 := Lib.hid (HB3.out.trans (hb.mono HB3.out.size))
  have HR := Lib.hid hr
  clear hb hx e1 e2 hr HO HB3 HB2 H1 H2
  go_wp2_with fail
  have HBA := Lib.hid ((Below.refl w3.heap.size w3).alloc (Nat.le_refl _) (.cells #[.int .i64 12, .int .i64 10] 3))
  refine (eqint_any _ _ _ _ _ _ [12, 10] [12, 10] _ (by omega) (HR.out.go HBA.out) (Reads.lit w3 #[.int .i64 12, .int .i64 10] 3 2 1 _ rfl rfl) rfl).mono ?_
  rintro e w4 ⟨rfl, hb⟩
  have HB5 := Lib.hid (HB4.out.trans ((HBA.out.trans (hb.mono HBA.out.size)).mono HB4.out.size))
  clear hb
  go_wp2_with fail
  go_ret
  exact ⟨rfl, HB5.out⟩
section
open Go.ChangeShapes Go.WideShapes Go.ChangeAt Go.RowKit
variable {H : Type} {enc : TypeId × Value → H} {W : World} {base : Nat} {sp : Nat → Bool} {held : Bool}
def decOff (o : MOff) : List Value := [.string o.nm, .slice o.A o.n o.c]
set_option maxRecDepth 100000 in
theorem open_offers_arg {f0 f1 : Field} (he : Try.prog.underlying 33 = some (.struct #[f0, f1])) (hone : Go.Deep.oneCellFields Try.prog #[f0, f1] = true) (h0 : Try.prog.underlying f0.type = some .string) (h1 : f1.type = 31)
    {r : Reach} {b0 : Nat} {v : Value} {d : DataW H} {p : List MemPlace} (hv : Value.okWide Try.prog W r b0 22 v) (h : DataW.Trod enc Try.prog W base sp held 22 v d p) :
    ∃ (A : Option Addr) (n c : Nat) (l : List MOff), v = .slice A n c ∧ n ≤ c ∧ c ≤ maxLen ∧ Offs W A n l := by
  obtain ⟨A, n, c, rfl⟩ := okWide_slice Try.underlying22 hv
  obtain ⟨fuel, hf⟩ := h
  obtain ⟨A, n, c, l, e, h1, h2, h3, h4⟩ := open_slice_of decOff (OffIn W) 2 (by omega) (fun _ => rfl) Try.underlying22 cells_Offer (fun n cs y hy => by
    obtain ⟨hl, m, hff⟩ := open_struct_cells he hone hy (by rw [cells_Offer]; rfl)
    obtain ⟨a, b, rfl⟩ := list2 (l := cs) (by simpa using hl)
    obtain ⟨_, y0, e0, t0⟩ := hff 0 f0 rfl
    obtain ⟨_, y1, e1, t1⟩ := hff 1 f1 rfl
    injection e0 with e0; subst e0
    injection e1 with e1; subst e1
    obtain ⟨s, rfl, hs⟩ := string_cell h0 t0
    rw [h1] at t1
    obtain ⟨A, k, c, st, rfl, hkc, _, hr⟩ := open_pairs_cells Try.underlying31 Try.underlying57 (by kernel_rfl) cells_OfferStep Try.underlying3 Try.underlying3 t1
    exact ⟨⟨s, A, k, c, st⟩, rfl, hs, hkc, hr⟩) hf
  exact ⟨A, n, c, l, e, h1, h2, h3, h4⟩
end
end Go.Proofs.Ytjdagpmfnmodbaa
