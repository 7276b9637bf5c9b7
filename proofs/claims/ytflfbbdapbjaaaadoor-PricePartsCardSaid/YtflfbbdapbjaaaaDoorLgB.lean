/- Package large: Neg, Sign, cmpWords, addWords, subWords answer as integers. Condition: the words read. -/
import Derived.Test.YtflfbbdapbjaaaaDoorLgA
import Derived.Test.YtflfbbdapbjaaaaDoorPLargeB
namespace Go.Proofs.YtflfbbdapbjaaaaDoor
open Go.RowKit
set_option maxRecDepth 100000
theorem sgn_not (z : Int) : sgn (!decide (z < 0)) z.natAbs = -z := by
  unfold sgn
  by_cases h : z < 0
  · simp [h]; omega
  · simp [h]; omega
theorem sgn_self (z : Int) : sgn (decide (z < 0)) z.natAbs = z := by
  unfold sgn
  by_cases h : z < 0
  · simp [h]; omega
  · simp [h]; omega
theorem below_one (w : World) (o : Obj) : Below w.heap.size w (w.alloc o) := (Below.refl _ w).alloc (Nat.le_refl _) o
/-- words lie in no box of a number -/
theorem u32_far {w : World} {B n r : Nat} {A A1 : Option Addr} {l : List Nat} {x : Bool} {n1 c1 : Nat} {t : TypeId} (h : Reads w B 1 A n (u32s l)) (hb : Blk w r t #[.bool x, .slice A1 n1 c1]) (i : Nat) (u : Value) : Reads (w.setCell ⟨r, i, none⟩ u) B 1 A n (u32s l) := by
  refine ⟨h.1, fun hn => ?_⟩
  obtain ⟨b, o, rfl, hbB, hc⟩ := h.where_ hn (by omega)
  have hl := u32_len h
  refine ⟨⟨b, o, none⟩, rfl, hbB, fun j v hv => ?_⟩
  obtain ⟨ad, e, _, hc2⟩ := h.2 hn
  injection e with e
  subst e
  have h0 := hc 0 _ (by unfold u32s; rw [List.getElem?_map, List.getElem?_eq_getElem (by omega)]; rfl)
  have hne : b ≠ r := by
    rintro rfl
    have := hb.cell o
    rw [Nat.add_zero] at h0
    rw [h0] at this
    match o, this with
    | 0, this => cases this
    | 1, this => cases this
    | o + 2, this => simp at this
  refine (World.cell?_setCell_other w _ _ u (fun e => ?_)).trans (hc2 j v hv)
  have e2 := congrArg Addr.block e
  rw [block_of_add] at e2
  first | exact hne e2 | exact hne e2.symm
theorem NumAt.far {w : World} {B r : Nat} {z : Int} {A A1 : Option Addr} {c : Nat} {x : Bool} {n1 c1 : Nat} {t : TypeId} (h : NumAt w B z A c) (hb : Blk w r t #[.bool x, .slice A1 n1 c1]) (i : Nat) (u : Value) : NumAt (w.setCell ⟨r, i, none⟩ u) B z A c := ⟨h.1, u32_far h.2 hb i u⟩
/-- a number is stored in a box of the call's own -/
theorem num_put {w0 w : World} {z : Int} {A A1 : Option Addr} {c r n1 c1 : Nat} {x : Bool} {t : TypeId} (hb : Blk w r t #[.bool x, .slice A1 n1 c1]) (h : NumAt w w.heap.size z A c) (hd : Below w0.heap.size w0 w) (hr : w0.heap.size ≤ r) :
    Blk ((w.setCell ⟨r, 0, none⟩ (.bool (decide (z < 0)))).setCell ⟨r, 1, none⟩ (.slice A (Pl.nw z.natAbs) c)) r t #[.bool (decide (z < 0)), .slice A (Pl.nw z.natAbs) c] ∧
    NumAt ((w.setCell ⟨r, 0, none⟩ (.bool (decide (z < 0)))).setCell ⟨r, 1, none⟩ (.slice A (Pl.nw z.natAbs) c)) ((w.setCell ⟨r, 0, none⟩ (.bool (decide (z < 0)))).setCell ⟨r, 1, none⟩ (.slice A (Pl.nw z.natAbs) c)).heap.size z A c ∧
    Below w0.heap.size w0 ((w.setCell ⟨r, 0, none⟩ (.bool (decide (z < 0)))).setCell ⟨r, 1, none⟩ (.slice A (Pl.nw z.natAbs) c)) := by
  have b1 : Blk (w.setCell ⟨r, 0, none⟩ (.bool (decide (z < 0)))) r t #[.bool (decide (z < 0)), .slice A1 n1 c1] := hb.set_ 0 _
  refine ⟨b1.set_ 1 _, ?_, (hd.setCell hr _).setCell hr _⟩
  have h1 := (h.far hb 0 (.bool (decide (z < 0)))).far b1 1 (.slice A (Pl.nw z.natAbs) c)
  refine h1.more ?_
  simp
theorem neg_any (z : Int) (A : Option Addr) (c : Nat) (w : World) (hc : Pl.nw z.natAbs ≤ 9223372036854775807) (h : NumAt w w.heap.size z A c) :
    Calls Tryd.prog 23 #[vNum z A c] w fun e w' => e = .returned (vNum (-z) A c) ∧ NumAt w' w'.heap.size (-z) A c ∧ Below w.heap.size w w' := by
  have B0 := Lib.hid ((Blk.new_ w w.heap.size 40 #[.bool (decide (z < 0)), .slice A (Pl.nw z.natAbs) c] rfl).alloc (.cells #[.bool false, .slice none 0 0] 40))
  have B1 := Lib.hid (Blk.new_ (w.alloc (.cells #[.bool (decide (z < 0)), .slice A (Pl.nw z.natAbs) c] 40)) (w.heap.size + 1) 40 #[.bool false, .slice none 0 0] (by simp))
  have D := Lib.hid (((Below.refl w.heap.size w).alloc (Nat.le_refl _) (.cells #[.bool (decide (z < 0)), .slice A (Pl.nw z.natAbs) c] 40)).alloc (by simp) (.cells #[.bool false, .slice none 0 0] 40))
  have HN := Lib.hid (norm_any (!decide (z < 0)) A (Pl.nw z.natAbs) c (Pl.digs z.natAbs) _ hc h.1 (h.2.go D.out) (Pl.digs_can _).1)
  rw [Pl.lv_digs, sgn_not] at HN
  generalize -z = y at *
  unfold vNum
  generalize hb : decide (z < 0) = b at *
  clear hb
  go_enter Tryd.func23, Tryd.ntmps23
  generalize HW : ((w.alloc (.cells #[.bool b, .slice A (Pl.nw z.natAbs) c] 40)).alloc (.cells #[.bool false, .slice none 0 0] 40)) = w1 at *
  have b0 := B0.out.cell
  have l0 := B0.out.lt
  go_wp2_with fail
  refine HN.out.mono ?_
  rintro e w2 ⟨rfl, hna, hb⟩
  have B2 := Lib.hid (B1.out.go hb)
  have D2 := Lib.hid (D.out.trans (hb.mono D.out.size))
  have HA := Lib.hid hna
  clear hb hna HN b0 l0 h
  have b2 := B2.out.cell
  have f2 := B2.out.frozen
  have l2 := B2.out.lt
  unfold vNum
  go_wp2_with fail
  have F := Lib.hid (num_put B2.out HA.out D2.out (Nat.le_succ _))
  have k7 := F.out.1.cell
  refine bodyPost_ret (v := vNum y A c) (by simp [results, Tryd.results23, go_sem, vNum, k7]) rfl ⟨rfl, F.out.2⟩
end Go.Proofs.YtflfbbdapbjaaaaDoor
