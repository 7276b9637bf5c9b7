/- convexpl.Add, whatever the functions are: it returns what its plain function gives, and leaves old memory as it is. No condition. -/
import Derived.Test.YtchafkocobbndaaConv
import Derived.StillTailTactics
import Derived.Deep.RegionHeld3
import Derived.Deep.RegionLaw
import Derived.Outline
import Derived.Test.YtchafkocobbndaaPRing
import Derived.Test.YtchafkocobbndaaCut
import Derived.Test.YtchafkocobbndaaRowIn
import Derived.Test.YtchafkocobbndaaQuiet
namespace Go.Proofs.Ytchafkocobbndaa
open Go.RowKit
/-- the boxes of Add, from block b on: both functions and the result -/
structure AddW (W : World) (b : Nat) (F G : Array Value) (w : World) : Prop where
  bel : Below W.heap.size W w
  f : Blk w b 92 F
  g : Blk w (b + 1) 92 G
  r : Blk w (b + 1 + 1) 92 #[.int .i64 0, .int .i64 0, .slice none 0 0]
section
variable {W w w' : World} {b : Nat} {F G : Array Value}
theorem AddW.go (h : AddW W b F G w) (hb : Below w.heap.size w w') : AddW W b F G w' := ⟨h.bel.trans (hb.mono h.bel.size), h.f.go hb, h.g.go hb, h.r.go hb⟩
theorem AddW.base (h : AddW W b F G w) : ∃ base, base = w.heap.size ∧ b + 1 + 1 + 1 ≤ base := ⟨_, rfl, Nat.succ_le_of_lt h.r.lt⟩
theorem AddW.grown {base : Nat} {e : TypeId} {size n : Nat} {v : Value} {xs : List Value} (h : AddW W b F G w) (hg : w.grownBy w' v.ownBlock) (ho : w.ownsRow base e size v n xs) (hb : b + 1 + 1 + 1 ≤ base) (hW : W.heap.size ≤ b) : AddW W b F G w' :=
  ⟨below_grown h.bel hg ho (by omega) h.bel.size, h.f.grown hg (own_ne ho (.inl (by omega))), h.g.grown hg (own_ne ho (.inl (by omega))), h.r.grown hg (own_ne ho (.inl (by omega)))⟩
theorem AddW.set (h : AddW W b F G w) {p : Addr} (hp : b + 1 + 1 + 1 ≤ p.block) (hW : W.heap.size ≤ b) (u : Value) : AddW W b F G (w.setCell p u) :=
  ⟨h.bel.setCell (by omega) u, h.f.far (by omega) u, h.g.far (by omega) u, h.r.far (by omega) u⟩
theorem AddW.drew (h : AddW W b F G w) : AddW W b F G w.drew := h.go (Below.refl _ _).drew
theorem AddW.alloc (h : AddW W b F G w) (o : Obj) : AddW W b F G (w.alloc o) := h.go ((Below.refl _ _).alloc (Nat.le_refl _) o)
end
def lenV : Value → Nat
  | .slice _ n _ => n
  | _ => 0
set_option maxHeartbeats 6400000 in
set_option maxRecDepth 100000 in
theorem cAdd_good (lo1 va1 lo2 va2 : Int) (A B : Option Addr) (n m c1 c2 : Nat) (ps qs : List (Int × Int)) (w : World) (ha : Reads w w.heap.size 2 A n (pairs ps)) (hb : Reads w w.heap.size 2 B m (pairs qs)) (h1 : Pl.ccheck lo1 va1 ps = 0) (h2 : Pl.ccheck lo2 va2 qs = 0) (h3 : max lo1 lo2 ≤ min (Pl.chigh lo1 ps) (Pl.chigh lo2 qs)) :
    Calls Try.prog 39 #[vCx lo1 va1 A n c1, vCx lo2 va2 B m c2] w (MadeSaid (Pl.cAdd lo1 va1 ps lo2 va2 qs) w) := by
  obtain ⟨g1, l1, hlo1, hva1⟩ := Pl.ccheck_ok h1
  obtain ⟨g2, l2, hlo2, hva2⟩ := Pl.ccheck_ok h2
  have hn : n ≤ 64 := by have := ha.pair_len; omega
  have hm : m ≤ 64 := by have := hb.pair_len; omega
  have hh1 : Pl.chigh lo1 ps ≤ 1000000 := g1.place.2
  have hh2 : Pl.chigh lo2 qs ≤ 1000000 := g2.place.2
  have HX : Hid (Pl.cAdd lo1 va1 ps lo2 va2 qs = Pl.cMade (max lo1 lo2) (Pl.cvat lo1 va1 ps (max lo1 lo2) + Pl.cvat lo2 va2 qs (max lo1 lo2)) (Pl.addL (Pl.ccut lo1 (max lo1 lo2) (min (Pl.chigh lo1 ps) (Pl.chigh lo2 qs)) ps) (Pl.ccut lo2 (max lo1 lo2) (min (Pl.chigh lo1 ps) (Pl.chigh lo2 qs)) qs))) := by
    show _ = _; unfold Pl.cAdd; rw [if_neg (by simpa using h1), if_neg (by simpa using h2), if_neg (by omega)]
  have HCK := Lib.hid (fun AA cc w a b c => check2_any AA A B cc n m c1 c2 lo1 va1 lo2 va2 ps qs w a b c)
  rw [h1, h2] at HCK
  have HH1 := Lib.hid (fun w h => chigh_any lo1 va1 A n c1 ps w h g1 hn hlo1)
  have HH2 := Lib.hid (fun w h => chigh_any lo2 va2 B m c2 qs w h g2 hm hlo2)
  have HA1 := Lib.hid (fun w h => cat_any lo1 va1 A n c1 ps (max lo1 lo2) w h g1 hn hlo1 hva1 (by omega) (by omega))
  have HA2 := Lib.hid (fun w h => cat_any lo2 va2 B m c2 qs (max lo1 lo2) w h g2 hm hlo2 hva2 (by omega) (by omega))
  have HC1 := Lib.hid (fun w h => cut_own lo1 va1 A n c1 ps (max lo1 lo2) (min (Pl.chigh lo1 ps) (Pl.chigh lo2 qs)) w h g1 hn hlo1 (by omega) (by omega))
  have HC2 := Lib.hid (fun w h => cut_own lo2 va2 B m c2 qs (max lo1 lo2) (min (Pl.chigh lo1 ps) (Pl.chigh lo2 qs)) w h g2 hm hlo2 (by omega) (by omega))
  have hv1 := Pl.cvat_bd g1 (max lo1 lo2) (by omega) (by omega)
  have hv2 := Pl.cvat_bd g2 (max lo1 lo2) (by omega) (by omega)
  have ln1 : (Pl.ccut lo1 (max lo1 lo2) (min (Pl.chigh lo1 ps) (Pl.chigh lo2 qs)) ps).length ≤ 64 := by
    rw [Pl.ccut_eq]; have := Pl.cutR_len lo1 (max lo1 lo2) (min (Pl.chigh lo1 ps) (Pl.chigh lo2 qs)) ps; omega
  have ln2 : (Pl.ccut lo2 (max lo1 lo2) (min (Pl.chigh lo1 ps) (Pl.chigh lo2 qs)) qs).length ≤ 64 := by
    rw [Pl.ccut_eq]; have := Pl.cutR_len lo2 (max lo1 lo2) (min (Pl.chigh lo1 ps) (Pl.chigh lo2 qs)) qs; omega
  have bd1 : Hid (∀ q ∈ Pl.ccut lo1 (max lo1 lo2) (min (Pl.chigh lo1 ps) (Pl.chigh lo2 qs)) ps, 1 ≤ q.1 ∧ q.1 ≤ 2000000 ∧ -10000000 ≤ q.2 ∧ q.2 ≤ 10000000) := fun q hq => by
    rw [Pl.ccut_eq] at hq
    obtain ⟨q1, r, hr, e, q2⟩ := Pl.cutR_mem g1.long q hq
    have := g1.step r hr
    omega
  have bd2 : Hid (∀ q ∈ Pl.ccut lo2 (max lo1 lo2) (min (Pl.chigh lo1 ps) (Pl.chigh lo2 qs)) qs, 1 ≤ q.1 ∧ q.1 ≤ 2000000 ∧ -10000000 ≤ q.2 ∧ q.2 ≤ 10000000) := fun q hq => by
    rw [Pl.ccut_eq] at hq
    obtain ⟨q1, r, hr, e, q2⟩ := Pl.cutR_mem g2.long q hq
    have := g2.step r hr
    omega
  have hlow : -1000000 ≤ max lo1 lo2 ∧ max lo1 lo2 ≤ 1000000 := by omega
  have HAR := Lib.hid ha
  have HBR := Lib.hid hb
  obtain ⟨i0, hi0, hz0, hz1, hz2⟩ := info_parts info_ConvexPiece
  have imax : ∀ a b : Int, (if a < b then b else a) = max a b := ite_max
  have imin : ∀ a b : Int, (if b < a then b else a) = min a b := ite_min
  have hgt : decide (min (Pl.chigh lo1 ps) (Pl.chigh lo2 qs) < max lo1 lo2) = false := decide_eq_false (by omega)
  clear h1 h2 h3 g1 g2 l1 l2 hlo1 hlo2 hva1 hva2 ha hb hh1 hh2
  unfold PiecesOwn at HC1 HC2
  unfold MadeSaid
  generalize Pl.cAdd lo1 va1 ps lo2 va2 qs = R at *
  generalize Pl.ccut lo1 (max lo1 lo2) (min (Pl.chigh lo1 ps) (Pl.chigh lo2 qs)) ps = la0 at *
  generalize Pl.ccut lo2 (max lo1 lo2) (min (Pl.chigh lo1 ps) (Pl.chigh lo2 qs)) qs = lb0 at *
  generalize Pl.cvat lo1 va1 ps (max lo1 lo2) = v1 at *
  generalize Pl.cvat lo2 va2 qs (max lo1 lo2) = v2 at *
  generalize Pl.chigh lo1 ps = h1 at *
  generalize Pl.chigh lo2 qs = h2 at *
  obtain ⟨v10, v11⟩ := hv1
  obtain ⟨v20, v21⟩ := hv2
  obtain ⟨lw0, lw1⟩ := hlow
  unfold vCx at *
  go_enter Try.func39, Try.ntmps39
  obtain ⟨wd, hwd, HW, e3⟩ : ∃ wd, wd = ((w.alloc (.cells #[.int .i64 lo1, .int .i64 va1, .slice A n c1] 92)).alloc (.cells #[.int .i64 lo2, .int .i64 va2, .slice B m c2] 92)).alloc (.cells #[.int .i64 0, .int .i64 0, .slice none 0 0] 92) ∧ Hid (AddW w w.heap.size #[.int .i64 lo1, .int .i64 va1, .slice A n c1] #[.int .i64 lo2, .int .i64 va2, .slice B m c2] wd) ∧ Hid (w.heap.size + 1 + 1 + 1 = wd.heap.size) := by
    refine ⟨_, rfl, ⟨?_, ?_, ?_, ?_⟩, ?_⟩
    · exact (((Below.refl w.heap.size w).alloc (Nat.le_refl _) _).alloc (by simp) _).alloc (by simp; omega) _
    · exact ((Blk.new_ w w.heap.size _ _ rfl).alloc _).alloc _
    · exact (Blk.new_ _ (w.heap.size + 1) _ _ (by simp)).alloc _
    · exact Blk.new_ _ (w.heap.size + 1 + 1) _ _ (by simp)
    · show _ = _
      simp
  go_wp2_with fail
  rw [← hwd]
  clear hwd
  have HW1 := Lib.hid (HW.out.alloc (.cells #[.int .i64 lo1, .int .i64 va1, .slice A n c1, .int .i64 lo2, .int .i64 va2, .slice B m c2] 92))
  refine (HCK.out _ _ _ (Reads.lit wd #[.int .i64 lo1, .int .i64 va1, .slice A n c1, .int .i64 lo2, .int .i64 va2, .slice B m c2] 92 2 3 _ e3.out rfl) (HAR.out.go HW1.out.bel) (HBR.out.go HW1.out.bel)).mono ?_
  rintro e w1 ⟨rfl, hb⟩
  have HW2 := Lib.hid (HW1.out.go hb)
  clear hb HW1 HW e3 HCK
  have HRA1 := Lib.hid (HAR.out.go HW2.out.bel)
  have HRB1 := Lib.hid (HBR.out.go HW2.out.bel)
  have f0 := HW2.out.f.cell 0
  have f1 := HW2.out.f.cell 1
  have f2 := HW2.out.f.cell 2
  have g0 := HW2.out.g.cell 0
  have g1 := HW2.out.g.cell 1
  have g2 := HW2.out.g.cell 2
  go_wp2_with fail
  replace f0 := Wd.cell f0
  replace f1 := Wd.cell f1
  replace f2 := Wd.cell f2
  replace g0 := Wd.cell g0
  replace g1 := Wd.cell g1
  replace g2 := Wd.cell g2
  refine wp_region_wd (by kernel_rfl) (by kernel_rfl) ?_
  repeat (go_big_quiet_step ((first | (go_at_call 65; with_reducible exact Calls.wd (HH1.out _ (HRA1.out.go (Wd.ok _)))) | (go_at_call 65; with_reducible exact Calls.wd (HH2.out _ (HRB1.out.go (Wd.ok _)))))))

  refine wpQuiet_nil ?_
  rintro _ ⟨w6, rfl⟩
  have HW3 := Lib.hid (HW2.out.go w6.ok)
  clear f0 f1 f2 g0 g1 g2 HW2
  generalize w6.val = w7 at *
  go_wp2_with fail
  have cur := Lib.hid HW3.out.drew
  have cf := cur.out.f.cell
  have cg := cur.out.g.cell
  go_region_held3 (fun w' => (∀ j, w'.cell? ⟨w.heap.size, j, none⟩ = #[.int .i64 lo1, .int .i64 va1, .slice A n c1][j]?) ∧ (∀ j, w'.cell? ⟨w.heap.size + 1, j, none⟩ = #[.int .i64 lo2, .int .i64 va2, .slice B m c2][j]?))
    (exact ⟨cur.out.f.cell, cur.out.g.cell⟩)
    (first
      | (go_at_call 67; with_reducible refine (HC1.out _ (HAR.out.go cur.out.bel)).mono ?_; rintro e wz ⟨A8, d8, rfl, own8, hbz⟩; have k8 := Lib.hid (own_cap own8); (first | (have tr := Lib.hid (TwoRows.symm (TwoRows.of ob.out own8 hbz (Nat.succ_le_of_lt cur.out.r.lt)))) | (have oa := Lib.hid (OneRow.of own8 (show w.heap.size + 1 + 1 + 1 ≤ _ from Nat.succ_le_of_lt cur.out.r.lt)))); have cur := Lib.hid (cur.out.go hbz); clear hbz own8)
      | (go_at_call 67; with_reducible refine (HC2.out _ (HBR.out.go cur.out.bel)).mono ?_; rintro e wz ⟨A9, d9, rfl, own9, hbz⟩; have k9 := Lib.hid (own_cap own9); (first | (have tr := Lib.hid (TwoRows.of oa.out own9 hbz (Nat.succ_le_of_lt cur.out.r.lt))) | (have ob := Lib.hid (OneRow.of own9 (show w.heap.size + 1 + 1 + 1 ≤ _ from Nat.succ_le_of_lt cur.out.r.lt)))); have cur := Lib.hid (cur.out.go hbz); clear hbz own9))
  all_goals
    clear cf cg HC1 HC2 HH1 HH2 hgt
    have TR := tr
    have CU := cur
    clear tr cur
    obtain ⟨base, hbase, hbw⟩ := CU.out.base
    have HB0 := Lib.hid hbase
    rw [← hbase] at TR
    clear hbase
    go_wp2_with fail
    go_loopw [9, 10, 11] (fun a b l wr => ∃ (la lb ll : List (Int × Int)) (Aa Ab Al : Option Addr) (ca cb cl : Nat), a = .slice Aa la.length ca ∧ b = .slice Ab lb.length cb ∧ l = .slice Al ll.length cl ∧ la.length ≤ ca ∧ lb.length ≤ cb ∧ ll.length + la.length + lb.length ≤ 128 ∧
      Hid (TwoRows (w.heap.size + 1 + 1 + 1) base wr Aa la Ab lb) ∧ Hid (wr.ownsRow base 94 2 (.slice Al ll.length cl) ll.length (pairs ll)) ∧ Hid (ll ++ Pl.addL la lb = Pl.addL la0 lb0) ∧
      Hid (∀ q ∈ la, 1 ≤ q.1 ∧ q.1 ≤ 2000000 ∧ -10000000 ≤ q.2 ∧ q.2 ≤ 10000000) ∧ Hid (∀ q ∈ lb, 1 ≤ q.1 ∧ q.1 ≤ 2000000 ∧ -10000000 ≤ q.2 ∧ q.2 ≤ 10000000) ∧
      Hid (AddW w w.heap.size #[.int .i64 lo1, .int .i64 va1, .slice A n c1] #[.int .i64 lo2, .int .i64 va2, .slice B m c2] wr) ∧ Hid (base ≤ wr.heap.size) ∧ Hid (∀ q ∈ ll, 1 ≤ q.1 ∧ q.1 ≤ 2000000)) (fun a b _ _ => lenV a + lenV b)
    case atStart => exact ⟨la0, lb0, [], A8, A9, none, d8, d9, 0, rfl, rfl, rfl, k8.out, k9.out, by simp; omega, TR, World.ownsRow_nil _ _ _ _, rfl, bd1, bd2, CU, Nat.le_of_eq HB0.out, fun q hq => absurd hq (List.not_mem_nil)⟩
    case round =>
      obtain ⟨la, lb, ll, Aa, Ab, Al, ca, cb, cl, rfl, rfl, rfl, hca, hcb, hlen, HT, HO, HR, HL1, HL2, HWW, HBS, HPL⟩ := hrel
      cases la with
      | nil =>
        simp only [List.length_nil] at hca hlen
        rw [Pl.addL_nil, List.append_nil] at HR
        have hll : ll = Pl.addL la0 lb0 := HR.out
        clear HT HL1 HL2 HR
        subst hll
        have HM := Lib.hid (fun A' c' w h => made_big (max lo1 lo2) (v1 + v2) A' (Pl.addL la0 lb0).length c' (Pl.addL la0 lb0) w h HPL.out (by omega))
        unfold MadeSaid vCx at HM
        have cur := Lib.hid HWW.out.drew
        have ocur := Lib.hid (show wr.drew.ownsRow _ _ _ _ _ _ from HO.out)
        have cf := cur.out.f.cell
        have cg := cur.out.g.cell
        clear HWW HO HPL imax imin HBS
        generalize Pl.cMade (max lo1 lo2) (v1 + v2) (Pl.addL la0 lb0) = RM at *
        generalize Pl.addL la0 lb0 = L at *
        have wvv : IntKind.i64.wrap (v1 + v2) = v1 + v2 := IntWalk.i64_in _ (by omega)
        go_wp2_with fail
        go_region_held3 (fun w' => (∀ j, w'.cell? ⟨w.heap.size, j, none⟩ = #[.int .i64 lo1, .int .i64 va1, .slice A n c1][j]?) ∧ (∀ j, w'.cell? ⟨w.heap.size + 1, j, none⟩ = #[.int .i64 lo2, .int .i64 va2, .slice B m c2][j]?))
          (first | exact ⟨cur.out.f.cell, cur.out.g.cell⟩ | exact ⟨(((cur.out.f.far (by show w.heap.size ≠ w.heap.size + 1 + 1; omega) _).far (by show w.heap.size ≠ w.heap.size + 1 + 1; omega) _).far (by show w.heap.size ≠ w.heap.size + 1 + 1; omega) _).cell, (((cur.out.g.far (by show w.heap.size + 1 ≠ w.heap.size + 1 + 1; omega) _).far (by show w.heap.size + 1 ≠ w.heap.size + 1 + 1; omega) _).far (by show w.heap.size + 1 ≠ w.heap.size + 1 + 1; omega) _).cell⟩)
          (first
            | (go_at_call 66; with_reducible refine (HA1.out _ (HAR.out.go cur.out.bel)).mono ?_; rintro e wz ⟨rfl, hbz⟩; have ocur := Lib.hid (own_go ocur.out hbz); have cur := Lib.hid (cur.out.go hbz); clear hbz)
            | (go_at_call 66; with_reducible refine (HA2.out _ (HBR.out.go cur.out.bel)).mono ?_; rintro e wz ⟨rfl, hbz⟩; have ocur := Lib.hid (own_go ocur.out hbz); have cur := Lib.hid (cur.out.go hbz); clear hbz)
            | (go_at_call 63; refine (HM.out _ _ _ (Reads.of_own ocur.out)).mono ?_; rintro e wz ⟨Am, cm, rfl, hownm, hbz⟩; have om := Lib.hid (own_base hownm (Nat.succ_le_of_lt cur.out.r.lt)); have cur := Lib.hid (cur.out.go hbz); have km := cur.out.r.cell; have fm := cur.out.r.frozen; have km0 := km 0; have km1 := km 1; have km2 := km 2; have fm0 := fm 0; have fm1 := fm 1; have fm2 := fm 2; have lm := cur.out.r.lt; clear hbz hownm))
        all_goals
          go_wp2_with fail
          have E6 := Lib.hid (((cur.out.r.set_ 0 (.int .i64 RM.1.1)).set_ 1 (.int .i64 RM.1.2.1)).set_ 2 (.slice Am RM.1.2.2.length cm))
          have k7 := E6.out.cell
          refine bodyPost_ret (v := .tuple #[vCx RM.1.1 RM.1.2.1 Am RM.1.2.2.length cm, .int .i64 RM.2]) (by simp [results, Try.results39, go_sem, vCx, k7]) rfl ⟨Am, cm, by rw [HX.out]; rfl, ?_, ?_⟩
          · rw [HX.out]
            exact own_base (own_far (own_far (own_far om.out (by simp) _) (by simp) _) (by simp) _) (by omega)
          · exact (((cur.out.bel.setCell (by simp; omega) _).setCell (by simp; omega) _).setCell (by simp; omega) _)
      | cons p la =>
        cases lb with
        | nil =>
          simp only [List.length_nil] at hcb hlen
          rw [Pl.addL_nil2, List.append_nil] at HR
          have hll : ll = Pl.addL la0 lb0 := HR.out
          clear HT HL1 HL2 HR
          subst hll
          have HM := Lib.hid (fun A' c' w h => made_big (max lo1 lo2) (v1 + v2) A' (Pl.addL la0 lb0).length c' (Pl.addL la0 lb0) w h HPL.out (by omega))
          unfold MadeSaid vCx at HM
          have cur := Lib.hid HWW.out.drew
          have ocur := Lib.hid (show wr.drew.ownsRow _ _ _ _ _ _ from HO.out)
          have cf := cur.out.f.cell
          have cg := cur.out.g.cell
          clear HWW HO HPL imax imin HBS
          generalize Pl.cMade (max lo1 lo2) (v1 + v2) (Pl.addL la0 lb0) = RM at *
          generalize Pl.addL la0 lb0 = L at *
          have wvv : IntKind.i64.wrap (v1 + v2) = v1 + v2 := IntWalk.i64_in _ (by omega)
          go_wp2_with fail
          go_region_held3 (fun w' => (∀ j, w'.cell? ⟨w.heap.size, j, none⟩ = #[.int .i64 lo1, .int .i64 va1, .slice A n c1][j]?) ∧ (∀ j, w'.cell? ⟨w.heap.size + 1, j, none⟩ = #[.int .i64 lo2, .int .i64 va2, .slice B m c2][j]?))
            (first | exact ⟨cur.out.f.cell, cur.out.g.cell⟩ | exact ⟨(((cur.out.f.far (by show w.heap.size ≠ w.heap.size + 1 + 1; omega) _).far (by show w.heap.size ≠ w.heap.size + 1 + 1; omega) _).far (by show w.heap.size ≠ w.heap.size + 1 + 1; omega) _).cell, (((cur.out.g.far (by show w.heap.size + 1 ≠ w.heap.size + 1 + 1; omega) _).far (by show w.heap.size + 1 ≠ w.heap.size + 1 + 1; omega) _).far (by show w.heap.size + 1 ≠ w.heap.size + 1 + 1; omega) _).cell⟩)
            (first
              | (go_at_call 66; with_reducible refine (HA1.out _ (HAR.out.go cur.out.bel)).mono ?_; rintro e wz ⟨rfl, hbz⟩; have ocur := Lib.hid (own_go ocur.out hbz); have cur := Lib.hid (cur.out.go hbz); clear hbz)
              | (go_at_call 66; with_reducible refine (HA2.out _ (HBR.out.go cur.out.bel)).mono ?_; rintro e wz ⟨rfl, hbz⟩; have ocur := Lib.hid (own_go ocur.out hbz); have cur := Lib.hid (cur.out.go hbz); clear hbz)
              | (go_at_call 63; refine (HM.out _ _ _ (Reads.of_own ocur.out)).mono ?_; rintro e wz ⟨Am, cm, rfl, hownm, hbz⟩; have om := Lib.hid (own_base hownm (Nat.succ_le_of_lt cur.out.r.lt)); have cur := Lib.hid (cur.out.go hbz); have km := cur.out.r.cell; have fm := cur.out.r.frozen; have km0 := km 0; have km1 := km 1; have km2 := km 2; have fm0 := fm 0; have fm1 := fm 1; have fm2 := fm 2; have lm := cur.out.r.lt; clear hbz hownm))
          all_goals
            go_wp2_with fail
            have E6 := Lib.hid (((cur.out.r.set_ 0 (.int .i64 RM.1.1)).set_ 1 (.int .i64 RM.1.2.1)).set_ 2 (.slice Am RM.1.2.2.length cm))
            have k7 := E6.out.cell
            refine bodyPost_ret (v := .tuple #[vCx RM.1.1 RM.1.2.1 Am RM.1.2.2.length cm, .int .i64 RM.2]) (by simp [results, Try.results39, go_sem, vCx, k7]) rfl ⟨Am, cm, by rw [HX.out]; rfl, ?_, ?_⟩
            · rw [HX.out]
              exact own_base (own_far (own_far (own_far om.out (by simp) _) (by simp) _) (by simp) _) (by omega)
            · exact (((cur.out.bel.setCell (by simp; omega) _).setCell (by simp; omega) _).setCell (by simp; omega) _)
        | cons q lb =>
          obtain ⟨ga, gb, ra, rb, hne⟩ := HT.out
          have hgab := hne (by simp) (by simp)
          have hgba : ¬ gb = ga := fun e => hgab e.symm
          obtain ⟨oa, cura, rfl, ga1, ga2, ba, a1, a2, fa⟩ := row_head ra
          obtain ⟨ob, curb, rfl, gb1, gb2, bb, b1, b2, fb⟩ := row_head rb
          have pb := HL1.out p (List.mem_cons_self)
          have qb := HL2.out q (List.mem_cons_self)
          have RA := Lib.hid ra
          have RB := Lib.hid rb
          clear ra rb hne HT
          obtain ⟨m', s⟩ := p
          obtain ⟨k', t⟩ := q
          simp only at a1 a2 b1 b2 pb qb
          obtain ⟨pb1, pb2, pb3, pb4⟩ := pb
          obtain ⟨qb1, qb2, qb3, qb4⟩ := qb
          simp only [List.length_cons] at hca hcb hlen
          obtain ⟨nmin, hnm⟩ : ∃ x, x = min m' k' := ⟨_, rfl⟩
          have hmin : (if k' < m' then k' else m') = nmin := by rw [hnm]; exact imin m' k'
          have z0 : (0 : Int) < (la.length : Int) + 1 := by omega
          have z1 : (0 : Int) < (lb.length : Int) + 1 := by omega
          have fa0 := fa oa
          have fb0 := fb ob
          have lga : ga < wr.heap.size := ba.lt
          have lgb : gb < wr.heap.size := bb.lt
          have HBA := Lib.hid ba
          have HBBk := Lib.hid bb
          clear ba bb fa fb imin imax
          have HNM := Lib.hid hnm
          clear hnm
          go_wp2_with fail
          go_quiet (fail)
          go_wp2_with fail
          have B2 : Below wr.heap.size wr (wr.drewN nq) := below_drewN (Below.refl _ _) nq
          have RA2 := Lib.hid (RA.out.go B2)
          have RB2 := Lib.hid (RB.out.go B2)
          have HO2 := Lib.hid (own_go HO.out B2)
          have HW2 := Lib.hid (HWW.out.go B2)
          have HS2 := Lib.hid (Nat.le_trans HBS.out B2.size)
          have a3 : (wr.drewN nq).cell? ⟨ga, oa + 1, none⟩ = some (.int .i64 s) := a2
          have b3 : (wr.drewN nq).cell? ⟨gb, ob + 1, none⟩ = some (.int .i64 t) := b2
          have lga2 : ga < (wr.drewN nq).heap.size := lga
          have lgb2 : gb < (wr.drewN nq).heap.size := lgb
          clear a1 a2 b1 b2 fa0 fb0 RA RB HO HWW HBS B2 HBA HBBk lga lgb hmin
          generalize wr.drewN nq = w2 at *
          have Q1 : ll.length + 1 ≤ maxLen := by unfold maxLen; omega
          have Q2 : (ll.length + 1) * 16 ≤ 140737488355328 := by omega
          have Ga : (Value.slice Al ll.length cl).ownBlock ≠ some ga := fun h => own_ne HO2.out (.inl ga2) h.symm
          have Gb : (Value.slice Al ll.length cl).ownBlock ≠ some gb := fun h => own_ne HO2.out (.inl gb2) h.symm
          have hsz2 := HS2.out
          have wst : IntKind.i64.wrap (s + t) = s + t := IntWalk.i64_in _ (by omega)
          go_region_held3 (fun w' => w'.cell? ⟨ga, oa + 1, none⟩ = some (.int .i64 s) ∧ w'.cell? ⟨gb, ob + 1, none⟩ = some (.int .i64 t))
            (first
              | go_keep
              | (go_split_ands
                 refine ⟨?_, ?_⟩
                 · (rw [hgrow.cell_far _ (by simp; omega) (Ne.symm Ga)]; assumption)
                 · (rw [hgrow.cell_far _ (by simp; omega) (Ne.symm Gb)]; assumption)))
            ((refine step_append_lies _ (by rfl) _ _ _ (by rfl) base 94 i0 _ 2 16 Try.underlying90 hi0 hz0 hz1 hz2 rfl (by omega) (.slice Al ll.length cl) ll.length (pairs ll) (by rfl) ((HO2.out.alloc _).drew)
                ⟨w2.heap.size, 0, none⟩ 1 1 [.int .i64 nmin, .int .i64 (s + t)] (by rfl) (by rfl) (World.news_of_block (cs := #[.int .i64 nmin, .int .i64 (s + t)]) (t := 94) (fr := (0, 0)) (heap_alloc_new w2 _)) (by simp [Value.oneCell'])
                (by omega) Q1 Q2 (by simp; omega) (w2.heap.size + 1) (by simp) ?_; intro gg cap w3 hown3 hgrow hat hlt3))
          have HO1 := Lib.hid ((HO2.out.alloc (.cells #[.int .i64 nmin, .int .i64 (s + t)] 94)).drew)
          have RA3 := Lib.hid (((RA2.out.alloc (.cells #[.int .i64 nmin, .int .i64 (s + t)] 94)).drew).grown hgrow fun k hk => (HO1.out.lt k hk).1)
          have RB3 := Lib.hid (((RB2.out.alloc (.cells #[.int .i64 nmin, .int .i64 (s + t)] 94)).drew).grown hgrow fun k hk => (HO1.out.lt k hk).1)
          have HW3 := Lib.hid (((HW2.out.alloc (.cells #[.int .i64 nmin, .int .i64 (s + t)] 94)).drew).grown hgrow HO1.out hbw (Nat.le_refl _))
          have HO3 := Lib.hid hown3
          have HZ3 : Hid (base ≤ w3.heap.size) := by have := hgrow.size; simp at this; show base ≤ _; omega
          clear wst hgrow hown3 hat hlt3 HO1 HO2 RA2 RB2 HW2 HS2 hsz2 a3 b3 lga2 lgb2 Ga Gb Q1 Q2
          obtain ⟨oa', cura', ea', _, _, ba3, x1, _, fa3⟩ := row_head RA3.out
          injection ea' with ea'
          injection ea' with _ ea' _
          subst ea'
          obtain ⟨ob', curb', eb', _, _, bb3, y1, _, fb3⟩ := row_head RB3.out
          injection eb' with eb'
          injection eb' with _ eb' _
          subst eb'
          have fa0 := fa3 oa
          have fb0 := fb3 ob
          have lga : ga < w3.heap.size := ba3.lt
          have lgb : gb < w3.heap.size := bb3.lt
          clear ba3 bb3 fa3 fb3
          simp only at x1 y1
          have HPL2 : Hid (∀ q ∈ ll ++ [(nmin, s + t)], 1 ≤ q.1 ∧ q.1 ≤ 2000000) := fun q hq => by
            rcases List.mem_append.1 hq with hq | hq
            · exact HPL.out q hq
            · rw [List.mem_singleton.1 hq]; have := HNM.out; simp only; omega
          have hlen2 : (ll ++ [(nmin, s + t)]).length = ll.length + 1 := by simp
          have HO4 : Hid (w3.ownsRow base 94 2 (.slice (some ⟨gg, 0, none⟩) (ll ++ [(nmin, s + t)]).length cap) (ll ++ [(nmin, s + t)]).length (pairs (ll ++ [(nmin, s + t)]))) := by
            show World.ownsRow _ _ _ _ _ _ _
            rw [hlen2, pairs_snoc]
            exact HO3.out
          have HLA : Hid (∀ q ∈ la, 1 ≤ q.1 ∧ q.1 ≤ 2000000 ∧ -10000000 ≤ q.2 ∧ q.2 ≤ 10000000) := fun q hq => HL1.out q (List.mem_cons_of_mem _ hq)
          have HLB : Hid (∀ q ∈ lb, 1 ≤ q.1 ∧ q.1 ≤ 2000000 ∧ -10000000 ≤ q.2 ∧ q.2 ≤ 10000000) := fun q hq => HL2.out q (List.mem_cons_of_mem _ hq)
          clear HO3 HPL HL1 HL2
          rcases Int.lt_trichotomy m' k' with hmk | hmk | hmk
          · have hnm : nmin = m' := by rw [HNM.out]; omega
            subst hnm
            have HR2 : Hid ((ll ++ [(nmin, s + t)]) ++ Pl.addL la ((k' - nmin, t) :: lb) = Pl.addL la0 lb0) := by
              show _ = _
              rw [← HR.out, Pl.addL_cons, if_pos hmk, show min nmin k' = nmin by omega, List.append_assoc]; rfl
            have RA4 := Lib.hid (row_set RA3.out 0)
            obtain ⟨A', c', hrun, hc', RA5⟩ := row_tail (c := ca) RA4.out (n := la.length + 1) (by simp) (by omega)
            have RA6 := Lib.hid (RA5.far (p := ⟨gb, ob, none⟩) hgab (.int .i64 (k' - nmin)))
            have RB5 := Lib.hid (row_set (RB3.out.far (p := ⟨ga, oa, none⟩) hgba (.int .i64 0)) (k' - nmin))
            have e0 : (k' - nmin == 0) = false := by simp; omega
            clear RA5 RA4 RA3 RB3 HR HNM
            go_wp2_with fail
            go_roundw
            case rel =>
              refine ⟨la, (k' - nmin, t) :: lb, ll ++ [(nmin, s + t)], A', some ⟨gb, ob, none⟩, some ⟨gg, 0, none⟩, c', cb, cap, ?_, ?_, ?_, ?_, ?_, ?_, ?_, ?_, HR2, HLA, ?_, ?_, ?_, HPL2⟩
              · rfl
              · rfl
              · rw [hlen2]
              · omega
              · exact hcb
              · rw [hlen2]; simp only [List.length_cons]; omega
              · exact ⟨ga, gb, RA6.out, RB5.out, fun _ _ => hgab⟩
              · exact own_far (own_far HO4.out (by exact ga2) _) (by exact gb2) _
              · intro q hq
                rcases List.mem_cons.1 hq with rfl | hq
                · simp only; omega
                · exact HLB.out q hq
              · exact (HW3.out.set (p := ⟨ga, oa, none⟩) ga1 (Nat.le_refl _) _).set (p := ⟨gb, ob, none⟩) gb1 (Nat.le_refl _) _
              · show base ≤ _; simpa using HZ3.out
            case measure => simp [lenV]
          · have hnm : nmin = m' := by rw [HNM.out]; omega
            subst hnm
            subst hmk
            have HR2 : Hid ((ll ++ [(nmin, s + t)]) ++ Pl.addL la lb = Pl.addL la0 lb0) := by
              show _ = _
              rw [← HR.out, Pl.addL_cons, if_neg (by omega), if_neg (by omega), show min nmin nmin = nmin by omega, List.append_assoc]; rfl
            have RA4 := Lib.hid (row_set RA3.out 0)
            obtain ⟨A', c', hrun, hc', RA5⟩ := row_tail (c := ca) RA4.out (n := la.length + 1) (by simp) (by omega)
            have RA6 := Lib.hid (RA5.far (p := ⟨gb, ob, none⟩) hgab (.int .i64 0))
            have RB5 := Lib.hid (row_set (RB3.out.far (p := ⟨ga, oa, none⟩) hgba (.int .i64 0)) 0)
            obtain ⟨B', d', hrun2, hd', RB6⟩ := row_tail (c := cb) RB5.out (n := lb.length + 1) (by simp) (by omega)
            have RB7 := Lib.hid RB6
            clear RA5 RA4 RA3 RB3 HR HNM RB6 RB5
            go_wp2_with fail
            go_roundw
            case rel =>
              refine ⟨la, lb, ll ++ [(nmin, s + t)], A', B', some ⟨gg, 0, none⟩, c', d', cap, ?_, ?_, ?_, ?_, ?_, ?_, ?_, ?_, HR2, HLA, HLB, ?_, ?_, HPL2⟩
              · rfl
              · rfl
              · rw [hlen2]
              · omega
              · omega
              · rw [hlen2]; omega
              · exact ⟨ga, gb, RA6.out, RB7.out, fun _ _ => hgab⟩
              · exact own_far (own_far HO4.out (by exact ga2) _) (by exact gb2) _
              · exact (HW3.out.set (p := ⟨ga, oa, none⟩) ga1 (Nat.le_refl _) _).set (p := ⟨gb, ob, none⟩) gb1 (Nat.le_refl _) _
              · show base ≤ _; simpa using HZ3.out
            case measure => simp [lenV]; omega
          · have hnm : nmin = k' := by rw [HNM.out]; omega
            subst hnm
            have HR2 : Hid ((ll ++ [(nmin, s + t)]) ++ Pl.addL ((m' - nmin, s) :: la) lb = Pl.addL la0 lb0) := by
              show _ = _
              rw [← HR.out, Pl.addL_cons, if_neg (by omega), if_pos hmk, show min m' nmin = nmin by omega, List.append_assoc]; rfl
            have RA4 := Lib.hid ((row_set RA3.out (m' - nmin)).far (p := ⟨gb, ob, none⟩) hgab (.int .i64 0))
            have RB5 := Lib.hid (row_set (RB3.out.far (p := ⟨ga, oa, none⟩) hgba (.int .i64 (m' - nmin))) 0)
            obtain ⟨B', d', hrun2, hd', RB6⟩ := row_tail (c := cb) RB5.out (n := lb.length + 1) (by simp) (by omega)
            have RB7 := Lib.hid RB6
            have e0 : (m' - nmin == 0) = false := by simp; omega
            clear RA3 RB3 HR HNM RB6 RB5
            go_wp2_with fail
            go_roundw
            case rel =>
              refine ⟨(m' - nmin, s) :: la, lb, ll ++ [(nmin, s + t)], some ⟨ga, oa, none⟩, B', some ⟨gg, 0, none⟩, ca, d', cap, ?_, ?_, ?_, ?_, ?_, ?_, ?_, ?_, HR2, ?_, HLB, ?_, ?_, HPL2⟩
              · rfl
              · rfl
              · rw [hlen2]
              · exact hca
              · omega
              · rw [hlen2]; simp only [List.length_cons]; omega
              · exact ⟨ga, gb, RA4.out, RB7.out, fun _ _ => hgab⟩
              · exact own_far (own_far HO4.out (by exact ga2) _) (by exact gb2) _
              · intro q hq
                rcases List.mem_cons.1 hq with rfl | hq
                · simp only; omega
                · exact HLA.out q hq
              · exact (HW3.out.set (p := ⟨ga, oa, none⟩) ga1 (Nat.le_refl _) _).set (p := ⟨gb, ob, none⟩) gb1 (Nat.le_refl _) _
              · show base ≤ _; simpa using HZ3.out
            case measure => simp [lenV]
set_option maxHeartbeats 3200000 in
set_option maxRecDepth 100000 in
theorem cAdd_bad (lo1 va1 lo2 va2 u : Int) (A B : Option Addr) (n m c1 c2 : Nat) (ps qs : List (Int × Int)) (w : World) (ha : Reads w w.heap.size 2 A n (pairs ps)) (hb : Reads w w.heap.size 2 B m (pairs qs)) (hu : (if Pl.ccheck lo1 va1 ps ≠ 0 then Pl.ccheck lo1 va1 ps else Pl.ccheck lo2 va2 qs) = u) (hu0 : u ≠ 0) :
    Calls Try.prog 39 #[vCx lo1 va1 A n c1, vCx lo2 va2 B m c2] w (ConvErr u w) := by
  have HCK := Lib.hid (fun AA cc w a b c => check2_any AA A B cc n m c1 c2 lo1 va1 lo2 va2 ps qs w a b c)
  rw [hu] at HCK
  have HAR := Lib.hid ha
  have HBR := Lib.hid hb
  have h2 : (u != 0) = true := by simpa using hu0
  clear ha hb hu hu0
  unfold vCx
  go_enter Try.func39, Try.ntmps39
  obtain ⟨wd, hwd, HW, e3⟩ : ∃ wd, wd = ((w.alloc (.cells #[.int .i64 lo1, .int .i64 va1, .slice A n c1] 92)).alloc (.cells #[.int .i64 lo2, .int .i64 va2, .slice B m c2] 92)).alloc (.cells #[.int .i64 0, .int .i64 0, .slice none 0 0] 92) ∧ Hid (AddW w w.heap.size #[.int .i64 lo1, .int .i64 va1, .slice A n c1] #[.int .i64 lo2, .int .i64 va2, .slice B m c2] wd) ∧ Hid (w.heap.size + 1 + 1 + 1 = wd.heap.size) := by
    refine ⟨_, rfl, ⟨?_, ?_, ?_, ?_⟩, ?_⟩
    · exact (((Below.refl w.heap.size w).alloc (Nat.le_refl _) _).alloc (by simp) _).alloc (by simp; omega) _
    · exact ((Blk.new_ w w.heap.size _ _ rfl).alloc _).alloc _
    · exact (Blk.new_ _ (w.heap.size + 1) _ _ (by simp)).alloc _
    · exact Blk.new_ _ (w.heap.size + 1 + 1) _ _ (by simp)
    · show _ = _
      simp
  go_wp2_with fail
  rw [← hwd]
  clear hwd
  have HW1 := Lib.hid (HW.out.alloc (.cells #[.int .i64 lo1, .int .i64 va1, .slice A n c1, .int .i64 lo2, .int .i64 va2, .slice B m c2] 92))
  refine (HCK.out _ _ _ (Reads.lit wd #[.int .i64 lo1, .int .i64 va1, .slice A n c1, .int .i64 lo2, .int .i64 va2, .slice B m c2] 92 2 3 _ e3.out rfl) (HAR.out.go HW1.out.bel) (HBR.out.go HW1.out.bel)).mono ?_
  rintro e w1 ⟨rfl, hb⟩
  have HW2 := Lib.hid (HW1.out.go hb)
  clear hb HW1 HW e3 HCK
  have c44 := HW2.out.r.cell
  have f44 := HW2.out.r.frozen
  go_wp2_with fail
  have E6 := Lib.hid (((HW2.out.r.set_ 0 (.int .i64 0)).set_ 1 (.int .i64 0)).set_ 2 (.slice none 0 0))
  have k7 := E6.out.cell
  refine bodyPost_ret (v := .tuple #[.agg #[.int .i64 0, .int .i64 0, .slice none 0 0], .int .i64 u]) (by simp [results, Try.results39, go_sem, k7]) rfl ⟨rfl, ?_⟩
  exact (((HW2.out.bel.setCell (p := ⟨w.heap.size + 1 + 1, 0, none⟩) (by show w.heap.size ≤ w.heap.size + 1 + 1; omega) _).setCell (p := ⟨w.heap.size + 1 + 1, 1, none⟩) (by show w.heap.size ≤ w.heap.size + 1 + 1; omega) _).setCell (p := ⟨w.heap.size + 1 + 1, 2, none⟩) (by show w.heap.size ≤ w.heap.size + 1 + 1; omega) _)
set_option maxHeartbeats 3200000 in
set_option maxRecDepth 100000 in
theorem cAdd_none (lo1 va1 lo2 va2 : Int) (A B : Option Addr) (n m c1 c2 : Nat) (ps qs : List (Int × Int)) (w : World) (ha : Reads w w.heap.size 2 A n (pairs ps)) (hb : Reads w w.heap.size 2 B m (pairs qs)) (h1 : Pl.ccheck lo1 va1 ps = 0) (h2 : Pl.ccheck lo2 va2 qs = 0) (h3 : min (Pl.chigh lo1 ps) (Pl.chigh lo2 qs) < max lo1 lo2) :
    Calls Try.prog 39 #[vCx lo1 va1 A n c1, vCx lo2 va2 B m c2] w (ConvErr 8 w) := by
  obtain ⟨g1, l1, hlo1, hva1⟩ := Pl.ccheck_ok h1
  obtain ⟨g2, l2, hlo2, hva2⟩ := Pl.ccheck_ok h2
  have hn : n ≤ 64 := by have := ha.pair_len; omega
  have hm : m ≤ 64 := by have := hb.pair_len; omega
  have HCK := Lib.hid (fun AA cc w a b c => check2_any AA A B cc n m c1 c2 lo1 va1 lo2 va2 ps qs w a b c)
  rw [h1, h2] at HCK
  have HH1 := Lib.hid (fun w h => chigh_any lo1 va1 A n c1 ps w h g1 hn hlo1)
  have HH2 := Lib.hid (fun w h => chigh_any lo2 va2 B m c2 qs w h g2 hm hlo2)
  have HAR := Lib.hid ha
  have HBR := Lib.hid hb
  have imax : ∀ a b : Int, (if a < b then b else a) = max a b := ite_max
  have imin : ∀ a b : Int, (if b < a then b else a) = min a b := ite_min
  have hgt : decide (min (Pl.chigh lo1 ps) (Pl.chigh lo2 qs) < max lo1 lo2) = true := decide_eq_true h3
  clear h1 h2 h3 g1 g2 l1 l2 hlo1 hlo2 hva1 hva2 ha hb
  generalize Pl.chigh lo1 ps = h1 at *
  generalize Pl.chigh lo2 qs = h2 at *
  unfold vCx at *
  go_enter Try.func39, Try.ntmps39
  obtain ⟨wd, hwd, HW, e3⟩ : ∃ wd, wd = ((w.alloc (.cells #[.int .i64 lo1, .int .i64 va1, .slice A n c1] 92)).alloc (.cells #[.int .i64 lo2, .int .i64 va2, .slice B m c2] 92)).alloc (.cells #[.int .i64 0, .int .i64 0, .slice none 0 0] 92) ∧ Hid (AddW w w.heap.size #[.int .i64 lo1, .int .i64 va1, .slice A n c1] #[.int .i64 lo2, .int .i64 va2, .slice B m c2] wd) ∧ Hid (w.heap.size + 1 + 1 + 1 = wd.heap.size) := by
    refine ⟨_, rfl, ⟨?_, ?_, ?_, ?_⟩, ?_⟩
    · exact (((Below.refl w.heap.size w).alloc (Nat.le_refl _) _).alloc (by simp) _).alloc (by simp; omega) _
    · exact ((Blk.new_ w w.heap.size _ _ rfl).alloc _).alloc _
    · exact (Blk.new_ _ (w.heap.size + 1) _ _ (by simp)).alloc _
    · exact Blk.new_ _ (w.heap.size + 1 + 1) _ _ (by simp)
    · show _ = _
      simp
  go_wp2_with fail
  rw [← hwd]
  clear hwd
  have HW1 := Lib.hid (HW.out.alloc (.cells #[.int .i64 lo1, .int .i64 va1, .slice A n c1, .int .i64 lo2, .int .i64 va2, .slice B m c2] 92))
  refine (HCK.out _ _ _ (Reads.lit wd #[.int .i64 lo1, .int .i64 va1, .slice A n c1, .int .i64 lo2, .int .i64 va2, .slice B m c2] 92 2 3 _ e3.out rfl) (HAR.out.go HW1.out.bel) (HBR.out.go HW1.out.bel)).mono ?_
  rintro e w1 ⟨rfl, hb⟩
  have HW2 := Lib.hid (HW1.out.go hb)
  clear hb HW1 HW e3 HCK
  have HRA1 := Lib.hid (HAR.out.go HW2.out.bel)
  have HRB1 := Lib.hid (HBR.out.go HW2.out.bel)
  have f0 := HW2.out.f.cell 0
  have f1 := HW2.out.f.cell 1
  have f2 := HW2.out.f.cell 2
  have g0 := HW2.out.g.cell 0
  have g1 := HW2.out.g.cell 1
  have g2 := HW2.out.g.cell 2
  go_wp2_with fail
  replace f0 := Wd.cell f0
  replace f1 := Wd.cell f1
  replace f2 := Wd.cell f2
  replace g0 := Wd.cell g0
  replace g1 := Wd.cell g1
  replace g2 := Wd.cell g2
  refine wp_region_wd (by kernel_rfl) (by kernel_rfl) ?_
  repeat (go_big_quiet_step ((first | (go_at_call 65; with_reducible exact Calls.wd (HH1.out _ (HRA1.out.go (Wd.ok _)))) | (go_at_call 65; with_reducible exact Calls.wd (HH2.out _ (HRB1.out.go (Wd.ok _)))))))

  refine wpQuiet_nil ?_
  rintro _ ⟨w6, rfl⟩
  have HW3 := Lib.hid (HW2.out.go w6.ok)
  clear f0 f1 f2 g0 g1 g2 HW2
  generalize w6.val = w7 at *
  have c44 := HW3.out.r.cell
  have f44 := HW3.out.r.frozen
  go_wp2_with fail
  have E6 := Lib.hid (((HW3.out.r.set_ 0 (.int .i64 0)).set_ 1 (.int .i64 0)).set_ 2 (.slice none 0 0))
  have k7 := E6.out.cell
  refine bodyPost_ret (v := .tuple #[.agg #[.int .i64 0, .int .i64 0, .slice none 0 0], .int .i64 8]) (by simp [results, Try.results39, go_sem, k7]) rfl ⟨rfl, ?_⟩
  exact (((HW3.out.bel.setCell (p := ⟨w.heap.size + 1 + 1, 0, none⟩) (by show w.heap.size ≤ w.heap.size + 1 + 1; omega) _).setCell (p := ⟨w.heap.size + 1 + 1, 1, none⟩) (by show w.heap.size ≤ w.heap.size + 1 + 1; omega) _).setCell (p := ⟨w.heap.size + 1 + 1, 2, none⟩) (by show w.heap.size ≤ w.heap.size + 1 + 1; omega) _)
theorem cAdd_any (lo1 va1 lo2 va2 : Int) (A B : Option Addr) (n m c1 c2 : Nat) (ps qs : List (Int × Int)) (w : World) (ha : Reads w w.heap.size 2 A n (pairs ps)) (hb : Reads w w.heap.size 2 B m (pairs qs)) :
    Calls Try.prog 39 #[vCx lo1 va1 A n c1, vCx lo2 va2 B m c2] w (MadeSaid (Pl.cAdd lo1 va1 ps lo2 va2 qs) w) := by
  have bad : ∀ u, Pl.cAdd lo1 va1 ps lo2 va2 qs = ((0, 0, []), u) → Calls Try.prog 39 #[vCx lo1 va1 A n c1, vCx lo2 va2 B m c2] w (ConvErr u w) → Calls Try.prog 39 #[vCx lo1 va1 A n c1, vCx lo2 va2 B m c2] w (MadeSaid (Pl.cAdd lo1 va1 ps lo2 va2 qs) w) := by
    intro u e h
    refine h.mono ?_
    rintro e' w' ⟨rfl, hbel⟩
    rw [e]
    exact ⟨none, 0, rfl, World.ownsRow_nil _ _ _ _, hbel⟩
  by_cases h1 : Pl.ccheck lo1 va1 ps = 0
  · by_cases h2 : Pl.ccheck lo2 va2 qs = 0
    · by_cases h3 : max lo1 lo2 ≤ min (Pl.chigh lo1 ps) (Pl.chigh lo2 qs)
      · exact cAdd_good lo1 va1 lo2 va2 A B n m c1 c2 ps qs w ha hb h1 h2 h3
      · exact bad 8 (by unfold Pl.cAdd; rw [if_neg (by simpa using h1), if_neg (by simpa using h2), if_pos (by omega)]) (cAdd_none lo1 va1 lo2 va2 A B n m c1 c2 ps qs w ha hb h1 h2 (by omega))
    · exact bad (Pl.ccheck lo2 va2 qs) (by unfold Pl.cAdd; rw [if_neg (by simpa using h1), if_pos h2]) (cAdd_bad lo1 va1 lo2 va2 _ A B n m c1 c2 ps qs w ha hb (by rw [if_neg (by simpa using h1)]) h2)
  · exact bad (Pl.ccheck lo1 va1 ps) (by unfold Pl.cAdd; rw [if_pos h1]) (cAdd_bad lo1 va1 lo2 va2 _ A B n m c1 c2 ps qs w ha hb (by rw [if_pos h1]) h1)
end Go.Proofs.Ytchafkocobbndaa
