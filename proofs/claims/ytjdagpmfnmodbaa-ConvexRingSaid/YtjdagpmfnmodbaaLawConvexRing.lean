/- The law ConvexRing: for all functions the call returns true, and old memory is left as it is. Condition: what the sort of pieces says. -/
import Derived.Test.YtjdagpmfnmodbaaAdd
import Derived.Test.YtjdagpmfnmodbaaConvA
import Derived.Test.YtjdagpmfnmodbaaFine
import Derived.Test.YtjdagpmfnmodbaaSame
namespace Go.Proofs.Ytjdagpmfnmodbaa
open Go.RowKit
/-- two operations of the ring -/
abbrev ROp := Int → Int → List (Int × Int) → Int → Int → List (Int × Int) → (Int × Int × List (Int × Int)) × Int
structure RingLaw (op : ROp) : Prop where
  short : ∀ lf vf pf lg vg pg, (op lf vf pf lg vg pg).1.2.2.length ≤ 64
  comm : ∀ lf vf pf lg vg pg, (op lf vf pf lg vg pg).2 = 0 → op lg vg pg lf vf pf = op lf vf pf lg vg pg
  assoc : ∀ lf vf pf lg vg pg lh vh ph la va pa lc vc pc, op lf vf pf lg vg pg = ((la, va, pa), 0) → op lg vg pg lh vh ph = ((lc, vc, pc), 0) → (op la va pa lh vh ph).2 = 0 → (op lf vf pf lc vc pc).2 = 0 → op la va pa lh vh ph = op lf vf pf lc vc pc
theorem cMade_short (lo va : Int) (L : List (Int × Int)) : (Pl.cMade lo va L).1.2.2.length ≤ 64 := by
  unfold Pl.cMade
  split
  · simp
  · rename_i h
    exact (Pl.ccheck_ok (by simpa using h)).2.1
theorem add_short (lf vf : Int) (pf : List (Int × Int)) (lg vg : Int) (pg : List (Int × Int)) : (Pl.cAdd lf vf pf lg vg pg).1.2.2.length ≤ 64 := by
  unfold Pl.cAdd
  split
  · simp
  · split
    · simp
    · split
      · simp
      · exact cMade_short _ _ _
theorem conv_short (lf vf : Int) (pf : List (Int × Int)) (lg vg : Int) (pg : List (Int × Int)) : (Pl.cConv lf vf pf lg vg pg).1.2.2.length ≤ 64 := by
  unfold Pl.cConv
  split
  · simp
  · split
    · simp
    · exact cMade_short _ _ _
theorem ring_add : RingLaw Pl.cAdd := ⟨add_short, fun _ _ _ _ _ _ h => Pl.add_comm h, fun _ _ _ _ _ _ _ _ _ _ _ _ _ _ _ a b c d => Pl.add_assoc a b c d⟩
theorem ring_conv : RingLaw Pl.cConv := ⟨conv_short, fun _ _ _ _ _ _ h => Pl.conv_comm h, fun _ _ _ _ _ _ _ _ _ _ _ _ _ _ _ a b c d => Pl.conv_assoc a b c d⟩
/-- the boxes of the law: three functions, then the two operations -/
structure RingW (W : World) (b : Nat) (F G H : Array Value) (w : World) : Prop where
  bel : Below W.heap.size W w
  f : Blk w b 30 F
  g : Blk w (b + 1) 30 G
  h : Blk w (b + 1 + 1) 30 H
section
variable {W w w' : World} {b : Nat} {F G H : Array Value}
theorem RingW.go (h : RingW W b F G H w) (hb : Below w.heap.size w w') : RingW W b F G H w' := ⟨h.bel.trans (hb.mono h.bel.size), h.f.go hb, h.g.go hb, h.h.go hb⟩
theorem RingW.alloc (h : RingW W b F G H w) (o : Obj) : RingW W b F G H (w.alloc o) := h.go ((Below.refl _ _).alloc (Nat.le_refl _) o)
end
theorem allOk_one {z : Int} (h : z ≠ 0) : allOk [z] = false := by
  cases e : allOk [z]
  · rfl
  · rw [allOk_true] at e
    exact absurd (e z (by simp)) h
set_option maxHeartbeats 6400000 in
set_option maxRecDepth 100000 in
theorem convexRing_walk (hsort : SortPOk) (l0 u0 : Int) (A0 : Option Addr) (n0 c0 : Nat) (s0 : List (Int × Int)) (l1 u1 : Int) (A1 : Option Addr) (n1 c1 : Nat) (s1 : List (Int × Int)) (l2 u2 : Int) (A2 : Option Addr) (n2 c2 : Nat) (s2 : List (Int × Int)) (w : World)
    (h0 : Reads w w.heap.size 2 A0 n0 (pairs s0)) (h1 : Reads w w.heap.size 2 A1 n1 (pairs s1)) (h2 : Reads w w.heap.size 2 A2 n2 (pairs s2)) :
    Calls Try.prog 9 #[vCx l0 u0 A0 n0 c0, vCx l1 u1 A1 n1 c1, vCx l2 u2 A2 n2 c2] w fun e w' => e = .returned (.bool true) ∧ Below w.heap.size w w' := by
  have R0 := Lib.hid h0
  have R1 := Lib.hid h1
  have R2 := Lib.hid h2
  have HSO := Lib.hid hsort
  clear h0 h1 h2 hsort
  unfold vCx
  obtain ⟨wd, hwd, HW⟩ : ∃ wd, wd = ((w.alloc (.cells #[.int .i64 l0, .int .i64 u0, .slice A0 n0 c0] 30)).alloc (.cells #[.int .i64 l1, .int .i64 u1, .slice A1 n1 c1] 30)).alloc (.cells #[.int .i64 l2, .int .i64 u2, .slice A2 n2 c2] 30) ∧ Hid (RingW w w.heap.size #[.int .i64 l0, .int .i64 u0, .slice A0 n0 c0] #[.int .i64 l1, .int .i64 u1, .slice A1 n1 c1] #[.int .i64 l2, .int .i64 u2, .slice A2 n2 c2] wd) := by
    refine ⟨_, rfl, ⟨?_, ?_, ?_, ?_⟩⟩
    · exact (((Below.refl w.heap.size w).alloc (Nat.le_refl _) _).alloc (by simp) _).alloc (by simp; omega) _
    · exact ((Blk.new_ w w.heap.size _ _ rfl).alloc _).alloc _
    · exact (Blk.new_ _ (w.heap.size + 1) _ _ (by simp)).alloc _
    · exact Blk.new_ _ (w.heap.size + 1 + 1) _ _ (by simp)
  go_enter Try.func9, Try.ntmps9
  go_wp2_with fail
  rw [← hwd]
  clear hwd
  refine (slopes_any _).mono ?_
  rintro e w1 ⟨rfl, hb⟩
  have HW1 := Lib.hid (HW.out.go hb)
  clear hb HW
  go_wp2_with fail
  have HS0 := Lib.hid (Blk.new_ w1 w1.heap.size 36 #[.func (.func 31) #[] #[], .func (.func 19) #[] #[]] rfl)
  have HW2 := Lib.hid (HW1.out.alloc (.cells #[.func (.func 31) #[] #[], .func (.func 19) #[] #[]] 36))
  generalize w1.alloc (.cells #[.func (.func 31) #[] #[], .func (.func 19) #[] #[]] 36) = w2 at *
  generalize w1.heap.size = bs at *
  clear HW1
  go_loopw [23] (fun i wr => ∃ k : Nat, k ≤ 2 ∧ i = .int .i64 k ∧ Hid (RingW w w.heap.size #[.int .i64 l0, .int .i64 u0, .slice A0 n0 c0] #[.int .i64 l1, .int .i64 u1, .slice A1 n1 c1] #[.int .i64 l2, .int .i64 u2, .slice A2 n2 c2] wr) ∧ Hid (Blk wr bs 36 #[.func (.func 31) #[] #[], .func (.func 19) #[] #[]])) (fun i _ => 2 - (intOf i).toNat)
  case atStart => exact ⟨0, by omega, rfl, HW2, HS0⟩
  case round =>
    clear HS0 HW2
    obtain ⟨k, hk, rfl, HWW, HS⟩ := hrel
    have h3 : k = 0 ∨ k = 1 ∨ k = 2 := by omega
    have cs := HS.out.cell
    rcases h3 with rfl | rfl | rfl
    · have HC := Lib.hid (fun lo1 va1 lo2 va2 A B n m c1 c2 ps qs w ha hb => cAdd_any lo1 va1 lo2 va2 A B n m c1 c2 ps qs w ha hb)
      have HLAW := Lib.hid ring_add
      unfold MadeSaid vCx at HC
      generalize Pl.cAdd = op at *
      obtain ⟨la, va, pa, ea, hfg⟩ : ∃ la va pa ea, op l0 u0 s0 l1 u1 s1 = ((la, va, pa), ea) := ⟨_, _, _, _, rfl⟩
      obtain ⟨lb, vb, pb, eb, hgf⟩ : ∃ lb vb pb eb, op l1 u1 s1 l0 u0 s0 = ((lb, vb, pb), eb) := ⟨_, _, _, _, rfl⟩
      obtain ⟨lc, vc, pc, ec, hgh⟩ : ∃ lc vc pc ec, op l1 u1 s1 l2 u2 s2 = ((lc, vc, pc), ec) := ⟨_, _, _, _, rfl⟩
      obtain ⟨lx, vx, px, ex, hah⟩ : ∃ lx vx px ex, op la va pa l2 u2 s2 = ((lx, vx, px), ex) := ⟨_, _, _, _, rfl⟩
      obtain ⟨ly, vy, py, ey, hfc⟩ : ∃ ly vy py ey, op l0 u0 s0 lc vc pc = ((ly, vy, py), ey) := ⟨_, _, _, _, rfl⟩
      have H1 := Lib.hid (fun w ha hb => HC.out l0 u0 l1 u1 A0 A1 n0 n1 c0 c1 s0 s1 w ha hb)
      have H2 := Lib.hid (fun w ha hb => HC.out l1 u1 l0 u0 A1 A0 n1 n0 c1 c0 s1 s0 w ha hb)
      have H3 := Lib.hid (fun w ha hb => HC.out l1 u1 l2 u2 A1 A2 n1 n2 c1 c2 s1 s2 w ha hb)
      have H4 := Lib.hid (fun A c w ha hb => HC.out la va l2 u2 A A2 pa.length n2 c c2 pa s2 w ha hb)
      have H5 := Lib.hid (fun A c w ha hb => HC.out l0 u0 lc vc A0 A n0 pc.length c0 c s0 pc w ha hb)
      rw [hfg] at H1
      rw [hgf] at H2
      rw [hgh] at H3
      rw [hah] at H4
      rw [hfc] at H5
      have HCOM : Hid (ea = 0 → la = lb ∧ va = vb ∧ pa = pb ∧ eb = 0) := fun h => by
        have := HLAW.out.comm l0 u0 s0 l1 u1 s1 (by rw [hfg]; exact h)
        rw [hfg, hgf, h] at this
        simp only [Prod.mk.injEq] at this
        exact ⟨this.1.1.symm, this.1.2.1.symm, this.1.2.2.symm, this.2⟩
      have HCOM2 : Hid (ea ≠ 0 → eb ≠ 0) := fun h hb => by
        have := HLAW.out.comm l1 u1 s1 l0 u0 s0 (by rw [hgf]; exact hb)
        rw [hfg, hgf, hb] at this
        simp only [Prod.mk.injEq] at this
        exact h this.2
      have HASS : Hid (allOk [ea, ec, ex, ey] = true → lx = ly ∧ vx = vy ∧ px = py) := fun h => by
        rw [allOk_true] at h
        have e1 := h ea (by simp)
        have e2 := h ec (by simp)
        have e3 := h ex (by simp)
        have e4 := h ey (by simp)
        subst e1 e2 e3 e4
        have := HLAW.out.assoc l0 u0 s0 l1 u1 s1 l2 u2 s2 la va pa lc vc pc hfg hgh (by rw [hah]) (by rw [hfc])
        rw [hah, hfc] at this
        simp only [Prod.mk.injEq] at this
        exact ⟨this.1.1, this.1.2.1, this.1.2.2⟩
      have hpa : pa.length ≤ 64 := by have := HLAW.out.short l0 u0 s0 l1 u1 s1; rw [hfg] at this; exact this
      have hpx : px.length ≤ 64 := by have := HLAW.out.short la va pa l2 u2 s2; rw [hah] at this; exact this
      clear hfg hgf hgh hah hfc HC HLAW
      have cf := HWW.out.f.cell
      have cg := HWW.out.g.cell
      have ch := HWW.out.h.cell
      go_wp2_with fail
      refine (H1.out _ (R0.out.go HWW.out.bel) (R1.out.go HWW.out.bel)).mono ?_
      rintro e wa ⟨Aa, da, rfl, owna, hb⟩
      have W1 := Lib.hid (HWW.out.go hb)
      have B1 := Lib.hid (HS.out.go hb)
      have Ra := Lib.hid (Reads.of_own owna)
      clear hb owna cf cg ch
      have al := (Below.refl wa.heap.size wa).alloc (Nat.le_refl _) (.cells #[.int .i64 la, .int .i64 va, .slice Aa pa.length da] 30)
      have W2 := Lib.hid (W1.out.go al)
      have B2 := Lib.hid (B1.out.go al)
      have Ra2 := Lib.hid (Ra.out.go al)
      have X2 := Lib.hid (Blk.new_ wa wa.heap.size 30 #[.int .i64 la, .int .i64 va, .slice Aa pa.length da] rfl)
      have cf := W2.out.f.cell
      have cg := W2.out.g.cell
      have lf := W1.out.f.lt
      have lg := W1.out.g.lt
      clear al
      go_wp2_with fail
      refine (H2.out _ (R1.out.go W2.out.bel) (R0.out.go W2.out.bel)).mono ?_
      rintro e wb ⟨Ab, db, rfl, ownb, hb⟩
      have W3 := Lib.hid (W2.out.go hb)
      have B3 := Lib.hid (B2.out.go hb)
      have Ra3 := Lib.hid (Ra2.out.go hb)
      have X3 := Lib.hid (X2.out.go hb)
      have Rb3 := Lib.hid (Reads.of_own ownb)
      clear hb ownb cf cg lf lg W1 B1 Ra W2 B2 Ra2 X2 HWW HS
      generalize wa.heap.size = ba at *
      have al := (Below.refl wb.heap.size wb).alloc (Nat.le_refl _) (.cells #[.int .i64 lb, .int .i64 vb, .slice Ab pb.length db] 30)
      have W4 := Lib.hid (W3.out.go al)
      have B4 := Lib.hid (B3.out.go al)
      have Ra4 := Lib.hid (Ra3.out.go al)
      have X4 := Lib.hid (X3.out.go al)
      have Rb4 := Lib.hid (Rb3.out.go al)
      have Y4 := Lib.hid (Blk.new_ wb wb.heap.size 30 #[.int .i64 lb, .int .i64 vb, .slice Ab pb.length db] rfl)
      clear al W3 B3 Ra3 X3 Rb3
      have HK1 := Lib.hid (fun (A : Option Addr) (z : Int) (w : World) (h : Reads w w.heap.size 1 A 1 (ints [z])) => fine_any A 1 1 [z] _ w (by omega) h)
      by_cases he : ea = 0
      · obtain ⟨q1, q2, q3, q4⟩ := HCOM.out he
        subst he q1 q2 q3 q4
        have HK0 := Lib.hid (fun A w h => HK1.out A 0 w h)
        rw [show allOk [0] = true from rfl] at HK0
        clear HCOM HCOM2 HK1
        go_wp2_with fail
        have EB : Hid (wb.heap.size + 1 = (wb.alloc (.cells #[.int .i64 la, .int .i64 va, .slice Ab pa.length db] 30)).heap.size) := by show _ = _; simp
        generalize hy : wb.alloc (.cells #[.int .i64 la, .int .i64 va, .slice Ab pa.length db] 30) = wb2 at *
        clear hy
        generalize wb.heap.size = bb at *
        have al := (Below.refl wb2.heap.size wb2).alloc (Nat.le_refl _) (.cells #[.int .i64 0] 25)
        have W41 := Lib.hid (W4.out.go al)
        have B41 := Lib.hid (B4.out.go al)
        have Ra41 := Lib.hid (Ra4.out.go al)
        have X41 := Lib.hid (X4.out.go al)
        have Rb41 := Lib.hid (Rb4.out.go al)
        have Y41 := Lib.hid (Y4.out.go al)
        clear al
        refine (HK0.out _ _ (Reads.lit wb2 #[.int .i64 0] 25 1 1 _ EB.out rfl)).mono ?_
        rintro e wf1 ⟨rfl, rfl⟩
        clear W4 B4 Ra4 X4 Rb4 Y4
        generalize wb2.alloc (.cells #[.int .i64 0] 25) = wf1 at *
        go_wp2_with fail
        have al := (Below.refl wf1.heap.size wf1).alloc (Nat.le_refl _) (.cells #[.int .i64 0] 25)
        have W42 := Lib.hid (W41.out.go al)
        have B42 := Lib.hid (B41.out.go al)
        have Ra42 := Lib.hid (Ra41.out.go al)
        have X42 := Lib.hid (X41.out.go al)
        have Rb42 := Lib.hid (Rb41.out.go al)
        have Y42 := Lib.hid (Y41.out.go al)
        clear al
        refine (HK0.out _ _ (Reads.lit wf1 #[.int .i64 0] 25 1 1 _ rfl rfl)).mono ?_
        rintro e wf2 ⟨rfl, rfl⟩
        clear W41 B41 Ra41 X41 Rb41 Y41
        generalize wf1.alloc (.cells #[.int .i64 0] 25) = wf2 at *
        go_wp2_with fail
        have al := (Below.refl wf2.heap.size wf2).alloc (Nat.le_refl _) (.cells #[.int .i64 0] 25)
        have W43 := Lib.hid (W42.out.go al)
        have B43 := Lib.hid (B42.out.go al)
        have Ra43 := Lib.hid (Ra42.out.go al)
        have X43 := Lib.hid (X42.out.go al)
        have Rb43 := Lib.hid (Rb42.out.go al)
        have Y43 := Lib.hid (Y42.out.go al)
        have cx := X43.out.cell
        have cy := Y43.out.cell
        clear al
        refine (HK0.out _ _ (Reads.lit wf2 #[.int .i64 0] 25 1 1 _ rfl rfl)).mono ?_
        rintro e wf3 ⟨rfl, rfl⟩
        clear W42 B42 Ra42 X42 Rb42 Y42
        generalize wf2.alloc (.cells #[.int .i64 0] 25) = wf3 at *
        go_wp2_with fail
        refine (same_any _ _ _ _ _ _ _ _ _ (by omega) Ra43.out Rb43.out).mono ?_
        rintro e w5 ⟨rfl, hb⟩
        have W5 := Lib.hid (W43.out.go hb)
        have B5 := Lib.hid (B43.out.go hb)
        have Ra5 := Lib.hid (Ra43.out.go hb)
        have X5 := Lib.hid (X43.out.go hb)
        clear hb cx cy W43 B43 Ra43 X43 Rb43 Y43
        have cg := W5.out.g.cell
        have ch := W5.out.h.cell
        go_wp2_with fail
        refine (H3.out _ (R1.out.go W5.out.bel) (R2.out.go W5.out.bel)).mono ?_
        rintro e wc ⟨Ac, dc, rfl, ownc, hb⟩
        have W6 := Lib.hid (W5.out.go hb)
        have B6 := Lib.hid (B5.out.go hb)
        have Ra6 := Lib.hid (Ra5.out.go hb)
        have X6 := Lib.hid (X5.out.go hb)
        have Rc6 := Lib.hid (Reads.of_own ownc)
        clear hb ownc cg ch W5 B5 Ra5 X5
        have al := (Below.refl wc.heap.size wc).alloc (Nat.le_refl _) (.cells #[.int .i64 lc, .int .i64 vc, .slice Ac pc.length dc] 30)
        have W7 := Lib.hid (W6.out.go al)
        have B7 := Lib.hid (B6.out.go al)
        have Ra7 := Lib.hid (Ra6.out.go al)
        have X7 := Lib.hid (X6.out.go al)
        have Rc7 := Lib.hid (Rc6.out.go al)
        have Z7 := Lib.hid (Blk.new_ wc wc.heap.size 30 #[.int .i64 lc, .int .i64 vc, .slice Ac pc.length dc] rfl)
        have cx := X7.out.cell
        have ch := W7.out.h.cell
        have lx6 := X6.out.lt
        have lh6 := W6.out.h.lt
        clear al
        go_wp2_with fail
        refine (H4.out _ _ _ Ra7.out (R2.out.go W7.out.bel)).mono ?_
        rintro e wx ⟨Ax, dx, rfl, ownx, hb⟩
        have W8 := Lib.hid (W7.out.go hb)
        have B8 := Lib.hid (B7.out.go hb)
        have Rc8 := Lib.hid (Rc7.out.go hb)
        have Z8 := Lib.hid (Z7.out.go hb)
        have Rx8 := Lib.hid (Reads.of_own ownx)
        clear hb ownx cx ch lx6 lh6 W6 B6 Ra6 X6 Rc6 W7 B7 Ra7 X7 Rc7 Z7
        generalize wc.heap.size = bc at *
        have al := (Below.refl wx.heap.size wx).alloc (Nat.le_refl _) (.cells #[.int .i64 lx, .int .i64 vx, .slice Ax px.length dx] 30)
        have W9 := Lib.hid (W8.out.go al)
        have B9 := Lib.hid (B8.out.go al)
        have Rc9 := Lib.hid (Rc8.out.go al)
        have Z9 := Lib.hid (Z8.out.go al)
        have Rx9 := Lib.hid (Rx8.out.go al)
        have V9 := Lib.hid (Blk.new_ wx wx.heap.size 30 #[.int .i64 lx, .int .i64 vx, .slice Ax px.length dx] rfl)
        have cz := Z9.out.cell
        have cf := W9.out.f.cell
        have lz8 := Z8.out.lt
        have lf8 := W8.out.f.lt
        clear al
        go_wp2_with fail
        refine (H5.out _ _ _ (R0.out.go W9.out.bel) Rc9.out).mono ?_
        rintro e wy ⟨Ay, dy, rfl, owny, hb⟩
        have W10 := Lib.hid (W9.out.go hb)
        have B10 := Lib.hid (B9.out.go hb)
        have Rx10 := Lib.hid (Rx9.out.go hb)
        have V10 := Lib.hid (V9.out.go hb)
        have Ry10 := Lib.hid (Reads.of_own owny)
        clear hb owny cz cf lz8 lf8 W8 B8 Rc8 Z8 Rx8 W9 B9 Rc9 Z9 Rx9 V9
        generalize wx.heap.size = bxx at *
        have al := (Below.refl wy.heap.size wy).alloc (Nat.le_refl _) (.cells #[.int .i64 ly, .int .i64 vy, .slice Ay py.length dy] 30)
        have W11 := Lib.hid (W10.out.go al)
        have B11 := Lib.hid (B10.out.go al)
        have Rx11 := Lib.hid (Rx10.out.go al)
        have V11 := Lib.hid (V10.out.go al)
        have Ry11 := Lib.hid (Ry10.out.go al)
        have U11 := Lib.hid (Blk.new_ wy wy.heap.size 30 #[.int .i64 ly, .int .i64 vy, .slice Ay py.length dy] rfl)
        clear al W10 B10 Rx10 V10 Ry10
        have HKK := Lib.hid (fun (A : Option Addr) (w : World) (h : Reads w w.heap.size 1 A 4 (ints [0, ec, ex, ey])) => fine_any A 4 4 [0, ec, ex, ey] _ w (by omega) h)
        cases ho : allOk [0, ec, ex, ey]
        · rw [ho] at HKK
          clear ho HASS
          go_wp2_with fail
          have EY : Hid (wy.heap.size + 1 = (wy.alloc (.cells #[.int .i64 ly, .int .i64 vy, .slice Ay py.length dy] 30)).heap.size) := by show _ = _; simp
          generalize hy : wy.alloc (.cells #[.int .i64 ly, .int .i64 vy, .slice Ay py.length dy] 30) = wy2 at *
          clear hy
          generalize wy.heap.size = byy at *
          have al := (Below.refl wy2.heap.size wy2).alloc (Nat.le_refl _) (.cells #[.int .i64 0, .int .i64 ec, .int .i64 ex, .int .i64 ey] 25)
          have W12 := Lib.hid (W11.out.go al)
          have B12 := Lib.hid (B11.out.go al)
          clear al
          refine (HKK.out _ _ (Reads.lit wy2 #[.int .i64 0, .int .i64 ec, .int .i64 ex, .int .i64 ey] 25 4 1 _ EY.out rfl)).mono ?_
          rintro e w13 ⟨rfl, rfl⟩
          generalize wy2.alloc (.cells #[.int .i64 0, .int .i64 ec, .int .i64 ex, .int .i64 ey] 25) = w13 at *
          go_wp2_with fail
          have W13 := W12
          have B13 := B12
          go_roundw
          case rel => exact ⟨1, by omega, rfl, W13, B13⟩
          case measure => simp [intOf]
        · rw [ho] at HKK
          obtain ⟨q1, q2, q3⟩ := HASS.out ho
          subst q1 q2 q3
          clear ho HASS
          go_wp2_with fail
          have EY : Hid (wy.heap.size + 1 = (wy.alloc (.cells #[.int .i64 lx, .int .i64 vx, .slice Ay px.length dy] 30)).heap.size) := by show _ = _; simp
          generalize hy : wy.alloc (.cells #[.int .i64 lx, .int .i64 vx, .slice Ay px.length dy] 30) = wy2 at *
          clear hy
          generalize wy.heap.size = byy at *
          have al := (Below.refl wy2.heap.size wy2).alloc (Nat.le_refl _) (.cells #[.int .i64 0, .int .i64 ec, .int .i64 ex, .int .i64 ey] 25)
          have W12 := Lib.hid (W11.out.go al)
          have B12 := Lib.hid (B11.out.go al)
          have Rx12 := Lib.hid (Rx11.out.go al)
          have Ry12 := Lib.hid (Ry11.out.go al)
          have V12 := Lib.hid (V11.out.go al)
          have U12 := Lib.hid (U11.out.go al)
          have cv := V12.out.cell
          have cu := U12.out.cell
          clear al
          refine (HKK.out _ _ (Reads.lit wy2 #[.int .i64 0, .int .i64 ec, .int .i64 ex, .int .i64 ey] 25 4 1 _ EY.out rfl)).mono ?_
          rintro e w13 ⟨rfl, rfl⟩
          generalize wy2.alloc (.cells #[.int .i64 0, .int .i64 ec, .int .i64 ex, .int .i64 ey] 25) = w13 at *
          go_wp2_with fail
          refine (same_any _ _ _ _ _ _ _ _ _ (by omega) Rx12.out Ry12.out).mono ?_
          rintro e w14 ⟨rfl, hb⟩
          have W13 := Lib.hid (W12.out.go hb)
          have B13 := Lib.hid (B12.out.go hb)
          clear hb
          go_wp2_with fail
          go_roundw
          case rel => exact ⟨1, by omega, rfl, W13, B13⟩
          case measure => simp [intOf]
      · have he2 := HCOM2.out he
        have HKa := Lib.hid (fun A w h => HK1.out A ea w h)
        have HKb := Lib.hid (fun A w h => HK1.out A eb w h)
        rw [allOk_one he] at HKa
        rw [allOk_one he2] at HKb
        clear HCOM HCOM2 HK1 he he2
        go_wp2_with fail
        have EB : Hid (wb.heap.size + 1 = (wb.alloc (.cells #[.int .i64 lb, .int .i64 vb, .slice Ab pb.length db] 30)).heap.size) := by show _ = _; simp
        generalize hy : wb.alloc (.cells #[.int .i64 lb, .int .i64 vb, .slice Ab pb.length db] 30) = wb2 at *
        clear hy
        generalize wb.heap.size = bb at *
        have al := (Below.refl wb2.heap.size wb2).alloc (Nat.le_refl _) (.cells #[.int .i64 ea] 25)
        have W41 := Lib.hid (W4.out.go al)
        have B41 := Lib.hid (B4.out.go al)
        have Ra41 := Lib.hid (Ra4.out.go al)
        have X41 := Lib.hid (X4.out.go al)
        clear al
        refine (HKa.out _ _ (Reads.lit wb2 #[.int .i64 ea] 25 1 1 _ EB.out rfl)).mono ?_
        rintro e wf1 ⟨rfl, rfl⟩
        clear W4 B4 Ra4 X4
        generalize wb2.alloc (.cells #[.int .i64 ea] 25) = wf1 at *
        go_wp2_with fail
        have al := (Below.refl wf1.heap.size wf1).alloc (Nat.le_refl _) (.cells #[.int .i64 eb] 25)
        have W42 := Lib.hid (W41.out.go al)
        have B42 := Lib.hid (B41.out.go al)
        have Ra42 := Lib.hid (Ra41.out.go al)
        have X42 := Lib.hid (X41.out.go al)
        clear al
        refine (HKb.out _ _ (Reads.lit wf1 #[.int .i64 eb] 25 1 1 _ rfl rfl)).mono ?_
        rintro e wf2 ⟨rfl, rfl⟩
        clear W41 B41 Ra41 X41
        generalize wf1.alloc (.cells #[.int .i64 eb] 25) = wf2 at *
        go_wp2_with fail
        have al := (Below.refl wf2.heap.size wf2).alloc (Nat.le_refl _) (.cells #[.int .i64 ea] 25)
        have W5 := Lib.hid (W42.out.go al)
        have B5 := Lib.hid (B42.out.go al)
        have Ra5 := Lib.hid (Ra42.out.go al)
        have X5 := Lib.hid (X42.out.go al)
        clear al
        refine (HKa.out _ _ (Reads.lit wf2 #[.int .i64 ea] 25 1 1 _ rfl rfl)).mono ?_
        rintro e w5 ⟨rfl, rfl⟩
        clear W42 B42 Ra42 X42
        generalize wf2.alloc (.cells #[.int .i64 ea] 25) = w5 at *
        have cg := W5.out.g.cell
        have ch := W5.out.h.cell
        go_wp2_with fail
        refine (H3.out _ (R1.out.go W5.out.bel) (R2.out.go W5.out.bel)).mono ?_
        rintro e wc ⟨Ac, dc, rfl, ownc, hb⟩
        have W6 := Lib.hid (W5.out.go hb)
        have B6 := Lib.hid (B5.out.go hb)
        have Ra6 := Lib.hid (Ra5.out.go hb)
        have X6 := Lib.hid (X5.out.go hb)
        have Rc6 := Lib.hid (Reads.of_own ownc)
        clear hb ownc cg ch W5 B5 Ra5 X5
        have al := (Below.refl wc.heap.size wc).alloc (Nat.le_refl _) (.cells #[.int .i64 lc, .int .i64 vc, .slice Ac pc.length dc] 30)
        have W7 := Lib.hid (W6.out.go al)
        have B7 := Lib.hid (B6.out.go al)
        have Ra7 := Lib.hid (Ra6.out.go al)
        have X7 := Lib.hid (X6.out.go al)
        have Rc7 := Lib.hid (Rc6.out.go al)
        have Z7 := Lib.hid (Blk.new_ wc wc.heap.size 30 #[.int .i64 lc, .int .i64 vc, .slice Ac pc.length dc] rfl)
        have cx := X7.out.cell
        have ch := W7.out.h.cell
        have lx6 := X6.out.lt
        have lh6 := W6.out.h.lt
        clear al
        go_wp2_with fail
        refine (H4.out _ _ _ Ra7.out (R2.out.go W7.out.bel)).mono ?_
        rintro e wx ⟨Ax, dx, rfl, ownx, hb⟩
        have W8 := Lib.hid (W7.out.go hb)
        have B8 := Lib.hid (B7.out.go hb)
        have Rc8 := Lib.hid (Rc7.out.go hb)
        have Z8 := Lib.hid (Z7.out.go hb)
        have Rx8 := Lib.hid (Reads.of_own ownx)
        clear hb ownx cx ch lx6 lh6 W6 B6 Ra6 X6 Rc6 W7 B7 Ra7 X7 Rc7 Z7
        generalize wc.heap.size = bc at *
        have al := (Below.refl wx.heap.size wx).alloc (Nat.le_refl _) (.cells #[.int .i64 lx, .int .i64 vx, .slice Ax px.length dx] 30)
        have W9 := Lib.hid (W8.out.go al)
        have B9 := Lib.hid (B8.out.go al)
        have Rc9 := Lib.hid (Rc8.out.go al)
        have Z9 := Lib.hid (Z8.out.go al)
        have Rx9 := Lib.hid (Rx8.out.go al)
        have V9 := Lib.hid (Blk.new_ wx wx.heap.size 30 #[.int .i64 lx, .int .i64 vx, .slice Ax px.length dx] rfl)
        have cz := Z9.out.cell
        have cf := W9.out.f.cell
        have lz8 := Z8.out.lt
        have lf8 := W8.out.f.lt
        clear al
        go_wp2_with fail
        refine (H5.out _ _ _ (R0.out.go W9.out.bel) Rc9.out).mono ?_
        rintro e wy ⟨Ay, dy, rfl, owny, hb⟩
        have W10 := Lib.hid (W9.out.go hb)
        have B10 := Lib.hid (B9.out.go hb)
        have Rx10 := Lib.hid (Rx9.out.go hb)
        have V10 := Lib.hid (V9.out.go hb)
        have Ry10 := Lib.hid (Reads.of_own owny)
        clear hb owny cz cf lz8 lf8 W8 B8 Rc8 Z8 Rx8 W9 B9 Rc9 Z9 Rx9 V9
        generalize wx.heap.size = bxx at *
        have al := (Below.refl wy.heap.size wy).alloc (Nat.le_refl _) (.cells #[.int .i64 ly, .int .i64 vy, .slice Ay py.length dy] 30)
        have W11 := Lib.hid (W10.out.go al)
        have B11 := Lib.hid (B10.out.go al)
        have Rx11 := Lib.hid (Rx10.out.go al)
        have V11 := Lib.hid (V10.out.go al)
        have Ry11 := Lib.hid (Ry10.out.go al)
        have U11 := Lib.hid (Blk.new_ wy wy.heap.size 30 #[.int .i64 ly, .int .i64 vy, .slice Ay py.length dy] rfl)
        clear al W10 B10 Rx10 V10 Ry10
        have HKK := Lib.hid (fun (A : Option Addr) (w : World) (h : Reads w w.heap.size 1 A 4 (ints [ea, ec, ex, ey])) => fine_any A 4 4 [ea, ec, ex, ey] _ w (by omega) h)
        cases ho : allOk [ea, ec, ex, ey]
        · rw [ho] at HKK
          clear ho HASS
          go_wp2_with fail
          have EY : Hid (wy.heap.size + 1 = (wy.alloc (.cells #[.int .i64 ly, .int .i64 vy, .slice Ay py.length dy] 30)).heap.size) := by show _ = _; simp
          generalize hy : wy.alloc (.cells #[.int .i64 ly, .int .i64 vy, .slice Ay py.length dy] 30) = wy2 at *
          clear hy
          generalize wy.heap.size = byy at *
          have al := (Below.refl wy2.heap.size wy2).alloc (Nat.le_refl _) (.cells #[.int .i64 ea, .int .i64 ec, .int .i64 ex, .int .i64 ey] 25)
          have W12 := Lib.hid (W11.out.go al)
          have B12 := Lib.hid (B11.out.go al)
          clear al
          refine (HKK.out _ _ (Reads.lit wy2 #[.int .i64 ea, .int .i64 ec, .int .i64 ex, .int .i64 ey] 25 4 1 _ EY.out rfl)).mono ?_
          rintro e w13 ⟨rfl, rfl⟩
          generalize wy2.alloc (.cells #[.int .i64 ea, .int .i64 ec, .int .i64 ex, .int .i64 ey] 25) = w13 at *
          go_wp2_with fail
          have W13 := W12
          have B13 := B12
          go_roundw
          case rel => exact ⟨1, by omega, rfl, W13, B13⟩
          case measure => simp [intOf]
        · rw [ho] at HKK
          obtain ⟨q1, q2, q3⟩ := HASS.out ho
          subst q1 q2 q3
          clear ho HASS
          go_wp2_with fail
          have EY : Hid (wy.heap.size + 1 = (wy.alloc (.cells #[.int .i64 lx, .int .i64 vx, .slice Ay px.length dy] 30)).heap.size) := by show _ = _; simp
          generalize hy : wy.alloc (.cells #[.int .i64 lx, .int .i64 vx, .slice Ay px.length dy] 30) = wy2 at *
          clear hy
          generalize wy.heap.size = byy at *
          have al := (Below.refl wy2.heap.size wy2).alloc (Nat.le_refl _) (.cells #[.int .i64 ea, .int .i64 ec, .int .i64 ex, .int .i64 ey] 25)
          have W12 := Lib.hid (W11.out.go al)
          have B12 := Lib.hid (B11.out.go al)
          have Rx12 := Lib.hid (Rx11.out.go al)
          have Ry12 := Lib.hid (Ry11.out.go al)
          have V12 := Lib.hid (V11.out.go al)
          have U12 := Lib.hid (U11.out.go al)
          have cv := V12.out.cell
          have cu := U12.out.cell
          clear al
          refine (HKK.out _ _ (Reads.lit wy2 #[.int .i64 ea, .int .i64 ec, .int .i64 ex, .int .i64 ey] 25 4 1 _ EY.out rfl)).mono ?_
          rintro e w13 ⟨rfl, rfl⟩
          generalize wy2.alloc (.cells #[.int .i64 ea, .int .i64 ec, .int .i64 ex, .int .i64 ey] 25) = w13 at *
          go_wp2_with fail
          refine (same_any _ _ _ _ _ _ _ _ _ (by omega) Rx12.out Ry12.out).mono ?_
          rintro e w14 ⟨rfl, hb⟩
          have W13 := Lib.hid (W12.out.go hb)
          have B13 := Lib.hid (B12.out.go hb)
          clear hb
          go_wp2_with fail
          go_roundw
          case rel => exact ⟨1, by omega, rfl, W13, B13⟩
          case measure => simp [intOf]
    · have HC := Lib.hid (fun lo1 va1 lo2 va2 A B n m c1 c2 ps qs w ha hb => cConv_any HSO.out lo1 va1 lo2 va2 A B n m c1 c2 ps qs w ha hb)
      have HLAW := Lib.hid ring_conv
      unfold MadeSaid vCx at HC
      generalize Pl.cConv = op at *
      obtain ⟨la, va, pa, ea, hfg⟩ : ∃ la va pa ea, op l0 u0 s0 l1 u1 s1 = ((la, va, pa), ea) := ⟨_, _, _, _, rfl⟩
      obtain ⟨lb, vb, pb, eb, hgf⟩ : ∃ lb vb pb eb, op l1 u1 s1 l0 u0 s0 = ((lb, vb, pb), eb) := ⟨_, _, _, _, rfl⟩
      obtain ⟨lc, vc, pc, ec, hgh⟩ : ∃ lc vc pc ec, op l1 u1 s1 l2 u2 s2 = ((lc, vc, pc), ec) := ⟨_, _, _, _, rfl⟩
      obtain ⟨lx, vx, px, ex, hah⟩ : ∃ lx vx px ex, op la va pa l2 u2 s2 = ((lx, vx, px), ex) := ⟨_, _, _, _, rfl⟩
      obtain ⟨ly, vy, py, ey, hfc⟩ : ∃ ly vy py ey, op l0 u0 s0 lc vc pc = ((ly, vy, py), ey) := ⟨_, _, _, _, rfl⟩
      have H1 := Lib.hid (fun w ha hb => HC.out l0 u0 l1 u1 A0 A1 n0 n1 c0 c1 s0 s1 w ha hb)
      have H2 := Lib.hid (fun w ha hb => HC.out l1 u1 l0 u0 A1 A0 n1 n0 c1 c0 s1 s0 w ha hb)
      have H3 := Lib.hid (fun w ha hb => HC.out l1 u1 l2 u2 A1 A2 n1 n2 c1 c2 s1 s2 w ha hb)
      have H4 := Lib.hid (fun A c w ha hb => HC.out la va l2 u2 A A2 pa.length n2 c c2 pa s2 w ha hb)
      have H5 := Lib.hid (fun A c w ha hb => HC.out l0 u0 lc vc A0 A n0 pc.length c0 c s0 pc w ha hb)
      rw [hfg] at H1
      rw [hgf] at H2
      rw [hgh] at H3
      rw [hah] at H4
      rw [hfc] at H5
      have HCOM : Hid (ea = 0 → la = lb ∧ va = vb ∧ pa = pb ∧ eb = 0) := fun h => by
        have := HLAW.out.comm l0 u0 s0 l1 u1 s1 (by rw [hfg]; exact h)
        rw [hfg, hgf, h] at this
        simp only [Prod.mk.injEq] at this
        exact ⟨this.1.1.symm, this.1.2.1.symm, this.1.2.2.symm, this.2⟩
      have HCOM2 : Hid (ea ≠ 0 → eb ≠ 0) := fun h hb => by
        have := HLAW.out.comm l1 u1 s1 l0 u0 s0 (by rw [hgf]; exact hb)
        rw [hfg, hgf, hb] at this
        simp only [Prod.mk.injEq] at this
        exact h this.2
      have HASS : Hid (allOk [ea, ec, ex, ey] = true → lx = ly ∧ vx = vy ∧ px = py) := fun h => by
        rw [allOk_true] at h
        have e1 := h ea (by simp)
        have e2 := h ec (by simp)
        have e3 := h ex (by simp)
        have e4 := h ey (by simp)
        subst e1 e2 e3 e4
        have := HLAW.out.assoc l0 u0 s0 l1 u1 s1 l2 u2 s2 la va pa lc vc pc hfg hgh (by rw [hah]) (by rw [hfc])
        rw [hah, hfc] at this
        simp only [Prod.mk.injEq] at this
        exact ⟨this.1.1, this.1.2.1, this.1.2.2⟩
      have hpa : pa.length ≤ 64 := by have := HLAW.out.short l0 u0 s0 l1 u1 s1; rw [hfg] at this; exact this
      have hpx : px.length ≤ 64 := by have := HLAW.out.short la va pa l2 u2 s2; rw [hah] at this; exact this
      clear hfg hgf hgh hah hfc HC HLAW
      have cf := HWW.out.f.cell
      have cg := HWW.out.g.cell
      have ch := HWW.out.h.cell
      go_wp2_with fail
      refine (H1.out _ (R0.out.go HWW.out.bel) (R1.out.go HWW.out.bel)).mono ?_
      rintro e wa ⟨Aa, da, rfl, owna, hb⟩
      have W1 := Lib.hid (HWW.out.go hb)
      have B1 := Lib.hid (HS.out.go hb)
      have Ra := Lib.hid (Reads.of_own owna)
      clear hb owna cf cg ch
      have al := (Below.refl wa.heap.size wa).alloc (Nat.le_refl _) (.cells #[.int .i64 la, .int .i64 va, .slice Aa pa.length da] 30)
      have W2 := Lib.hid (W1.out.go al)
      have B2 := Lib.hid (B1.out.go al)
      have Ra2 := Lib.hid (Ra.out.go al)
      have X2 := Lib.hid (Blk.new_ wa wa.heap.size 30 #[.int .i64 la, .int .i64 va, .slice Aa pa.length da] rfl)
      have cf := W2.out.f.cell
      have cg := W2.out.g.cell
      have lf := W1.out.f.lt
      have lg := W1.out.g.lt
      clear al
      go_wp2_with fail
      refine (H2.out _ (R1.out.go W2.out.bel) (R0.out.go W2.out.bel)).mono ?_
      rintro e wb ⟨Ab, db, rfl, ownb, hb⟩
      have W3 := Lib.hid (W2.out.go hb)
      have B3 := Lib.hid (B2.out.go hb)
      have Ra3 := Lib.hid (Ra2.out.go hb)
      have X3 := Lib.hid (X2.out.go hb)
      have Rb3 := Lib.hid (Reads.of_own ownb)
      clear hb ownb cf cg lf lg W1 B1 Ra W2 B2 Ra2 X2 HWW HS
      generalize wa.heap.size = ba at *
      have al := (Below.refl wb.heap.size wb).alloc (Nat.le_refl _) (.cells #[.int .i64 lb, .int .i64 vb, .slice Ab pb.length db] 30)
      have W4 := Lib.hid (W3.out.go al)
      have B4 := Lib.hid (B3.out.go al)
      have Ra4 := Lib.hid (Ra3.out.go al)
      have X4 := Lib.hid (X3.out.go al)
      have Rb4 := Lib.hid (Rb3.out.go al)
      have Y4 := Lib.hid (Blk.new_ wb wb.heap.size 30 #[.int .i64 lb, .int .i64 vb, .slice Ab pb.length db] rfl)
      clear al W3 B3 Ra3 X3 Rb3
      have HK1 := Lib.hid (fun (A : Option Addr) (z : Int) (w : World) (h : Reads w w.heap.size 1 A 1 (ints [z])) => fine_any A 1 1 [z] _ w (by omega) h)
      by_cases he : ea = 0
      · obtain ⟨q1, q2, q3, q4⟩ := HCOM.out he
        subst he q1 q2 q3 q4
        have HK0 := Lib.hid (fun A w h => HK1.out A 0 w h)
        rw [show allOk [0] = true from rfl] at HK0
        clear HCOM HCOM2 HK1
        go_wp2_with fail
        have EB : Hid (wb.heap.size + 1 = (wb.alloc (.cells #[.int .i64 la, .int .i64 va, .slice Ab pa.length db] 30)).heap.size) := by show _ = _; simp
        generalize hy : wb.alloc (.cells #[.int .i64 la, .int .i64 va, .slice Ab pa.length db] 30) = wb2 at *
        clear hy
        generalize wb.heap.size = bb at *
        have al := (Below.refl wb2.heap.size wb2).alloc (Nat.le_refl _) (.cells #[.int .i64 0] 25)
        have W41 := Lib.hid (W4.out.go al)
        have B41 := Lib.hid (B4.out.go al)
        have Ra41 := Lib.hid (Ra4.out.go al)
        have X41 := Lib.hid (X4.out.go al)
        have Rb41 := Lib.hid (Rb4.out.go al)
        have Y41 := Lib.hid (Y4.out.go al)
        clear al
        refine (HK0.out _ _ (Reads.lit wb2 #[.int .i64 0] 25 1 1 _ EB.out rfl)).mono ?_
        rintro e wf1 ⟨rfl, rfl⟩
        clear W4 B4 Ra4 X4 Rb4 Y4
        generalize wb2.alloc (.cells #[.int .i64 0] 25) = wf1 at *
        go_wp2_with fail
        have al := (Below.refl wf1.heap.size wf1).alloc (Nat.le_refl _) (.cells #[.int .i64 0] 25)
        have W42 := Lib.hid (W41.out.go al)
        have B42 := Lib.hid (B41.out.go al)
        have Ra42 := Lib.hid (Ra41.out.go al)
        have X42 := Lib.hid (X41.out.go al)
        have Rb42 := Lib.hid (Rb41.out.go al)
        have Y42 := Lib.hid (Y41.out.go al)
        clear al
        refine (HK0.out _ _ (Reads.lit wf1 #[.int .i64 0] 25 1 1 _ rfl rfl)).mono ?_
        rintro e wf2 ⟨rfl, rfl⟩
        clear W41 B41 Ra41 X41 Rb41 Y41
        generalize wf1.alloc (.cells #[.int .i64 0] 25) = wf2 at *
        go_wp2_with fail
        have al := (Below.refl wf2.heap.size wf2).alloc (Nat.le_refl _) (.cells #[.int .i64 0] 25)
        have W43 := Lib.hid (W42.out.go al)
        have B43 := Lib.hid (B42.out.go al)
        have Ra43 := Lib.hid (Ra42.out.go al)
        have X43 := Lib.hid (X42.out.go al)
        have Rb43 := Lib.hid (Rb42.out.go al)
        have Y43 := Lib.hid (Y42.out.go al)
        have cx := X43.out.cell
        have cy := Y43.out.cell
        clear al
        refine (HK0.out _ _ (Reads.lit wf2 #[.int .i64 0] 25 1 1 _ rfl rfl)).mono ?_
        rintro e wf3 ⟨rfl, rfl⟩
        clear W42 B42 Ra42 X42 Rb42 Y42
        generalize wf2.alloc (.cells #[.int .i64 0] 25) = wf3 at *
        go_wp2_with fail
        refine (same_any _ _ _ _ _ _ _ _ _ (by omega) Ra43.out Rb43.out).mono ?_
        rintro e w5 ⟨rfl, hb⟩
        have W5 := Lib.hid (W43.out.go hb)
        have B5 := Lib.hid (B43.out.go hb)
        have Ra5 := Lib.hid (Ra43.out.go hb)
        have X5 := Lib.hid (X43.out.go hb)
        clear hb cx cy W43 B43 Ra43 X43 Rb43 Y43
        have cg := W5.out.g.cell
        have ch := W5.out.h.cell
        go_wp2_with fail
        refine (H3.out _ (R1.out.go W5.out.bel) (R2.out.go W5.out.bel)).mono ?_
        rintro e wc ⟨Ac, dc, rfl, ownc, hb⟩
        have W6 := Lib.hid (W5.out.go hb)
        have B6 := Lib.hid (B5.out.go hb)
        have Ra6 := Lib.hid (Ra5.out.go hb)
        have X6 := Lib.hid (X5.out.go hb)
        have Rc6 := Lib.hid (Reads.of_own ownc)
        clear hb ownc cg ch W5 B5 Ra5 X5
        have al := (Below.refl wc.heap.size wc).alloc (Nat.le_refl _) (.cells #[.int .i64 lc, .int .i64 vc, .slice Ac pc.length dc] 30)
        have W7 := Lib.hid (W6.out.go al)
        have B7 := Lib.hid (B6.out.go al)
        have Ra7 := Lib.hid (Ra6.out.go al)
        have X7 := Lib.hid (X6.out.go al)
        have Rc7 := Lib.hid (Rc6.out.go al)
        have Z7 := Lib.hid (Blk.new_ wc wc.heap.size 30 #[.int .i64 lc, .int .i64 vc, .slice Ac pc.length dc] rfl)
        have cx := X7.out.cell
        have ch := W7.out.h.cell
        have lx6 := X6.out.lt
        have lh6 := W6.out.h.lt
        clear al
        go_wp2_with fail
        refine (H4.out _ _ _ Ra7.out (R2.out.go W7.out.bel)).mono ?_
        rintro e wx ⟨Ax, dx, rfl, ownx, hb⟩
        have W8 := Lib.hid (W7.out.go hb)
        have B8 := Lib.hid (B7.out.go hb)
        have Rc8 := Lib.hid (Rc7.out.go hb)
        have Z8 := Lib.hid (Z7.out.go hb)
        have Rx8 := Lib.hid (Reads.of_own ownx)
        clear hb ownx cx ch lx6 lh6 W6 B6 Ra6 X6 Rc6 W7 B7 Ra7 X7 Rc7 Z7
        generalize wc.heap.size = bc at *
        have al := (Below.refl wx.heap.size wx).alloc (Nat.le_refl _) (.cells #[.int .i64 lx, .int .i64 vx, .slice Ax px.length dx] 30)
        have W9 := Lib.hid (W8.out.go al)
        have B9 := Lib.hid (B8.out.go al)
        have Rc9 := Lib.hid (Rc8.out.go al)
        have Z9 := Lib.hid (Z8.out.go al)
        have Rx9 := Lib.hid (Rx8.out.go al)
        have V9 := Lib.hid (Blk.new_ wx wx.heap.size 30 #[.int .i64 lx, .int .i64 vx, .slice Ax px.length dx] rfl)
        have cz := Z9.out.cell
        have cf := W9.out.f.cell
        have lz8 := Z8.out.lt
        have lf8 := W8.out.f.lt
        clear al
        go_wp2_with fail
        refine (H5.out _ _ _ (R0.out.go W9.out.bel) Rc9.out).mono ?_
        rintro e wy ⟨Ay, dy, rfl, owny, hb⟩
        have W10 := Lib.hid (W9.out.go hb)
        have B10 := Lib.hid (B9.out.go hb)
        have Rx10 := Lib.hid (Rx9.out.go hb)
        have V10 := Lib.hid (V9.out.go hb)
        have Ry10 := Lib.hid (Reads.of_own owny)
        clear hb owny cz cf lz8 lf8 W8 B8 Rc8 Z8 Rx8 W9 B9 Rc9 Z9 Rx9 V9
        generalize wx.heap.size = bxx at *
        have al := (Below.refl wy.heap.size wy).alloc (Nat.le_refl _) (.cells #[.int .i64 ly, .int .i64 vy, .slice Ay py.length dy] 30)
        have W11 := Lib.hid (W10.out.go al)
        have B11 := Lib.hid (B10.out.go al)
        have Rx11 := Lib.hid (Rx10.out.go al)
        have V11 := Lib.hid (V10.out.go al)
        have Ry11 := Lib.hid (Ry10.out.go al)
        have U11 := Lib.hid (Blk.new_ wy wy.heap.size 30 #[.int .i64 ly, .int .i64 vy, .slice Ay py.length dy] rfl)
        clear al W10 B10 Rx10 V10 Ry10
        have HKK := Lib.hid (fun (A : Option Addr) (w : World) (h : Reads w w.heap.size 1 A 4 (ints [0, ec, ex, ey])) => fine_any A 4 4 [0, ec, ex, ey] _ w (by omega) h)
        cases ho : allOk [0, ec, ex, ey]
        · rw [ho] at HKK
          clear ho HASS
          go_wp2_with fail
          have EY : Hid (wy.heap.size + 1 = (wy.alloc (.cells #[.int .i64 ly, .int .i64 vy, .slice Ay py.length dy] 30)).heap.size) := by show _ = _; simp
          generalize hy : wy.alloc (.cells #[.int .i64 ly, .int .i64 vy, .slice Ay py.length dy] 30) = wy2 at *
          clear hy
          generalize wy.heap.size = byy at *
          have al := (Below.refl wy2.heap.size wy2).alloc (Nat.le_refl _) (.cells #[.int .i64 0, .int .i64 ec, .int .i64 ex, .int .i64 ey] 25)
          have W12 := Lib.hid (W11.out.go al)
          have B12 := Lib.hid (B11.out.go al)
          clear al
          refine (HKK.out _ _ (Reads.lit wy2 #[.int .i64 0, .int .i64 ec, .int .i64 ex, .int .i64 ey] 25 4 1 _ EY.out rfl)).mono ?_
          rintro e w13 ⟨rfl, rfl⟩
          generalize wy2.alloc (.cells #[.int .i64 0, .int .i64 ec, .int .i64 ex, .int .i64 ey] 25) = w13 at *
          go_wp2_with fail
          have W13 := W12
          have B13 := B12
          go_roundw
          case rel => exact ⟨2, by omega, rfl, W13, B13⟩
          case measure => simp [intOf]
        · rw [ho] at HKK
          obtain ⟨q1, q2, q3⟩ := HASS.out ho
          subst q1 q2 q3
          clear ho HASS
          go_wp2_with fail
          have EY : Hid (wy.heap.size + 1 = (wy.alloc (.cells #[.int .i64 lx, .int .i64 vx, .slice Ay px.length dy] 30)).heap.size) := by show _ = _; simp
          generalize hy : wy.alloc (.cells #[.int .i64 lx, .int .i64 vx, .slice Ay px.length dy] 30) = wy2 at *
          clear hy
          generalize wy.heap.size = byy at *
          have al := (Below.refl wy2.heap.size wy2).alloc (Nat.le_refl _) (.cells #[.int .i64 0, .int .i64 ec, .int .i64 ex, .int .i64 ey] 25)
          have W12 := Lib.hid (W11.out.go al)
          have B12 := Lib.hid (B11.out.go al)
          have Rx12 := Lib.hid (Rx11.out.go al)
          have Ry12 := Lib.hid (Ry11.out.go al)
          have V12 := Lib.hid (V11.out.go al)
          have U12 := Lib.hid (U11.out.go al)
          have cv := V12.out.cell
          have cu := U12.out.cell
          clear al
          refine (HKK.out _ _ (Reads.lit wy2 #[.int .i64 0, .int .i64 ec, .int .i64 ex, .int .i64 ey] 25 4 1 _ EY.out rfl)).mono ?_
          rintro e w13 ⟨rfl, rfl⟩
          generalize wy2.alloc (.cells #[.int .i64 0, .int .i64 ec, .int .i64 ex, .int .i64 ey] 25) = w13 at *
          go_wp2_with fail
          refine (same_any _ _ _ _ _ _ _ _ _ (by omega) Rx12.out Ry12.out).mono ?_
          rintro e w14 ⟨rfl, hb⟩
          have W13 := Lib.hid (W12.out.go hb)
          have B13 := Lib.hid (B12.out.go hb)
          clear hb
          go_wp2_with fail
          go_roundw
          case rel => exact ⟨2, by omega, rfl, W13, B13⟩
          case measure => simp [intOf]
      · have he2 := HCOM2.out he
        have HKa := Lib.hid (fun A w h => HK1.out A ea w h)
        have HKb := Lib.hid (fun A w h => HK1.out A eb w h)
        rw [allOk_one he] at HKa
        rw [allOk_one he2] at HKb
        clear HCOM HCOM2 HK1 he he2
        go_wp2_with fail
        have EB : Hid (wb.heap.size + 1 = (wb.alloc (.cells #[.int .i64 lb, .int .i64 vb, .slice Ab pb.length db] 30)).heap.size) := by show _ = _; simp
        generalize hy : wb.alloc (.cells #[.int .i64 lb, .int .i64 vb, .slice Ab pb.length db] 30) = wb2 at *
        clear hy
        generalize wb.heap.size = bb at *
        have al := (Below.refl wb2.heap.size wb2).alloc (Nat.le_refl _) (.cells #[.int .i64 ea] 25)
        have W41 := Lib.hid (W4.out.go al)
        have B41 := Lib.hid (B4.out.go al)
        have Ra41 := Lib.hid (Ra4.out.go al)
        have X41 := Lib.hid (X4.out.go al)
        clear al
        refine (HKa.out _ _ (Reads.lit wb2 #[.int .i64 ea] 25 1 1 _ EB.out rfl)).mono ?_
        rintro e wf1 ⟨rfl, rfl⟩
        clear W4 B4 Ra4 X4
        generalize wb2.alloc (.cells #[.int .i64 ea] 25) = wf1 at *
        go_wp2_with fail
        have al := (Below.refl wf1.heap.size wf1).alloc (Nat.le_refl _) (.cells #[.int .i64 eb] 25)
        have W42 := Lib.hid (W41.out.go al)
        have B42 := Lib.hid (B41.out.go al)
        have Ra42 := Lib.hid (Ra41.out.go al)
        have X42 := Lib.hid (X41.out.go al)
        clear al
        refine (HKb.out _ _ (Reads.lit wf1 #[.int .i64 eb] 25 1 1 _ rfl rfl)).mono ?_
        rintro e wf2 ⟨rfl, rfl⟩
        clear W41 B41 Ra41 X41
        generalize wf1.alloc (.cells #[.int .i64 eb] 25) = wf2 at *
        go_wp2_with fail
        have al := (Below.refl wf2.heap.size wf2).alloc (Nat.le_refl _) (.cells #[.int .i64 ea] 25)
        have W5 := Lib.hid (W42.out.go al)
        have B5 := Lib.hid (B42.out.go al)
        have Ra5 := Lib.hid (Ra42.out.go al)
        have X5 := Lib.hid (X42.out.go al)
        clear al
        refine (HKa.out _ _ (Reads.lit wf2 #[.int .i64 ea] 25 1 1 _ rfl rfl)).mono ?_
        rintro e w5 ⟨rfl, rfl⟩
        clear W42 B42 Ra42 X42
        generalize wf2.alloc (.cells #[.int .i64 ea] 25) = w5 at *
        have cg := W5.out.g.cell
        have ch := W5.out.h.cell
        go_wp2_with fail
        refine (H3.out _ (R1.out.go W5.out.bel) (R2.out.go W5.out.bel)).mono ?_
        rintro e wc ⟨Ac, dc, rfl, ownc, hb⟩
        have W6 := Lib.hid (W5.out.go hb)
        have B6 := Lib.hid (B5.out.go hb)
        have Ra6 := Lib.hid (Ra5.out.go hb)
        have X6 := Lib.hid (X5.out.go hb)
        have Rc6 := Lib.hid (Reads.of_own ownc)
        clear hb ownc cg ch W5 B5 Ra5 X5
        have al := (Below.refl wc.heap.size wc).alloc (Nat.le_refl _) (.cells #[.int .i64 lc, .int .i64 vc, .slice Ac pc.length dc] 30)
        have W7 := Lib.hid (W6.out.go al)
        have B7 := Lib.hid (B6.out.go al)
        have Ra7 := Lib.hid (Ra6.out.go al)
        have X7 := Lib.hid (X6.out.go al)
        have Rc7 := Lib.hid (Rc6.out.go al)
        have Z7 := Lib.hid (Blk.new_ wc wc.heap.size 30 #[.int .i64 lc, .int .i64 vc, .slice Ac pc.length dc] rfl)
        have cx := X7.out.cell
        have ch := W7.out.h.cell
        have lx6 := X6.out.lt
        have lh6 := W6.out.h.lt
        clear al
        go_wp2_with fail
        refine (H4.out _ _ _ Ra7.out (R2.out.go W7.out.bel)).mono ?_
        rintro e wx ⟨Ax, dx, rfl, ownx, hb⟩
        have W8 := Lib.hid (W7.out.go hb)
        have B8 := Lib.hid (B7.out.go hb)
        have Rc8 := Lib.hid (Rc7.out.go hb)
        have Z8 := Lib.hid (Z7.out.go hb)
        have Rx8 := Lib.hid (Reads.of_own ownx)
        clear hb ownx cx ch lx6 lh6 W6 B6 Ra6 X6 Rc6 W7 B7 Ra7 X7 Rc7 Z7
        generalize wc.heap.size = bc at *
        have al := (Below.refl wx.heap.size wx).alloc (Nat.le_refl _) (.cells #[.int .i64 lx, .int .i64 vx, .slice Ax px.length dx] 30)
        have W9 := Lib.hid (W8.out.go al)
        have B9 := Lib.hid (B8.out.go al)
        have Rc9 := Lib.hid (Rc8.out.go al)
        have Z9 := Lib.hid (Z8.out.go al)
        have Rx9 := Lib.hid (Rx8.out.go al)
        have V9 := Lib.hid (Blk.new_ wx wx.heap.size 30 #[.int .i64 lx, .int .i64 vx, .slice Ax px.length dx] rfl)
        have cz := Z9.out.cell
        have cf := W9.out.f.cell
        have lz8 := Z8.out.lt
        have lf8 := W8.out.f.lt
        clear al
        go_wp2_with fail
        refine (H5.out _ _ _ (R0.out.go W9.out.bel) Rc9.out).mono ?_
        rintro e wy ⟨Ay, dy, rfl, owny, hb⟩
        have W10 := Lib.hid (W9.out.go hb)
        have B10 := Lib.hid (B9.out.go hb)
        have Rx10 := Lib.hid (Rx9.out.go hb)
        have V10 := Lib.hid (V9.out.go hb)
        have Ry10 := Lib.hid (Reads.of_own owny)
        clear hb owny cz cf lz8 lf8 W8 B8 Rc8 Z8 Rx8 W9 B9 Rc9 Z9 Rx9 V9
        generalize wx.heap.size = bxx at *
        have al := (Below.refl wy.heap.size wy).alloc (Nat.le_refl _) (.cells #[.int .i64 ly, .int .i64 vy, .slice Ay py.length dy] 30)
        have W11 := Lib.hid (W10.out.go al)
        have B11 := Lib.hid (B10.out.go al)
        have Rx11 := Lib.hid (Rx10.out.go al)
        have V11 := Lib.hid (V10.out.go al)
        have Ry11 := Lib.hid (Ry10.out.go al)
        have U11 := Lib.hid (Blk.new_ wy wy.heap.size 30 #[.int .i64 ly, .int .i64 vy, .slice Ay py.length dy] rfl)
        clear al W10 B10 Rx10 V10 Ry10
        have HKK := Lib.hid (fun (A : Option Addr) (w : World) (h : Reads w w.heap.size 1 A 4 (ints [ea, ec, ex, ey])) => fine_any A 4 4 [ea, ec, ex, ey] _ w (by omega) h)
        cases ho : allOk [ea, ec, ex, ey]
        · rw [ho] at HKK
          clear ho HASS
          go_wp2_with fail
          have EY : Hid (wy.heap.size + 1 = (wy.alloc (.cells #[.int .i64 ly, .int .i64 vy, .slice Ay py.length dy] 30)).heap.size) := by show _ = _; simp
          generalize hy : wy.alloc (.cells #[.int .i64 ly, .int .i64 vy, .slice Ay py.length dy] 30) = wy2 at *
          clear hy
          generalize wy.heap.size = byy at *
          have al := (Below.refl wy2.heap.size wy2).alloc (Nat.le_refl _) (.cells #[.int .i64 ea, .int .i64 ec, .int .i64 ex, .int .i64 ey] 25)
          have W12 := Lib.hid (W11.out.go al)
          have B12 := Lib.hid (B11.out.go al)
          clear al
          refine (HKK.out _ _ (Reads.lit wy2 #[.int .i64 ea, .int .i64 ec, .int .i64 ex, .int .i64 ey] 25 4 1 _ EY.out rfl)).mono ?_
          rintro e w13 ⟨rfl, rfl⟩
          generalize wy2.alloc (.cells #[.int .i64 ea, .int .i64 ec, .int .i64 ex, .int .i64 ey] 25) = w13 at *
          go_wp2_with fail
          have W13 := W12
          have B13 := B12
          go_roundw
          case rel => exact ⟨2, by omega, rfl, W13, B13⟩
          case measure => simp [intOf]
        · rw [ho] at HKK
          obtain ⟨q1, q2, q3⟩ := HASS.out ho
          subst q1 q2 q3
          clear ho HASS
          go_wp2_with fail
          have EY : Hid (wy.heap.size + 1 = (wy.alloc (.cells #[.int .i64 lx, .int .i64 vx, .slice Ay px.length dy] 30)).heap.size) := by show _ = _; simp
          generalize hy : wy.alloc (.cells #[.int .i64 lx, .int .i64 vx, .slice Ay px.length dy] 30) = wy2 at *
          clear hy
          generalize wy.heap.size = byy at *
          have al := (Below.refl wy2.heap.size wy2).alloc (Nat.le_refl _) (.cells #[.int .i64 ea, .int .i64 ec, .int .i64 ex, .int .i64 ey] 25)
          have W12 := Lib.hid (W11.out.go al)
          have B12 := Lib.hid (B11.out.go al)
          have Rx12 := Lib.hid (Rx11.out.go al)
          have Ry12 := Lib.hid (Ry11.out.go al)
          have V12 := Lib.hid (V11.out.go al)
          have U12 := Lib.hid (U11.out.go al)
          have cv := V12.out.cell
          have cu := U12.out.cell
          clear al
          refine (HKK.out _ _ (Reads.lit wy2 #[.int .i64 ea, .int .i64 ec, .int .i64 ex, .int .i64 ey] 25 4 1 _ EY.out rfl)).mono ?_
          rintro e w13 ⟨rfl, rfl⟩
          generalize wy2.alloc (.cells #[.int .i64 ea, .int .i64 ec, .int .i64 ex, .int .i64 ey] 25) = w13 at *
          go_wp2_with fail
          refine (same_any _ _ _ _ _ _ _ _ _ (by omega) Rx12.out Ry12.out).mono ?_
          rintro e w14 ⟨rfl, hb⟩
          have W13 := Lib.hid (W12.out.go hb)
          have B13 := Lib.hid (B12.out.go hb)
          clear hb
          go_wp2_with fail
          go_roundw
          case rel => exact ⟨2, by omega, rfl, W13, B13⟩
          case measure => simp [intOf]
    · go_wp2_with fail
      go_ret
      exact ⟨rfl, HWW.out.bel⟩
end Go.Proofs.Ytjdagpmfnmodbaa
