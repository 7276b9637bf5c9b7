/- settle.round: amounts rounded down, the greatest fractions raised. Condition: the words read; at most 256 amounts of at most 210 words. -/
import Derived.Test.YtgdbodnfibiafaaGreatDoorSetA
import Derived.Test.YtgdbodnfibiafaaGreatDoorSmall
namespace Go.Proofs.YtgdbodnfibiafaaGreatDoor
open Go.RowKit
set_option maxRecDepth 100000
/-- these integers lie in block g, which the call has made -/
def WI (w : World) (g : Nat) (l : List Int) : Prop := Blk w g 3 (ints l).toArray
section
variable {w w' : World} {g : Nat} {l : List Int}
theorem WI.lt (h : WI w g l) : g < w.heap.size := Blk.lt h
theorem WI.at_ (h : WI w g l) {k : Nat} (hk : k < l.length) : w.cell? ⟨g, k, none⟩ = some (.int .i64 l[k]) := by
  refine (Blk.cell h k).trans ?_
  unfold ints
  simp [hk]
theorem WI.frozen (h : WI w g l) (k : Nat) : w.frozen? ⟨g, k, none⟩ = false := Blk.frozen h k
theorem WI.set_ (h : WI w g l) (k : Nat) (x : Int) : WI (w.setCell ⟨g, k, none⟩ (.int .i64 x)) g (l.set k x) := by
  have := Blk.set_ h k (.int .i64 x)
  unfold WI
  have e : (ints l).toArray.setIfInBounds k (.int .i64 x) = (ints (l.set k x)).toArray := by
    unfold ints
    rw [List.map_set]; simp
  rw [e] at this
  exact this
theorem WI.go (h : WI w g l) (hb : Below w.heap.size w w') : WI w' g l := Blk.go h hb
theorem WI.reads (h : WI w g l) : Reads w w.heap.size 1 (some ⟨g, 0, none⟩) l.length (ints l) := by
  refine ⟨by simp [ints], fun _ => ⟨_, rfl, h.lt, fun j u hu => ?_⟩⟩
  rw [Srt.addr_add]
  refine (Blk.cell h j).trans ?_
  rw [List.getElem?_toArray]; exact hu
end
theorem make_int (n : Nat) (hn : n ≤ 1000000) (w : World) : (Instr.makeSlice 23 (.int .i64 (n : Int)) (.int .i64 (n : Int))).run Tryz.prog w = .ok (.slice (some ⟨w.heap.size, 0, none⟩) n n) (w.alloc (.cells (ints (List.replicate n 0)).toArray 3)) := by
  obtain ⟨j0, ji0, jz0, jz1, jz2⟩ := info_parts info_int
  have := run_make (P := Tryz.prog) w 23 3 j0 (.int .i64 0) Tryz.underlying23 ji0 jz0 .i64 .i64 n n (by omega) (by omega) (by rw [jz2]; omega) (by omega)
  rw [jz1, show (Value.int .i64 0).cells = #[.int .i64 0] from rfl] at this
  rw [show (ints (List.replicate n 0)).toArray = madeCells #[.int .i64 0] n from by
    apply Array.ext'
    rw [toList_madeCells_one]
    unfold ints
    simp]
  simpa using this
theorem WI.new_ (w : World) (l : List Int) : WI (w.alloc (.cells (ints l).toArray 3)) w.heap.size l := Blk.new_ w _ _ _ rfl
section
variable {w w' w0 : World} {B g g' m k : Nat} {l : List Int} {L : List (Rat × Rt)} {q : Rat} {x y : Rt} {z : Int} {f u : Nm} {t : TypeId} {cs : Array Value} {u0 u1 u2 u3 : Value}
theorem Blk.rfar (h : Blk w g' t cs) (hg : g' ≠ g) (k : Nat) (y : Rt) : Blk (rput w g k y) g' t cs := (((h.far hg _).far hg _).far hg _).far hg _
theorem WI.rfar (h : WI w g' l) (hg : g' ≠ g) (k : Nat) (y : Rt) : WI (rput w g k y) g' l := Blk.rfar h hg k y
theorem WI.far4 (h : WI w g' l) (hg : g' ≠ g) : WI ((((w.setCell ⟨g, 0, none⟩ u0).setCell ⟨g, 1, none⟩ u1).setCell ⟨g, 2, none⟩ u2).setCell ⟨g, 3, none⟩ u3) g' l := Blk.far4 h hg
theorem below_rput (h : Below B w0 w) (hr : B ≤ g) (k : Nat) (y : Rt) : Below B w0 (rput w g k y) := (((h.setCell hr _).setCell hr _).setCell hr _).setCell hr _
theorem NumIs.putR {L : List Rt} (h : NumIs w w.heap.size z f) (hb : RB w g L) (k : Nat) (y : Rt) : NumIs (rput w g k y) (rput w g k y).heap.size z f := by
  rw [rput_size]
  exact h.off hb (noU32_rtl L) (rput_off w g k y)
theorem NumIs.set_ (h : NumIs w w.heap.size z f) (hb : Blk w g t cs) (hc : noU32 cs) (i : Nat) (v : Value) : NumIs (w.setCell ⟨g, i, none⟩ v) (w.setCell ⟨g, i, none⟩ v).heap.size z f := by
  have e : (w.setCell ⟨g, i, none⟩ v).heap.size = w.heap.size := by simp
  rw [e]
  exact h.off hb hc (off_set w g i v)
theorem RL.add_at (h : RL w g L m) (hl : L.length = k) (hm : 0 < m) (hx : RatIs w w.heap.size q x) : RL (rput w g k x) g (L ++ [(q, x)]) (m - 1) := by
  subst hl
  obtain ⟨m', rfl⟩ : ∃ m', m = m' + 1 := ⟨m - 1, by omega⟩
  exact h.add hx
theorem RL.far4b (h : RL w g L m) (hg : g ≠ g') (hb : Blk w g' t cs) (hc : noU32 cs) : RL ((((w.setCell ⟨g', 0, none⟩ u0).setCell ⟨g', 1, none⟩ u1).setCell ⟨g', 2, none⟩ u2).setCell ⟨g', 3, none⟩ u3) g L m := ⟨Blk.far4 h.blk hg, fun x hx => (h.each x hx).put4 hb hc⟩
theorem rat_of (hf : NumIs w B z f) (hu : NumIs w B 1 u) : RatIs w B (z : Rat) ⟨f, u⟩ := ⟨by simpa using hf, by simpa using hu⟩
theorem WI.add_at (h : WI w g (l ++ List.replicate m 0)) (hl : l.length = k) (hm : 0 < m) (x : Int) : WI (w.setCell ⟨g, k, none⟩ (.int .i64 x)) g ((l ++ [x]) ++ List.replicate (m - 1) 0) := by
  subst hl
  obtain ⟨m', rfl⟩ : ∃ m', m = m' + 1 := ⟨m - 1, by omega⟩
  rw [Nat.add_sub_cancel, ← set_fill]
  exact h.set_ _ _
end
theorem den_cmp {w : World} {d : Int} {x u : Nm} (hx : NumIs w w.heap.size d x) (hu : NumIs w w.heap.size 1 u) (sx : x.n ≤ 35184372088832) : Calls Tryz.prog 38 #[x.v, u.v] w fun e w' => ∃ sg : Int, e = .returned (.int .i64 sg) ∧ (sg = 0 ↔ d = 1) ∧ Below w.heap.size w w' := by
  refine (ncmp_any hx hu sx (by rw [hu.ln]; have := small_nw (n := 1) (by omega); omega)).mono ?_
  rintro e w' ⟨rfl, hb⟩
  refine ⟨_, rfl, ?_, hb⟩
  rw [Int.sign_eq_zero_iff_zero]
  omega
theorem WI.row {w : World} {g n base : Nat} {l : List Int} (h : WI w g l) (hl : l.length = n) (hb : base ≤ g) (hn : n ≤ 1000000) : Srt.Row Srt.encS 1 base 3 g n n w l.toArray := by
  refine ⟨by simpa using hl, fun _ => rfl, fun _ v hv => by simp [Srt.encS] at hv; subst hv; rfl, hb, ?_⟩
  rw [List.toList_toArray, flat_intsS]
  refine ⟨by simp [ints, hl], Or.inr ⟨g, n, (ints l).toArray, rfl, hb, h, Nat.le_refl _, by unfold maxLen; omega, by simp [ints, hl], ?_⟩⟩
  rw [List.take_of_length_le (by simp [ints, hl])]
/-- the places of the fractions, sorted -/
theorem sort_places {br gr gord k : Nat} {L : List (Rat × Rt)} {fs : List Rat} {w5 wr : World} (hk : k ≤ 1000000) (hbr : Blk w5 br 40 #[.slice (some ⟨gr, 0, none⟩) k k]) (hr : RatsIs w5 w5.heap.size (some ⟨gr, 0, none⟩) k L) (hL : L.map (·.1) = fs) (hs : ∀ z ∈ L, Pl.rsz z.1 ≤ 400000)
    (hb : Below w5.heap.size w5 wr) (hg : w5.heap.size ≤ gord) (hw : WI wr gord (Pl.iota k)) :
    Calls Tryz.prog 39 #[.slice (some ⟨gord, 0, none⟩) k k, .func (.func 40) #[] #[.pointer (some ⟨br, 0, none⟩)]] wr fun e w' => e = .returned (.tuple #[]) ∧ ∃ d : Array Int, d.size = k ∧ Sort.PermIn 0 k (Pl.iota k).toArray d ∧ Sort.SortedIn (Srt.ltOf (Pl.scf2 fs)) 0 k d ∧ w'.ownsRow w5.heap.size 3 1 (.slice (some ⟨gord, 0, none⟩) k k) k (ints d.toList) ∧ Below w5.heap.size w5 w' := by
  have hc : Srt.CmpOkS 40 #[.pointer (some ⟨br, 0, none⟩)] Srt.valS (Pl.scf2 fs) (fun x => 0 ≤ x ∧ x < (k : Int)) (fun y x => y < x) gord wr := by
    intro wt x y hkp qx qy hyx
    obtain ⟨i, rfl⟩ := Int.eq_ofNat_of_zero_le qx.1
    obtain ⟨j, rfl⟩ := Int.eq_ofNat_of_zero_le qy.1
    have hbt := below_kp hb hkp hb.size hg
    rw [Pl.scf2_later hyx]
    exact round1_any br gr k k L fs i j wt (by omega) (by omega) (hbr.go hbt) (hr.go hbt) hL hs
  refine (Srt.sortS w5.heap.size gord k k 40 #[.pointer (some ⟨br, 0, none⟩)] (Pl.scf2 fs) (fun x => 0 ≤ x ∧ x < (k : Int)) (fun y x => y < x) wr enters_round1 hc (Pl.scf2_swo fs) hk (Pl.iota k).toArray wr (Srt.Kp.refl _ _) (hw.row (Pl.iota_len k) hg hk) (fun i hi => by rw [Pl.iota_getS k i hi]; omega) (fun T p q p1 q1 q2 => by rw [Pl.iota_getS k p (by omega), Pl.iota_getS k q q2]; omega)).mono ?_
  rintro e w7 ⟨rfl, d, hrow, hp, hs', _, hkp⟩
  refine ⟨rfl, d, hrow.size, hp, hs', ?_, below_kp hb hkp hb.size hg⟩
  have := hrow.own
  rwa [flat_intsS] at this
/-- amounts that settle.round takes -/
def Pl.RndOk (rs : List Rat) : Prop := (Pl.sumR (rs.map Pl.fr)).den = 1 ∧ ∀ q ∈ rs, -1000000000000000 ≤ q.floor ∧ q.floor ≤ 1000000000000000
/-- what settle.round returns -/
def RoundSaid (rs : List Rat) (w : World) (e : Ending) (w' : World) : Prop :=
  ((¬ Pl.RndOk rs ∧ ∃ er, er ≠ 0 ∧ e = .returned (.tuple #[.slice none 0 0, .int .i64 er])) ∨
    (Pl.RndOk rs ∧ ∃ (os : List Int) (g : Nat), Pl.Desc rs os ∧ Pl.Stab rs os ∧ e = .returned (.tuple #[.slice (some ⟨g, 0, none⟩) rs.length rs.length, .int .i64 0]) ∧ Reads w' w'.heap.size 1 (some ⟨g, 0, none⟩) rs.length (ints (Pl.bal rs os)))) ∧ Below w.heap.size w w'
def RndI (w wr : World) (rs : List Rat) (n k go gr br bs : Nat) (L : List (Rat × Rt)) (s : Rt) : Prop :=
  WI wr go ((rs.take k).map Rat.floor ++ List.replicate (n - k) 0) ∧ RL wr gr L (n - k) ∧ L.map (·.1) = (rs.take k).map Pl.fr ∧ Blk wr br 40 #[.slice (some ⟨gr, 0, none⟩) n n] ∧ Blk wr bs 47 #[.bool s.N.b, .slice s.N.A s.N.n s.N.c, .bool s.D.b, .slice s.D.A s.D.n s.D.c] ∧ RatIs wr wr.heap.size (Pl.sumR ((rs.take k).map Pl.fr)) s ∧ Below w.heap.size w wr
/-- sizes: a fraction, and a sum of fractions -/
theorem fr_rsz {q : Rat} (h : Pl.rsz q ≤ 210) (h0 : -1000000000000000 ≤ q.floor) (h1 : q.floor ≤ 1000000000000000) : Pl.rsz (q.floor : Rat) ≤ 2 ∧ Pl.rsz (Pl.fr q) ≤ 213 := by
  have e : Pl.rsz (q.floor : Rat) ≤ 2 := by
    rw [Pl.rsz_int]
    have := small_nw (n := q.floor) (by omega)
    omega
  have := Pl.rsz_sub q (q.floor : Rat)
  exact ⟨e, by unfold Pl.fr; omega⟩
theorem sumR_rsz : ∀ l : List Rat, (∀ q ∈ l, Pl.rsz q ≤ 213) → Pl.rsz (Pl.sumR l) ≤ 1 + 214 * l.length
  | [], _ => by
    rw [Pl.sumR]
    have e : Pl.rsz ((0 : Int) : Rat) = max (Pl.nw (0 : Int).natAbs) 1 := Pl.rsz_int 0
    have := small_nw (n := 0) (by omega)
    rw [show ((0 : Int) : Rat) = 0 from rfl] at e
    rw [e, show Pl.nw (0 : Int).natAbs = 0 from by rw [← List.length_eq_zero_iff.2 (Pl.digs_nil.2 rfl)]; rfl]
    simp
  | x :: l, h => by
    have ih := sumR_rsz l fun q hq => h q (by simp [hq])
    have h1 := h x (by simp)
    have := Pl.rsz_add x (Pl.sumR l)
    rw [Pl.sumR, List.length_cons]
    omega
set_option maxHeartbeats 6400000 in
theorem round_any (A : Option Addr) (n c : Nat) (La : List (Rat × Rt)) (rs : List Rat) (w : World) (hn : n ≤ 256) (hr : RatsIs w w.heap.size A n La) (hrs : La.map (·.1) = rs) (hs : ∀ q ∈ rs, Pl.rsz q ≤ 210) :
    Calls Tryz.prog 14 #[.slice A n c] w (RoundSaid rs w) := by
  have HA := Lib.hid hr
  have HRS := Lib.hid hrs
  have HSZ := Lib.hid hs
  have HN : Hid (rs.length = n) := by show _ = _; rw [← hrs, List.length_map]; exact hr.len
  have hmk := make_rat n (by omega)
  have hmi := make_int n (by omega)
  clear hr hrs hs
  go_enter Tryz.func14, Tryz.ntmps14
  go_wp2_with fail
  have W0 := Lib.hid (((WI.new_ w (List.replicate n 0)).go (below_one _ (.cells (rtl (List.replicate n rt0)).toArray 47))).go (below_one _ (.cells #[.slice (some ⟨w.heap.size + 1, 0, none⟩) n n] 40)))
  have R0 := Lib.hid ((RL.new_ (w.alloc (.cells (ints (List.replicate n 0)).toArray 3)) n).go (below_one _ (.cells #[.slice (some ⟨w.heap.size + 1, 0, none⟩) n n] 40)))
  have X0 := Lib.hid (Blk.new_ ((w.alloc (.cells (ints (List.replicate n 0)).toArray 3)).alloc (.cells (rtl (List.replicate n rt0)).toArray 47)) _ 40 #[.slice (some ⟨w.heap.size + 1, 0, none⟩) n n] rfl)
  have D0 := Lib.hid ((((Below.refl w.heap.size w).alloc (Nat.le_refl _) (.cells (ints (List.replicate n 0)).toArray 3)).alloc (by simp) (.cells (rtl (List.replicate n rt0)).toArray 47)).alloc (by simp; omega) (.cells #[.slice (some ⟨w.heap.size + 1, 0, none⟩) n n] 40))
  rw [show (w.alloc (.cells (ints (List.replicate n 0)).toArray 3)).heap.size = w.heap.size + 1 from by simp] at R0
  rw [show ((w.alloc (.cells (ints (List.replicate n 0)).toArray 3)).alloc (.cells (rtl (List.replicate n rt0)).toArray 47)).heap.size = w.heap.size + 1 + 1 from by simp] at X0
  obtain ⟨go, gr, br, e1, e2, e3, h1, h2, h3⟩ : ∃ go gr br : Nat, go = w.heap.size ∧ gr = w.heap.size + 1 ∧ br = w.heap.size + 1 + 1 ∧ w.heap.size ≤ go ∧ go < gr ∧ gr < br := ⟨_, _, _, rfl, rfl, rfl, by omega, by omega, by omega⟩
  rw [← e3, ← e2] at X0
  rw [← e2] at R0 W0 D0
  rw [← e1] at W0
  rw [← e3, ← e2, ← e1]
  clear e1 e2 e3 hmk hmi
  generalize ((w.alloc (.cells (ints (List.replicate n 0)).toArray 3)).alloc (.cells (rtl (List.replicate n rt0)).toArray 47)).alloc (.cells #[.slice (some ⟨gr, 0, none⟩) n n] 40) = w1 at *
  refine (whole_any 0 w1 (by omega) (by omega)).mono ?_
  rintro e w2 ⟨s0, rfl, hs0, hb5⟩
  have HS0 := Lib.hid hs0
  replace W0 := Lib.hid (W0.out.go hb5)
  replace R0 := Lib.hid (R0.out.go hb5)
  replace D0 := Lib.hid (D0.out.trans (hb5.mono D0.out.size))
  have hbr : br < w2.heap.size := (X0.out.go hb5).lt
  replace X0 := Lib.hid (X0.out.go hb5)
  clear hs0 hb5
  go_wp2_with fail
  have B0 := Lib.hid (Blk.new_ w2 w2.heap.size 47 #[.bool s0.N.b, .slice s0.N.A s0.N.n s0.N.c, .bool s0.D.b, .slice s0.D.A s0.D.n s0.D.c] rfl)
  have hb5 := below_one w2 (.cells #[.bool s0.N.b, .slice s0.N.A s0.N.n s0.N.c, .bool s0.D.b, .slice s0.D.A s0.D.n s0.D.c] 47)
  replace W0 := Lib.hid (W0.out.go hb5)
  replace R0 := Lib.hid (R0.out.go hb5)
  replace X0 := Lib.hid (X0.out.go hb5)
  replace HS0 := Lib.hid (HS0.out.go hb5)
  replace D0 := Lib.hid (D0.out.trans (hb5.mono D0.out.size))
  clear hb5
  obtain ⟨bs, e1, h4⟩ : ∃ bs : Nat, bs = w2.heap.size ∧ br < bs := ⟨_, rfl, hbr⟩
  rw [← e1] at B0
  rw [← e1]
  clear e1 hbr
  generalize w2.alloc (.cells #[.bool s0.N.b, .slice s0.N.A s0.N.n s0.N.c, .bool s0.D.b, .slice s0.D.A s0.D.n s0.D.c] 47) = w3 at *
  go_loopw [27] (fun i wr => ∃ (k : Nat) (L : List (Rat × Rt)) (s : Rt), k ≤ n ∧ i = .int .i64 k ∧ Hid (∀ q ∈ rs.take k, -1000000000000000 ≤ q.floor ∧ q.floor ≤ 1000000000000000) ∧ Hid (RndI w wr rs n k go gr br bs L s)) (fun i _ => n - (intOf i).toNat)
  case atStart => exact ⟨0, [], s0, Nat.zero_le _, rfl, Lib.hid (fun q hq => by simp at hq), Lib.hid ⟨by simpa using W0.out, by simpa using R0.out, by simp, X0.out, B0.out, by simpa [Pl.sumR] using HS0.out, D0.out⟩⟩
  case round =>
    clear W0 R0 X0 B0 HS0 D0
    obtain ⟨k, L, s, hk, rfl, HFL, HI⟩ := hrel
    have WO := Lib.hid HI.out.1
    have RLR := Lib.hid HI.out.2.1
    have HLM := Lib.hid HI.out.2.2.1
    have BR := Lib.hid HI.out.2.2.2.1
    have BS := Lib.hid HI.out.2.2.2.2.1
    have HS := Lib.hid HI.out.2.2.2.2.2.1
    have D := Lib.hid HI.out.2.2.2.2.2.2
    clear HI
    by_cases hlt : k < n
    · have hkl : k < rs.length := by rw [HN.out]; exact hlt
      obtain ⟨b, o, rfl, hbb, hla, c0, c1, c2, c3, hX⟩ := (HA.out.go D.out).at (k := k) hlt
      have ea : La[k].1 = rs[k] := by
        have := HRS.out
        subst this
        simp
      have hq := HSZ.out _ (List.getElem_mem hkl)
      rw [ea] at hX
      have HLL : Hid (L.length = k) := by
        show _ = _
        have := congrArg List.length HLM.out
        rw [List.length_map, List.length_map, List.length_take] at this
        omega
      have HT : Hid (rs.take (k + 1) = rs.take k ++ [rs[k]]) := by show _ = _; rw [List.take_succ_eq_append_getElem hkl]
      have HFM : Hid (((rs.take k).map Rat.floor).length = k) := by show _ = _; rw [List.length_map, List.length_take]; omega
      have HSR : Hid (Pl.rsz (Pl.sumR ((rs.take k).map Pl.fr)) ≤ 100000) := by
        show _ ≤ _
        have h7 := sumR_rsz ((rs.take k).map Pl.fr) (fun q hq => by
          obtain ⟨z, hz, rfl⟩ := List.mem_map.1 hq
          obtain ⟨f0, f1⟩ := HFL.out z hz
          exact (fr_rsz (HSZ.out z (List.mem_of_mem_take hz)) f0 f1).2)
        rw [List.length_map, List.length_take] at h7
        omega
      have HMQ := Lib.hid (List.getElem_mem hkl)
      generalize La[k].2 = x at *
      clear ea hla
      have HX := Lib.hid hX
      generalize rs[k] = q at *
      clear hX hkl
      have SX : Pl.rsz q ≤ 400000 := by omega
      go_wp2_with fail
      have BA := Lib.hid (Blk.new_ wr wr.heap.size 47 #[.bool x.N.b, .slice x.N.A x.N.n x.N.c, .bool x.D.b, .slice x.D.A x.D.n x.D.c] rfl)
      have hb5 := below_one wr (.cells #[.bool x.N.b, .slice x.N.A x.N.n x.N.c, .bool x.D.b, .slice x.D.A x.D.n x.D.c] 47)
      have hba : bs < wr.heap.size := BS.out.lt
      replace WO := Lib.hid (WO.out.go hb5)
      replace RLR := Lib.hid (RLR.out.go hb5)
      replace BR := Lib.hid (BR.out.go hb5)
      replace BS := Lib.hid (BS.out.go hb5)
      replace HS := Lib.hid (HS.out.go hb5)
      replace HX := Lib.hid (HX.out.go hb5)
      replace D := Lib.hid (D.out.trans (hb5.mono D.out.size))
      clear hb5
      obtain ⟨ba, e1, h5⟩ : ∃ ba : Nat, ba = wr.heap.size ∧ bs < ba := ⟨_, rfl, hba⟩
      rw [← e1] at BA
      rw [← e1]
      clear e1 hba
      generalize wr.alloc (.cells #[.bool x.N.b, .slice x.N.A x.N.n x.N.c, .bool x.D.b, .slice x.D.A x.D.n x.D.c] 47) = wa at *
      refine (rfloor_any HX.out SX).mono ?_
      rintro e wb ⟨f, rfl, hf9, hb5⟩
      have HF := Lib.hid hf9
      have hbf : ba < wb.heap.size := (BA.out.go hb5).lt
      replace WO := Lib.hid (WO.out.go hb5)
      replace RLR := Lib.hid (RLR.out.go hb5)
      replace BR := Lib.hid (BR.out.go hb5)
      replace BS := Lib.hid (BS.out.go hb5)
      replace BA := Lib.hid (BA.out.go hb5)
      replace HS := Lib.hid (HS.out.go hb5)
      replace HX := Lib.hid (HX.out.go hb5)
      replace D := Lib.hid (D.out.trans (hb5.mono D.out.size))
      clear hb5 hf9
      go_wp2_with fail
      have BF := Lib.hid (Blk.new_ wb wb.heap.size 45 #[.bool f.b, .slice f.A f.n f.c] rfl)
      have hb5 := below_one wb (.cells #[.bool f.b, .slice f.A f.n f.c] 45)
      replace WO := Lib.hid (WO.out.go hb5)
      replace RLR := Lib.hid (RLR.out.go hb5)
      replace BR := Lib.hid (BR.out.go hb5)
      replace BS := Lib.hid (BS.out.go hb5)
      replace BA := Lib.hid (BA.out.go hb5)
      replace HS := Lib.hid (HS.out.go hb5)
      replace HX := Lib.hid (HX.out.go hb5)
      replace HF := Lib.hid (HF.out.go hb5)
      replace D := Lib.hid (D.out.trans (hb5.mono D.out.size))
      clear hb5
      obtain ⟨bf, e1, h6⟩ : ∃ bf : Nat, bf = wb.heap.size ∧ ba < bf := ⟨_, rfl, hbf⟩
      rw [← e1] at BF
      rw [← e1]
      clear e1 hbf
      generalize wb.alloc (.cells #[.bool f.b, .slice f.A f.n f.c] 45) = wc at *
      refine (nsmall_any HF.out).mono ?_
      rintro e wd ⟨hsm, hb5⟩
      replace WO := Lib.hid (WO.out.go hb5)
      replace RLR := Lib.hid (RLR.out.go hb5)
      replace BR := Lib.hid (BR.out.go hb5)
      replace BS := Lib.hid (BS.out.go hb5)
      replace BA := Lib.hid (BA.out.go hb5)
      replace BF := Lib.hid (BF.out.go hb5)
      replace HS := Lib.hid (HS.out.go hb5)
      replace HX := Lib.hid (HX.out.go hb5)
      replace HF := Lib.hid (HF.out.go hb5)
      replace D := Lib.hid (D.out.trans (hb5.mono D.out.size))
      clear hb5
      rcases hsm with ⟨z0, z1, rfl⟩ | ⟨hbig, rfl⟩
      · obtain ⟨fl, hfl⟩ : ∃ fl : Int, fl = q.floor := ⟨_, rfl⟩
        rw [← hfl] at z0 z1 ⊢
        by_cases g1 : fl < -1000000000000000
        · have NOK : ¬ Pl.RndOk rs := fun h => by have := (h.2 q HMQ.out).1; omega
          clear hfl
          go_wp2_with fail
          go_ret2
          exact ⟨.inl ⟨NOK, 4, by decide, rfl⟩, D.out⟩
        · by_cases g2 : 1000000000000000 < fl
          · have NOK : ¬ Pl.RndOk rs := fun h => by have := (h.2 q HMQ.out).2; omega
            clear hfl
            go_wp2_with fail
            go_ret2
            exact ⟨.inl ⟨NOK, 4, by decide, rfl⟩, D.out⟩
          · have HFE := Lib.hid hfl
            have HQ : Hid (-1000000000000000 ≤ q.floor ∧ q.floor ≤ 1000000000000000) := by show _ ∧ _; omega
            obtain ⟨r1, r2⟩ := fr_rsz hq HQ.out.1 HQ.out.2
            have SF : Pl.rsz (q.floor : Rat) ≤ 400000 := by omega
            have SY : Pl.rsz (Pl.fr q) ≤ 400000 := by omega
            have SS : Pl.rsz (Pl.sumR ((rs.take k).map Pl.fr)) ≤ 400000 := by have := HSR.out; omega
            have hlo : k < ((rs.take k).map Rat.floor ++ List.replicate (n - k) 0).length := by have := HFM.out; rw [List.length_append, List.length_replicate]; omega
            have cW := WO.out.at_ hlo
            have fW := WO.out.frozen
            have lW := WO.out.lt
            generalize ((rs.take k).map Rat.floor ++ List.replicate (n - k) 0)[k] = v9 at cW
            clear hfl r1 r2
            go_upto_region 12 with fail
            clear cW fW lW hlo
            replace RLR := Lib.hid (RLR.out.far (by omega : gr ≠ go) WO.out (noU32_ints _) k (.int .i64 fl))
            replace BR := Lib.hid (BR.out.far (by omega : br ≠ go) (.int .i64 fl) (p := ⟨go, k, none⟩))
            replace BS := Lib.hid (BS.out.far (by omega : bs ≠ go) (.int .i64 fl) (p := ⟨go, k, none⟩))
            replace BA := Lib.hid (BA.out.far (by omega : ba ≠ go) (.int .i64 fl) (p := ⟨go, k, none⟩))
            replace BF := Lib.hid (BF.out.far (by omega : bf ≠ go) (.int .i64 fl) (p := ⟨go, k, none⟩))
            replace HS := Lib.hid (HS.out.set_ WO.out (noU32_ints _) k (.int .i64 fl))
            replace HX := Lib.hid (HX.out.set_ WO.out (noU32_ints _) k (.int .i64 fl))
            replace HF := Lib.hid (HF.out.set_ WO.out (noU32_ints _) k (.int .i64 fl))
            replace D := Lib.hid (D.out.setCell (p := ⟨go, k, none⟩) (by simp; omega) (.int .i64 fl))
            replace WO := Lib.hid (WO.out.add_at HFM.out (by omega) fl)
            generalize wd.setCell ⟨go, k, none⟩ (.int .i64 fl) = wr at *
            rw [HFE.out] at WO
            have hb5 := (Below.refl wr.heap.size wr).drew
            replace BR := Lib.hid (BR.out.go hb5)
            replace BS := Lib.hid (BS.out.go hb5)
            replace BA := Lib.hid (BA.out.go hb5)
            replace BF := Lib.hid (BF.out.go hb5)
            replace WO := Lib.hid (WO.out.go hb5)
            replace RLR := Lib.hid (RLR.out.go hb5)
            replace HX := Lib.hid (HX.out.go hb5)
            replace HF := Lib.hid (HF.out.go hb5)
            replace HS := Lib.hid (HS.out.go hb5)
            replace D := Lib.hid (D.out.trans (hb5.mono D.out.size))
            clear hb5
            have HB0 := Lib.hid (Below.refl wr.drew.heap.size wr.drew)
            have hlt_BR := BR.out.lt
            have hlt_BS := BS.out.lt
            have hlt_BA := BA.out.lt
            have hlt_BF := BF.out.lt
            have hlt_D := D.out.size
            generalize hw9 : wr.drew = w12 at *
            have hSw : (fun w' : World => Blk w' (br) 40 #[.slice (some ⟨gr, 0, none⟩) n n] ∧ Blk w' (ba) 47 #[.bool x.N.b, .slice x.N.A x.N.n x.N.c, .bool x.D.b, .slice x.D.A x.D.n x.D.c] ∧ Blk w' (bf) 45 #[.bool f.b, .slice f.A f.n f.c] ∧ True) w12 := ⟨BR.out.go HB0.out, BA.out.go HB0.out, BF.out.go HB0.out, trivial⟩
            refine wp_region_mid (fun w' : World => Blk w' (br) 40 #[.slice (some ⟨gr, 0, none⟩) n n] ∧ Blk w' (ba) 47 #[.bool x.N.b, .slice x.N.A x.N.n x.N.c, .bool x.D.b, .slice x.D.A x.D.n x.D.c] ∧ Blk w' (bf) 45 #[.bool f.b, .slice f.A f.n f.c] ∧ True) 8 (by kernel_rfl) ?_
            rw [hw9]
            clear hw9
            refine wpAnyM_takeB 0 [7, 8] rfl (by kernel_rfl) (by kernel_rfl) (by kernel_rfl) (by kernel_rfl) (by kernel_rfl) (fun _ _ _ h => h) hSw (by kernel_rfl) (fun w' hSx => by have c0 := hSx.1.cell; have l0 := hSx.1.lt; have c1 := hSx.2.1.cell; have l1 := hSx.2.1.lt; have c2 := hSx.2.2.1.cell; have l2 := hSx.2.2.1.lt; go_simp; first | done | with_reducible rfl) ?_
            simp only [Act.put, List.setIfInBounds_toArray]
            refine wpAnyM_takeB 1 [7, 8] rfl (by kernel_rfl) (by kernel_rfl) (by kernel_rfl) (by kernel_rfl) (by kernel_rfl) (fun _ _ _ h => h) hSw (by kernel_rfl) (fun w' hSx => by have c0 := hSx.1.cell; have l0 := hSx.1.lt; have c1 := hSx.2.1.cell; have l1 := hSx.2.1.lt; have c2 := hSx.2.2.1.cell; have l2 := hSx.2.2.1.lt; go_simp; first | done | with_reducible rfl) ?_
            simp only [Act.put]
            refine wpAnyM_takeB 2 [6, 7, 8] rfl (by kernel_rfl) (by kernel_rfl) (by kernel_rfl) (by kernel_rfl) (by kernel_rfl) (fun _ _ _ h => h) hSw (by kernel_rfl) (fun w' hSx => by have c0 := hSx.1.cell; have l0 := hSx.1.lt; have c1 := hSx.2.1.cell; have l1 := hSx.2.1.lt; have c2 := hSx.2.2.1.cell; have l2 := hSx.2.2.1.lt; go_simp; first | done | with_reducible rfl) ?_
            simp only [Act.put]
            refine wpAnyM_takeB 3 [5, 6, 7, 8] rfl (by kernel_rfl) (by kernel_rfl) (by kernel_rfl) (by kernel_rfl) (by kernel_rfl) (fun _ _ _ h => h) hSw (by kernel_rfl) (fun w' hSx => by have c0 := hSx.1.cell; have l0 := hSx.1.lt; have c1 := hSx.2.1.cell; have l1 := hSx.2.1.lt; have c2 := hSx.2.2.1.cell; have l2 := hSx.2.2.1.lt; go_simp; first | done | with_reducible rfl) ?_
            simp only [Act.put]
            refine wpAnyM_ready [4] (by kernel_rfl) (by simp) ?_
            refine AllReadyM.cons (by rfl) (fun K hK => ?_) AllReadyM.nil
            go_simp
            refine (nof_any 1 w12 (by omega) (by omega)).mono ?_
            rintro e wq1 ⟨u, rfl, hu9, hb5⟩
            replace HB0 := Lib.hid (Below.trans HB0.out (hb5.mono HB0.out.size))
            have HU := Lib.hid hu9
            clear hu9
            clear hb5
            clear hSw
            have hSw : (fun w' : World => Blk w' (br) 40 #[.slice (some ⟨gr, 0, none⟩) n n] ∧ Blk w' (ba) 47 #[.bool x.N.b, .slice x.N.A x.N.n x.N.c, .bool x.D.b, .slice x.D.A x.D.n x.D.c] ∧ Blk w' (bf) 45 #[.bool f.b, .slice f.A f.n f.c] ∧ True) wq1 := ⟨BR.out.go HB0.out, BA.out.go HB0.out, BF.out.go HB0.out, trivial⟩
            refine hK.out _ _ hSw ?_
            clear hK K
            refine wpAnyM_takeB 5 [6, 7, 8] rfl (by kernel_rfl) (by kernel_rfl) (by kernel_rfl) (by kernel_rfl) (by kernel_rfl) (fun _ _ _ h => h) hSw (by kernel_rfl) (fun w' hSx => by have c0 := hSx.1.cell; have l0 := hSx.1.lt; have c1 := hSx.2.1.cell; have l1 := hSx.2.1.lt; have c2 := hSx.2.2.1.cell; have l2 := hSx.2.2.1.lt; go_simp; first | done | with_reducible rfl) ?_
            simp only [Act.put]
            refine wpAnyM_ready [6] (by kernel_rfl) (by simp) ?_
            refine AllReadyM.cons (by rfl) (fun K hK => ?_) AllReadyM.nil
            go_simp
            refine (rsub_any (HX.out.go HB0.out) (rat_of (HF.out.go HB0.out) HU.out) SX SF).mono ?_
            rintro e wq2 ⟨y, rfl, hy9, hb5⟩
            clear HX HF HU
            replace HB0 := Lib.hid (Below.trans HB0.out (hb5.mono HB0.out.size))
            have HY : Hid (RatIs wq2 wq2.heap.size (Pl.fr q) y) := Lib.hid hy9
            clear hy9
            clear hb5
            clear hSw
            have hSw : (fun w' : World => Blk w' (br) 40 #[.slice (some ⟨gr, 0, none⟩) n n] ∧ Blk w' (ba) 47 #[.bool x.N.b, .slice x.N.A x.N.n x.N.c, .bool x.D.b, .slice x.D.A x.D.n x.D.c] ∧ Blk w' (bf) 45 #[.bool f.b, .slice f.A f.n f.c] ∧ True) wq2 := ⟨BR.out.go HB0.out, BA.out.go HB0.out, BF.out.go HB0.out, trivial⟩
            refine hK.out _ _ hSw ?_
            clear hK K
            refine wpAnyM_takeB 7 [8] rfl (by kernel_rfl) (by kernel_rfl) (by kernel_rfl) (by kernel_rfl) (by kernel_rfl) (fun _ _ _ h => h) hSw (by kernel_rfl) (fun w' hSx => by have c0 := hSx.1.cell; have l0 := hSx.1.lt; have c1 := hSx.2.1.cell; have l1 := hSx.2.1.lt; have c2 := hSx.2.2.1.cell; have l2 := hSx.2.2.1.lt; go_simp; first | done | with_reducible rfl) ?_
            simp only [Act.put]
            refine wpAnyM_ready [8] (by kernel_rfl) (by simp) ?_
            refine AllReadyM.last (by rfl) (by decide) (fun K hK => ?_)
            replace BR := Lib.hid (BR.out.go HB0.out)
            replace BS := Lib.hid (BS.out.go HB0.out)
            replace BA := Lib.hid (BA.out.go HB0.out)
            replace BF := Lib.hid (BF.out.go HB0.out)
            replace WO := Lib.hid (WO.out.go HB0.out)
            replace RLR := Lib.hid (RLR.out.go HB0.out)
            replace HS := Lib.hid (HS.out.go HB0.out)
            replace D := Lib.hid (D.out.trans (HB0.out.mono D.out.size))
            obtain ⟨c0, c1, c2, c3⟩ := RLR.out.blk.at_ (k := k) (by have := HLL.out; simp; omega)
            generalize (L.map (·.2) ++ List.replicate (n - k) rt0)[k]'_ = z9 at *
            have fz := RLR.out.frozen
            have lt9 := RLR.out.lt
            go_simp
            clear c0 c1 c2 c3 fz lt9
            replace BR := Lib.hid (Blk.rfar BR.out (by omega : br ≠ gr) k y)
            replace BS := Lib.hid (Blk.rfar BS.out (by omega : bs ≠ gr) k y)
            replace BA := Lib.hid (Blk.rfar BA.out (by omega : ba ≠ gr) k y)
            replace BF := Lib.hid (Blk.rfar BF.out (by omega : bf ≠ gr) k y)
            replace WO := Lib.hid (WI.rfar WO.out (by omega : go ≠ gr) k y)
            replace HS := Lib.hid (HS.out.putR RLR.out.blk k y)
            replace D := Lib.hid (below_rput (g := gr) D.out (by omega) k y)
            replace RLR := Lib.hid (RL.add_at RLR.out HLL.out (by omega) HY.out)
            obtain ⟨wq3, hw8⟩ : ∃ w', w' = rput wq2 gr k y := ⟨_, rfl⟩
            rw [← hw8] at BR BS BA BF WO RLR HS D
            rw [show (((wq2.setCell ⟨gr, k * 4, none⟩ (.bool y.N.b)).setCell ⟨gr, k * 4 + 1, none⟩ (.slice y.N.A y.N.n y.N.c)).setCell ⟨gr, k * 4 + 2, none⟩ (.bool y.D.b)).setCell ⟨gr, k * 4 + 3, none⟩ (.slice y.D.A y.D.n y.D.c) = wq3 from hw8.symm]
            clear hw8
            replace HB0 := Lib.hid (Below.refl wq3.heap.size wq3)
            clear HY
            refine hK.out _ _ ?_
            clear hK K
            refine wpAnyM_done (by kernel_rfl) ?_ _
            clear HB0 hSw
            go_upto_region 13 with fail
            clear BA BF
            have hk4 : k < (L ++ [(Pl.fr q, y)]).length := by have := HLL.out; simp; omega
            have HY2 : Hid (RatIs wq3 wq3.heap.size (Pl.fr q) y) := Lib.hid (RLR.out.each _ (List.mem_append_right L (List.mem_singleton.2 rfl)))
            have EK : Hid ((L ++ [(Pl.fr q, y)])[k]'hk4 = (Pl.fr q, y)) := by show _ = _; have h9 := HLL.out; subst h9; exact List.getElem_concat_length rfl _
            have hb5 := (Below.refl wq3.heap.size wq3).drew
            replace BR := Lib.hid (BR.out.go hb5)
            replace BS := Lib.hid (BS.out.go hb5)
            replace WO := Lib.hid (WO.out.go hb5)
            replace RLR := Lib.hid (RLR.out.go hb5)
            replace HS := Lib.hid (HS.out.go hb5)
            replace D := Lib.hid (D.out.trans (hb5.mono D.out.size))
            replace HY2 := Lib.hid (HY2.out.go hb5)
            clear hb5
            have HB0 := Lib.hid (Below.refl wq3.drew.heap.size wq3.drew)
            have hlt_BR := BR.out.lt
            have hlt_BS := BS.out.lt
            have hlt_D := D.out.size
            generalize hw9 : wq3.drew = w13 at *
            have hSw : (fun w' : World => Below w13.heap.size w13 w') w13 := HB0.out
            refine wp_region_mid (fun w' : World => Below w13.heap.size w13 w') 6 (by kernel_rfl) ?_
            rw [hw9]
            clear hw9
            refine wpAnyM_takeB 0 [5, 6] rfl (by kernel_rfl) (by kernel_rfl) (by kernel_rfl) (by kernel_rfl) (by kernel_rfl) (fun _ _ _ h => h) hSw (by kernel_rfl) (fun w' hSx => by have c0 := (BS.out.go hSx).cell; have c1 := (BR.out.go hSx).cell; obtain ⟨c2, c3, c4, c5⟩ := (RLR.out.go hSx).at_ hk4; rw [EK.out] at c2 c3 c4 c5; go_simp; first | done | with_reducible rfl) ?_
            simp only [Act.put, List.setIfInBounds_toArray]
            refine wpAnyM_takeB 1 [3, 4, 5, 6] rfl (by kernel_rfl) (by kernel_rfl) (by kernel_rfl) (by kernel_rfl) (by kernel_rfl) (fun _ _ _ h => h) hSw (by kernel_rfl) (fun w' hSx => by have c0 := (BS.out.go hSx).cell; have c1 := (BR.out.go hSx).cell; obtain ⟨c2, c3, c4, c5⟩ := (RLR.out.go hSx).at_ hk4; rw [EK.out] at c2 c3 c4 c5; go_simp; first | done | with_reducible rfl) ?_
            simp only [Act.put]
            refine wpAnyM_takeB 2 [3, 4, 5, 6] rfl (by kernel_rfl) (by kernel_rfl) (by kernel_rfl) (by kernel_rfl) (by kernel_rfl) (fun _ _ _ h => h) hSw (by kernel_rfl) (fun w' hSx => by have c0 := (BS.out.go hSx).cell; have c1 := (BR.out.go hSx).cell; obtain ⟨c2, c3, c4, c5⟩ := (RLR.out.go hSx).at_ hk4; rw [EK.out] at c2 c3 c4 c5; go_simp; first | done | with_reducible rfl) ?_
            simp only [Act.put]
            refine wpAnyM_takeB 3 [4, 5, 6] rfl (by kernel_rfl) (by kernel_rfl) (by kernel_rfl) (by kernel_rfl) (by kernel_rfl) (fun _ _ _ h => h) hSw (by kernel_rfl) (fun w' hSx => by have c0 := (BS.out.go hSx).cell; have c1 := (BR.out.go hSx).cell; obtain ⟨c2, c3, c4, c5⟩ := (RLR.out.go hSx).at_ hk4; rw [EK.out] at c2 c3 c4 c5; go_simp; first | done | with_reducible rfl) ?_
            simp only [Act.put]
            refine wpAnyM_takeB 4 [5, 6] rfl (by kernel_rfl) (by kernel_rfl) (by kernel_rfl) (by kernel_rfl) (by kernel_rfl) (fun _ _ _ h => h) hSw (by kernel_rfl) (fun w' hSx => by have c0 := (BS.out.go hSx).cell; have c1 := (BR.out.go hSx).cell; obtain ⟨c2, c3, c4, c5⟩ := (RLR.out.go hSx).at_ hk4; rw [EK.out] at c2 c3 c4 c5; go_simp; first | done | with_reducible rfl) ?_
            simp only [Act.put]
            refine wpAnyM_ready [5] (by kernel_rfl) (by simp) ?_
            refine AllReadyM.cons (by rfl) (fun K hK => ?_) AllReadyM.nil
            go_simp
            refine (radd_any (HS.out.go HB0.out) (HY2.out.go HB0.out) SS SY).mono ?_
            rintro e wq1 ⟨s2, rfl, hs9, hb5⟩
            clear HS HY2
            replace HB0 := Lib.hid (Below.trans HB0.out (hb5.mono HB0.out.size))
            have HS2 := Lib.hid hs9
            clear hs9
            clear hb5
            clear hSw
            have hSw : (fun w' : World => Below w13.heap.size w13 w') wq1 := HB0.out
            refine hK.out _ _ hSw ?_
            clear hK K
            refine wpAnyM_ready [6] (by kernel_rfl) (by simp) ?_
            refine AllReadyM.last (by rfl) (by decide) (fun K hK => ?_)
            replace BR := Lib.hid (BR.out.go HB0.out)
            replace BS := Lib.hid (BS.out.go HB0.out)
            replace WO := Lib.hid (WO.out.go HB0.out)
            replace RLR := Lib.hid (RLR.out.go HB0.out)
            replace D := Lib.hid (D.out.trans (HB0.out.mono D.out.size))
            have cc9 := BS.out.cell
            have cf9 := BS.out.frozen
            have cl9 := BS.out.lt
            go_simp
            clear cc9 cf9 cl9
            replace BR := Lib.hid (BR.out.far4 (r := bs) (by omega) (u0 := .bool s2.N.b) (u1 := .slice s2.N.A s2.N.n s2.N.c) (u2 := .bool s2.D.b) (u3 := .slice s2.D.A s2.D.n s2.D.c))
            replace WO := Lib.hid (WI.far4 WO.out (g := bs) (by omega) (u0 := .bool s2.N.b) (u1 := .slice s2.N.A s2.N.n s2.N.c) (u2 := .bool s2.D.b) (u3 := .slice s2.D.A s2.D.n s2.D.c))
            replace RLR := Lib.hid (RL.far4b RLR.out (by omega : gr ≠ bs) BS.out (noU32_num2 s.N s.D) (u0 := .bool s2.N.b) (u1 := .slice s2.N.A s2.N.n s2.N.c) (u2 := .bool s2.D.b) (u3 := .slice s2.D.A s2.D.n s2.D.c))
            replace HS2 := Lib.hid (HS2.out.put4 BS.out (noU32_num2 s.N s.D) (u0 := .bool s2.N.b) (u1 := .slice s2.N.A s2.N.n s2.N.c) (u2 := .bool s2.D.b) (u3 := .slice s2.D.A s2.D.n s2.D.c))
            replace D := Lib.hid (below_put4 D.out (r := bs) (by omega) (u0 := .bool s2.N.b) (u1 := .slice s2.N.A s2.N.n s2.N.c) (u2 := .bool s2.D.b) (u3 := .slice s2.D.A s2.D.n s2.D.c))
            replace BS := Lib.hid (BS.out.put4 (u0 := .bool s2.N.b) (u1 := .slice s2.N.A s2.N.n s2.N.c) (u2 := .bool s2.D.b) (u3 := .slice s2.D.A s2.D.n s2.D.c))
            generalize ((((wq1.setCell ⟨bs, 0, none⟩ (.bool s2.N.b)).setCell ⟨bs, 1, none⟩ (.slice s2.N.A s2.N.n s2.N.c)).setCell ⟨bs, 2, none⟩ (.bool s2.D.b)).setCell ⟨bs, 3, none⟩ (.slice s2.D.A s2.D.n s2.D.c)) = wq2 at *
            replace HB0 := Lib.hid (Below.refl wq2.heap.size wq2)
            refine hK.out _ _ ?_
            clear hK K
            refine wpAnyM_done (by kernel_rfl) ?_ _
            clear HB0 hSw
            go_wp2_with fail
            go_roundw
            case rel =>
              refine ⟨k + 1, L ++ [(Pl.fr q, y)], s2, by omega, by go_num, ?_, ?_⟩
              · show ∀ z ∈ rs.take (k + 1), _
                rw [HT.out]
                intro z hz
                rw [List.mem_append, List.mem_singleton] at hz
                rcases hz with hz | hz
                · exact HFL.out z hz
                · subst hz; exact HQ.out
              · refine ⟨?_, ?_, ?_, BR.out, BS.out, ?_, D.out⟩
                · rw [HT.out, List.map_append]; exact WO.out
                · rw [show n - (k + 1) = n - k - 1 by omega]; exact RLR.out
                · rw [List.map_append, HLM.out, HT.out, List.map_append]; rfl
                · rw [HT.out, List.map_append, List.map_singleton, Pl.sumR_snoc]; exact HS2.out
            case measure => simp [intOf]; omega
      · have NOK : ¬ Pl.RndOk rs := fun h => by have := h.2 q HMQ.out; omega
        go_wp2_with fail
        go_ret2
        exact ⟨.inl ⟨NOK, 4, by decide, rfl⟩, D.out⟩
    · have : k = n := by omega
      subst this
      have HTK : Hid (rs.take k = rs) := List.take_of_length_le (by rw [HN.out]; exact Nat.le_refl _)
      rw [HTK.out] at WO HLM HS HFL
      rw [Nat.sub_self] at WO RLR
      rw [List.replicate_zero, List.append_nil] at WO
      have HSR : Hid (Pl.rsz (Pl.sumR (rs.map Pl.fr)) ≤ 100000) := by
        show _ ≤ _
        have h7 := sumR_rsz (rs.map Pl.fr) (fun q hq => by
          obtain ⟨z, hz, rfl⟩ := List.mem_map.1 hq
          obtain ⟨f0, f1⟩ := HFL.out z hz
          exact (fr_rsz (HSZ.out z hz) f0 f1).2)
        rw [List.length_map, HN.out] at h7
        omega
      have HLZ : Hid (∀ z ∈ L, Pl.rsz z.1 ≤ 400000) := by
        intro z hz
        have h7 : z.1 ∈ L.map (·.1) := List.mem_map.2 ⟨z, hz, rfl⟩
        rw [HLM.out] at h7
        obtain ⟨y, hy, e⟩ := List.mem_map.1 h7
        obtain ⟨f0, f1⟩ := HFL.out y hy
        have := (fr_rsz (HSZ.out y hy) f0 f1).2
        rw [← e]
        omega
      have HD := Lib.hid HS.out.d
      have SD : s.D.n ≤ 35184372088832 := by have h8 := HS.out.sd; have := HSR.out; omega
      clear HTK HSZ HA HRS
      go_upto_region 15 with fail
      have hb5 := (Below.refl wr.heap.size wr).drew
      replace BR := Lib.hid (BR.out.go hb5)
      replace BS := Lib.hid (BS.out.go hb5)
      replace WO := Lib.hid (WO.out.go hb5)
      replace RLR := Lib.hid (RLR.out.go hb5)
      replace HS := Lib.hid (HS.out.go hb5)
      replace HD := Lib.hid (HD.out.go hb5)
      replace D := Lib.hid (D.out.trans (hb5.mono D.out.size))
      clear hb5
      have HB0 := Lib.hid (Below.refl wr.drew.heap.size wr.drew)
      have hlt_BR := BR.out.lt
      have hlt_BS := BS.out.lt
      have hlt_D := D.out.size
      generalize hw9 : wr.drew = w15 at *
      have hSw : (fun w' : World => Blk w' (bs) 47 #[.bool s.N.b, .slice s.N.A s.N.n s.N.c, .bool s.D.b, .slice s.D.A s.D.n s.D.c] ∧ True) w15 := ⟨BS.out.go HB0.out, trivial⟩
      refine wp_region_mid (fun w' : World => Blk w' (bs) 47 #[.bool s.N.b, .slice s.N.A s.N.n s.N.c, .bool s.D.b, .slice s.D.A s.D.n s.D.c] ∧ True) 5 (by kernel_rfl) ?_
      rw [hw9]
      clear hw9
      refine wpAnyM_takeB 0 [1, 3, 4] rfl (by kernel_rfl) (by kernel_rfl) (by kernel_rfl) (by kernel_rfl) (by kernel_rfl) (fun _ _ _ h => h) hSw (by kernel_rfl) (fun w' hSx => by have c0 := hSx.1.cell; have l0 := hSx.1.lt; go_simp; first | done | with_reducible rfl) ?_
      simp only [Act.put, List.setIfInBounds_toArray]
      refine wpAnyM_takeB 1 [3, 4] rfl (by kernel_rfl) (by kernel_rfl) (by kernel_rfl) (by kernel_rfl) (by kernel_rfl) (fun _ _ _ h => h) hSw (by kernel_rfl) (fun w' hSx => by have c0 := hSx.1.cell; have l0 := hSx.1.lt; go_simp; first | done | with_reducible rfl) ?_
      simp only [Act.put]
      refine wpAnyM_ready [2] (by kernel_rfl) (by simp) ?_
      refine AllReadyM.cons (by rfl) (fun K hK => ?_) AllReadyM.nil
      go_simp
      refine (nof_any 1 w15 (by omega) (by omega)).mono ?_
      rintro e wq1 ⟨u, rfl, hu9, hb5⟩
      replace HB0 := Lib.hid (Below.trans HB0.out (hb5.mono HB0.out.size))
      have HU := Lib.hid hu9
      clear hu9
      clear hb5
      clear hSw
      have hSw : (fun w' : World => Blk w' (bs) 47 #[.bool s.N.b, .slice s.N.A s.N.n s.N.c, .bool s.D.b, .slice s.D.A s.D.n s.D.c] ∧ True) wq1 := ⟨BS.out.go HB0.out, trivial⟩
      refine hK.out _ _ hSw ?_
      clear hK K
      refine wpAnyM_ready [3] (by kernel_rfl) (by simp) ?_
      refine AllReadyM.cons (by rfl) (fun K hK => ?_) AllReadyM.nil
      go_simp
      refine (den_cmp (HD.out.go HB0.out) HU.out SD).mono ?_
      rintro e wq2 ⟨sg, rfl, hsg9, hb5⟩
      clear HD HU
      replace HB0 := Lib.hid (Below.trans HB0.out (hb5.mono HB0.out.size))
      have HSG := Lib.hid hsg9
      clear hsg9
      clear hb5
      clear hSw
      have hSw : (fun w' : World => Blk w' (bs) 47 #[.bool s.N.b, .slice s.N.A s.N.n s.N.c, .bool s.D.b, .slice s.D.A s.D.n s.D.c] ∧ True) wq2 := ⟨BS.out.go HB0.out, trivial⟩
      refine hK.out _ _ hSw ?_
      clear hK K
      refine wpAnyM_takeB 4 [] rfl (by kernel_rfl) (by kernel_rfl) (by kernel_rfl) (by kernel_rfl) (by kernel_rfl) (fun _ _ _ h => h) hSw (by kernel_rfl) (fun w' hSx => by have c0 := hSx.1.cell; have l0 := hSx.1.lt; go_simp; first | done | with_reducible rfl) ?_
      simp only [Act.put]
      refine wpAnyM_done (by kernel_rfl) ?_ _
      simp only [List.getElem_toArray, List.getElem_cons_succ, List.getElem_cons_zero]
      replace BR := Lib.hid (BR.out.go HB0.out)
      replace BS := Lib.hid (BS.out.go HB0.out)
      replace WO := Lib.hid (WO.out.go HB0.out)
      replace RLR := Lib.hid (RLR.out.go HB0.out)
      replace HS := Lib.hid (HS.out.go HB0.out)
      replace D := Lib.hid (D.out.trans (HB0.out.mono D.out.size))
      clear HB0 hSw
      by_cases hsg : sg = 0
      · have HDEN : Hid ((Pl.sumR (rs.map Pl.fr)).den = 1) := by show _ = _; have := HSG.out.1 hsg; omega
        subst hsg
        clear HSG
        have hmi := make_int k (by omega)
        go_wp2_with fail
        clear hmi
        have WR := Lib.hid (WI.new_ wq2 (List.replicate k 0))
        have D6 := Lib.hid ((Below.refl wq2.heap.size wq2).alloc (Nat.le_refl _) (.cells (ints (List.replicate k 0)).toArray 3))
        have lgo : go < wq2.heap.size := WO.out.lt
        obtain ⟨gord, e1, h5⟩ : ∃ gord : Nat, gord = wq2.heap.size ∧ wq2.heap.size ≤ gord := ⟨_, rfl, Nat.le_refl _⟩
        have lgo2 : go < gord := by omega
        rw [← e1] at WR
        rw [← e1]
        clear e1
        generalize wq2.alloc (.cells (ints (List.replicate k 0)).toArray 3) = w6 at *
        go_loopw [78] (fun i wr => ∃ j : Nat, j ≤ k ∧ i = .int .i64 j ∧ WI wr gord (Pl.iota j ++ List.replicate (k - j) 0) ∧ Below wq2.heap.size wq2 wr) (fun i _ => k - (intOf i).toNat)
        case atStart => exact ⟨0, Nat.zero_le _, rfl, by simpa [Pl.iota] using WR.out, D6.out⟩
        case round =>
          clear WR D6
          obtain ⟨j, hjk, rfl, hw, hb⟩ := hrel
          have WR := Lib.hid hw
          have D6 := Lib.hid hb
          clear hw hb
          by_cases hlt : j < k
          · have hlo : j < (Pl.iota j ++ List.replicate (k - j) 0).length := by rw [List.length_append, List.length_replicate, Pl.iota_len]; omega
            have cW := WR.out.at_ hlo
            have fW := WR.out.frozen
            have lW := WR.out.lt
            generalize (Pl.iota j ++ List.replicate (k - j) 0)[j] = v9 at cW
            have hjk2 : (j : Int) < (k : Int) := by omega
            go_wp2_with fail
            go_roundw
            case rel =>
              refine ⟨j + 1, by omega, by go_num, ?_, D6.out.setCell (by simp; omega) _⟩
              have := WR.out.add_at (Pl.iota_len j) (by omega) (j : Int)
              rw [← Pl.iota_snoc, show k - j - 1 = k - (j + 1) by omega] at this
              exact this
            case measure => simp [intOf]; omega
          · have : j = k := by omega
            subst this
            rw [Nat.sub_self, List.replicate_zero, List.append_nil] at WR
            have HRT := Lib.hid RLR.out.rats
            have HLK : L.length = j := by
              have := congrArg List.length HLM.out
              rw [List.length_map, List.length_map, HN.out] at this
              exact this
            rw [HLK] at HRT
            have HSRT := Lib.hid (sort_places (by omega) BR.out HRT.out HLM.out HLZ.out D6.out h5 WR.out)
            go_wp2_with fail
            refine HSRT.out.mono ?_
            rintro e w7 ⟨rfl, d, hz, hp, hs, hoo, hb⟩
            obtain ⟨hde, hst⟩ := Pl.desc_of (l := rs) (d := d) (by rw [hz, HN.out]) (by rw [HN.out]; exact hp) (by rw [HN.out]; exact hs)
            have DE := Lib.hid hde
            have ST := Lib.hid hst
            have OO := Lib.hid hoo
            have D7 := Lib.hid hb
            clear HSRT hz hp hs hoo hb hde hst HLZ HLK
            have BS7 := Lib.hid (BS.out.go D7.out)
            have WO7 := Lib.hid (WO.out.go D7.out)
            have HS7 := Lib.hid (HS.out.go D7.out)
            have D8 := Lib.hid (D.out.trans (D7.out.mono D.out.size))
            have c7 := BS7.out.cell
            have l7 := BS7.out.lt
            go_wp2_with fail
            refine (nsmall_any HS7.out.n).mono ?_
            rintro e w8 ⟨hsm, hb5⟩
            obtain ⟨f1, f2, f3⟩ := Pl.fr_sum HDEN.out
            have HNN : Hid ((Pl.sumR (rs.map Pl.fr)).num.toNat ≤ j) := by show _ ≤ _; rw [← HN.out]; exact f2
            obtain ⟨N, hN⟩ : ∃ N : Nat, N = (Pl.sumR (rs.map Pl.fr)).num.toNat := ⟨_, rfl⟩
            have HNE := Lib.hid hN
            rw [f3, ← hN] at hsm
            rw [← hN] at HNN
            clear f1 f2 f3 hN
            rcases hsm with ⟨_, _, rfl⟩ | ⟨h9, _⟩
            · have hNj : N ≤ j := HNN.out
              have lgo3 : go < gord := lgo2
              have WO8 := Lib.hid (WO7.out.go hb5)
              have OO8 := Lib.hid (own_go OO.out hb5)
              have D9 := Lib.hid (D8.out.trans (hb5.mono D8.out.size))
              clear hb5 c7 l7 BS7 WO7 HS7 D7 D8 OO
              go_wp2_with fail
              go_loopw [99] (fun i wr => ∃ q : Nat, q ≤ N ∧ i = .int .i64 q ∧ WI wr go (Pl.incs (rs.map Rat.floor) (d.toList.take q)) ∧ wr.ownsRow wq2.heap.size 3 1 (.slice (some ⟨gord, 0, none⟩) j j) j (ints d.toList) ∧ Below w.heap.size w wr) (fun i _ => N - (intOf i).toNat)
              case atStart => exact ⟨0, Nat.zero_le _, rfl, WO8.out, OO8.out, D9.out⟩
              case round =>
                clear WO8 OO8 D9
                obtain ⟨q, hqN, rfl, hwo, hoo, hb⟩ := hrel
                have WO := Lib.hid hwo
                have OO := Lib.hid hoo
                have D := Lib.hid hb
                clear hwo hoo hb
                by_cases hlt : q < N
                · have qj : q < j := by omega
                  have co := own_int_cell OO.out q qj
                  have hl : q < d.toList.length := by rw [DE.out.len, HN.out]; exact qj
                  have hm := DE.out.mem _ (List.getElem_mem hl)
                  have e1 : d.toList.getD q 0 = d.toList[q] := Pl.getD_at hl 0
                  rw [e1] at co
                  obtain ⟨p, hp⟩ := Int.eq_ofNat_of_zero_le hm.1
                  have HPE := Lib.hid hp
                  have pj : p < j := by have := hm.2; have := HN.out; omega
                  rw [hp] at co
                  have hlp : p < (Pl.incs (rs.map Rat.floor) (d.toList.take q)).length := by rw [Pl.incs_len, List.length_map, HN.out]; exact pj
                  have cp := WO.out.at_ hlp
                  have fp := WO.out.frozen
                  have lp := WO.out.lt
                  obtain ⟨b1, b2⟩ := Pl.bal_bd DE.out q (k := p) (by rw [HN.out]; exact pj) (B := 1000000000000000) (fun x hx => HFL.out x hx)
                  have HI : Hid (Pl.incs (rs.map Rat.floor) (d.toList.take (q + 1)) = (Pl.incs (rs.map Rat.floor) (d.toList.take q)).set p ((Pl.incs (rs.map Rat.floor) (d.toList.take q)).getD p 0 + 1)) := by
                    show _ = _
                    rw [List.take_succ_eq_append_getElem hl, Pl.incs_snoc, HPE.out]
                    rfl
                  rw [← Pl.getD_at hlp 0] at cp
                  generalize hgd : (Pl.incs (rs.map Rat.floor) (d.toList.take q)).getD p 0 = pv at *
                  clear hgd HPE hp hm e1 hl hlp
                  have z1 : (p : Int) < (j : Int) := by omega
                  have z3 : (q : Int) < (N : Int) := by omega
                  go_wp2_with fail
                  go_roundw
                  case rel =>
                    refine ⟨q + 1, by omega, by go_num, ?_, own_other OO.out (by omega) _ _, D.out.setCell (by simp; omega) _⟩
                    rw [HI.out]
                    exact WO.out.set_ _ _
                  case measure => simp [intOf]; omega
                · have : q = N := by omega
                  subst this
                  go_wp2_with fail
                  go_ret2
                  refine ⟨.inr ⟨⟨HDEN.out, HFL.out⟩, d.toList, go, DE.out, ST.out, by rw [HN.out]; rfl, ?_⟩, D.out⟩
                  have := WO.out.reads
                  rw [Pl.incs_len, List.length_map] at this
                  unfold Pl.bal
                  rw [← HNE.out]
                  exact this
            · exfalso
              have := HNN.out
              omega
      · have e9 : (sg != 0) = true := by simpa using hsg
        have NOK : ¬ Pl.RndOk rs := fun h => hsg (HSG.out.2 (by have := h.1; omega))
        clear HSG
        go_wp2_with fail
        go_ret2
        exact ⟨.inl ⟨NOK, 14, by decide, rfl⟩, D.out⟩
end Go.Proofs.YtgdbodnfibiafaaGreatDoor
