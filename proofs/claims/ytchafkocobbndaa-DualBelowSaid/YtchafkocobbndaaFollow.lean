/- commit.follow: the ways that go on from a way by a period. Condition: valid generators and demands; the way is a path whose powers are memory of the call's own. -/
import Derived.Test.YtchafkocobbndaaPCommitE
import Derived.Test.YtchafkocobbndaaWay
import Derived.Test.YtchafkocobbndaaServe
import Derived.Test.YtchafkocobbndaaBits
namespace Go.Proofs.Ytchafkocobbndaa
open Go.RowKit
def pcells (L : List (Bool × Int)) : List Value := L.flatMap fun s => [.bool s.1, .int .i64 s.2]
theorem pcells_length (L : List (Bool × Int)) : (pcells L).length = L.length * 2 := by
  induction L with
  | nil => rfl
  | cons s L ih => simp [pcells] at ih ⊢; omega
theorem pcells_at (L : List (Bool × Int)) (k : Nat) (hk : k < L.length) : (pcells L)[k * 2]? = some (.bool (L.getD k (false, 0)).1) ∧ (pcells L)[k * 2 + 1]? = some (.int .i64 (L.getD k (false, 0)).2) := by
  induction L generalizing k with
  | nil => simp at hk
  | cons s L ih =>
    have e : pcells (s :: L) = [.bool s.1, .int .i64 s.2] ++ pcells L := rfl
    rw [e]
    cases k with
    | zero => exact ⟨rfl, rfl⟩
    | succ k =>
      rw [List.getElem?_append_right (by simp; omega), List.getElem?_append_right (by simp; omega)]
      have h := ih k (by simpa using hk)
      rw [show (k + 1) * 2 - ([.bool s.1, .int .i64 s.2] : List Value).length = k * 2 from by simp; omega, show (k + 1) * 2 + 1 - ([.bool s.1, .int .i64 s.2] : List Value).length = k * 2 + 1 from by simp; omega]
      exact h
theorem pcells_set (L : List (Bool × Int)) (k : Nat) (b : Bool) (s : Int) : ((pcells L).set (k * 2) (.bool b)).set (k * 2 + 1) (.int .i64 s) = pcells (L.set k (b, s)) := by
  induction L generalizing k with
  | nil => simp [pcells]
  | cons x L ih =>
    have e : ∀ (y : Bool × Int) M, pcells (y :: M) = .bool y.1 :: .int .i64 y.2 :: pcells M := fun _ _ => rfl
    cases k with
    | zero => simp [e]
    | succ k =>
      rw [List.set_cons_succ, e, e, show (k + 1) * 2 + 1 = k * 2 + 1 + 1 + 1 from by omega, show (k + 1) * 2 = k * 2 + 1 + 1 from by omega]
      simp only [List.set_cons_succ]
      rw [ih]
theorem pcells_setS (L : List (Bool × Int)) (k : Nat) (s : Int) : (pcells L).set (k * 2 + 1) (.int .i64 s) = pcells (L.set k ((L.getD k (false, 0)).1, s)) := by
  induction L generalizing k with
  | nil => simp [pcells]
  | cons x L ih =>
    have e : ∀ (y : Bool × Int) M, pcells (y :: M) = .bool y.1 :: .int .i64 y.2 :: pcells M := fun _ _ => rfl
    cases k with
    | zero => simp [e]
    | succ k =>
      rw [List.set_cons_succ, e, e, show (k + 1) * 2 + 1 = (k * 2 + 1) + 1 + 1 from by omega, List.set_cons_succ, List.set_cons_succ, ih]
      rfl
/-- block g is just a place -/
def PBlk (w : World) (g : Nat) (L : List (Bool × Int)) : Prop := Blk w g 75 (pcells L).toArray
/-- block g is just some truth values -/
def BBlk (w : World) (g : Nat) (bs : List Bool) : Prop := Blk w g 4 (bs.map Value.bool).toArray
section
variable {w w' : World} {g : Nat} {L : List (Bool × Int)} {bs : List Bool}
theorem PBlk.go (h : PBlk w g L) (hb : Below w.heap.size w w') : PBlk w' g L := Blk.go h hb
theorem PBlk.cells (h : PBlk w g L) {k : Nat} (hk : k < L.length) : w.cell? ⟨g, k * 2, none⟩ = some (.bool (L.getD k (false, 0)).1) ∧ w.cell? ⟨g, k * 2 + 1, none⟩ = some (.int .i64 (L.getD k (false, 0)).2) := by
  obtain ⟨a, b⟩ := pcells_at L k hk
  exact ⟨by rw [Blk.cell h (k * 2)]; simpa using a, by rw [Blk.cell h (k * 2 + 1)]; simpa using b⟩
theorem PBlk.set2 (h : PBlk w g L) (k : Nat) (b : Bool) (s : Int) : PBlk ((w.setCell ⟨g, k * 2, none⟩ (.bool b)).setCell ⟨g, k * 2 + 1, none⟩ (.int .i64 s)) g (L.set k (b, s)) := by
  have := Blk.set_ (Blk.set_ h (k * 2) (.bool b)) (k * 2 + 1) (.int .i64 s)
  unfold PBlk
  rw [← pcells_set]
  simpa using this
theorem PBlk.set1 (h : PBlk w g L) (k : Nat) (s : Int) : PBlk (w.setCell ⟨g, k * 2 + 1, none⟩ (.int .i64 s)) g (L.set k ((L.getD k (false, 0)).1, s)) := by
  have := Blk.set_ h (k * 2 + 1) (.int .i64 s)
  unfold PBlk
  rw [← pcells_setS]
  simpa using this
theorem BBlk.cell (h : BBlk w g bs) (k : Nat) (hk : k < bs.length) : w.cell? ⟨g, k, none⟩ = some (.bool (bs.getD k false)) := by
  rw [Blk.cell h k]
  simp [hk]
theorem BBlk.set_ (h : BBlk w g bs) (k : Nat) (b : Bool) : BBlk (w.setCell ⟨g, k, none⟩ (.bool b)) g (bs.set k b) := by
  have := Blk.set_ h k (.bool b)
  unfold BBlk
  rw [List.map_set]
  simpa using this
theorem BBlk.go (h : BBlk w g bs) (hb : Below w.heap.size w w') : BBlk w' g bs := Blk.go h hb
theorem BBlk.reads (h : BBlk w g bs) {n : Nat} (hn : bs.length = n) : Reads w w.heap.size 1 (some ⟨g, 0, none⟩) n (bs.map Value.bool) := by
  refine ⟨by simp [hn], fun _ => ⟨_, rfl, Blk.lt h, fun j u hu => ?_⟩⟩
  rw [Srt.addr_add, Blk.cell h j]
  simpa using hu
end
/-- the pattern as far as it is laid -/
def bmix (n q i : Nat) : List Bool := (List.range n).map fun j => decide (j < i) && q.testBit j
theorem bmix_len (n q i : Nat) : (bmix n q i).length = n := by unfold bmix; simp
theorem bmix_set (n q i : Nat) : (bmix n q i).set i (q.testBit i) = bmix n q (i + 1) := by
  refine List.ext_getElem (by simp [bmix]) fun j h1 h2 => ?_
  rw [List.getElem_set]
  simp only [bmix, List.getElem_map, List.getElem_range]
  by_cases e : i = j
  · subst e; simp
  · rw [if_neg e]
    congr 1
    by_cases h : j < i
    · simp [h]; omega
    · simp [h]; omega
theorem bmix_all (n q : Nat) : (bmix n q n).map Value.bool = bools n q.testBit := by
  refine List.ext_getElem (by simp [bmix, bools]) fun j h1 h2 => ?_
  have hj : j < n := by rw [List.length_map, bmix_len] at h1; exact h1
  simp [bmix, bools, hj]
theorem bmix_zero (n q : Nat) : (bmix n q 0).map Value.bool = List.replicate n (.bool false) := by
  refine List.ext_getElem (by simp [bmix]) fun j h1 h2 => ?_
  simp [bmix]
theorem blk_reads1 {w : World} {g : Nat} {t : TypeId} {cs : Array Value} {size : Nat} (h : Blk w g t cs) (hs : cs.size = size) : Reads w w.heap.size size (some ⟨g, 0, none⟩) 1 cs.toList := by
  refine ⟨by simp [hs], fun _ => ⟨_, rfl, Blk.lt h, fun j u hu => ?_⟩⟩
  rw [Srt.addr_add, Blk.cell h j]
  simpa using hu
/-- what follow returns -/
def FollowSaid (base : Nat) (l : List Pl.CU) (ds : List Int) (k : Nat) (u : Pl.Way) (w : World) (e : Ending) (w' : World) : Prop :=
  ∃ A c, ∃ X : List MW, e = .returned (.slice A X.length c) ∧ X.length ≤ 8 ∧ w'.ownsRow w.heap.size 77 8 (.slice A X.length c) X.length (ways X) ∧ (∀ x ∈ X, WyIn base w' x) ∧ Pl.FOk l ds k u (X.map MW.way) ∧ Below w.heap.size w w'
set_option maxHeartbeats 6400000 in
set_option maxRecDepth 100000 in
theorem follow_any (base : Nat) (A : Option Addr) (n c : Nat) (l : List MU) (ds : List Int) (k : Nat) (u : MW) (d : Int) (w : World) (hok : Pl.DOk (plus l) ds) (hk : k < ds.length) (hd : ds.getD k 0 = d) (hu : Pl.IsWay (plus l) ds k u.way) (hin : WyIn base w u) (hb : base ≤ w.heap.size) (h : Unis w A n l) :
    Calls Try.prog 29 #[.slice A n c, vWay u, .int .i64 d] w (FollowSaid base (plus l) ds k u.way w) := by
  have L1 := Lib.hid h.len
  have LP : Hid ((plus l).length = n) := by show _ = _; rw [plus_len]; exact L1.out
  have hn3 : n ≤ 3 := by have := hok.hl; rw [LP.out] at this; exact this
  have hn8 : n ≤ 8 := by omega
  have H := Lib.hid h
  have HOK := Lib.hid hok
  have HK := Lib.hid hk
  have HD := Lib.hid hd
  have HU := Lib.hid hu
  have HIN := Lib.hid hin
  have HBS := Lib.hid hb
  have HSV := Lib.hid (fun (q co : Nat) (O : Option Addr) (w : World) (h : Unis w A n l) (hq : Reads w w.heap.size 1 O n (bools n q.testBit)) (d0 : 0 ≤ d) (d1 : d ≤ 1000000) => serve_any A O n c co l q.testBit d w hn3 hok.hu d0 d1 h hq)
  obtain ⟨j0, ji0, jz0, jz1, jz2⟩ := info_parts info_bool
  have hmk : ∀ w, (Instr.makeSlice 111 (.int .i64 (n : Int)) (.int .i64 (n : Int))).run Try.prog w = .ok (.slice (some ⟨w.heap.size, 0, none⟩) n n) (w.alloc (.cells (madeCells #[.bool false] n) 4)) := fun w => by
    have := run_make (P := Try.prog) w 111 4 j0 (.bool false) Try.underlying111 ji0 jz0 .i64 .i64 n n (by omega) (by omega) (by rw [jz2]; omega) (by omega)
    rw [jz1, show (Value.bool false).cells = #[.bool false] from rfl] at this
    simpa using this
  generalize hz : madeCells #[Value.bool false] n = ZC at hmk
  have HZL : Hid (ZC.toList = List.replicate n (.bool false)) := by show _ = _; rw [← hz, toList_madeCells_one]
  have HMK := Lib.hid hmk
  obtain ⟨i0, hi0, hz0, hz1, hz2⟩ := info_parts info_way
  obtain ⟨r0, hr0, rz0, rz1, rz2⟩ := info_parts info_sint
  have imin : ∀ a b : Int, (if b < a then b else a) = min a b := ite_min
  clear hz ji0 jz0 jz1 jz2 hmk h hok hk hd hu hin hb
  obtain ⟨⟨a0, b0⟩, ⟨a1, b1⟩, ⟨a2, b2⟩, uc, uA, ucp, rows⟩ := u
  unfold vWay
  simp only
  have BX0 : Hid (Blk (w.alloc (.cells #[.bool a0, .int .i64 b0, .bool a1, .int .i64 b1, .bool a2, .int .i64 b2, .int .i64 uc, .slice uA rows.length ucp] 77)) w.heap.size 77 #[.bool a0, .int .i64 b0, .bool a1, .int .i64 b1, .bool a2, .int .i64 b2, .int .i64 uc, .slice uA rows.length ucp]) := Blk.new_ _ _ _ _ rfl
  have HB0 := Lib.hid ((Below.refl w.heap.size w).alloc (Nat.le_refl _) (.cells #[.bool a0, .int .i64 b0, .bool a1, .int .i64 b1, .bool a2, .int .i64 b2, .int .i64 uc, .slice uA rows.length ucp] 77))
  obtain ⟨kw, kk⟩ := pow_wrap n hn8
  go_enter Try.func29, Try.ntmps29
  go_wp2_with fail
  rw [kw]
  clear kw
  obtain ⟨K, hK⟩ : ∃ K, K = 2 ^ n := ⟨_, rfl⟩
  have HKK := Lib.hid hK
  have kn : 2 ^ n ≤ 2 ^ 3 := Nat.pow_le_pow_right (by decide) hn3
  rw [← hK] at kk kn ⊢
  have hK8 : K ≤ 8 := kn
  clear hK kn kk
  generalize hUW : MW.way ⟨(a0, b0), (a1, b1), (a2, b2), uc, uA, ucp, rows⟩ = UW at *
  have HUW := Lib.hid hUW
  clear hUW
  generalize w.alloc (.cells #[.bool a0, .int .i64 b0, .bool a1, .int .i64 b1, .bool a2, .int .i64 b2, .int .i64 uc, .slice uA rows.length ucp] 77) = w1 at *
  go_loopw [7, 22] (fun v i wr => ∃ (q : Nat) (A : Option Addr) (c : Nat) (X : List MW), q ≤ K ∧ i = .int .i64 q ∧ v = .slice A X.length c ∧ X.length ≤ q ∧ Hid (wr.ownsRow (w.heap.size + 1) 77 8 (.slice A X.length c) X.length (ways X)) ∧ Hid (∀ x ∈ X, WyIn base wr x) ∧ Hid (Pl.FOkQ (plus l) ds k UW q (X.map MW.way)) ∧ Hid (Blk wr w.heap.size 77 #[.bool a0, .int .i64 b0, .bool a1, .int .i64 b1, .bool a2, .int .i64 b2, .int .i64 uc, .slice uA rows.length ucp]) ∧ Hid (Below w.heap.size w wr)) (fun _ i _ => K - (intOf i).toNat)
  case atStart => exact ⟨0, none, 0, [], Nat.zero_le _, rfl, rfl, Nat.le_refl _, World.ownsRow_nil _ _ _ _, fun x hx => absurd hx (by simp), Pl.fokq_zero _ _ _ _, BX0, HB0⟩
  case round =>
    clear BX0 HB0
    obtain ⟨q, Ax, cx, X, hq, rfl, rfl, hxl, OF, HX, FQ, BX, HB⟩ := hrel
    generalize wr = wo at *
    by_cases hlt : q < K
    · have hmk := HMK.out
      have bc := BX.out.cell
      have blt := BX.out.lt
      go_wp2_with fail
      have HAT : Hid (UW.at_ = [(a0, b0), (a1, b1), (a2, b2)]) := by show _ = _; rw [← HUW.out]; rfl
      have HUC : Hid (UW.cost = uc) := by show _ = _; rw [← HUW.out]; rfl
      have HA3 : Hid (UW.at_.length = 3) := by show _ = _; rw [HAT.out]; rfl
      have HPT : Hid (∀ i, 0 ≤ (UW.at_.getD i (false, 0)).2 ∧ (UW.at_.getD i (false, 0)).2 ≤ 200000) := fun i => by rw [HU.out.2.2.1]; exact Pl.pathAt_bd HOK.out.hl HOK.out.hu HU.out.1 i
      have hucb : -8000000000000 ≤ uc ∧ uc ≤ 8000000000000 := by
        obtain ⟨p1, p2, p3, p4⟩ := HU.out
        have := Pl.path_bd HOK.out.hl HOK.out.hu k UW.pows p2 p1
        rw [← p4, HUC.out] at this
        have h8 := HOK.out.hd
        have hk := HK.out
        omega
      have IB : Hid (BBlk ((wo.alloc (.cells ZC 4)).alloc (.cells #[.bool a0, .int .i64 b0, .bool a1, .int .i64 b1, .bool a2, .int .i64 b2] 75)) wo.heap.size (bmix n q 0)) := by
        show Blk _ _ _ _
        rw [bmix_zero]
        have e : ZC = (List.replicate n (.bool false)).toArray := by rw [← HZL.out]
        rw [← e]
        exact (Blk.new_ wo wo.heap.size _ ZC rfl).alloc _
      have IQ : Hid (PBlk ((wo.alloc (.cells ZC 4)).alloc (.cells #[.bool a0, .int .i64 b0, .bool a1, .int .i64 b1, .bool a2, .int .i64 b2] 75)) (wo.heap.size + 1) (Pl.pmix (plus l) UW.at_ q 0)) := by
        rw [Pl.pmix_zero HA3.out, HAT.out]
        exact Blk.new_ _ _ _ _ (by simp)
      have HBI0 : Hid (Below wo.heap.size wo ((wo.alloc (.cells ZC 4)).alloc (.cells #[.bool a0, .int .i64 b0, .bool a1, .int .i64 b1, .bool a2, .int .i64 b2] 75))) := ((Below.refl wo.heap.size wo).alloc (Nat.le_refl _) _).alloc (by simp) _
      clear hmk bc
      generalize (wo.alloc (.cells ZC 4)).alloc (.cells #[.bool a0, .int .i64 b0, .bool a1, .int .i64 b1, .bool a2, .int .i64 b2] 75) = w2 at *
      obtain ⟨gB, hgB⟩ : ∃ g, g = wo.heap.size := ⟨_, rfl⟩
      have HGB := Lib.hid hgB
      rw [← hgB] at IB IQ HBI0 blt ⊢
      clear hgB
      go_loopw [11, 12, 34] (fun vc vo i wi => ∃ j : Nat, j ≤ n ∧ i = .int .i64 j ∧ vc = .int .i64 (uc + Pl.ncost (plus l) UW.at_ q j) ∧ vo = .bool (Pl.nok (plus l) UW.at_ q j) ∧ Hid (BBlk wi gB (bmix n q j)) ∧ Hid (PBlk wi (gB + 1) (Pl.pmix (plus l) UW.at_ q j)) ∧ Hid (Below gB wo wi)) (fun _ _ i _ => n - (intOf i).toNat)
      case atStart => exact ⟨0, Nat.zero_le _, rfl, vint (by simp [Pl.ncost, Pl.sumN]), rfl, IB, IQ, HBI0⟩
      case round =>
        clear IB IQ HBI0
        obtain ⟨j, hj, rfl, rfl, rfl, IB, IQ, HBI⟩ := hrel
        have hncb := Pl.ncost_bd HOK.out.hu UW.at_ q j (by rw [LP.out]; exact hj)
        by_cases hjn : j < n
        · have HBW : Hid (Below w.heap.size w wr) := HB.out.trans (HBI.out.mono (by rw [HGB.out]; exact HB.out.size))
          obtain ⟨b, o, rfl, u, ⟨hl1, hu⟩, c0, c1, c2, c3, c4, c5, c6, c7, c8, c9, c10, c11, c12, hin⟩ := (H.out.go HBW.out).cells5 hjn
          have HCU : Hid (Pl.cu (plus l) j = plu u) := by show _ = _; rw [hu]; exact plus_cu hl1
          have hck : Pl.duCheck (plu u) = 0 := HOK.out.hu _ (List.mem_map.2 ⟨u, by rw [hu]; exact List.getElem_mem hl1, rfl⟩)
          obtain ⟨_, _, _, _, _, _, _, m1, m2, m3, m4, m5, m6⟩ := Pl.ucheck_ok (Pl.ustate_ok (Pl.duCheck_ok hck).1).1
          have hncb2 := Pl.ncost_bd HOK.out.hu UW.at_ q (j + 1) (by rw [LP.out]; exact hjn)
          have HTR : Hid (Pl.trA (plus l) UW.at_ q j = Pl.tr (plu u) (UW.at_.getD j (false, 0)) (q.testBit j)) := by show _ = _; unfold Pl.trA; rw [HCU.out]
          have HNC : Hid (Pl.ncost (plus l) UW.at_ q (j + 1) = Pl.ncost (plus l) UW.at_ q j + (Pl.trA (plus l) UW.at_ q j).2.1) := rfl
          have HNO : Hid (Pl.nok (plus l) UW.at_ q (j + 1) = (Pl.nok (plus l) UW.at_ q j && (Pl.trA (plus l) UW.at_ q j).2.2)) := rfl
          have HPM := Lib.hid (Pl.pmix_set (plus l) UW.at_ q j)
          have HBM := Lib.hid (bmix_set n q j)
          obtain ⟨pc0, pc1⟩ := IQ.out.cells (k := j) (by rw [Pl.pmix_len]; omega)
          have HPJ : Hid ((Pl.pmix (plus l) UW.at_ q j).getD j (false, 0) = UW.at_.getD j (false, 0)) := by show _ = _; rw [Pl.pmix_at _ _ _ _ _ (by omega), if_neg (Nat.lt_irrefl _)]
          rw [HPJ.out] at pc0 pc1
          rw [HTR.out] at HNC HNO HPM
          obtain ⟨t0, t1⟩ := HPT.out j
          generalize UW.at_.getD j (false, 0) = ss at *
          obtain ⟨sb, sn⟩ := ss
          simp only at pc0 pc1 t0 t1
          have hbit := bit_test q j (by omega)
          have cB := IB.out.cell j (by rw [bmix_len]; exact hjn)
          have fB := Blk.frozen IB.out j
          clear hu hl1 hin hck HTR
          obtain ⟨⟨rn, r1, r2, r3, r4, r5, r6, r7⟩, nm, Az, nz, cz, st, ⟨s1, s2, s3⟩⟩ := u
          simp only [plu] at c0 c1 c2 c3 c4 c5 c6 c7 c8 c9 c10 c11 c12 m1 m2 m3 m4 m5 m6 HNC HNO HPM
          have j0 : (0 : Int) ≤ (j : Int) := by omega
          have jn : (j : Int) < (n : Int) := by omega
          have j3 : (j : Int) < 3 := by omega
          have lB := Blk.lt IB.out
          have lQ := Blk.lt IQ.out
          generalize Pl.ncost (plus l) UW.at_ q j = nc at *
          generalize Pl.nok (plus l) UW.at_ q j = ok at *
          generalize (bmix n q j).getD j false = obit at *
          generalize hqb : q.testBit j = qb at *
          go_wp2_with fail
          have IB1 : Hid (BBlk ((wr.setCell ⟨gB, j, none⟩ (.bool qb)).alloc (.cells #[.string rn, .int .i64 r1, .int .i64 r2, .int .i64 r3, .int .i64 r4, .int .i64 r5, .int .i64 r6, .int .i64 r7, .string nm, .slice Az nz cz, .bool s1, .int .i64 s2, .int .i64 s3] 35)) gB (bmix n q (j + 1))) := by
            show BBlk _ _ _
            rw [← HBM.out]
            exact Blk.alloc (IB.out.set_ j qb) _
          have IQ1 : Hid (PBlk ((wr.setCell ⟨gB, j, none⟩ (.bool qb)).alloc (.cells #[.string rn, .int .i64 r1, .int .i64 r2, .int .i64 r3, .int .i64 r4, .int .i64 r5, .int .i64 r6, .int .i64 r7, .string nm, .slice Az nz cz, .bool s1, .int .i64 s2, .int .i64 s3] 35)) (gB + 1) (Pl.pmix (plus l) UW.at_ q j)) := Blk.alloc (Blk.far IQ.out (p := ⟨gB, j, none⟩) (Nat.succ_ne_self gB) _) _
          have BU1 : Hid (Blk ((wr.setCell ⟨gB, j, none⟩ (.bool qb)).alloc (.cells #[.string rn, .int .i64 r1, .int .i64 r2, .int .i64 r3, .int .i64 r4, .int .i64 r5, .int .i64 r6, .int .i64 r7, .string nm, .slice Az nz cz, .bool s1, .int .i64 s2, .int .i64 s3] 35)) wr.heap.size 35 #[.string rn, .int .i64 r1, .int .i64 r2, .int .i64 r3, .int .i64 r4, .int .i64 r5, .int .i64 r6, .int .i64 r7, .string nm, .slice Az nz cz, .bool s1, .int .i64 s2, .int .i64 s3]) := Blk.new_ _ _ _ _ (by simp)
          have HBI1 : Hid (Below gB wo ((wr.setCell ⟨gB, j, none⟩ (.bool qb)).alloc (.cells #[.string rn, .int .i64 r1, .int .i64 r2, .int .i64 r3, .int .i64 r4, .int .i64 r5, .int .i64 r6, .int .i64 r7, .string nm, .slice Az nz cz, .bool s1, .int .i64 s2, .int .i64 s3] 35))) := (HBI.out.setCell (p := ⟨gB, j, none⟩) (Nat.le_refl _) _).alloc (by simp; omega) _
          have cB1 : ((wr.setCell ⟨gB, j, none⟩ (.bool qb)).alloc (.cells #[.string rn, .int .i64 r1, .int .i64 r2, .int .i64 r3, .int .i64 r4, .int .i64 r5, .int .i64 r6, .int .i64 r7, .string nm, .slice Az nz cz, .bool s1, .int .i64 s2, .int .i64 s3] 35)).cell? ⟨gB, j, none⟩ = some (.bool qb) := by
            have := IB1.out.cell j (by rw [bmix_len]; exact hjn)
            have e : (bmix n q (j + 1)).getD j false = qb := by unfold bmix; rw [Pl.getD_map _ _ _ _ hjn]; simp [hqb]
            rwa [e] at this
          obtain ⟨pc0, pc1⟩ := IQ1.out.cells (k := j) (by rw [Pl.pmix_len]; omega)
          rw [HPJ.out] at pc0 pc1
          simp only at pc0 pc1
          clear IB IQ HBI HBM cB fB c0 c1 c2 c3 c4 c5 c6 c7 c8 c9 c10 c11 c12 lB lQ hbit hqb
          generalize wr.heap.size = bu at *
          generalize (wr.setCell ⟨gB, j, none⟩ (.bool qb)).alloc (.cells #[.string rn, .int .i64 r1, .int .i64 r2, .int .i64 r3, .int .i64 r4, .int .i64 r5, .int .i64 r6, .int .i64 r7, .string nm, .slice Az nz cz, .bool s1, .int .i64 s2, .int .i64 s3] 35) = wx at *
          have x0 := Wd.cell cB1
          have x1 := Wd.cell pc0
          refine wp_region_wd (by kernel_rfl) (by kernel_rfl) ?_
          repeat (go_big_quiet_step (fail))
          refine wpQuiet_nil ?_
          rintro _ ⟨w6, rfl⟩
          have IB2 := Lib.hid (IB1.out.go w6.ok)
          have IQ2 := Lib.hid (IQ1.out.go w6.ok)
          have BU2 := Lib.hid (BU1.out.go w6.ok)
          have HBI2 := Lib.hid (HBI1.out.trans (w6.ok.mono (by rw [HGB.out]; exact HBI1.out.size)))
          obtain ⟨pc0, pc1⟩ := IQ2.out.cells (k := j) (by rw [Pl.pmix_len]; omega)
          rw [HPJ.out] at pc0 pc1
          simp only at pc0 pc1
          have f0 := Blk.frozen IQ2.out (j * 2)
          have f1 := Blk.frozen IQ2.out (j * 2 + 1)
          have ub := BU2.out.cell
          have cB2 := x0 w6
          clear x0 x1 IB1 IQ1 BU1 HBI1 cB1
          generalize w6.val = w7 at *
          have lQ := Blk.lt IQ2.out
          have lB := Blk.lt IB2.out
          have hbj : (bmix n q (j + 1)).getD j false = qb := by
            have := (IB2.out.cell j (by rw [bmix_len]; exact hjn)).symm.trans cB2
            injection this with this
            injection this
          -- ARMS
          cases qb
          · cases sb
            · have e1 : (false == false) = true := rfl
              have HTV : Hid (Pl.tr ⟨⟨rn, r1, r2, r3, r4, r5, r6, r7⟩, (nm, st), ⟨s1, s2, s3⟩⟩ (false, sn) false = ((false, min (sn + 1) 200000), 0, true)) := by show _ = _; unfold Pl.tr; rw [if_pos rfl]
              rw [HTV.out] at HNC HNO HPM
              simp only [Bool.and_true, Int.add_zero] at HNC HNO HPM
              clear HTV
              go_wp2_with fail
              go_roundw
              case rel =>
                refine ⟨j + 1, by omega, by go_num, vint (by rw [HNC.out]), by rw [HNO.out], Blk.far IB2.out (p := ⟨gB + 1, j * 2 + 1, none⟩) (Nat.succ_ne_self gB).symm _, ?_, HBI2.out.setCell (p := ⟨gB + 1, j * 2 + 1, none⟩) (by simp) _⟩
                have := IQ2.out.set1 j (min (sn + 1) 200000)
                rw [HPJ.out] at this
                simp only at this
                rw [HPM.out] at this
                exact this
              case measure => simp [intOf]; omega
            · cases ok
              · have e1 : (false == true) = false := rfl
                have HTV : Hid (Pl.tr ⟨⟨rn, r1, r2, r3, r4, r5, r6, r7⟩, (nm, st), ⟨s1, s2, s3⟩⟩ (true, sn) false = ((false, 1), 0, decide (r5 ≤ sn))) := by show _ = _; unfold Pl.tr; simp
                rw [HTV.out] at HNC HNO HPM
                simp only [Bool.false_and, Int.add_zero] at HNC HNO HPM
                clear HTV
                go_wp2_with fail
                have x1 := Wd.cell pc1
                have x2 := Wd.cell (ub 5)
                refine wp_region_wd (by kernel_rfl) (by kernel_rfl) ?_
                repeat (go_big_quiet_step (fail))
                refine wpQuiet_nil ?_
                rintro _ ⟨w6, rfl⟩
                have IB3 := Lib.hid (IB2.out.go w6.ok)
                have IQ3 := Lib.hid (IQ2.out.go w6.ok)
                have BU3 := Lib.hid (BU2.out.go w6.ok)
                have HBI3 := Lib.hid (HBI2.out.trans (w6.ok.mono (by rw [HGB.out]; exact HBI2.out.size)))
                clear x1 x2 IB2 IQ2 BU2 HBI2 cB2 pc0 pc1 f0 f1 ub lQ lB
                generalize w6.val = w8 at *
                obtain ⟨pc0, pc1⟩ := IQ3.out.cells (k := j) (by rw [Pl.pmix_len]; omega)
                rw [HPJ.out] at pc0 pc1
                simp only at pc0 pc1
                have f0 := Blk.frozen IQ3.out (j * 2)
                have f1 := Blk.frozen IQ3.out (j * 2 + 1)
                have ub := BU3.out.cell
                have lQ := Blk.lt IQ3.out
                have lB := Blk.lt IB3.out
                have cB2 := IB3.out.cell j (by rw [bmix_len]; exact hjn)
                rw [hbj] at cB2
                go_wp2_with fail
                go_roundw
                case rel =>
                  refine ⟨j + 1, by omega, by go_num, vint (by rw [HNC.out]), by rw [HNO.out], Blk.far (Blk.far IB3.out (p := ⟨gB + 1, j * 2, none⟩) (Nat.succ_ne_self gB).symm _) (p := ⟨gB + 1, j * 2 + 1, none⟩) (Nat.succ_ne_self gB).symm _, ?_, (HBI3.out.setCell (p := ⟨gB + 1, j * 2, none⟩) (by simp) _).setCell (p := ⟨gB + 1, j * 2 + 1, none⟩) (by simp) _⟩
                  have := IQ3.out.set2 j false 1
                  rw [HPM.out] at this
                  exact this
                case measure => simp [intOf]; omega
              · by_cases hge : r5 ≤ sn
                · have e1 : (false == true) = false := rfl
                  have HTV : Hid (Pl.tr ⟨⟨rn, r1, r2, r3, r4, r5, r6, r7⟩, (nm, st), ⟨s1, s2, s3⟩⟩ (true, sn) false = ((false, 1), 0, decide (r5 ≤ sn))) := by show _ = _; unfold Pl.tr; simp
                  rw [HTV.out] at HNC HNO HPM
                  have hge2 : decide (r5 ≤ sn) = true := by simpa using hge
                  simp only [Bool.true_and, hge2, Int.add_zero] at HNC HNO HPM
                  clear HTV
                  go_wp2_with fail
                  have x1 := Wd.cell pc1
                  have x2 := Wd.cell (ub 5)
                  refine wp_region_wd (by kernel_rfl) (by kernel_rfl) ?_
                  repeat (go_big_quiet_step (fail))
                  refine wpQuiet_nil ?_
                  rintro _ ⟨w6, rfl⟩
                  have IB3 := Lib.hid (IB2.out.go w6.ok)
                  have IQ3 := Lib.hid (IQ2.out.go w6.ok)
                  have BU3 := Lib.hid (BU2.out.go w6.ok)
                  have HBI3 := Lib.hid (HBI2.out.trans (w6.ok.mono (by rw [HGB.out]; exact HBI2.out.size)))
                  clear x1 x2 IB2 IQ2 BU2 HBI2 cB2 pc0 pc1 f0 f1 ub lQ lB
                  generalize w6.val = w8 at *
                  obtain ⟨pc0, pc1⟩ := IQ3.out.cells (k := j) (by rw [Pl.pmix_len]; omega)
                  rw [HPJ.out] at pc0 pc1
                  simp only at pc0 pc1
                  have f0 := Blk.frozen IQ3.out (j * 2)
                  have f1 := Blk.frozen IQ3.out (j * 2 + 1)
                  have ub := BU3.out.cell
                  have lQ := Blk.lt IQ3.out
                  have lB := Blk.lt IB3.out
                  have cB2 := IB3.out.cell j (by rw [bmix_len]; exact hjn)
                  rw [hbj] at cB2
                  go_wp2_with fail
                  go_roundw
                  case rel =>
                    refine ⟨j + 1, by omega, by go_num, vint (by rw [HNC.out]), by rw [HNO.out], Blk.far (Blk.far IB3.out (p := ⟨gB + 1, j * 2, none⟩) (Nat.succ_ne_self gB).symm _) (p := ⟨gB + 1, j * 2 + 1, none⟩) (Nat.succ_ne_self gB).symm _, ?_, (HBI3.out.setCell (p := ⟨gB + 1, j * 2, none⟩) (by simp) _).setCell (p := ⟨gB + 1, j * 2 + 1, none⟩) (by simp) _⟩
                    have := IQ3.out.set2 j false 1
                    rw [HPM.out] at this
                    exact this
                  case measure => simp [intOf]; omega
                · have e1 : (false == true) = false := rfl
                  have HTV : Hid (Pl.tr ⟨⟨rn, r1, r2, r3, r4, r5, r6, r7⟩, (nm, st), ⟨s1, s2, s3⟩⟩ (true, sn) false = ((false, 1), 0, decide (r5 ≤ sn))) := by show _ = _; unfold Pl.tr; simp
                  rw [HTV.out] at HNC HNO HPM
                  have hge2 : decide (r5 ≤ sn) = false := by simpa using hge
                  simp only [Bool.true_and, hge2, Int.add_zero] at HNC HNO HPM
                  clear HTV
                  go_wp2_with fail
                  have x1 := Wd.cell pc1
                  have x2 := Wd.cell (ub 5)
                  refine wp_region_wd (by kernel_rfl) (by kernel_rfl) ?_
                  repeat (go_big_quiet_step (fail))
                  refine wpQuiet_nil ?_
                  rintro _ ⟨w6, rfl⟩
                  have IB3 := Lib.hid (IB2.out.go w6.ok)
                  have IQ3 := Lib.hid (IQ2.out.go w6.ok)
                  have BU3 := Lib.hid (BU2.out.go w6.ok)
                  have HBI3 := Lib.hid (HBI2.out.trans (w6.ok.mono (by rw [HGB.out]; exact HBI2.out.size)))
                  clear x1 x2 IB2 IQ2 BU2 HBI2 cB2 pc0 pc1 f0 f1 ub lQ lB
                  generalize w6.val = w8 at *
                  obtain ⟨pc0, pc1⟩ := IQ3.out.cells (k := j) (by rw [Pl.pmix_len]; omega)
                  rw [HPJ.out] at pc0 pc1
                  simp only at pc0 pc1
                  have f0 := Blk.frozen IQ3.out (j * 2)
                  have f1 := Blk.frozen IQ3.out (j * 2 + 1)
                  have ub := BU3.out.cell
                  have lQ := Blk.lt IQ3.out
                  have lB := Blk.lt IB3.out
                  have cB2 := IB3.out.cell j (by rw [bmix_len]; exact hjn)
                  rw [hbj] at cB2
                  go_wp2_with fail
                  go_roundw
                  case rel =>
                    refine ⟨j + 1, by omega, by go_num, vint (by rw [HNC.out]), by rw [HNO.out], Blk.far (Blk.far IB3.out (p := ⟨gB + 1, j * 2, none⟩) (Nat.succ_ne_self gB).symm _) (p := ⟨gB + 1, j * 2 + 1, none⟩) (Nat.succ_ne_self gB).symm _, ?_, (HBI3.out.setCell (p := ⟨gB + 1, j * 2, none⟩) (by simp) _).setCell (p := ⟨gB + 1, j * 2 + 1, none⟩) (by simp) _⟩
                    have := IQ3.out.set2 j false 1
                    rw [HPM.out] at this
                    exact this
                  case measure => simp [intOf]; omega
          · cases sb
            · cases ok
              · have e1 : (true == false) = false := rfl
                have HTV : Hid (Pl.tr ⟨⟨rn, r1, r2, r3, r4, r5, r6, r7⟩, (nm, st), ⟨s1, s2, s3⟩⟩ (false, sn) true = ((true, 1), r7, decide (r6 ≤ sn))) := by show _ = _; unfold Pl.tr; simp
                rw [HTV.out] at HNC HNO HPM
                simp only [Bool.false_and] at HNC HNO HPM
                clear HTV
                go_wp2_with fail
                have x1 := Wd.cell pc1
                have x2 := Wd.cell (ub 6)
                refine wp_region_wd (by kernel_rfl) (by kernel_rfl) ?_
                repeat (go_big_quiet_step (fail))
                refine wpQuiet_nil ?_
                rintro _ ⟨w6, rfl⟩
                have IB3 := Lib.hid (IB2.out.go w6.ok)
                have IQ3 := Lib.hid (IQ2.out.go w6.ok)
                have BU3 := Lib.hid (BU2.out.go w6.ok)
                have HBI3 := Lib.hid (HBI2.out.trans (w6.ok.mono (by rw [HGB.out]; exact HBI2.out.size)))
                clear x1 x2 IB2 IQ2 BU2 HBI2 cB2 pc0 pc1 f0 f1 ub lQ lB
                generalize w6.val = w8 at *
                obtain ⟨pc0, pc1⟩ := IQ3.out.cells (k := j) (by rw [Pl.pmix_len]; omega)
                rw [HPJ.out] at pc0 pc1
                simp only at pc0 pc1
                have f0 := Blk.frozen IQ3.out (j * 2)
                have f1 := Blk.frozen IQ3.out (j * 2 + 1)
                have ub := BU3.out.cell
                have lQ := Blk.lt IQ3.out
                have lB := Blk.lt IB3.out
                have cB2 := IB3.out.cell j (by rw [bmix_len]; exact hjn)
                rw [hbj] at cB2
                go_wp2_with fail
                go_roundw
                case rel =>
                  refine ⟨j + 1, by omega, by go_num, vint (by rw [HNC.out]; omega), by rw [HNO.out], Blk.far (Blk.far IB3.out (p := ⟨gB + 1, j * 2, none⟩) (Nat.succ_ne_self gB).symm _) (p := ⟨gB + 1, j * 2 + 1, none⟩) (Nat.succ_ne_self gB).symm _, ?_, (HBI3.out.setCell (p := ⟨gB + 1, j * 2, none⟩) (by simp) _).setCell (p := ⟨gB + 1, j * 2 + 1, none⟩) (by simp) _⟩
                  have := IQ3.out.set2 j true 1
                  rw [HPM.out] at this
                  exact this
                case measure => simp [intOf]; omega
              · by_cases hge : r6 ≤ sn
                · have e1 : (true == false) = false := rfl
                  have HTV : Hid (Pl.tr ⟨⟨rn, r1, r2, r3, r4, r5, r6, r7⟩, (nm, st), ⟨s1, s2, s3⟩⟩ (false, sn) true = ((true, 1), r7, decide (r6 ≤ sn))) := by show _ = _; unfold Pl.tr; simp
                  rw [HTV.out] at HNC HNO HPM
                  have hge2 : decide (r6 ≤ sn) = true := by simpa using hge
                  simp only [Bool.true_and, hge2] at HNC HNO HPM
                  clear HTV
                  go_wp2_with fail
                  have x1 := Wd.cell pc1
                  have x2 := Wd.cell (ub 6)
                  refine wp_region_wd (by kernel_rfl) (by kernel_rfl) ?_
                  repeat (go_big_quiet_step (fail))
                  refine wpQuiet_nil ?_
                  rintro _ ⟨w6, rfl⟩
                  have IB3 := Lib.hid (IB2.out.go w6.ok)
                  have IQ3 := Lib.hid (IQ2.out.go w6.ok)
                  have BU3 := Lib.hid (BU2.out.go w6.ok)
                  have HBI3 := Lib.hid (HBI2.out.trans (w6.ok.mono (by rw [HGB.out]; exact HBI2.out.size)))
                  clear x1 x2 IB2 IQ2 BU2 HBI2 cB2 pc0 pc1 f0 f1 ub lQ lB
                  generalize w6.val = w8 at *
                  obtain ⟨pc0, pc1⟩ := IQ3.out.cells (k := j) (by rw [Pl.pmix_len]; omega)
                  rw [HPJ.out] at pc0 pc1
                  simp only at pc0 pc1
                  have f0 := Blk.frozen IQ3.out (j * 2)
                  have f1 := Blk.frozen IQ3.out (j * 2 + 1)
                  have ub := BU3.out.cell
                  have lQ := Blk.lt IQ3.out
                  have lB := Blk.lt IB3.out
                  have cB2 := IB3.out.cell j (by rw [bmix_len]; exact hjn)
                  rw [hbj] at cB2
                  go_wp2_with fail
                  go_roundw
                  case rel =>
                    refine ⟨j + 1, by omega, by go_num, vint (by rw [HNC.out]; omega), by rw [HNO.out], Blk.far (Blk.far IB3.out (p := ⟨gB + 1, j * 2, none⟩) (Nat.succ_ne_self gB).symm _) (p := ⟨gB + 1, j * 2 + 1, none⟩) (Nat.succ_ne_self gB).symm _, ?_, (HBI3.out.setCell (p := ⟨gB + 1, j * 2, none⟩) (by simp) _).setCell (p := ⟨gB + 1, j * 2 + 1, none⟩) (by simp) _⟩
                    have := IQ3.out.set2 j true 1
                    rw [HPM.out] at this
                    exact this
                  case measure => simp [intOf]; omega
                · have e1 : (true == false) = false := rfl
                  have HTV : Hid (Pl.tr ⟨⟨rn, r1, r2, r3, r4, r5, r6, r7⟩, (nm, st), ⟨s1, s2, s3⟩⟩ (false, sn) true = ((true, 1), r7, decide (r6 ≤ sn))) := by show _ = _; unfold Pl.tr; simp
                  rw [HTV.out] at HNC HNO HPM
                  have hge2 : decide (r6 ≤ sn) = false := by simpa using hge
                  simp only [Bool.true_and, hge2] at HNC HNO HPM
                  clear HTV
                  go_wp2_with fail
                  have x1 := Wd.cell pc1
                  have x2 := Wd.cell (ub 6)
                  refine wp_region_wd (by kernel_rfl) (by kernel_rfl) ?_
                  repeat (go_big_quiet_step (fail))
                  refine wpQuiet_nil ?_
                  rintro _ ⟨w6, rfl⟩
                  have IB3 := Lib.hid (IB2.out.go w6.ok)
                  have IQ3 := Lib.hid (IQ2.out.go w6.ok)
                  have BU3 := Lib.hid (BU2.out.go w6.ok)
                  have HBI3 := Lib.hid (HBI2.out.trans (w6.ok.mono (by rw [HGB.out]; exact HBI2.out.size)))
                  clear x1 x2 IB2 IQ2 BU2 HBI2 cB2 pc0 pc1 f0 f1 ub lQ lB
                  generalize w6.val = w8 at *
                  obtain ⟨pc0, pc1⟩ := IQ3.out.cells (k := j) (by rw [Pl.pmix_len]; omega)
                  rw [HPJ.out] at pc0 pc1
                  simp only at pc0 pc1
                  have f0 := Blk.frozen IQ3.out (j * 2)
                  have f1 := Blk.frozen IQ3.out (j * 2 + 1)
                  have ub := BU3.out.cell
                  have lQ := Blk.lt IQ3.out
                  have lB := Blk.lt IB3.out
                  have cB2 := IB3.out.cell j (by rw [bmix_len]; exact hjn)
                  rw [hbj] at cB2
                  go_wp2_with fail
                  go_roundw
                  case rel =>
                    refine ⟨j + 1, by omega, by go_num, vint (by rw [HNC.out]; omega), by rw [HNO.out], Blk.far (Blk.far IB3.out (p := ⟨gB + 1, j * 2, none⟩) (Nat.succ_ne_self gB).symm _) (p := ⟨gB + 1, j * 2 + 1, none⟩) (Nat.succ_ne_self gB).symm _, ?_, (HBI3.out.setCell (p := ⟨gB + 1, j * 2, none⟩) (by simp) _).setCell (p := ⟨gB + 1, j * 2 + 1, none⟩) (by simp) _⟩
                    have := IQ3.out.set2 j true 1
                    rw [HPM.out] at this
                    exact this
                  case measure => simp [intOf]; omega
            · have e1 : (true == true) = true := rfl
              have HTV : Hid (Pl.tr ⟨⟨rn, r1, r2, r3, r4, r5, r6, r7⟩, (nm, st), ⟨s1, s2, s3⟩⟩ (true, sn) true = ((true, min (sn + 1) 200000), 0, true)) := by show _ = _; unfold Pl.tr; rw [if_pos rfl]
              rw [HTV.out] at HNC HNO HPM
              simp only [Bool.and_true, Int.add_zero] at HNC HNO HPM
              clear HTV
              go_wp2_with fail
              go_roundw
              case rel =>
                refine ⟨j + 1, by omega, by go_num, vint (by rw [HNC.out]), by rw [HNO.out], Blk.far IB2.out (p := ⟨gB + 1, j * 2 + 1, none⟩) (Nat.succ_ne_self gB).symm _, ?_, HBI2.out.setCell (p := ⟨gB + 1, j * 2 + 1, none⟩) (by simp) _⟩
                have := IQ2.out.set1 j (min (sn + 1) 200000)
                rw [HPJ.out] at this
                simp only at this
                rw [HPM.out] at this
                exact this
              case measure => simp [intOf]; omega
          -- END-ARMS
        · have : j = n := by omega
          subst this
          have HBW : Hid (Below w.heap.size w wr) := HB.out.trans (HBI.out.mono (by rw [HGB.out]; exact HB.out.size))
          have HPA : Hid (Pl.pmix (plus l) UW.at_ q j = Pl.nextAt (plus l) UW.at_ q) := by
            have := Pl.pmix_all (l := plus l) (a := UW.at_) (q := q) (fun i h1 h2 => by rw [HU.out.2.2.1]; exact Pl.pathAt_rest i h1 h2)
            rw [LP.out] at this
            exact this
          have HNA : Hid (Pl.ncost (plus l) UW.at_ q j = Pl.nextCost (plus l) UW.at_ q) := by
            have := Pl.ncost_all (plus l) UW.at_ q
            rw [LP.out] at this
            exact this
          have HKA : Hid (Pl.nok (plus l) UW.at_ q j = true ↔ Pl.nextOk (plus l) UW.at_ q) := by
            have := Pl.nok_all (plus l) UW.at_ q
            rw [LP.out] at this
            exact this
          rw [HPA.out] at IQ
          have OF1 : Hid (wr.ownsRow (w.heap.size + 1) 77 8 (.slice Ax X.length cx) X.length (ways X)) := own_go OF.out (by rw [← HGB.out]; exact HBI.out)
          have HX1 : Hid (∀ x ∈ X, WyIn base wr x) := fun x hx => (HX.out x hx).go (by rw [← HGB.out]; exact HBI.out)
          have BX1 : Hid (Blk wr w.heap.size 77 #[.bool a0, .int .i64 b0, .bool a1, .int .i64 b1, .bool a2, .int .i64 b2, .int .i64 uc, .slice uA rows.length ucp]) := BX.out.go (by rw [← HGB.out]; exact HBI.out)
          rw [HNA.out] at hncb ⊢
          have HXB : Hid (∀ g, (Value.slice Ax X.length cx).ownBlock = some g → w.heap.size + 1 ≤ g ∧ g < gB) := fun g hg => by rw [HGB.out]; exact OF.out.lt g hg
          clear OF HX BX HBI HPA HNA HPT
          generalize hnk : Pl.nok (plus l) UW.at_ q j = ok at *
          cases ok
          · go_wp2_with fail
            go_roundw
            case rel => exact ⟨q + 1, Ax, cx, X, by omega, by go_num, rfl, by omega, OF1, HX1, Pl.fokq_skip FQ.out (fun hn => absurd (HKA.out.2 hn) (by simp)), BX1, HBW⟩
            case measure => simp [intOf]; omega
          · have HON : Hid (Reads wr wr.heap.size 1 (some ⟨gB, 0, none⟩) j (bools j q.testBit)) := by
              have := IB.out.reads (bmix_len j q j)
              rw [bmix_all] at this
              exact this
            have hdb : 0 ≤ d ∧ d ≤ 1000000 := by
              rw [← HD.out]
              refine HOK.out.hr _ ?_
              rw [List.getD_eq_getElem?_getD, List.getElem?_eq_getElem HK.out]
              exact List.getElem_mem _
            have HSC := Lib.hid (HSV.out q j (some ⟨gB, 0, none⟩) wr (H.out.go HBW.out) HON.out hdb.1 hdb.2)
            unfold ServeSaid at HSC
            clear HON
            go_wp2_with fail
            refine HSC.out.mono ?_
            rintro e w5 ⟨As, ms, cs, cost, okk, rfl, hbs, hno, hyes⟩
            have HX5 : Hid (∀ x ∈ X, WyIn base w5 x) := fun x hx => (HX1.out x hx).go hbs
            have OF5 := Lib.hid (own_go OF1.out hbs)
            have BX5 := Lib.hid (BX1.out.go hbs)
            have IQ5 := Lib.hid (IQ.out.go hbs)
            have HB5 := Lib.hid (HBW.out.trans (hbs.mono HBW.out.size))
            have HWR := Lib.hid HBW.out.size
            clear OF1 HX1 BX1 IQ IB HSC
            cases okk
            · have HNO := Lib.hid (hno rfl)
              clear hno hyes
              go_wp2_with fail
              go_roundw
              case rel => exact ⟨q + 1, Ax, cx, X, by omega, by go_num, rfl, by omega, OF5, HX5, Pl.fokq_skip FQ.out (fun hn P hP => by rw [HD.out]; exact HNO.out P hP), BX5, HB5⟩
              case measure => simp [intOf]; omega
            · obtain ⟨P, hm, hsr, hown⟩ := hyes rfl
              subst hm
              have HSR := Lib.hid hsr
              have HOW := Lib.hid hown
              clear hno hyes hsr hown
              go_wp2_with fail
              obtain ⟨pcb1, pcb2⟩ := Pl.pcost_bd HOK.out.hl HOK.out.hu HSR.out.fit
              rw [← HSR.out.ec] at pcb1 pcb2
              obtain ⟨⟨p0, q0⟩, ⟨p1, q1⟩, ⟨p2, q2⟩, hxa⟩ := Pl.nextAt_three (plus l) UW.at_ q
              have HXA := Lib.hid hxa
              have HNC : Hid (∃ nc, nc = Pl.nextCost (plus l) UW.at_ q) := ⟨_, rfl⟩
              obtain ⟨nc, hnc⟩ := HNC.out
              have HNC := Lib.hid hnc
              rw [← hnc] at hncb ⊢
              have hIQ := IQ5.out
              rw [hxa] at hIQ
              have BP5 : Hid (Blk w5 (gB + 1) 75 #[.bool p0, .int .i64 q0, .bool p1, .int .i64 q1, .bool p2, .int .i64 q2]) := hIQ
              have HRL : Hid (rows.length = k) := by
                show _ = _
                have := HU.out.2.1
                rw [← this, ← HUW.out]
                simp [MW.way]
              have hr8 : rows.length ≤ 8 := by have := HOK.out.hd; have := HK.out; have := HRL.out; omega
              have HIN5 : Hid (WyIn base w5 ⟨(a0, b0), (a1, b1), (a2, b2), uc, uA, ucp, rows⟩) := HIN.out.go HB5.out
              have HRD : Hid (Reads w5 w5.heap.size 1 uA rows.length (rows.map rowv)) := Reads.of_own HIN5.out.1
              have HCL := Lib.hid (fun w h => clone_rows uA rows.length ucp rows w (by omega) h)
              unfold CloneSaid at HCL
              have hcur : Hid (Below w5.heap.size w5 w5.drew) := (Below.refl _ _).drew
              have wsum : IntKind.i64.wrap (uc + nc + cost) = uc + nc + cost := IntWalk.i64_in _ (by omega)
              have bxc := BX5.out.cell 7
              have HSF : Hid (∀ w', Below w5.heap.size w5 w' → (∀ j, w'.cell? ⟨gB + 1, j, none⟩ = #[.bool p0, .int .i64 q0, .bool p1, .int .i64 q1, .bool p2, .int .i64 q2][j]?) ∧ w'.cell? ⟨w.heap.size, 7, none⟩ = some (.slice uA rows.length ucp)) := fun w' hb => ⟨(BP5.out.go hb).cell, (BX5.out.go hb).cell 7⟩
              have hgx1 : Hid (some (gB + 1) ≠ (Value.slice Ax X.length cx).ownBlock) := fun e => by have := HXB.out _ e.symm; omega
              have hgx2 : Hid (some w.heap.size ≠ (Value.slice Ax X.length cx).ownBlock) := fun e => by have := HXB.out _ e.symm; omega
              have HWX : Hid (w.heap.size + 1 ≤ w5.heap.size) := BX5.out.lt
              have HX8 : Hid (X.length + 1 ≤ 8) := by show _ ≤ _; omega
              clear IQ5 hIQ hxa hnc
              go_region_held3 (fun w' => (∀ j, w'.cell? ⟨gB + 1, j, none⟩ = #[.bool p0, .int .i64 q0, .bool p1, .int .i64 q1, .bool p2, .int .i64 q2][j]?) ∧ w'.cell? ⟨w.heap.size, 7, none⟩ = some (.slice uA rows.length ucp))
                (first
                  | exact HSF.out _ hcur.out
                  | exact HSF.out _ (((Below.refl w5.heap.size w5).alloc (Nat.le_refl _) _).drew)
                  | exact HSF.out _ (hcur.out.alloc hcur.out.size _)
                  | (have hk := HSF.out _ (hcur.out.alloc hcur.out.size (.cells #[.bool p0, .int .i64 q0, .bool p1, .int .i64 q1, .bool p2, .int .i64 q2, .int .i64 (uc + nc + cost), .slice A3 (rows.length + 1) c3] 77)); have l1 := BP5.out.lt; have l2 := BX5.out.lt; have l3 := hcur.out.size; exact ⟨fun j => by rw [hg9.cell_far _ (by simp; omega) hgx1.out]; exact hk.1 j, by rw [hg9.cell_far _ (by simp; omega) hgx2.out]; exact hk.2⟩))
                (first
                  | (go_at_call 52; with_reducible refine (HCL.out _ (HRD.out.go hcur.out)).mono ?_; rintro e wz ⟨Ac, cc, rfl, hoc, hbz⟩; have oc := Lib.hid (own_base hoc hcur.out.size); have hcur := Lib.hid (hcur.out.trans (hbz.mono hcur.out.size)); clear hoc hbz)
                  | (go_at_call 52; refine (HCL.out _ (HRD.out.go (((Below.refl w5.heap.size w5).alloc (Nat.le_refl _) (.cells #[.slice As ms cs] 23)).drew))).mono ?_; rintro e wz ⟨Ac, cc, rfl, hoc, hbz⟩; have b131 := Lib.hid (((Blk.new_ w5 w5.heap.size 23 #[.slice As ms cs] rfl).drew).go hbz); have oc := Lib.hid (own_base hoc (show w5.heap.size ≤ _ by simp)); have hcur := Lib.hid ((((Below.refl w5.heap.size w5).alloc (Nat.le_refl _) (.cells #[.slice As ms cs] 23)).drew).trans (hbz.mono (show w5.heap.size ≤ _ by simp))); clear hoc hbz)
                  | (refine step_append_any _ (by rfl) _ _ _ (by rfl) w5.heap.size 23 r0 _ 1 24 Try.underlying41 hr0 rz0 rz1 rz2 rfl (by decide) (.slice Ac rows.length cc) rows.length (rows.map rowv) (by rfl) (own_go oc.out ((Below.refl wz.heap.size wz).alloc (Nat.le_refl _) (.cells #[.slice As ms cs] 23))) (wz.heap.size + 1) (some ⟨wz.heap.size, 0, none⟩) 1 1 [.slice As ms cs] (by rfl) (by have := blk_reads1 (size := 1) (Blk.new_ wz wz.heap.size 23 #[.slice As ms cs] rfl) rfl; simpa using this) (by simp [Value.oneCell']) (by unfold maxLen; omega) (by omega) (by have := hcur.out.size; simp; omega) ?_; intro v' w3 hown3 hg3 _; obtain ⟨A3, c3, rfl, _⟩ := own_slice hown3; have o3 := Lib.hid hown3; have hcur := Lib.hid (below_grown (hcur.out.alloc hcur.out.size (.cells #[.slice As ms cs] 23)) hg3 (own_go oc.out ((Below.refl wz.heap.size wz).alloc (Nat.le_refl _) (.cells #[.slice As ms cs] 23))) (Nat.le_refl _) (by have := hcur.out.size; simp; omega)); clear hown3 hg3)
                  | (refine step_append_any _ (by rfl) _ _ _ (by rfl) w5.heap.size 23 r0 _ 1 24 Try.underlying41 hr0 rz0 rz1 rz2 rfl (by decide) (.slice Ac rows.length cc) rows.length (rows.map rowv) (by rfl) oc.out wz.heap.size (some ⟨w5.heap.size, 0, none⟩) 1 1 [.slice As ms cs] (by rfl) (by have := blk_reads1 (size := 1) b131.out rfl; simpa using this) (by simp [Value.oneCell']) (by unfold maxLen; omega) (by omega) hcur.out.size ?_; intro v' w3 hown3 hg3 _; obtain ⟨A3, c3, rfl, _⟩ := own_slice hown3; have o3 := Lib.hid hown3; have hcur := Lib.hid (below_grown hcur.out hg3 oc.out (Nat.le_refl _) hcur.out.size); clear hown3 hg3)
                  | (refine step_append_any _ (by rfl) _ _ _ (by rfl) (w.heap.size + 1) 77 i0 _ 8 80 Try.underlying78 hi0 hz0 hz1 hz2 rfl (by decide) (.slice Ax X.length cx) X.length (ways X) (by rfl) (own_go OF5.out (hcur.out.alloc hcur.out.size (.cells #[.bool p0, .int .i64 q0, .bool p1, .int .i64 q1, .bool p2, .int .i64 q2, .int .i64 (uc + nc + cost), .slice A3 (rows.length + 1) c3] 77))) (w3.heap.size + 1) (some ⟨w3.heap.size, 0, none⟩) 1 1 [.bool p0, .int .i64 q0, .bool p1, .int .i64 q1, .bool p2, .int .i64 q2, .int .i64 (uc + nc + cost), .slice A3 (rows.length + 1) c3] (by rfl) (by have := blk_reads1 (size := 8) (Blk.new_ w3 w3.heap.size 77 #[.bool p0, .int .i64 q0, .bool p1, .int .i64 q1, .bool p2, .int .i64 q2, .int .i64 (uc + nc + cost), .slice A3 (rows.length + 1) c3] rfl) rfl; simpa using this) (by simp [Value.oneCell']) (by unfold maxLen; omega) (by omega) (by have := hcur.out.size; have := HWX.out; simp; omega) ?_; intro v' w9 hown9 hg9 _; obtain ⟨A9, c9, rfl, _⟩ := own_slice hown9; have o9 := Lib.hid hown9; have hg9' := Lib.hid hg9; clear hown9))
              all_goals
                have HCU8 := Lib.hid (hcur.out.alloc hcur.out.size (.cells #[.bool p0, .int .i64 q0, .bool p1, .int .i64 q1, .bool p2, .int .i64 q2, .int .i64 (uc + nc + cost), .slice A3 (rows.length + 1) c3] 77))
                have OW8 := Lib.hid (own_go OF5.out HCU8.out)
                have HTY : Hid (∀ g, (Value.slice Ax X.length cx).ownBlock = some g → ∀ t cs, Blk (w3.alloc (.cells #[.bool p0, .int .i64 q0, .bool p1, .int .i64 q1, .bool p2, .int .i64 q2, .int .i64 (uc + nc + cost), .slice A3 (rows.length + 1) c3] 77)) g t cs → t ≠ 23 ∧ t ≠ 3) := fun g hg t cs hb => by
                  obtain ⟨cs', hb'⟩ := own_type OW8.out g hg
                  have := blk_type hb' hb
                  rw [this]
                  exact ⟨by decide, by decide⟩
                have HPL : Hid (P.length = ms) := HSR.out.len.trans LP.out
                have HNL : Hid ((rows ++ [((As, cs, P) : MRow)]).length = rows.length + 1) := by show _ = _; simp
                have HO8 := Lib.hid (own_go o3.out ((Below.refl w3.heap.size w3).alloc (Nat.le_refl _) (.cells #[.bool p0, .int .i64 q0, .bool p1, .int .i64 q1, .bool p2, .int .i64 q2, .int .i64 (uc + nc + cost), .slice A3 (rows.length + 1) c3] 77)))
                have HBB5 : Hid (base ≤ w5.heap.size) := by show _ ≤ _; have := HBS.out; have := HWX.out; omega
                have HN8 : Hid (WyIn base (w3.alloc (.cells #[.bool p0, .int .i64 q0, .bool p1, .int .i64 q1, .bool p2, .int .i64 q2, .int .i64 (uc + nc + cost), .slice A3 (rows.length + 1) c3] 77)) ⟨(p0, q0), (p1, q1), (p2, q2), uc + nc + cost, A3, c3, rows ++ [(As, cs, P)]⟩) := by
                  refine ⟨?_, fun r hr => ?_⟩
                  · have h8 := own_base HO8.out HBB5.out
                    have e : (rows ++ [((As, cs, P) : MRow)]).map rowv = rows.map rowv ++ [.slice As ms cs] := by rw [List.map_append]; simp [rowv, HPL.out]
                    rw [e, HNL.out]
                    exact h8
                  · rcases List.mem_append.1 hr with hr | hr
                    · exact own_go (HIN5.out.2 r hr) HCU8.out
                    · rw [List.mem_singleton.1 hr]
                      simp only [rowv, HPL.out]
                      exact own_go (own_base HOW.out (by have := HBS.out; have := HWR.out; omega)) HCU8.out
                have HN9 := Lib.hid (HN8.out.kept hg9'.out HTY.out)
                have HX9 : Hid (∀ x ∈ X, WyIn base w9 x) := fun x hx => ((HX5.out x hx).go HCU8.out).kept hg9'.out HTY.out
                have HB9 := Lib.hid (below_grown (HB5.out.trans (HCU8.out.mono HB5.out.size)) hg9'.out OW8.out (by omega) (HB5.out.trans (HCU8.out.mono HB5.out.size)).size)
                have BX9 := Lib.hid ((BX5.out.go HCU8.out).grown hg9'.out hgx2.out)
                have FQ9 : Hid (Pl.FOkQ (plus l) ds k UW (q + 1) ((X ++ [(⟨(p0, q0), (p1, q1), (p2, q2), uc + nc + cost, A3, c3, rows ++ [(As, cs, P)]⟩ : MW)]).map MW.way)) := by
                  have hs := HSR.out
                  rw [← HD.out] at hs
                  have := Pl.fokq_add HOK.out.hl HOK.out.hu HK.out HU.out FQ.out (HKA.out.1 trivial) hs
                  rw [HXA.out, ← HNC.out, HUC.out] at this
                  rw [List.map_append]
                  have e : UW.pows = rows.map (·.2.2) := by rw [← HUW.out]; rfl
                  rw [e] at this
                  have e2 : List.map MW.way [(⟨(p0, q0), (p1, q1), (p2, q2), uc + nc + cost, A3, c3, rows ++ [(As, cs, P)]⟩ : MW)] = [⟨[(p0, q0), (p1, q1), (p2, q2)], uc + nc + cost, rows.map (·.2.2) ++ [P]⟩] := by simp [MW.way]
                  rw [e2]
                  exact this
                clear HN8 HX5 OF5 BX5 HB5 HCU8 OW8 HTY HO8 hg9' hg9 o3 hcur HSF BP5 HIN5 HRD HCL FQ HOW
                go_wp2_with fail
                go_roundw
                case rel =>
                  refine ⟨q + 1, A9, c9, X ++ [⟨(p0, q0), (p1, q1), (p2, q2), uc + nc + cost, A3, c3, rows ++ [(As, cs, P)]⟩], by omega, by go_num, by rw [List.length_append]; rfl, by rw [List.length_append]; simp; omega, ?_, fun x hx => ?_, FQ9, BX9, HB9⟩
                  · rw [ways_snoc, List.length_append]
                    have e3 : wcells ⟨(p0, q0), (p1, q1), (p2, q2), uc + nc + cost, A3, c3, rows ++ [(As, cs, P)]⟩ = [.bool p0, .int .i64 q0, .bool p1, .int .i64 q1, .bool p2, .int .i64 q2, .int .i64 (uc + nc + cost), .slice A3 (rows.length + 1) c3] := by unfold wcells; rw [HNL.out]
                    rw [e3]
                    exact o9.out
                  · rcases List.mem_append.1 hx with hx | hx
                    · exact HX9.out x hx
                    · rw [List.mem_singleton.1 hx]; exact HN9.out
                case measure => simp [intOf]; omega
    · have : q = K := by omega
      subst this
      rw [HKK.out] at FQ
      have HFF : Hid (Pl.FOk (plus l) ds k UW (X.map MW.way)) := by
        have e := LP.out
        rw [← e] at FQ
        exact Pl.fokq_all FQ.out
      clear BX
      go_wp2_with fail
      go_ret
      exact ⟨Ax, cx, X, rfl, by omega, own_base OF.out (Nat.le_succ _), HX.out, HFF.out, HB.out⟩
end Go.Proofs.Ytchafkocobbndaa
