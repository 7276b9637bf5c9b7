/- commit.Best: schedules that serve the demands at least cost, or that none do. Condition: the names have sizes that Go allows. -/
import Derived.Test.YtchafkocobbndaaFollow
import Derived.Test.YtchafkocobbndaaPlace
import Derived.Test.YtchafkocobbndaaDAll
import Derived.BigRegion
import Derived.Deep.RegionLaw
namespace Go.Proofs.Ytchafkocobbndaa
open Go.RowKit
/-- what Best returns -/
def BestSaid2 (l : List Pl.CU) (ds : List Int) (w : World) (e : Ending) (w' : World) : Prop :=
  ∃ A c, ∃ R : List MRow, ∃ cost er : Int, e = .returned (.tuple #[.slice A R.length c, .int .i64 cost, .int .i64 er]) ∧ Pl.BestP l ds (R.map (·.2.2)) cost er ∧ w'.ownsRow w.heap.size 23 1 (.slice A R.length c) R.length (R.map rowv) ∧ (∀ r ∈ R, w'.ownsRow w.heap.size 3 1 (rowv r) r.2.2.length (ints r.2.2)) ∧ Below w.heap.size w w'
theorem PBlk.alloc {w : World} {g : Nat} {L : List (Bool × Int)} (h : PBlk w g L) (o : Obj) : PBlk (w.alloc o) g L := Blk.alloc h o
theorem wcells_set (l : List MW) (k : Nat) (hk : k < l.length) (u : MW) :
    ((((((((ways l).set (k * 8) (.bool u.s0.1)).set (k * 8 + 1) (.int .i64 u.s0.2)).set (k * 8 + 2) (.bool u.s1.1)).set (k * 8 + 3) (.int .i64 u.s1.2)).set (k * 8 + 4) (.bool u.s2.1)).set (k * 8 + 5) (.int .i64 u.s2.2)).set (k * 8 + 6) (.int .i64 u.cost)).set (k * 8 + 7) (.slice u.A u.rows.length u.c) = ways (l.set k u) := by
  induction l generalizing k with
  | nil => simp at hk
  | cons x l ih =>
    have e : ∀ (y : MW) M, ways (y :: M) = .bool y.s0.1 :: .int .i64 y.s0.2 :: .bool y.s1.1 :: .int .i64 y.s1.2 :: .bool y.s2.1 :: .int .i64 y.s2.2 :: .int .i64 y.cost :: .slice y.A y.rows.length y.c :: ways M := fun _ _ => rfl
    cases k with
    | zero => simp [e]
    | succ k =>
      rw [List.set_cons_succ, e, e]
      rw [show (k + 1) * 8 + 1 = k * 8 + 1 + 1 + 1 + 1 + 1 + 1 + 1 + 1 + 1 from by omega, show (k + 1) * 8 + 2 = k * 8 + 2 + 1 + 1 + 1 + 1 + 1 + 1 + 1 + 1 from by omega, show (k + 1) * 8 + 3 = k * 8 + 3 + 1 + 1 + 1 + 1 + 1 + 1 + 1 + 1 from by omega, show (k + 1) * 8 + 4 = k * 8 + 4 + 1 + 1 + 1 + 1 + 1 + 1 + 1 + 1 from by omega, show (k + 1) * 8 + 5 = k * 8 + 5 + 1 + 1 + 1 + 1 + 1 + 1 + 1 + 1 from by omega, show (k + 1) * 8 + 6 = k * 8 + 6 + 1 + 1 + 1 + 1 + 1 + 1 + 1 + 1 from by omega, show (k + 1) * 8 + 7 = k * 8 + 7 + 1 + 1 + 1 + 1 + 1 + 1 + 1 + 1 from by omega, show (k + 1) * 8 = k * 8 + 1 + 1 + 1 + 1 + 1 + 1 + 1 + 1 from by omega]
      simp only [List.set_cons_succ]
      rw [ih k (by simpa using hk)]
/-- a way is stored into a row of the call's own -/
theorem own_setWay {w : World} {base n c g : Nat} {l : List MW} (h : w.ownsRow base 77 8 (.slice (some ⟨g, 0, none⟩) n c) n (ways l)) (k : Nat) (hk : k < l.length) (u : MW) :
    ((((((((w.setCell ⟨g, k * 8, none⟩ (.bool u.s0.1)).setCell ⟨g, k * 8 + 1, none⟩ (.int .i64 u.s0.2)).setCell ⟨g, k * 8 + 2, none⟩ (.bool u.s1.1)).setCell ⟨g, k * 8 + 3, none⟩ (.int .i64 u.s1.2)).setCell ⟨g, k * 8 + 4, none⟩ (.bool u.s2.1)).setCell ⟨g, k * 8 + 5, none⟩ (.int .i64 u.s2.2)).setCell ⟨g, k * 8 + 6, none⟩ (.int .i64 u.cost)).setCell ⟨g, k * 8 + 7, none⟩ (.slice u.A u.rows.length u.c)).ownsRow base 77 8 (.slice (some ⟨g, 0, none⟩) n c) n (ways (l.set k u)) := by
  rw [← wcells_set l k hk u]
  exact ((((((((h.stored _ _).1.stored _ _).1.stored _ _).1.stored _ _).1.stored _ _).1.stored _ _).1.stored _ _).1.stored _ _).1
/-- .. and nothing else turns -/
theorem grown_setWay (w : World) (g k : Nat) (a b c d e f x y : Value) : w.grownBy ((((((((w.setCell ⟨g, k * 8, none⟩ a).setCell ⟨g, k * 8 + 1, none⟩ b).setCell ⟨g, k * 8 + 2, none⟩ c).setCell ⟨g, k * 8 + 3, none⟩ d).setCell ⟨g, k * 8 + 4, none⟩ e).setCell ⟨g, k * 8 + 5, none⟩ f).setCell ⟨g, k * 8 + 6, none⟩ x).setCell ⟨g, k * 8 + 7, none⟩ y) (some g) :=
  (((((((grown_set w g _ a).trans (grown_set _ g _ b)).trans (grown_set _ g _ c)).trans (grown_set _ g _ d)).trans (grown_set _ g _ e)).trans (grown_set _ g _ f)).trans (grown_set _ g _ x)).trans (grown_set _ g _ y)
theorem len_wf {n : Nat} (h : n ≤ 100000000) : (Lit.int .i64 (n : Int)).wf = true := by
  have e : IntKind.i64.min = -9223372036854775808 := rfl
  simp [Lit.wf, e]
  omega
/-- a map's block holds no cells -/
theorem map_no_blk {w : World} {k : TypeId} {R : Value → Option (DataW Unit × List MemPlace)} {b n : Nat} {D : DataW Unit} (h : w.ownsMap Try.prog k R b n D) (t : TypeId) (cs : Array Value) : ¬ Blk w b t cs := by
  obtain ⟨es, clock, hb, _⟩ := h
  intro hc
  unfold Blk at hc
  rw [hb] at hc
  cases hc
theorem Reads.row_at {w : World} {B n : Nat} {A : Option Addr} {l : List MRow} (h : Reads w B 1 A n (l.map rowv)) {k : Nat} (hk : k < n) :
    ∃ b o, A = some ⟨b, o, none⟩ ∧ b < B ∧ ∃ hl : k < l.length, w.cell? ⟨b, o + k, none⟩ = some (rowv (l[k]'hl)) := by
  obtain ⟨b, o, rfl, hb, hc⟩ := h.where_ (by omega) (by omega)
  have hl : k < l.length := by have := h.1; simp at this; omega
  exact ⟨b, o, rfl, hb, hl, hc k _ (by simp [hl])⟩
theorem grown_more {a w w' : World} {g : Nat} {row : Option Nat} (h : a.grownBy w (some g)) (k : w.grownBy w' row) (hr : ∀ b, row = some b → a.heap.size ≤ b) : a.grownBy w' (some g) :=
  ⟨k.os.trans h.os, k.tape.trans h.tape, k.output.trans h.output, Nat.le_trans h.size k.size, fun i hi hne => (k.block i (by have := h.size; omega) (by intro e; have := hr i e.symm; omega)).trans (h.block i hi hne)⟩
theorem rows_own {w : World} {g n base : Nat} {R : List MRow} (h : Blk w g 23 (R.map rowv).toArray) (hn : R.length = n) (hb : base ≤ g) (hx : n ≤ 1000000) : w.ownsRow base 23 1 (.slice (some ⟨g, 0, none⟩) n n) n (R.map rowv) :=
  ⟨by simp [hn], .inr ⟨g, n, _, rfl, hb, h, Nat.le_refl _, by unfold maxLen; omega, by simp [hn], by rw [List.toList_toArray]; exact List.take_of_length_le (by simp [hn])⟩⟩
theorem set_getD {α : Type} (l : List α) (d : α) (j i : Nat) (x : α) (hj : j < l.length) : (l.set j x).getD i d = if i = j then x else l.getD i d := by
  rw [List.getD_eq_getElem?_getD, List.getD_eq_getElem?_getD, List.getElem?_set]
  by_cases h : j = i
  · subst h; simp [hj]
  · rw [if_neg h, if_neg (fun e => h e.symm)]
theorem set_same {α : Type} (l : List α) (d : α) (j : Nat) (h : l.getD j d = d) : l.set j d = l := by
  refine List.ext_getElem? fun i => ?_
  rw [List.getElem?_set]
  split
  · rename_i e
    subst e
    split
    · rename_i hj
      rw [List.getD_eq_getElem?_getD, List.getElem?_eq_getElem hj] at h
      rw [List.getElem?_eq_getElem hj]
      exact congrArg some h.symm
    · rename_i hj
      rw [List.getElem?_eq_none (by omega)]
  · rfl
theorem zero_int (w : World) : (zeroValue 3).run Try.prog w = .ok (.int .i64 0) w := by kernel_rfl
set_option maxHeartbeats 12800000 in
set_option maxRecDepth 100000 in
theorem cbest_any (A B : Option Addr) (n c m cm : Nat) (l : List MU) (ds : List Int) (w : World) (hcap : n ≤ c) (h : Unis w A n l) (hd : Reads w w.heap.size 1 B m (ints ds)) :
    Calls Try.prog 13 #[.slice A n c, .slice B m cm] w (BestSaid2 (plus l) ds w) := by
  have L1 := Lib.hid h.len
  have LP : Hid ((plus l).length = n) := by show _ = _; rw [plus_len]; exact L1.out
  have LD := Lib.hid hd.int_len
  have H := Lib.hid h
  have HRD := Lib.hid hd
  have HC := Lib.hid (duall_any A B n c m cm l ds w hcap h hd)
  clear h hd
  by_cases h0 : Pl.duAll (plus l) ds = 0
  · have HH0 := Lib.hid h0
    have HOK := Lib.hid (Pl.duAll_ok h0)
    have hn3 : n ≤ 3 := by have := HOK.out.hl; rw [LP.out] at this; exact this
    have hm8 : m ≤ 8 := by have := HOK.out.hd; rw [LD.out] at this; exact this
    have HFO := Lib.hid (fun (k : Nat) (u : MW) (d : Int) (W : World) (hk : k < ds.length) (hd : ds.getD k 0 = d) (hu : Pl.IsWay (plus l) ds k u.way) (hin : WyIn w.heap.size W u) (hb : w.heap.size ≤ W.heap.size) (h : Unis W A n l) => follow_any w.heap.size A n c l ds k u d W HOK.out hk hd hu hin hb h)
    obtain ⟨i0, hi0, hz0, hz1, hz2⟩ := info_parts info_way
    obtain ⟨r0, hr0, rz0, rz1, rz2⟩ := info_parts info_sint
    obtain ⟨j0, ji0, jz0, jz1, jz2⟩ := info_parts info_int
    have hmk : ∀ w, (Instr.makeSlice 41 (.int .i64 (n : Int)) (.int .i64 (n : Int))).run Try.prog w = .ok (.slice (some ⟨w.heap.size, 0, none⟩) n n) (w.alloc (.cells (madeCells #[.slice none 0 0] n) 23)) := fun w => by
      have := run_make (P := Try.prog) w 41 23 r0 (.slice none 0 0) Try.underlying41 hr0 rz0 .i64 .i64 n n (by omega) (by omega) (by rw [rz2]; omega) (by omega)
      rw [rz1, show (Value.slice none 0 0).cells = #[.slice none 0 0] from rfl] at this
      simpa using this
    generalize hz : madeCells #[Value.slice none 0 0] n = ZC at hmk
    have HZL : Hid (ZC.toList = List.replicate n (.slice none 0 0)) := by show _ = _; rw [← hz, toList_madeCells_one]
    have HMK := Lib.hid hmk
    rw [h0] at HC
    clear hz hmk h0
    unfold FollowSaid at HFO
    go_enter Try.func13, Try.ntmps13
    go_wp2_with fail
    refine HC.out.mono ?_
    rintro e w1 ⟨rfl, hb⟩
    have HB1 := Lib.hid hb
    clear hb HC
    go_wp2_with fail
    have IP : Hid (PBlk (w1.alloc (.cells #[.bool false, .int .i64 0, .bool false, .int .i64 0, .bool false, .int .i64 0] 75)) w1.heap.size (Pl.smix (plus l) 0)) := Blk.new_ _ _ _ _ rfl
    have HB0 : Hid (Below w.heap.size w (w1.alloc (.cells #[.bool false, .int .i64 0, .bool false, .int .i64 0, .bool false, .int .i64 0] 75))) := HB1.out.alloc HB1.out.size _
    have HG8 : Hid (w.heap.size ≤ w1.heap.size) := HB1.out.size
    generalize w1.heap.size = g8 at *
    generalize w1.alloc (.cells #[.bool false, .int .i64 0, .bool false, .int .i64 0, .bool false, .int .i64 0] 75) = w2 at *
    go_loopw [37] (fun i wr => ∃ j : Nat, j ≤ n ∧ i = .int .i64 j ∧ Hid (PBlk wr g8 (Pl.smix (plus l) j)) ∧ Hid (Below w.heap.size w wr)) (fun i _ => n - (intOf i).toNat)
    case atStart => exact ⟨0, Nat.zero_le _, rfl, IP, HB0⟩
    case round =>
      clear IP HB0 HB1
      obtain ⟨j, hj, rfl, IP, HB⟩ := hrel
      by_cases hlt : j < n
      · obtain ⟨b, o, rfl, u, ⟨hl1, hu⟩, c0, c1, c2, c3, c4, c5, c6, c7, c8, c9, c10, c11, c12, hin⟩ := (H.out.go HB.out).cells5 hlt
        have HCU : Hid (Pl.cu (plus l) j = plu u) := by show _ = _; rw [hu]; exact plus_cu hl1
        have HSM := Lib.hid (Pl.smix_set (plus l) j)
        rw [HCU.out] at HSM
        clear hu hl1 hin
        obtain ⟨⟨rn, r1, r2, r3, r4, r5, r6, r7⟩, nm, Az, nz, cz, st, ⟨s1, s2, s3⟩⟩ := u
        simp only [plu] at c0 c1 c2 c3 c4 c5 c6 c7 c8 c9 c10 c11 c12 HSM
        have k0 : (0 : Int) ≤ (j : Int) := by omega
        have k1 : (j : Int) < (n : Int) := by omega
        have k3 : (j : Int) < 3 := by omega
        have f0 := Blk.frozen IP.out (j * 2)
        have f1 := Blk.frozen IP.out (j * 2 + 1)
        obtain ⟨p0, p1⟩ := IP.out.cells (k := j) (by rw [Pl.smix_len]; omega)
        have lp := Blk.lt IP.out
        go_wp2_with fail
        have IP1 : Hid (PBlk (wr.alloc (.cells #[.string rn, .int .i64 r1, .int .i64 r2, .int .i64 r3, .int .i64 r4, .int .i64 r5, .int .i64 r6, .int .i64 r7, .string nm, .slice Az nz cz, .bool s1, .int .i64 s2, .int .i64 s3] 35)) g8 (Pl.smix (plus l) j)) := IP.out.alloc _
        have BX1 : Hid (Blk (wr.alloc (.cells #[.string rn, .int .i64 r1, .int .i64 r2, .int .i64 r3, .int .i64 r4, .int .i64 r5, .int .i64 r6, .int .i64 r7, .string nm, .slice Az nz cz, .bool s1, .int .i64 s2, .int .i64 s3] 35)) wr.heap.size 35 #[.string rn, .int .i64 r1, .int .i64 r2, .int .i64 r3, .int .i64 r4, .int .i64 r5, .int .i64 r6, .int .i64 r7, .string nm, .slice Az nz cz, .bool s1, .int .i64 s2, .int .i64 s3]) := Blk.new_ _ _ _ _ rfl
        have HBx := Lib.hid (HB.out.alloc HB.out.size (.cells #[.string rn, .int .i64 r1, .int .i64 r2, .int .i64 r3, .int .i64 r4, .int .i64 r5, .int .i64 r6, .int .i64 r7, .string nm, .slice Az nz cz, .bool s1, .int .i64 s2, .int .i64 s3] 35))
        have hne1 : g8 ≠ wr.heap.size := by omega
        clear IP HB c0 c1 c2 c3 c4 c5 c6 c7 c8 c9 c10 c11 c12 f0 f1 p0 p1 lp
        generalize wr.heap.size = bu at *
        generalize wr.alloc (.cells #[.string rn, .int .i64 r1, .int .i64 r2, .int .i64 r3, .int .i64 r4, .int .i64 r5, .int .i64 r6, .int .i64 r7, .string nm, .slice Az nz cz, .bool s1, .int .i64 s2, .int .i64 s3] 35) = wx at *
        have hne2 := hne1.symm
        have f0 := Blk.frozen IP1.out (j * 2)
        have f1 := Blk.frozen IP1.out (j * 2 + 1)
        obtain ⟨p0, p1⟩ := IP1.out.cells (k := j) (by rw [Pl.smix_len]; omega)
        have lp := Blk.lt IP1.out
        have lb := BX1.out.lt
        have b10 := BX1.out.cell 10
        have b11 := BX1.out.cell 11
        have IP2 := Lib.hid (IP1.out.set2 j s1 s2)
        rw [HSM.out] at IP2
        have HB2 := Lib.hid (((HBx.out.setCell (p := ⟨g8, j * 2, none⟩) HG8.out (.bool s1)).setCell (p := ⟨g8, j * 2 + 1, none⟩) HG8.out (.int .i64 s2)).drew)
        clear HBx
        go_region
        go_wp2_with fail
        go_roundw
        case rel => exact ⟨j + 1, by omega, by go_num, IP2, HB2⟩
        case measure => simp [intOf]; omega
      · have : n = j := by omega
        subst this
        have HSA : Hid (Pl.smix (plus l) n = Pl.pathAt (plus l) []) := by
          have := Pl.smix_all (plus l)
          rw [LP.out] at this
          exact this
        obtain ⟨⟨a0, b0⟩, ⟨a1, b1⟩, ⟨a2, b2⟩, hx3⟩ := Pl.smix_three (plus l) n
        have HX3 := Lib.hid hx3
        have hIP := IP.out
        rw [hx3] at hIP
        have pc : ∀ k, wr.cell? ⟨g8, k, none⟩ = #[.bool a0, .int .i64 b0, .bool a1, .int .i64 b1, .bool a2, .int .i64 b2][k]? := fun k => Blk.cell hIP k
        have lp := Blk.lt IP.out
        clear hx3 hIP
        go_wp2_with fail
        have OW0 : Hid ((wr.alloc (.cells #[.bool a0, .int .i64 b0, .bool a1, .int .i64 b1, .bool a2, .int .i64 b2, .int .i64 0, .slice none 0 0] 77)).ownsRow w.heap.size 77 8 (.slice (some ⟨wr.heap.size, 0, none⟩) 1 1) 1 (ways [⟨(a0, b0), (a1, b1), (a2, b2), 0, none, 0, []⟩])) := by
          have := World.ownsRow_lit (e := 77) (size := 8) (base := w.heap.size) wr #[.bool a0, .int .i64 b0, .bool a1, .int .i64 b1, .bool a2, .int .i64 b2, .int .i64 0, .slice none 0 0] 1 HB.out.size (by unfold maxLen; omega) (by simp)
          exact this
        have HWY0 : Hid (∀ x ∈ [(⟨(a0, b0), (a1, b1), (a2, b2), 0, none, 0, []⟩ : MW)], WyIn w.heap.size (wr.alloc (.cells #[.bool a0, .int .i64 b0, .bool a1, .int .i64 b1, .bool a2, .int .i64 b2, .int .i64 0, .slice none 0 0] 77)) x) := fun x hx => by
          rw [List.mem_singleton.1 hx]
          exact ⟨World.ownsRow_nil _ _ _ _, fun r hr => absurd hr (by simp)⟩
        have HWI0 : Hid (Pl.WInv (plus l) ds 0 ([(⟨(a0, b0), (a1, b1), (a2, b2), 0, none, 0, []⟩ : MW)].map MW.way)) := Pl.winv_zero _ rfl rfl (by rw [← HSA.out, HX3.out]; rfl)
        have HB0 := Lib.hid (HB.out.alloc HB.out.size (.cells #[.bool a0, .int .i64 b0, .bool a1, .int .i64 b1, .bool a2, .int .i64 b2, .int .i64 0, .slice none 0 0] 77))
        clear pc lp IP HB HSA HX3
        generalize wr.alloc (.cells #[.bool a0, .int .i64 b0, .bool a1, .int .i64 b1, .bool a2, .int .i64 b2, .int .i64 0, .slice none 0 0] 77) = wk0 at *
        generalize hW0 : [(⟨(a0, b0), (a1, b1), (a2, b2), 0, none, 0, []⟩ : MW)] = W0 at *
        have HW0L : W0.length = 1 := by rw [← hW0]; rfl
        clear hW0
        go_loopw [11, 60] (fun v i wr => ∃ (k : Nat) (Aw : Option Addr) (cw : Nat) (W : List MW), k ≤ m ∧ i = .int .i64 k ∧ v = .slice Aw W.length cw ∧ Hid (W.length ≤ 8 ^ k) ∧ Hid (wr.ownsRow w.heap.size 77 8 (.slice Aw W.length cw) W.length (ways W)) ∧ Hid (∀ x ∈ W, WyIn w.heap.size wr x) ∧ Hid (Pl.WInv (plus l) ds k (W.map MW.way)) ∧ Hid (Below w.heap.size w wr)) (fun _ i _ => m - (intOf i).toNat)
        case atStart => exact ⟨0, _, _, W0, Nat.zero_le _, rfl, by rw [HW0L], by show _ ≤ _; rw [HW0L]; exact Nat.le_refl _, by rw [HW0L]; exact OW0, HWY0, HWI0, HB0⟩
        case round =>
          clear OW0 HWY0 HWI0 HB0 HW0L
          obtain ⟨k, Aw, cw, W, hk, rfl, rfl, HWL, OW, HWY, HWI, HB⟩ := hrel
          by_cases hlt : k < m
          · obtain ⟨b, o, rfl, hl1, hc⟩ := (HRD.out.go HB.out).int_at hlt
            have HDK : Hid (ds.getD k 0 = ds[k]) := by show _ = _; rw [List.getD_eq_getElem?_getD, List.getElem?_eq_getElem hl1]; rfl
            generalize ds[k] = d at *
            have k0 : (0 : Int) ≤ (k : Int) := by omega
            have k1 : (k : Int) < (m : Int) := by omega
            have hmm : ∀ w : World, (Instr.makeMap 79 none).run Try.prog w = .ok (.map (some w.heap.size)) (w.alloc (.map #[] 0)) := fun w => run_makeMap _ w
            go_wp2_with fail
            have OM0 : Hid ((wr.alloc (.map #[] 0)).ownsMap Try.prog 75 (plainElem Try.prog 3) wr.heap.size 0 (.map [] : DataW Unit)) := World.ownsMap_made _ _ _ _
            have HB0 : Hid (Below wr.heap.size wr (wr.alloc (.map #[] 0))) := (Below.refl _ _).alloc (Nat.le_refl _) _
            have hW7 : W.length ≤ 2097152 := Nat.le_trans HWL.out (Nat.le_trans (Nat.pow_le_pow_right (by decide) (by omega : k ≤ 7)) (by decide))
            clear hmm
            generalize wr.alloc (.map #[] 0) = wm at *
            obtain ⟨gM, hgM⟩ : ∃ g, g = wr.heap.size := ⟨_, rfl⟩
            have HGM := Lib.hid hgM
            rw [← hgM] at OM0 HB0 ⊢
            clear hgM
            generalize wr = wk at *
            go_loopw [15, 67] (fun vn i wr => ∃ (t : Nat) (An : Option Addr) (cn : Nat) (N : List MW) (D : DataW Unit), t ≤ W.length ∧ i = .int .i64 t ∧ vn = .slice An N.length cn ∧ Hid (N.length ≤ 8 * t) ∧ Hid (wr.ownsRow (gM + 1) 77 8 (.slice An N.length cn) N.length (ways N)) ∧ Hid (wr.ownsMap Try.prog 75 (plainElem Try.prog 3) gM N.length D) ∧ Hid (MapOf D (N.map MW.way)) ∧ Hid (∀ x ∈ N, WyIn w.heap.size wr x) ∧ Hid (Pl.Cov (plus l) ds k ((W.take t).map MW.way) (N.map MW.way)) ∧ Hid (Below gM wk wr)) (fun _ i _ => W.length - (intOf i).toNat)
            case atStart => exact ⟨0, none, 0, [], .map [], Nat.zero_le _, rfl, rfl, Nat.le_refl _, World.ownsRow_nil _ _ _ _, OM0, mapOf_nil, fun x hx => absurd hx (by simp), Pl.cov_nil _ _ _, HB0⟩
            case round =>
              clear OM0 HB0
              obtain ⟨t, An, cn, N, D, ht, rfl, rfl, HNL, ON, OM, HMO, HNY, HCV, HBK⟩ := hrel
              by_cases htl : t < W.length
              · have HBKW : Hid (Below wk.heap.size wk wr) := by show Below _ _ _; rw [← HGM.out]; exact HBK.out
                obtain ⟨bw, ow, rfl, hbw, hl2, wc⟩ := (Reads.of_own (own_go OW.out HBKW.out)).way_at htl
                have hyw : WyIn w.heap.size wr W[t] := (HWY.out _ (List.getElem_mem hl2)).go HBKW.out
                have hiw : Pl.IsWay (plus l) ds k W[t].way := HWI.out.1 _ (List.mem_map.2 ⟨_, List.getElem_mem hl2, rfl⟩)
                have HTK : Hid ((W.take (t + 1)).map MW.way = (W.take t).map MW.way ++ [W[t].way]) := by show _ = _; rw [List.take_succ_eq_append_getElem hl2, List.map_append]; rfl
                generalize W[t] = u at *
                have HYW := Lib.hid hyw
                have HIW := Lib.hid hiw
                clear hyw hiw hl2
                have hsz := HBK.out.size
                have HBN := Lib.hid (HB.out.trans (HBKW.out.mono HB.out.size))
                obtain ⟨⟨p0, q0⟩, ⟨p1, q1⟩, ⟨p2, q2⟩, uc, uA, ucp, rows⟩ := u
                have z0 := wc 0 _ rfl
                rw [Nat.add_zero] at z0
                have z1 := wc 1 _ rfl
                have z2 := wc 2 _ rfl
                have z3 := wc 3 _ rfl
                have z4 := wc 4 _ rfl
                have z5 := wc 5 _ rfl
                have z6 := wc 6 _ rfl
                have z7 := wc 7 _ rfl
                clear wc
                have t0 : (0 : Int) ≤ (t : Int) := by omega
                have t1 : (t : Int) < (W.length : Int) := by omega
                have AL : Hid (Below wr.heap.size wr (wr.alloc (.cells #[.bool p0, .int .i64 q0, .bool p1, .int .i64 q1, .bool p2, .int .i64 q2, .int .i64 uc, .slice uA rows.length ucp] 77))) := (Below.refl _ _).alloc (Nat.le_refl _) _
                have HFX := Lib.hid (HFO.out k ⟨(p0, q0), (p1, q1), (p2, q2), uc, uA, ucp, rows⟩ d (wr.alloc (.cells #[.bool p0, .int .i64 q0, .bool p1, .int .i64 q1, .bool p2, .int .i64 q2, .int .i64 uc, .slice uA rows.length ucp] 77)) (by rw [LD.out]; exact hlt) HDK.out HIW.out (HYW.out.go AL.out) (HBN.out.alloc HBN.out.size _).size (H.out.go (HBN.out.alloc HBN.out.size _)))
                unfold vWay at HFX
                simp only at HFX
                go_wp2_with fail
                refine HFX.out.mono ?_
                rintro e w4 ⟨AF, cF, X, rfl, hX8, hown, hxin, hfok, hb⟩
                have HBF := Lib.hid (AL.out.trans (hb.mono AL.out.size))
                have HXI := Lib.hid hxin
                have HFK := Lib.hid hfok
                have OX := Lib.hid (own_base hown (show wr.heap.size ≤ _ by simp))
                have ON4 := Lib.hid (own_go ON.out HBF.out)
                have OM4 : Hid (w4.ownsMap Try.prog 75 (plainElem Try.prog 3) gM N.length D) := OM.out.kept (only_of_below HBF.out none) (by simp)
                have HNY4 : Hid (∀ x ∈ N, WyIn w.heap.size w4 x) := fun x hx => (HNY.out x hx).go HBF.out
                have HBK4 := Lib.hid (HBK.out.trans (HBF.out.mono (by rw [HGM.out]; exact hsz)))
                have HSEP : Hid (∀ g, (Value.slice An N.length cn).ownBlock = some g → (Value.slice AF X.length cF).ownBlock ≠ some g) := fun g hg hf => by
                  have h1 := ON.out.lt g hg
                  have h2 := OX.out.lt g hf
                  omega
                have HGMW : Hid (gM < wr.heap.size) := OM.out.lt
                clear ON OM HNY HBK HBKW HBN AL HFX hown hxin hfok hb HYW z0 z1 z2 z3 z4 z5 z6 z7
                go_wp2_with fail
                have HRB : Hid (wr.heap.size ≤ w4.heap.size) := HBF.out.size
                have HGBF : Hid (gM < wr.heap.size) := HGMW.out
                obtain ⟨bF, hbF⟩ : ∃ g, g = wr.heap.size := ⟨_, rfl⟩
                rw [← hbF] at OX HGBF ⊢
                clear hbF HRB HBF HGMW
                generalize hUW : MW.way ⟨(p0, q0), (p1, q1), (p2, q2), uc, uA, ucp, rows⟩ = UW at *
                clear hUW
                go_loopw [15, 76] (fun vn i wr => ∃ (s : Nat) (An : Option Addr) (cn : Nat) (N' : List MW) (D : DataW Unit), s ≤ X.length ∧ i = .int .i64 s ∧ vn = .slice An N'.length cn ∧ Hid (N'.length ≤ N.length + s) ∧ Hid (wr.ownsRow (gM + 1) 77 8 (.slice An N'.length cn) N'.length (ways N')) ∧ Hid (wr.ownsMap Try.prog 75 (plainElem Try.prog 3) gM N'.length D) ∧ Hid (MapOf D (N'.map MW.way)) ∧ Hid (∀ x ∈ N', WyIn w.heap.size wr x) ∧ Hid (∀ x ∈ X, WyIn w.heap.size wr x) ∧ Hid (wr.ownsRow bF 77 8 (.slice AF X.length cF) X.length (ways X)) ∧ Hid (∀ g, (Value.slice An N'.length cn).ownBlock = some g → (Value.slice AF X.length cF).ownBlock ≠ some g) ∧ Hid (Pl.Kept (N'.map MW.way) (N.map MW.way ++ (X.take s).map MW.way)) ∧ Hid (Below gM wk wr)) (fun _ i _ => X.length - (intOf i).toNat)
                case atStart => exact ⟨0, An, cn, N, D, Nat.zero_le _, rfl, rfl, Nat.le_refl _, ON4, OM4, HMO, HNY4, HXI, OX, HSEP, Pl.kept_refl _, HBK4⟩
                case round =>
                  clear ON4 OM4 HMO HNY4 HXI OX HSEP HBK4
                  obtain ⟨s, An, cn, N', D, hs, rfl, rfl, HNL2, ON, OM, HMO, HNY, HXI, OX, HSEP, HKP, HBK⟩ := hrel
                  by_cases hsl : s < X.length
                  · obtain ⟨bx, ox, hAF, hbx, hl2, wc⟩ := (Reads.of_own OX.out).way_at hsl
                    have hyx := HXI.out _ (List.getElem_mem hl2)
                    have hfx : Pl.IsWay (plus l) ds (k + 1) X[s].way := HFK.out.1 _ (List.mem_map.2 ⟨_, List.getElem_mem hl2, rfl⟩)
                    have HTK2 : Hid ((X.take (s + 1)).map MW.way = (X.take s).map MW.way ++ [X[s].way]) := by show _ = _; rw [List.take_succ_eq_append_getElem hl2, List.map_append]; rfl
                    generalize X[s] = u at *
                    have HYX := Lib.hid hyx
                    have HFX := Lib.hid hfx
                    have HP3 : Hid (Pl3 u.way.at_) := by
                      show Pl3 _
                      rw [hfx.2.2.1]
                      obtain ⟨y0, y1, y2, hy⟩ : ∃ y0 y1 y2, Pl.pathAt (plus l) u.way.pows = [y0, y1, y2] := ⟨_, _, _, rfl⟩
                      have hb := fun i => Pl.pathAt_bd HOK.out.hl HOK.out.hu hfx.1 i
                      rw [hy] at hb ⊢
                      exact ⟨y0, y1, y2, rfl, hb 0, hb 1, hb 2⟩
                    have hucb : -9000000000000 ≤ u.cost ∧ u.cost ≤ 9000000000000 := by
                      have h1 := Pl.path_bd HOK.out.hl HOK.out.hu (k + 1) u.way.pows hfx.2.1 hfx.1
                      rw [← hfx.2.2.2] at h1
                      have e : u.way.cost = u.cost := rfl
                      rw [e] at h1
                      push_cast at h1
                      omega
                    clear hyx hfx hl2
                    obtain ⟨⟨p0, q0⟩, ⟨p1, q1⟩, ⟨p2, q2⟩, uc, uA, ucp, rows⟩ := u
                    simp only at hucb
                    have hq3 : (0 ≤ q0 ∧ q0 ≤ 200000) ∧ (0 ≤ q1 ∧ q1 ≤ 200000) ∧ (0 ≤ q2 ∧ q2 ≤ 200000) := by
                      obtain ⟨x0, x1, x2, e, h0, h1, h2⟩ := HP3.out
                      have e' : [(p0, q0), (p1, q1), (p2, q2)] = [x0, x1, x2] := e
                      simp only [List.cons.injEq, and_true] at e'
                      obtain ⟨rfl, rfl, rfl⟩ := e'
                      exact ⟨h0, h1, h2⟩
                    have HKEY := keyOf_place p0 q0 p1 q1 p2 q2 (lit_wf hq3.1) (lit_wf hq3.2.1) (lit_wf hq3.2.2)
                    have z0 := wc 0 _ rfl
                    rw [Nat.add_zero] at z0
                    have z1 := wc 1 _ rfl
                    have z2 := wc 2 _ rfl
                    have z3 := wc 3 _ rfl
                    have z4 := wc 4 _ rfl
                    have z5 := wc 5 _ rfl
                    have z6 := wc 6 _ rfl
                    have z7 := wc 7 _ rfl
                    clear wc
                    have hAFB : Hid ((Value.slice AF X.length cF).ownBlock = some bx) := by show _ = _; rw [hAF]; rfl
                    have HOX := OX
                    have OXL := Lib.hid (OX.out.lt bx hAFB.out)
                    subst hAF
                    have s0 : (0 : Int) ≤ (s : Int) := by omega
                    have s1 : (s : Int) < (X.length : Int) := by omega
                    have hMO := HMO.out.2 [(p0, q0), (p1, q1), (p2, q2)] HP3.out
                    have HBX : Hid (Blk (wr.alloc (.cells #[.bool p0, .int .i64 q0, .bool p1, .int .i64 q1, .bool p2, .int .i64 q2, .int .i64 uc, .slice uA rows.length ucp] 77)) wr.heap.size 77 #[.bool p0, .int .i64 q0, .bool p1, .int .i64 q1, .bool p2, .int .i64 q2, .int .i64 uc, .slice uA rows.length ucp]) := Blk.new_ _ _ _ _ rfl
                    cases hi : Pl.idxAt (N'.map MW.way) [(p0, q0), (p1, q1), (p2, q2)] with
                    | none =>
                      rw [hi] at hMO
                      have hh : Maps.has D (kLit p0 q0 p1 q1 p2 q2) = false := hMO
                      have HGW : Hid (gM < wr.heap.size) := OM.out.lt
                      have hNb : N'.length ≤ 20000000 := by have := HNL.out; have := HNL2.out; omega
                      have AL : Hid (Below wr.heap.size wr (wr.alloc (.cells #[.bool p0, .int .i64 q0, .bool p1, .int .i64 q1, .bool p2, .int .i64 q2, .int .i64 uc, .slice uA rows.length ucp] 77))) := (Below.refl _ _).alloc (Nat.le_refl _) _
                      have ONA := Lib.hid (own_go ON.out AL.out)
                      have OMA := Lib.hid (OM.out.alloc (.cells #[.bool p0, .int .i64 q0, .bool p1, .int .i64 q1, .bool p2, .int .i64 q2, .int .i64 uc, .slice uA rows.length ucp] 77))
                      have hgn : Hid ((Value.slice An N'.length cn).ownBlock ≠ some gM) := fun e => by have := ON.out.lt _ e; omega
                      have hgs2 : (gM : Nat) + 1 ≤ wr.heap.size := HGW.out
                      go_wp2_with (first
                        | (at_lookup; go_must (refine wpList_lookup_own_ok_int _ rfl _ _ 79 rfl 75 3 .i64 place_keyed Try.underlying79 Try.underlying3 (zero_int _) gM N'.length D rfl OMA.out _ _ rfl HKEY ?_); intro cc hat hwc)
                        | (at_mapUpdate; go_must (refine wpList_mapUpdate_own _ rfl _ _ _ 79 rfl 75 3 place_keyed Try.underlying79 (plainElem Try.prog 3) gM N'.length D rfl OMA.out (by unfold maxLen; omega) _ _ (kLit p0 q0 p1 q1 p2 q2) rfl rfl HKEY (.lit (.int .i64 (N'.length : Int))) [] (plainElem_int Try.underlying3 (len_wf (by omega))) ?_); intro w5 hm5 hg5; have HM5 := Lib.hid hm5; have HG5 := Lib.hid hg5; have BX5 := Lib.hid (HBX.out.grown hg5 (fun e => by injection e with e; omega)); have k5 := BX5.out.cell; have ON5 := Lib.hid (ONA.out.kept hg5 (.inr hgn.out)); have hs5 := hg5.size; clear hm5 hg5)
                        | (at_builtin; go_must (refine wpList_append_any _ rfl (.tmp 95) (.tmp 97) 78 rfl (gM + 1) 77 i0 _ 8 80 Try.underlying78 hi0 hz0 hz1 hz2 rfl (by decide) (.slice An N'.length cn) N'.length (ways N') rfl (own_go ON5.out ((Below.refl w5.heap.size w5).alloc (Nat.le_refl _) (.cells #[.bool p0, .int .i64 q0, .bool p1, .int .i64 q1, .bool p2, .int .i64 q2, .int .i64 uc, .slice uA rows.length ucp] 77))) (w5.heap.size + 1) (some ⟨w5.heap.size, 0, none⟩) 1 1 [.bool p0, .int .i64 q0, .bool p1, .int .i64 q1, .bool p2, .int .i64 q2, .int .i64 uc, .slice uA rows.length ucp] rfl (by have := blk_reads1 (size := 8) (Blk.new_ w5 w5.heap.size 77 #[.bool p0, .int .i64 q0, .bool p1, .int .i64 q1, .bool p2, .int .i64 q2, .int .i64 uc, .slice uA rows.length ucp] rfl) rfl; simpa using this) (by simp [Value.oneCell']) (by unfold maxLen; omega) (by omega) (by simp at hs5 ⊢; omega) ?_); intro v' w6 hown6 hg6 hloc6; obtain ⟨A6, c6, rfl, _⟩ := own_slice hown6; have HO6 := Lib.hid hown6; have HG6 := Lib.hid hg6; have HL6 := Lib.hid hloc6; clear hown6 hg6 hloc6))
                      have AL5 : Hid (Below w5.heap.size w5 (w5.alloc (.cells #[.bool p0, .int .i64 q0, .bool p1, .int .i64 q1, .bool p2, .int .i64 q2, .int .i64 uc, .slice uA rows.length ucp] 77))) := (Below.refl _ _).alloc (Nat.le_refl _) _
                      have ON5B := Lib.hid (own_go ON5.out AL5.out)
                      have HNM : Hid (∀ g, some gM = some g → ∀ t cs, Blk (wr.alloc (.cells #[.bool p0, .int .i64 q0, .bool p1, .int .i64 q1, .bool p2, .int .i64 q2, .int .i64 uc, .slice uA rows.length ucp] 77)) g t cs → t ≠ 23 ∧ t ≠ 3) := fun g hg t cs hb => by
                        injection hg with hg
                        subst hg
                        exact absurd hb (map_no_blk OMA.out t cs)
                      have HTY : Hid (∀ g, (Value.slice An N'.length cn).ownBlock = some g → ∀ t cs, Blk (w5.alloc (.cells #[.bool p0, .int .i64 q0, .bool p1, .int .i64 q1, .bool p2, .int .i64 q2, .int .i64 uc, .slice uA rows.length ucp] 77)) g t cs → t ≠ 23 ∧ t ≠ 3) := fun g hg t cs hb => by
                        obtain ⟨cs', hb'⟩ := own_type ON5B.out g hg
                        rw [blk_type hb' hb]
                        exact ⟨by decide, by decide⟩
                      have HWYT : Hid (∀ x, WyIn w.heap.size wr x → WyIn w.heap.size w6 x) := fun x hx => (((hx.go AL.out).kept HG5.out HNM.out).go AL5.out).kept HG6.out HTY.out
                      have OX6 : Hid (w6.ownsRow bF 77 8 (.slice (some ⟨bx, ox, none⟩) X.length cF) X.length (ways X)) :=
                        (own_go ((own_go OX.out AL.out).kept HG5.out (.inr (fun e => by have h1 := OXL.out.1; rw [hAFB.out] at e; injection e with e; have := HGBF.out; omega))) AL5.out).kept HG6.out (.inr (fun e => HSEP.out bx (by rw [← e]; exact hAFB.out) hAFB.out))
                      have HM6 : Hid (w6.ownsMap Try.prog 75 (plainElem Try.prog 3) gM (N'.length + 1) (D.put (kLit p0 q0 p1 q1 p2 q2) (.lit (.int .i64 (N'.length : Int))))) := (HM5.out.alloc _).kept HG6.out (Ne.symm hgn.out)
                      have HB6 : Hid (Below gM wk w6) := by
                        have h1 := HBK.out.alloc (o := (.cells #[.bool p0, .int .i64 q0, .bool p1, .int .i64 q1, .bool p2, .int .i64 q2, .int .i64 uc, .slice uA rows.length ucp] 77)) (by have := HGW.out; omega)
                        have h2 := h1.grown HG5.out (by simp; omega) (fun g hg => by injection hg with hg; omega)
                        have h3 := h2.alloc (o := (.cells #[.bool p0, .int .i64 q0, .bool p1, .int .i64 q1, .bool p2, .int .i64 q2, .int .i64 uc, .slice uA rows.length ucp] 77)) (by simp at hs5; omega)
                        exact h3.grown HG6.out (by simp at hs5 ⊢; omega) (fun g hg => by have := ON.out.lt g hg; omega)
                      have HMO6 : Hid (MapOf (D.put (kLit p0 q0 p1 q1 p2 q2) (.lit (.int .i64 (N'.length : Int)))) ((N' ++ [(⟨(p0, q0), (p1, q1), (p2, q2), uc, uA, ucp, rows⟩ : MW)]).map MW.way)) := by
                        have := mapOf_put (x := MW.way ⟨(p0, q0), (p1, q1), (p2, q2), uc, uA, ucp, rows⟩) HMO.out HP3.out hi
                        rw [List.length_map] at this
                        rw [List.map_append]
                        exact this
                      have HKP6 : Hid (Pl.Kept ((N' ++ [(⟨(p0, q0), (p1, q1), (p2, q2), uc, uA, ucp, rows⟩ : MW)]).map MW.way) (N.map MW.way ++ (X.take (s + 1)).map MW.way)) := by
                        have := Pl.kept_snoc HKP.out (MW.way ⟨(p0, q0), (p1, q1), (p2, q2), uc, uA, ucp, rows⟩)
                        have hi2 : (N'.map MW.way).findIdx? (fun y => y.at_ == (MW.way ⟨(p0, q0), (p1, q1), (p2, q2), uc, uA, ucp, rows⟩).at_) = none := hi
                        rw [Pl.keepW_none hi2, List.append_assoc, ← HTK2.out] at this
                        rw [List.map_append]
                        exact this
                      have hAN : (N' ++ [(⟨(p0, q0), (p1, q1), (p2, q2), uc, uA, ucp, rows⟩ : MW)]).length = N'.length + 1 := by simp
                      go_roundw
                      case rel =>
                        refine ⟨s + 1, A6, c6, N' ++ [⟨(p0, q0), (p1, q1), (p2, q2), uc, uA, ucp, rows⟩], D.put (kLit p0 q0 p1 q1 p2 q2) (.lit (.int .i64 (N'.length : Int))), by omega, by go_num, by rw [hAN], by show _ ≤ _; rw [hAN]; have := HNL2.out; omega, ?_, by rw [hAN]; exact HM6, HMO6, fun x hx => ?_, fun x hx => HWYT.out x (HXI.out x hx), OX6, fun g hg hf => ?_, HKP6, HB6⟩
                        · rw [hAN, ways_snoc]; exact HO6.out
                        · rcases List.mem_append.1 hx with hx | hx
                          · exact HWYT.out x (HNY.out x hx)
                          · rw [List.mem_singleton.1 hx]; exact HWYT.out _ HYX.out
                        · rw [hAN] at hg
                          rw [hAFB.out] at hf
                          injection hf with hf
                          rcases HL6.out with e | e
                          · exact HSEP.out g (by rw [← e]; exact hg) (by rw [hAFB.out, hf])
                          · rw [e] at hg
                            injection hg with hg
                            have h1 := OXL.out.2
                            simp at hs5 hg
                            omega
                      case measure => simp [intOf]; omega
                    | some iN =>
                      rw [hi] at hMO
                      obtain ⟨hh1, hat1⟩ := hMO
                      have hh : Maps.has D (kLit p0 q0 p1 q1 p2 q2) = true := hh1
                      have hat0 : D.atKey (kLit p0 q0 p1 q1 p2 q2) (.lit (.int .i64 0)) = .lit (.int .i64 iN) := hat1 _
                      obtain ⟨hiN, hiA⟩ := Pl.idxAt_lt hi
                      rw [List.length_map] at hiN
                      have HGW : Hid (gM < wr.heap.size) := OM.out.lt
                      have hNb : N'.length ≤ 20000000 := by have := HNL.out; have := HNL2.out; omega
                      have AL : Hid (Below wr.heap.size wr (wr.alloc (.cells #[.bool p0, .int .i64 q0, .bool p1, .int .i64 q1, .bool p2, .int .i64 q2, .int .i64 uc, .slice uA rows.length ucp] 77))) := (Below.refl _ _).alloc (Nat.le_refl _) _
                      have OMA := Lib.hid (OM.out.alloc (.cells #[.bool p0, .int .i64 q0, .bool p1, .int .i64 q1, .bool p2, .int .i64 q2, .int .i64 uc, .slice uA rows.length ucp] 77))
                      obtain ⟨g, cap, hv, hgb, hgl⟩ := ON.out.form (by omega)
                      injection hv with hv1 _ hv3
                      subst hv1 hv3
                      have ONA := Lib.hid (own_go ON.out AL.out)
                      obtain ⟨b3, o3, e3, _, hl3, nc⟩ := (Reads.of_own ONA.out).way_at hiN
                      injection e3 with e3
                      injection e3 with e3 e4
                      subst e3 e4
                      simp only [Nat.zero_add] at nc
                      have HGC : Hid (((N'.map MW.way).getD iN ⟨[], 0, []⟩).cost = (N'[iN]).cost) := by show _ = _; rw [List.getD_eq_getElem?_getD, List.getElem?_map, List.getElem?_eq_getElem hl3]; rfl
                      clear hh1 hat1 hiA
                      go_wp2_with (at_lookup; go_must (refine wpList_lookup_own_ok_int _ rfl _ _ 79 rfl 75 3 .i64 place_keyed Try.underlying79 Try.underlying3 (zero_int _) gM N'.length D rfl OMA.out _ _ rfl HKEY ?_); intro cc hat hwc)
                      obtain rfl : cc = (iN : Int) := by
                        rw [hat0] at hat
                        injection hat with hat
                        injection hat with _ hat
                        exact hat.symm
                      have OXA := Lib.hid (own_go OX.out AL.out)
                      have HNYA : Hid (∀ x ∈ N', WyIn w.heap.size (wr.alloc (.cells #[.bool p0, .int .i64 q0, .bool p1, .int .i64 q1, .bool p2, .int .i64 q2, .int .i64 uc, .slice uA rows.length ucp] 77)) x) := fun x hx => (HNY.out x hx).go AL.out
                      have HXIA : Hid (∀ x ∈ X, WyIn w.heap.size (wr.alloc (.cells #[.bool p0, .int .i64 q0, .bool p1, .int .i64 q1, .bool p2, .int .i64 q2, .int .i64 uc, .slice uA rows.length ucp] 77)) x) := fun x hx => (HXI.out x hx).go AL.out
                      have HYXA := Lib.hid (HYX.out.go AL.out)
                      have HBKA : Hid (Below gM wk (wr.alloc (.cells #[.bool p0, .int .i64 q0, .bool p1, .int .i64 q1, .bool p2, .int .i64 q2, .int .i64 uc, .slice uA rows.length ucp] 77))) := HBK.out.alloc (by have := HGW.out; omega) _
                      have hbw : g ≠ wr.heap.size := by omega
                      clear ON OM OX HNY HXI HYX HBK AL z0 z1 z2 z3 z4 z5 z6 z7 hat hat0 hwc HOX
                      generalize wr.alloc (.cells #[.bool p0, .int .i64 q0, .bool p1, .int .i64 q1, .bool p2, .int .i64 q2, .int .i64 uc, .slice uA rows.length ucp] 77) = wx at *
                      generalize wr.heap.size = bu at *
                      have cNe := nc 6 _ rfl
                      have i0 : (0 : Int) ≤ (iN : Int) := by omega
                      have i1 : (iN : Int) < (N'.length : Int) := by omega
                      have r6 := Wd.cell (HBX.out.cell 6)
                      have r7 := Wd.cell cNe
                      generalize (N'[iN]).cost = cN at *
                      by_cases hcc : uc < cN
                      · refine wp_region_wd (by kernel_rfl) (by kernel_rfl) ?_
                        repeat (go_big_quiet_step (fail))
                        refine wpQuiet_nil ?_
                        rintro _ ⟨w6, rfl⟩
                        have ONB := Lib.hid (own_go ONA.out w6.ok)
                        have OMB : Hid (w6.val.ownsMap Try.prog 75 (plainElem Try.prog 3) gM N'.length D) := OMA.out.kept (only_of_below w6.ok none) (by simp)
                        have OXB := Lib.hid (own_go OXA.out w6.ok)
                        have HBXB := Lib.hid (HBX.out.go w6.ok)
                        have HNYB : Hid (∀ x ∈ N', WyIn w.heap.size w6.val x) := fun x hx => (HNYA.out x hx).go w6.ok
                        have HXIB : Hid (∀ x ∈ X, WyIn w.heap.size w6.val x) := fun x hx => (HXIA.out x hx).go w6.ok
                        have HYXB := Lib.hid (HYXA.out.go w6.ok)
                        have HBKB := Lib.hid (HBKA.out.trans (w6.ok.mono (by rw [HGM.out]; exact HBKA.out.size)))
                        clear r6 r7 ONA OMA OXA HBX HNYA HXIA HYXA HBKA cNe nc
                        generalize w6.val = wx at *
                        obtain ⟨b3, o3, e3, _, hl3, nc⟩ := (Reads.of_own ONB.out).way_at hiN
                        injection e3 with e3
                        injection e3 with e3 e4
                        subst e3 e4
                        simp only [Nat.zero_add] at nc
                        have n0 := nc 0 _ rfl
                        rw [Nat.add_zero] at n0
                        have n1 := nc 1 _ rfl
                        have n2 := nc 2 _ rfl
                        have n3 := nc 3 _ rfl
                        have n4 := nc 4 _ rfl
                        have n5 := nc 5 _ rfl
                        have n6 := nc 6 _ rfl
                        have n7 := nc 7 _ rfl
                        have fg := World.ownsRow.frozenAt ONB.out
                        have lg := (ONB.out.lt g rfl).2
                        have k5 := HBXB.out.cell
                        clear nc
                        have HON := Lib.hid (own_setWay ONB.out iN hiN ⟨(p0, q0), (p1, q1), (p2, q2), uc, uA, ucp, rows⟩)
                        have HGR : Hid (wx.grownBy ((((((((wx.setCell ⟨g, iN * 8, none⟩ (.bool p0)).setCell ⟨g, iN * 8 + 1, none⟩ (.int .i64 q0)).setCell ⟨g, iN * 8 + 2, none⟩ (.bool p1)).setCell ⟨g, iN * 8 + 3, none⟩ (.int .i64 q1)).setCell ⟨g, iN * 8 + 4, none⟩ (.bool p2)).setCell ⟨g, iN * 8 + 5, none⟩ (.int .i64 q2)).setCell ⟨g, iN * 8 + 6, none⟩ (.int .i64 uc)).setCell ⟨g, iN * 8 + 7, none⟩ (.slice uA rows.length ucp)) (some g)) := grown_setWay _ _ _ _ _ _ _ _ _ _ _
                        have HTY : Hid (∀ g', some g = some g' → ∀ t cs, Blk wx g' t cs → t ≠ 23 ∧ t ≠ 3) := fun g' hg t cs hb => by
                          obtain ⟨cs', hb'⟩ := own_type ONB.out g' hg
                          rw [blk_type hb' hb]
                          exact ⟨by decide, by decide⟩
                        have HNS : Hid ((N'.set iN (⟨(p0, q0), (p1, q1), (p2, q2), uc, uA, ucp, rows⟩ : MW)).length = N'.length) := List.length_set
                        have HMP : Hid ((N'.set iN (⟨(p0, q0), (p1, q1), (p2, q2), uc, uA, ucp, rows⟩ : MW)).map MW.way = (N'.map MW.way).set iN (MW.way ⟨(p0, q0), (p1, q1), (p2, q2), uc, uA, ucp, rows⟩)) := List.map_set
                        have HMO6 : Hid (MapOf D ((N'.set iN (⟨(p0, q0), (p1, q1), (p2, q2), uc, uA, ucp, rows⟩ : MW)).map MW.way)) := by
                          show MapOf _ _
                          rw [HMP.out]
                          exact mapOf_set (x := MW.way ⟨(p0, q0), (p1, q1), (p2, q2), uc, uA, ucp, rows⟩) HMO.out hi
                        have HKP6 : Hid (Pl.Kept ((N'.set iN (⟨(p0, q0), (p1, q1), (p2, q2), uc, uA, ucp, rows⟩ : MW)).map MW.way) (N.map MW.way ++ (X.take (s + 1)).map MW.way)) := by
                          have := Pl.kept_snoc HKP.out (MW.way ⟨(p0, q0), (p1, q1), (p2, q2), uc, uA, ucp, rows⟩)
                          have hi2 : (N'.map MW.way).findIdx? (fun y => y.at_ == (MW.way ⟨(p0, q0), (p1, q1), (p2, q2), uc, uA, ucp, rows⟩).at_) = some iN := hi
                          rw [Pl.keepW_some hi2, HGC.out, if_pos (show (MW.way ⟨(p0, q0), (p1, q1), (p2, q2), uc, uA, ucp, rows⟩).cost < cN from hcc), List.append_assoc, ← HTK2.out] at this
                          show Pl.Kept _ _
                          rw [HMP.out]
                          exact this
                        have HOM6 := Lib.hid (OMB.out.kept HGR.out (by intro e; injection e with e; omega))
                        have HOX6 := Lib.hid (OXB.out.kept HGR.out (.inr (HSEP.out g rfl)))
                        have HNY6 := Lib.hid (fun x hx => (HNYB.out x hx).kept HGR.out HTY.out)
                        have HXI6 := Lib.hid (fun x hx => (HXIB.out x hx).kept HGR.out HTY.out)
                        have HYX6 := Lib.hid (HYXB.out.kept HGR.out HTY.out)
                        have HBK6 := Lib.hid (HBKB.out.grown HGR.out (by omega) (fun j hj => by injection hj with hj; omega))
                        go_wp2_with fail
                        go_roundw
                        case rel =>
                          refine ⟨s + 1, some ⟨g, 0, none⟩, cn, N'.set iN ⟨(p0, q0), (p1, q1), (p2, q2), uc, uA, ucp, rows⟩, D, by omega, by go_num, by rw [HNS.out], by show _ ≤ _; rw [HNS.out]; have := HNL2.out; omega, by rw [HNS.out]; exact HON, by rw [HNS.out]; exact HOM6, HMO6, fun x hx => ?_, HXI6, HOX6, by rw [HNS.out]; exact HSEP, HKP6, HBK6⟩
                          rcases List.mem_or_eq_of_mem_set hx with hx | hx
                          · exact HNY6.out x hx
                          · rw [hx]; exact HYX6.out
                        case measure => simp [intOf]; omega
                      · refine wp_region_wd (by kernel_rfl) (by kernel_rfl) ?_
                        repeat (go_big_quiet_step (fail))
                        refine wpQuiet_nil ?_
                        rintro _ ⟨w6, rfl⟩
                        have ONB := Lib.hid (own_go ONA.out w6.ok)
                        have OMB : Hid (w6.val.ownsMap Try.prog 75 (plainElem Try.prog 3) gM N'.length D) := OMA.out.kept (only_of_below w6.ok none) (by simp)
                        have OXB := Lib.hid (own_go OXA.out w6.ok)
                        have HNYB : Hid (∀ x ∈ N', WyIn w.heap.size w6.val x) := fun x hx => (HNYA.out x hx).go w6.ok
                        have HXIB : Hid (∀ x ∈ X, WyIn w.heap.size w6.val x) := fun x hx => (HXIA.out x hx).go w6.ok
                        have HBKB := Lib.hid (HBKA.out.trans (w6.ok.mono (by rw [HGM.out]; exact HBKA.out.size)))
                        clear r6 r7 ONA OMA OXA HBX HNYA HXIA HYXA HBKA cNe nc
                        generalize w6.val = wx at *
                        have HKP6 : Hid (Pl.Kept (N'.map MW.way) (N.map MW.way ++ (X.take (s + 1)).map MW.way)) := by
                          have := Pl.kept_snoc HKP.out (MW.way ⟨(p0, q0), (p1, q1), (p2, q2), uc, uA, ucp, rows⟩)
                          have hi2 : (N'.map MW.way).findIdx? (fun y => y.at_ == (MW.way ⟨(p0, q0), (p1, q1), (p2, q2), uc, uA, ucp, rows⟩).at_) = some iN := hi
                          rw [Pl.keepW_some hi2, HGC.out, if_neg (show ¬ (MW.way ⟨(p0, q0), (p1, q1), (p2, q2), uc, uA, ucp, rows⟩).cost < cN from hcc), List.append_assoc, ← HTK2.out] at this
                          exact this
                        go_wp2_with fail
                        go_roundw
                        case rel => exact ⟨s + 1, some ⟨g, 0, none⟩, cn, N', D, by omega, by go_num, rfl, by show _ ≤ _; have := HNL2.out; omega, ONB, OMB, HMO, HNYB, HXIB, OXB, HSEP, HKP6, HBKB⟩
                        case measure => simp [intOf]; omega
                  · have : s = X.length := by omega
                    subst this
                    rw [List.take_length] at HKP
                    have HCV2 : Hid (Pl.Cov (plus l) ds k ((W.take (t + 1)).map MW.way) (N'.map MW.way)) := by
                      show Pl.Cov _ _ _ _ _
                      rw [HTK.out]
                      exact Pl.cov_step HCV.out HFK.out HKP.out
                    go_wp2_with fail
                    go_roundw
                    case rel => exact ⟨t + 1, An, cn, N', D, by omega, by go_num, rfl, by show _ ≤ _; have := HNL.out; have := HNL2.out; omega, ON, OM, HMO, HNY, HCV2, HBK⟩
                    case measure => simp [intOf]; omega
              · have : t = W.length := by omega
                subst this
                rw [List.take_length] at HCV
                have HBKW : Hid (Below wk.heap.size wk wr) := by show Below _ _ _; rw [← HGM.out]; exact HBK.out
                have HGW : Hid (w.heap.size ≤ gM) := by show _ ≤ _; rw [HGM.out]; exact HB.out.size
                go_wp2_with fail
                go_roundw
                case rel =>
                  exact ⟨k + 1, An, cn, N, by omega, by go_num, rfl, by show _ ≤ _; rw [Nat.pow_succ]; have := HNL.out; have := HWL.out; omega, own_base ON.out (by have := HGW.out; omega), HNY, Pl.winv_cov HOK.out.hl HOK.out.hu HWI.out HCV.out, HB.out.trans (HBKW.out.mono HB.out.size)⟩
                case measure => simp [intOf]; omega
          · have : m = k := by omega
            subst this
            have HWI2 : Hid (Pl.WInv (plus l) ds ds.length (W.map MW.way)) := by show Pl.WInv _ _ _ _; rw [LD.out]; exact HWI.out
            have hWb : W.length ≤ 16777216 := Nat.le_trans HWL.out (Nat.le_trans (Nat.pow_le_pow_right (by decide) hm8) (by decide))
            by_cases hW0 : W.length = 0
            · have hWN : W = [] := List.eq_nil_of_length_eq_zero hW0
              subst hWN
              go_wp2_with fail
              go_ret3
              exact ⟨none, 0, [], 0, 8, rfl, .inr (.inl ⟨HH0.out, rfl, rfl, rfl, Pl.best_none HWI2.out⟩), World.ownsRow_nil _ _ _ _, fun r hr => absurd hr (by simp), HB.out⟩
            · have hWl : 0 < W.length := by omega
              obtain ⟨bw, ow, rfl, hbw, hl2, wc⟩ := (Reads.of_own OW.out).way_at hWl
              have HX0 : Hid (W[0] ∈ W) := List.getElem_mem hl2
              generalize W[0] = x0 at *
              clear hl2
              obtain ⟨⟨p0, q0⟩, ⟨p1, q1⟩, ⟨p2, q2⟩, uc, uA, ucp, rows⟩ := x0
              simp only [Nat.zero_mul, Nat.add_zero] at wc
              have z0 := wc 0 _ rfl
              rw [Nat.add_zero] at z0
              have z1 := wc 1 _ rfl
              have z2 := wc 2 _ rfl
              have z3 := wc 3 _ rfl
              have z4 := wc 4 _ rfl
              have z5 := wc 5 _ rfl
              have z6 := wc 6 _ rfl
              have z7 := wc 7 _ rfl
              have hwz : (0 : Int) < (W.length : Int) := by omega
              have hwe : ((W.length : Int) == 0) = false := by
                rw [beq_eq_false_iff_ne]; omega
              have hwe2 : ¬ ((W.length : Int) = 0) := by omega
              clear wc
              go_wp2_with fail
              have BX : Hid (Blk (wr.alloc (.cells #[.bool p0, .int .i64 q0, .bool p1, .int .i64 q1, .bool p2, .int .i64 q2, .int .i64 uc, .slice uA rows.length ucp] 77)) wr.heap.size 77 (wcells ⟨(p0, q0), (p1, q1), (p2, q2), uc, uA, ucp, rows⟩).toArray) := Blk.new_ _ _ _ _ rfl
              have HB5 : Hid (Below wr.heap.size wr (wr.alloc (.cells #[.bool p0, .int .i64 q0, .bool p1, .int .i64 q1, .bool p2, .int .i64 q2, .int .i64 uc, .slice uA rows.length ucp] 77))) := (Below.refl _ _).alloc (Nat.le_refl _) _
              clear z0 z1 z2 z3 z4 z5 z6 z7
              generalize hX0 : (⟨(p0, q0), (p1, q1), (p2, q2), uc, uA, ucp, rows⟩ : MW) = x0 at *
              generalize wr.alloc (.cells #[.bool p0, .int .i64 q0, .bool p1, .int .i64 q1, .bool p2, .int .i64 q2, .int .i64 uc, .slice uA rows.length ucp] 77) = wx5 at *
              clear hX0
              generalize wr = wz at *
              obtain ⟨g22, hg22⟩ : ∃ g, g = wz.heap.size := ⟨_, rfl⟩
              have HG22 := Lib.hid hg22
              rw [← hg22] at BX HB5 ⊢
              clear hg22
              go_loopw [124] (fun i wr => ∃ (j : Nat) (u : MW), j ≤ W.length ∧ i = .int .i64 j ∧ Hid (u ∈ W) ∧ Hid (u.way = Pl.leastW x0.way ((W.take j).map MW.way)) ∧ Hid (Blk wr g22 77 (wcells u).toArray) ∧ Hid (Below g22 wz wr)) (fun i _ => W.length - (intOf i).toNat)
              case atStart => exact ⟨0, x0, Nat.zero_le _, rfl, HX0, rfl, BX, HB5⟩
              case round =>
                clear BX HB5
                obtain ⟨j, u, hj, rfl, HUM, HUL, BX, HBZ⟩ := hrel
                have HBZW : Hid (Below wz.heap.size wz wr) := by show Below _ _ _; rw [← HG22.out]; exact HBZ.out
                by_cases hjl : j < W.length
                · obtain ⟨b3, o3, e3, _, hl3, wc⟩ := (Reads.of_own (own_go OW.out HBZW.out)).way_at hjl
                  injection e3 with e3
                  injection e3 with e3 e4
                  subst e3 e4
                  have HTL : Hid (Pl.leastW x0.way ((W.take (j + 1)).map MW.way) = if W[j].way.cost < u.way.cost then W[j].way else u.way) := by show _ = _; rw [List.take_succ_eq_append_getElem hl3, List.map_append, List.map_cons, List.map_nil, Pl.leastW_snoc, ← HUL.out]
                  have HYM : Hid (W[j] ∈ W) := List.getElem_mem hl3
                  generalize W[j] = y at *
                  obtain ⟨⟨c0, d0⟩, ⟨c1, d1⟩, ⟨c2, d2⟩, yc, yA, ycp, yrows⟩ := y
                  obtain ⟨⟨p0, q0⟩, ⟨p1, q1⟩, ⟨p2, q2⟩, uc, uA, ucp, rows⟩ := u
                  have z0 := wc 0 _ rfl
                  rw [Nat.add_zero] at z0
                  have z1 := wc 1 _ rfl
                  have z2 := wc 2 _ rfl
                  have z3 := wc 3 _ rfl
                  have z4 := wc 4 _ rfl
                  have z5 := wc 5 _ rfl
                  have z6 := wc 6 _ rfl
                  have z7 := wc 7 _ rfl
                  clear wc
                  have hBXL := BX.out
                  simp only [wcells] at hBXL
                  have k0 := Blk.cell hBXL 0
                  have k1 := Blk.cell hBXL 1
                  have k2 := Blk.cell hBXL 2
                  have k3 := Blk.cell hBXL 3
                  have k4 := Blk.cell hBXL 4
                  have k5 := Blk.cell hBXL 5
                  have k6 := Blk.cell hBXL 6
                  have k7 := Blk.cell hBXL 7
                  have fB := Blk.frozen hBXL
                  have lB := Blk.lt hBXL
                  clear hBXL
                  have j0' : (0 : Int) ≤ (j : Int) := by omega
                  have j1' : (j : Int) < (W.length : Int) := by omega
                  by_cases hcc : yc < uc
                  -- SLOW1
                  · have HTL2 : Hid (Pl.leastW x0.way ((W.take (j + 1)).map MW.way) = MW.way ⟨(c0, d0), (c1, d1), (c2, d2), yc, yA, ycp, yrows⟩) := HTL.out.trans (if_pos hcc)
                    have BS := (((((((BX.out.set_ 0 (.bool c0)).set_ 1 (.int .i64 d0)).set_ 2 (.bool c1)).set_ 3 (.int .i64 d1)).set_ 4 (.bool c2)).set_ 5 (.int .i64 d2)).set_ 6 (.int .i64 yc)).set_ 7 (.slice yA yrows.length ycp)
                    have BS2 := Lib.hid BS
                    have HS8 := Lib.hid ((((((((HBZ.out.setCell (p := ⟨g22, 0, none⟩) (Nat.le_refl _) (.bool c0)).setCell (p := ⟨g22, 1, none⟩) (Nat.le_refl _) (.int .i64 d0)).setCell (p := ⟨g22, 2, none⟩) (Nat.le_refl _) (.bool c1)).setCell (p := ⟨g22, 3, none⟩) (Nat.le_refl _) (.int .i64 d1)).setCell (p := ⟨g22, 4, none⟩) (Nat.le_refl _) (.bool c2)).setCell (p := ⟨g22, 5, none⟩) (Nat.le_refl _) (.int .i64 d2)).setCell (p := ⟨g22, 6, none⟩) (Nat.le_refl _) (.int .i64 yc)).setCell (p := ⟨g22, 7, none⟩) (Nat.le_refl _) (.slice yA yrows.length ycp))
                    clear BS
                    go_wp2_with fail
                    go_roundw
                    case rel => exact ⟨j + 1, ⟨(c0, d0), (c1, d1), (c2, d2), yc, yA, ycp, yrows⟩, by omega, by go_num, HYM, HTL2.out.symm, BS2.out.alloc _, HS8.out.alloc (by simp; omega) _⟩
                    case measure => simp [intOf]; omega
                  -- END1
                  · have HTL2 : Hid (Pl.leastW x0.way ((W.take (j + 1)).map MW.way) = MW.way ⟨(p0, q0), (p1, q1), (p2, q2), uc, uA, ucp, rows⟩) := HTL.out.trans (if_neg hcc)
                    go_wp2_with fail
                    go_roundw
                    case rel => exact ⟨j + 1, ⟨(p0, q0), (p1, q1), (p2, q2), uc, uA, ucp, rows⟩, by omega, by go_num, HUM, HTL2.out.symm, BX.out.alloc _, HBZ.out.alloc (by omega) _⟩
                    case measure => simp [intOf]; omega
                · have : j = W.length := by omega
                  subst this
                  rw [List.take_length] at HUL
                  have hbest := Pl.best_some (w0 := x0.way) (List.mem_map.2 ⟨_, HX0.out, rfl⟩) HWI2.out
                  rw [← HUL.out] at hbest
                  have HBP : Hid (Pl.BestP (plus l) ds (Pl.cols (plus l) u.way.pows) u.way.cost 0) := .inr (.inr ⟨HH0.out, rfl, u.way.pows, hbest.1, hbest.2.1, rfl, hbest.2.2.1, hbest.2.2.2⟩)
                  have HRW : Hid (∀ t, t < u.way.pows.length → (u.way.pows.getD t []).length = n) := fun t ht => by rw [(hbest.1.row t ht).1, LP.out]
                  have HWYU := Lib.hid ((HWY.out u HUM.out).go HBZW.out)
                  have HRL : Hid (u.rows.length = m) := by
                    show _ = _
                    have := hbest.2.1
                    rw [LD.out] at this
                    rw [← this]
                    simp [MW.way]
                  clear hbest HWI2 HWI HUL HUM HWY
                  obtain ⟨⟨p0, q0⟩, ⟨p1, q1⟩, ⟨p2, q2⟩, uc, uA, ucp, rows⟩ := u
                  have e1 : (MW.way ⟨(p0, q0), (p1, q1), (p2, q2), uc, uA, ucp, rows⟩).pows = rows.map (·.2.2) := rfl
                  have e2 : (MW.way ⟨(p0, q0), (p1, q1), (p2, q2), uc, uA, ucp, rows⟩).cost = uc := rfl
                  rw [e1] at HBP HRW
                  rw [e2] at HBP
                  clear e1 e2
                  simp only at HRL
                  have HB6 : Hid (Below w.heap.size w wr) := HB.out.trans (HBZW.out.mono HB.out.size)
                  obtain ⟨HPS, HPR⟩ := HWYU.out
                  have HPS := Lib.hid HPS
                  have HPR := Lib.hid HPR
                  simp only at HPS HPR
                  have hBXL := BX.out
                  simp only [wcells] at hBXL
                  have HBX := Lib.hid hBXL
                  have hmk := HMK.out
                  clear hBXL BX HBZ HBZW HWYU OW
                  go_wp2_with fail
                  have B25 : Hid (Blk (wr.alloc (.cells ZC 23)) wr.heap.size 23 ((List.replicate n ((none, 0, []) : MRow)).map rowv).toArray) := by
                    have e : ((List.replicate n ((none, 0, []) : MRow)).map rowv).toArray = ZC := by
                      apply Array.ext'
                      rw [HZL.out]
                      simp [rowv]
                    rw [e]
                    exact Blk.new_ wr wr.heap.size _ ZC rfl
                  have HB25 : Hid (Below wr.heap.size wr (wr.alloc (.cells ZC 23))) := (Below.refl _ _).alloc (Nat.le_refl _) _
                  clear hmk
                  generalize wr.alloc (.cells ZC 23) = wx6 at *
                  generalize wr = w25 at *
                  obtain ⟨g25, hg25⟩ : ∃ g, g = w25.heap.size := ⟨_, rfl⟩
                  have HG25 := Lib.hid hg25
                  rw [← hg25] at B25 HB25 ⊢
                  clear hg25
                  go_loopw [140] (fun i wr => ∃ (j : Nat) (R : List MRow), j ≤ n ∧ i = .int .i64 j ∧ Hid (R.length = n) ∧ Hid (∀ i, i < j → (R.getD i (none, 0, [])).2.2 = Pl.col (rows.map (·.2.2)) i) ∧ Hid (∀ i, j ≤ i → R.getD i (none, 0, []) = (none, 0, [])) ∧ Hid (Blk wr g25 23 (R.map rowv).toArray) ∧ Hid (∀ r ∈ R, wr.ownsRow (g25 + 1) 3 1 (rowv r) r.2.2.length (ints r.2.2)) ∧ Hid (Below g25 w25 wr)) (fun i _ => n - (intOf i).toNat)
                  case atStart =>
                    refine ⟨0, List.replicate n (none, 0, []), Nat.zero_le _, rfl, List.length_replicate, fun i hi => absurd hi (by omega), fun i _ => ?_, B25, fun r hr => ?_, HB25⟩
                    · rw [List.getD_eq_getElem?_getD, List.getElem?_replicate]; split <;> rfl
                    · rw [List.eq_of_mem_replicate hr]; exact World.ownsRow_nil _ _ _ _
                  case round =>
                    clear B25 HB25
                    obtain ⟨j, R, hj, rfl, HRN, HRD2, HRZ, B25, HRO, HB7⟩ := hrel
                    have HB7W : Hid (Below w25.heap.size w25 wr) := by show Below _ _ _; rw [← HG25.out]; exact HB7.out
                    by_cases hjn : j < n
                    · have bxc := (HBX.out.go HB7W.out).cell 7
                      have bxl := HBX.out.lt
                      go_wp2_with fail
                      have B0 : Hid (Blk wr g25 23 ((R.set j (none, 0, [])).map rowv).toArray) := by
                        show Blk _ _ _ _
                        rw [set_same R _ j (HRZ.out j (Nat.le_refl _))]
                        exact B25.out
                      have GR0 : Hid (wr.grownBy wr (some g25)) := World.grownBy.refl _ _
                      have HGS : Hid (g25 < wr.heap.size) := B25.out.lt
                      have ON0 : Hid (wr.ownsRow wr.heap.size 3 1 (.slice none 0 0) 0 (ints [])) := World.ownsRow_nil _ _ _ _
                      clear bxc bxl
                      generalize wr = wq at *
                      obtain ⟨bq, hbq⟩ : ∃ g, g = wq.heap.size := ⟨_, rfl⟩
                      have HBQ := Lib.hid hbq
                      rw [← hbq] at ON0 HGS
                      clear hbq
                      go_loopw [146] (fun i wr => ∃ (t : Nat) (Aj : Option Addr) (cj : Nat) (ys : List Int), t ≤ m ∧ i = .int .i64 t ∧ Hid (ys.length = t) ∧ Hid (ys = Pl.col ((rows.map (·.2.2)).take t) j) ∧ Hid (Blk wr g25 23 ((R.set j (Aj, cj, ys)).map rowv).toArray) ∧ Hid (wr.ownsRow bq 3 1 (.slice Aj t cj) t (ints ys)) ∧ Hid (wq.grownBy wr (some g25)) ∧ Hid (Below g25 w25 wr)) (fun i _ => m - (intOf i).toNat)
                      case atStart => exact ⟨0, none, 0, [], Nat.zero_le _, rfl, rfl, rfl, B0, ON0, GR0, HB7⟩
                      case round =>
                        clear B0 ON0 GR0
                        obtain ⟨t, Aj, cj, ys, ht, rfl, HYL, HYE, BR, OWN, GR, HBR⟩ := hrel
                        have HBRW : Hid (Below w25.heap.size w25 wr) := by show Below _ _ _; rw [← HG25.out]; exact HBR.out
                        have hbx := HBX.out.go HBRW.out
                        have bx7 := hbx.cell 7
                        clear hbx
                        by_cases htm : t < m
                        · obtain ⟨bp, op, rfl, hbp, hl4, pc⟩ := (Reads.of_own (own_go HPS.out HBRW.out)).row_at (k := t) (by rw [HRL.out]; exact htm)
                          have hmem : rows[t] ∈ rows := List.getElem_mem hl4
                          have hrl : rows[t].2.2.length = n := by
                            have := HRW.out t (by simp; omega)
                            rw [List.getD_eq_getElem?_getD, List.getElem?_map, List.getElem?_eq_getElem hl4] at this
                            exact this
                          have hown := own_go (HPR.out _ hmem) HBRW.out
                          have HCS : Hid (Pl.col ((rows.map (·.2.2)).take (t + 1)) j = Pl.col ((rows.map (·.2.2)).take t) j ++ [rows[t].2.2.getD j 0]) := by
                            show _ = _
                            rw [List.take_succ_eq_append_getElem (by simp; omega), Pl.col_snoc]
                            simp
                          generalize rows[t] = rt at *
                          obtain ⟨At, ct, zs⟩ := rt
                          unfold rowv at pc hown
                          simp only at pc hown hrl HCS
                          rw [hrl] at pc hown
                          obtain ⟨bz, oz, rfl, hl5, zc⟩ := (Reads.of_own hown).int_at hjn
                          have hzj : zs.getD j 0 = zs[j] := by rw [List.getD_eq_getElem?_getD, List.getElem?_eq_getElem hl5]; rfl
                          rw [hzj] at HCS
                          generalize zs[j] = z at *
                          have bzlt := cell_lt zc
                          have t0 : (0 : Int) ≤ (t : Int) := by omega
                          have t1 : (t : Int) < (rows.length : Int) := by have := HRL.out; omega
                          have jj0 : (0 : Int) ≤ (j : Int) := by omega
                          have jj1 : (j : Int) < (n : Int) := by omega
                          have hsz := GR.out.size
                          have hgs := HGS.out
                          have hbqs : bq ≤ wr.heap.size := by rw [HBQ.out]; exact hsz
                          clear hmem hown hzj hl5 hl4 hrl
                          go_wp2_with fail
                          have G25 : (Value.slice Aj t cj).ownBlock ≠ some g25 := fun h => own_ne OWN.out (g := g25) (.inl (by omega)) h.symm
                          have hR2 : j < R.length := by rw [HRN.out]; exact hjn
                          have q6 : wr.cell? ⟨g25, j, none⟩ = some (.slice Aj t cj) := by
                            rw [BR.out.cell j]
                            simp [rowv, hR2]
                            exact HYL.out
                          have q6a : (wr.alloc (.cells #[.int .i64 z] 3)).cell? ⟨g25, j, none⟩ = some (.slice Aj t cj) := by rw [World.cell?_alloc_some _ _ _ (by rw [q6]; rfl)]; exact q6
                          have Q1 : t + 1 ≤ maxLen := by unfold maxLen; omega
                          have Q2 : (t + 1) * 8 ≤ 140737488355328 := by omega
                          go_region_law ((refine step_append_lies _ (by rfl) _ _ _ (by rfl) bq 3 j0 _ 1 8 Try.underlying23 ji0 jz0 jz1 jz2 rfl (by omega) (.slice Aj t cj) t (ints ys) (by rfl) ((OWN.out.alloc _).drew) ⟨wr.heap.size, 0, none⟩ 1 1 [.int .i64 z] (by rfl) (by rfl) (World.news_of_block (cs := #[.int .i64 z]) (t := 3) (fr := (0, 0)) (heap_alloc_new wr _)) (by simp [Value.oneCell']) (by omega) Q1 Q2 (by simp; omega) (wr.heap.size + 1) (by simp) ?_; intro gg cap w8 hown3 hgrow hat hlt3; have BR8 := Lib.hid ((BR.out.alloc (.cells #[.int .i64 z] 3)).drew.grown hgrow (Ne.symm G25)); have k8 := BR8.out.cell; have f8 := BR8.out.frozen))
                          all_goals
                            have e : ((R.set j (Aj, cj, ys)).map rowv).toArray.setIfInBounds j (.slice (some ⟨gg, 0, none⟩) (t + 1) cap) = ((R.set j (some ⟨gg, 0, none⟩, cap, ys ++ [z])).map rowv).toArray := by
                              simp [List.map_set, rowv, HYL.out]
                            have BRS := BR8.out.set_ j (.slice (some ⟨gg, 0, none⟩) (t + 1) cap)
                            rw [e] at BRS
                            have BRS := Lib.hid BRS
                            have OWS := Lib.hid (own_far hown3 (p := ⟨g25, j, none⟩) (by show g25 < bq; omega) (.slice (some ⟨gg, 0, none⟩) (t + 1) cap))
                            have HBS := Lib.hid ((below_grown (HBR.out.alloc (by omega) (.cells #[.int .i64 z] 3)).drew hgrow (OWN.out.alloc _).drew (by omega) (by simp; omega)).setCell (p := ⟨g25, j, none⟩) (by show g25 ≤ g25; omega) (.slice (some ⟨gg, 0, none⟩) (t + 1) cap))
                            have GRS : Hid (wq.grownBy (w8.setCell ⟨g25, j, none⟩ (.slice (some ⟨gg, 0, none⟩) (t + 1) cap)) (some g25)) := by
                              have h1 := grown_more (grown_more GR.out (only_of_below ((Below.refl wr.heap.size wr).alloc (Nat.le_refl _) (.cells #[.int .i64 z] 3)).drew none) (fun _ h => by cases h)) hgrow (fun b hb => by
                                have := (OWN.out.lt b hb).1
                                rw [← HBQ.out]; exact this)
                              exact h1.trans (grown_set _ g25 j _)
                            clear e hgrow hown3 hat hlt3 k8 f8 BR8 q6 q6a G25
                            go_wp2_with fail
                            go_roundw
                            case rel =>
                              refine ⟨t + 1, some ⟨gg, 0, none⟩, cap, ys ++ [z], by omega, by go_num, ?_, ?_, BRS, ?_, GRS, HBS⟩
                              · show _ = _; simp; exact HYL.out
                              · show _ = _; rw [HCS.out, ← HYE.out]
                              · have := OWS.out
                                unfold ints at this ⊢
                                rw [List.map_append]
                                exact this
                            case measure => simp [intOf]; omega
                        · have : t = m := by omega
                          subst this
                          have hgq : g25 + 1 ≤ bq := HGS.out
                          rw [show (rows.map (·.2.2)).take t = rows.map (·.2.2) from List.take_of_length_le (by simp; rw [HRL.out]; exact Nat.le_refl _)] at HYE
                          have hjR : j < R.length := by rw [HRN.out]; exact hjn
                          have t1 : ¬ ((t : Int) < (rows.length : Int)) := by have := HRL.out; omega
                          go_wp2_with fail
                          go_roundw
                          case rel =>
                            refine ⟨j + 1, R.set j (Aj, cj, ys), by omega, by go_num, by show _ = _; rw [List.length_set]; exact HRN.out, fun i hi => ?_, fun i hi => ?_, BR, fun r hr => ?_, HBR⟩
                            · rw [set_getD R _ j i _ hjR]
                              split
                              · rename_i h; rw [h]; exact HYE.out
                              · exact HRD2.out i (by omega)
                            · rw [set_getD R _ j i _ hjR, if_neg (by omega)]
                              exact HRZ.out i (by omega)
                            · rcases List.mem_or_eq_of_mem_set hr with hr | hr
                              · have h1 := HRO.out r hr
                                exact h1.kept GR.out (.inr (Ne.symm (own_ne h1 (.inl (Nat.lt_succ_self g25)))))
                              · rw [hr]
                                have := own_base OWN.out hgq
                                rw [← HYL.out] at this
                                exact this
                          case measure => simp [intOf]; omega
                    · have : n = j := by omega
                      subst this
                      have bx6 := (HBX.out.go HB7W.out).cell 6
                      have HWG : Hid (w.heap.size ≤ g25) := by show _ ≤ _; rw [HG25.out]; exact HB6.out.size
                      go_wp2_with fail
                      go_quiet (fail)
                      go_wp2_with fail
                      go_ret3
                      have HCL : Hid (R.map (·.2.2) = Pl.cols (plus l) (rows.map (·.2.2))) := by
                        show _ = _
                        refine List.ext_getElem (by simp [Pl.cols, HRN.out, LP.out]) fun i h1 h2 => ?_
                        have hi : i < R.length := by simpa using h1
                        have := HRD2.out i (by rw [← HRN.out]; exact hi)
                        rw [List.getD_eq_getElem?_getD, List.getElem?_eq_getElem hi] at this
                        simp [Pl.cols]
                        exact this
                      refine ⟨some ⟨g25, 0, none⟩, n, R, uc, 0, by rw [HRN.out]; rfl, by rw [HCL.out]; exact HBP.out, by rw [HRN.out]; exact rows_own B25.out HRN.out HWG.out (by omega), fun r hr => own_base (HRO.out r hr) (by have := HWG.out; omega), below_drewN (HB6.out.trans (HB7W.out.mono HB6.out.size)) _⟩
  · have HH0 := Lib.hid h0
    have hne : ¬ ((Pl.duAll (plus l) ds) = 0) := h0
    generalize hE : Pl.duAll (plus l) ds = E at *
    have HEE := Lib.hid hE
    clear hE h0
    go_enter Try.func13, Try.ntmps13
    go_wp2_with fail
    refine HC.out.mono ?_
    rintro e w1 ⟨rfl, hb⟩
    have HB1 := Lib.hid hb
    clear hb HC
    go_wp2_with fail
    go_ret3
    exact ⟨none, 0, [], 0, E, rfl, .inl ⟨by rw [HEE.out]; exact hne, rfl, rfl, HEE.out.symm⟩, World.ownsRow_nil _ _ _ _, fun r hr => absurd hr (by simp), HB1.out⟩
end Go.Proofs.Ytchafkocobbndaa
