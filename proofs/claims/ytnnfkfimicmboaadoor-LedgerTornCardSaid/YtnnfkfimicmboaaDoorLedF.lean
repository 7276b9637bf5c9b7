/- The line of an entry of a ledger with its sum, and the sum behind it. Condition: the library's tables lie as they are laid; the names are not longer than 200,000 bytes. -/
import Derived.Test.YtnnfkfimicmboaaDoorLedE
import Derived.Deep.RegionHeld3
namespace Go.Proofs.YtnnfkfimicmboaaDoor
open Go.RowKit
theorem txt_app (a b : List UInt8) : (⟨a.toArray⟩ : ByteArray) ++ ⟨b.toArray⟩ = ⟨(a ++ b).toArray⟩ := by
  apply Pl.bl_inj
  unfold Pl.bl
  simp [ByteArray.data_append]
theorem digits_len (k u : Nat) (h : u < 10 ^ (k + 1)) : (Lib.decDigits u).length ≤ k + 1 := by
  induction k generalizing u with
  | zero => rw [Lib.decDigits, dif_pos (by simpa using h)]; simp
  | succ k ih =>
    rw [Lib.decDigits]
    split
    · simp
    · rw [List.length_append]
      have := ih (u / 10) (by rw [Nat.pow_succ] at h; omega)
      simp
      omega
theorem itoa_len {n : Int} (h0 : -9223372036854775808 ≤ n) (h1 : n ≤ 9223372036854775807) : (Lib.itoa n).length ≤ 20 := by
  unfold Lib.itoa
  split
  · have := digits_len 18 n.natAbs (by omega)
    simp only [List.length_cons]; omega
  · have := digits_len 18 n.toNat (by omega)
    omega
theorem size_bl (s : ByteArray) : s.size = (Pl.bl s).length := by unfold Pl.bl; rw [Array.length_toList]; rfl
/-- a text that is some bytes -/
theorem txt_of {s : ByteArray} {l : List UInt8} (h : Pl.bl s = l) : (.string s : Value) = txt l := by subst h; rfl
theorem bl_app (a b : ByteArray) : Pl.bl (a ++ b) = Pl.bl a ++ Pl.bl b := by unfold Pl.bl; simp [ByteArray.data_append]
set_option maxHeartbeats 3200000 in
set_option maxRecDepth 100000 in
theorem line_any (s : Int × Int) (x : Pl.LE) (w : World) (hs : Pl.SumOk s) (hx : EntIn x) (h1 : x.1.size ≤ 200000) (h2 : x.2.1.size ≤ 200000) (hl : LW w) :
    Calls Tryd.prog 22 #[.agg #[.int .i64 s.1, .int .i64 s.2], .agg #[.string x.1, .string x.2.1, .int .i64 x.2.2]] w fun e w' => e = .returned (.tuple #[txt (Pl.lineS s x), .agg #[.int .i64 (Pl.chkN s x).1, .int .i64 (Pl.chkN s x).2]]) ∧ Below w.heap.size w w' := by
  obtain ⟨a, b⟩ := s
  obtain ⟨xf, xt, xc⟩ := x
  obtain ⟨_, _, x0, x1⟩ := hx
  simp only at h1 h2 x0 x1
  have HLW := Lib.hid hl
  have HI := Lib.hid (fun (w : World) h => itoa_any xc x0 x1 w h)
  unfold txt at HI
  obtain ⟨cs, hcs⟩ : ∃ cs : ByteArray, cs = ⟨(Lib.itoa xc).toArray⟩ := ⟨_, rfl⟩
  have HCS := Lib.hid hcs
  have hcl : cs.size ≤ 20 := by rw [hcs, size_bl]; exact itoa_len x0 x1
  rw [← hcs] at HI
  clear hl hcs
  go_enter Tryd.func22, Tryd.ntmps22
  go_wp2_with fail
  have B2 : Hid (Blk (((w.alloc (.cells #[.int .i64 a, .int .i64 b] 53)).alloc (.cells #[.string xf, .string xt, .int .i64 xc] 31)).alloc (.cells #[.int .i64 0, .int .i64 0] 53)) w.heap.size 53 #[.int .i64 a, .int .i64 b]) := ((Blk.new_ _ _ _ _ rfl).alloc _).alloc _
  have B3 : Hid (Blk (((w.alloc (.cells #[.int .i64 a, .int .i64 b] 53)).alloc (.cells #[.string xf, .string xt, .int .i64 xc] 31)).alloc (.cells #[.int .i64 0, .int .i64 0] 53)) (w.heap.size + 1) 31 #[.string xf, .string xt, .int .i64 xc]) := (Blk.new_ _ _ _ _ (by simp)).alloc _
  have B5 : Hid (Blk (((w.alloc (.cells #[.int .i64 a, .int .i64 b] 53)).alloc (.cells #[.string xf, .string xt, .int .i64 xc] 31)).alloc (.cells #[.int .i64 0, .int .i64 0] 53)) (w.heap.size + 1 + 1) 53 #[.int .i64 0, .int .i64 0]) := Blk.new_ _ _ _ _ (by simp)
  have HB := Lib.hid ((((Below.refl w.heap.size w).alloc (Nat.le_refl _) (.cells #[.int .i64 a, .int .i64 b] 53)).alloc (by simp) (.cells #[.string xf, .string xt, .int .i64 xc] 31)).alloc (by simp; omega) (.cells #[.int .i64 0, .int .i64 0] 53))
  generalize ((w.alloc (.cells #[.int .i64 a, .int .i64 b] 53)).alloc (.cells #[.string xf, .string xt, .int .i64 xc] 31)).alloc (.cells #[.int .i64 0, .int .i64 0] 53) = w3 at *
  have r0 := Wd.cell (B3.out.cell 0)
  have r1 := Wd.cell (B3.out.cell 1)
  have r2 := Wd.cell (B3.out.cell 2)
  refine wp_region_wd (by kernel_rfl) (by kernel_rfl) ?_
  repeat (go_big_quiet_step ((go_at_call 37; exact Calls.wd (HI.out _ ((HLW.out.go HB.out).go (Wd.ok _))))))
  refine wpQuiet_nil ?_
  rintro _ ⟨w6, rfl⟩
  have B26 := Lib.hid (B2.out.go w6.ok)
  have B36 := Lib.hid (B3.out.go w6.ok)
  have B56 := Lib.hid (B5.out.go w6.ok)
  have HB6 := Lib.hid (HB.out.trans (w6.ok.mono HB.out.size))
  clear r0 r1 r2 B2 B3 B5 HB HI
  generalize w6.val = w7 at *
  have HTX : Hid (Pl.bl (xf ++ ⟨#[32]⟩ ++ xt ++ ⟨#[32]⟩ ++ cs) = Pl.lineT (xf, xt, xc)) := by
    show _ = _
    rw [bl_app, bl_app, bl_app, bl_app, HCS.out]
    rfl
  have hts : (xf ++ ⟨#[32]⟩ ++ xt ++ ⟨#[32]⟩ ++ cs).size ≤ 500000 := by
    simp only [ByteArray.size_append]
    have : (⟨#[32]⟩ : ByteArray).size = 1 := rfl
    omega
  generalize xf ++ ⟨#[32]⟩ ++ xt ++ ⟨#[32]⟩ ++ cs = tx at *
  obtain ⟨cap, w8, hrun, hc, hb⟩ := bytes_of tx w7
  have HC := Lib.hid hc
  have B28 := Lib.hid (B26.out.go hb)
  have B58 := Lib.hid (B56.out.go hb)
  have HB8 := Lib.hid (HB6.out.trans (hb.mono HB6.out.size))
  clear hc
  go_wp2_with fail
  have hgb : w.heap.size ≠ w7.heap.size := by have := B26.out.lt; omega
  have hg2 : w.heap.size + 1 + 1 ≠ w.heap.size := by omega
  clear B26 B36 B56 HB6 hrun hb
  generalize w7.heap.size = gb at *
  generalize w8 = wq at *
  go_loopw [23] (fun i wr => ∃ k : Nat, k ≤ tx.size ∧ i = .int .i64 k ∧ Hid (Blk wr w.heap.size 53 #[.int .i64 (Pl.chk (a, b) ((Pl.bl tx).take k)).1, .int .i64 (Pl.chk (a, b) ((Pl.bl tx).take k)).2]) ∧ Hid (Blk wr (w.heap.size + 1 + 1) 53 #[.int .i64 0, .int .i64 0]) ∧ Hid (∀ j (hj : j < tx.size), wr.cell? ⟨gb, j, none⟩ = some (.int .u8 (tx[j].toNat : Int))) ∧ Hid (Below w.heap.size w wr)) (fun i _ => tx.size - (intOf i).toNat)
  case atStart => exact ⟨0, Nat.zero_le _, rfl, B28, B58, HC, HB8⟩
  case round =>
    clear B28 B58 HC HB8
    obtain ⟨k, hk, rfl, B2, B5, HC, HB⟩ := hrel
    by_cases hlt : k < tx.size
    · have ck := HC.out k hlt
      have hl2 : k < (Pl.bl tx).length := by rw [← size_bl]; exact hlt
      have HCK : Hid (Pl.chk (a, b) ((Pl.bl tx).take (k + 1)) = Pl.chkB (Pl.chk (a, b) ((Pl.bl tx).take k)) tx[k]) := by
        show _ = _
        rw [List.take_succ_eq_append_getElem hl2, Pl.chk_snoc]
        rfl
      obtain ⟨p0, p1, q0, q1⟩ := Pl.chk_ok hs ((Pl.bl tx).take k)
      unfold Pl.chkB at HCK
      have hcc : tx[k].toNat < 256 := tx[k].toNat_lt
      generalize Pl.chk (a, b) ((Pl.bl tx).take k) = pq at *
      obtain ⟨pp, qq⟩ := pq
      simp only at p0 p1 q0 q1 HCK B2
      generalize tx[k].toNat = cc at *
      have k0 : (0 : Int) ≤ (k : Int) := by omega
      have k1 : (k : Int) < (tx.size : Int) := by omega
      have b0 := B2.out.cell 0
      have b1 := B2.out.cell 1
      have f0 := B2.out.frozen 0
      have f1 := B2.out.frozen 1
      have lb := B2.out.lt
      have BS := Lib.hid ((B2.out.set_ 0 (.int .i64 ((pp + (cc : Int)) % 65521))).set_ 1 (.int .i64 ((qq + (pp + (cc : Int))) % 65521)))
      have hgg : gb ≠ w.heap.size := hgb.symm
      go_wp2_with fail
      go_roundw
      case rel =>
        refine ⟨k + 1, by omega, by go_num, ?_, (B5.out.far hg2 _).far hg2 _, fun j hj => ?_, (HB.out.setCell (p := ⟨w.heap.size, 0, none⟩) (Nat.le_refl _) _).setCell (p := ⟨w.heap.size, 1, none⟩) (Nat.le_refl _) _⟩
        · rw [HCK.out]
          have e : (qq + (pp + (cc : Int)) % 65521) % 65521 = (qq + (pp + (cc : Int))) % 65521 := by omega
          rw [e]
          exact BS.out
        · rw [World.cell?_setCell_other _ _ _ _ (fun e => by injection e with e; exact hgb e), World.cell?_setCell_other _ _ _ _ (fun e => by injection e with e; exact hgb e)]
          exact HC.out j hj
      case measure => simp [intOf]; omega
    · have : k = tx.size := by omega
      subst this
      have HKS : Hid (Pl.chk (a, b) ((Pl.bl tx).take tx.size) = Pl.chkN (a, b) (xf, xt, xc)) := by
        show _ = _
        rw [List.take_of_length_le (by rw [← size_bl]; exact Nat.le_refl _), HTX.out]
        rfl
      rw [HKS.out] at B2
      obtain ⟨p0, p1, q0, q1⟩ := Pl.chk_ok hs (Pl.lineT (xf, xt, xc))
      have HLS : Hid (Pl.lineS (a, b) (xf, xt, xc) = Pl.lineT (xf, xt, xc) ++ [32] ++ Lib.itoa (65521 * (Pl.chkN (a, b) (xf, xt, xc)).2 + (Pl.chkN (a, b) (xf, xt, xc)).1) ++ [10]) := rfl
      rw [← HTX.out] at HLS
      change 0 ≤ (Pl.chkN (a, b) (xf, xt, xc)).1 at p0
      change (Pl.chkN (a, b) (xf, xt, xc)).1 < 65521 at p1
      change 0 ≤ (Pl.chkN (a, b) (xf, xt, xc)).2 at q0
      change (Pl.chkN (a, b) (xf, xt, xc)).2 < 65521 at q1
      generalize hpq : Pl.chkN (a, b) (xf, xt, xc) = pq at *
      obtain ⟨pp, qq⟩ := pq
      have HPQ := Lib.hid hpq
      clear hpq
      simp only at p0 p1 q0 q1 HLS B2
      have HI2 := Lib.hid (fun (w : World) h => itoa_any (65521 * qq + pp) (by omega) (by omega) w h)
      unfold txt at HI2
      obtain ⟨c2, hc2⟩ : ∃ cs : ByteArray, cs = ⟨(Lib.itoa (65521 * qq + pp)).toArray⟩ := ⟨_, rfl⟩
      have HC2 := Lib.hid hc2
      have hcl2 : c2.size ≤ 20 := by rw [hc2, size_bl]; exact itoa_len (by omega) (by omega)
      rw [← hc2] at HI2
      have HRS : Hid (.string (tx ++ ⟨#[32]⟩ ++ c2 ++ ⟨#[10]⟩) = txt (Pl.lineS (a, b) (xf, xt, xc))) := by
        refine txt_of ?_
        rw [bl_app, bl_app, bl_app, HC2.out, HLS.out]
        rfl
      clear hc2 HLS HC
      have b0 := B2.out.cell 0
      have b1 := B2.out.cell 1
      have d0 := B5.out.cell 0
      have d1 := B5.out.cell 1
      have e0 := B5.out.frozen 0
      have e1 := B5.out.frozen 1
      have lb := B2.out.lt
      have ld := B5.out.lt
      have hw1 : IntKind.i64.wrap (65521 * qq) = 65521 * qq := IntWalk.i64_in _ (by omega)
      have hw2 : IntKind.i64.wrap (65521 * qq + pp) = 65521 * qq + pp := IntWalk.i64_in _ (by omega)
      go_wp2_with fail
      have hsa : (tx ++ ⟨#[32]⟩).size ≤ 600000 := by
        simp only [ByteArray.size_append]
        have : (⟨#[32]⟩ : ByteArray).size = 1 := rfl
        omega
      have hsb : (tx ++ ⟨#[32]⟩ ++ c2).size ≤ 700000 := by
        simp only [ByteArray.size_append] at hsa ⊢
        omega
      have z32 : (⟨#[32]⟩ : ByteArray).size = 1 := rfl
      have z10 : (⟨#[10]⟩ : ByteArray).size = 1 := rfl
      have hs3 : (tx ++ ⟨#[32]⟩).size ≤ 600000 := by rw [ByteArray.size_append]; omega
      have hs4 : (tx ++ ⟨#[32]⟩ ++ c2).size ≤ 700000 := by rw [ByteArray.size_append]; omega
      have ha1 : ∀ W, (Op.stringOp .add tx ⟨#[32]⟩).run Tryd.prog W = .ok (.string (tx ++ ⟨#[32]⟩)) W := fun W => run_string_add_sum _ _ _ (by omega)
      have ha2 : ∀ W, (Op.stringOp .add (tx ++ ⟨#[32]⟩) c2).run Tryd.prog W = .ok (.string (tx ++ ⟨#[32]⟩ ++ c2)) W := fun W => run_string_add_sum _ _ _ (by omega)
      have ha3 : ∀ W, (Op.stringOp .add (tx ++ ⟨#[32]⟩ ++ c2) ⟨#[10]⟩).run Tryd.prog W = .ok (.string (tx ++ ⟨#[32]⟩ ++ c2 ++ ⟨#[10]⟩)) W := fun W => run_string_add_sum _ _ _ (by omega)
      clear hs3 hs4 hts hcl hcl2 h1 h2 z32 z10
      have hcur : Hid (Below wr.heap.size wr wr.drew) := (Below.refl _ _).drew
      have HSF : Hid (∀ w', Below wr.heap.size wr w' → w'.cell? ⟨w.heap.size, 0, none⟩ = some (.int .i64 pp) ∧ w'.cell? ⟨w.heap.size, 1, none⟩ = some (.int .i64 qq)) := fun w' hb => ⟨(B2.out.go hb).cell 0, (B2.out.go hb).cell 1⟩
      go_region_held3 (fun w' => w'.cell? ⟨w.heap.size, 0, none⟩ = some (.int .i64 pp) ∧ w'.cell? ⟨w.heap.size, 1, none⟩ = some (.int .i64 qq))
        (first
          | exact HSF.out _ hcur.out
          | (have hk := HSF.out _ hcur.out; exact ⟨by rw [World.cell?_setCell_other _ _ _ _ (by simp), World.cell?_setCell_other _ _ _ _ (by simp)]; exact hk.1, by rw [World.cell?_setCell_other _ _ _ _ (by simp), World.cell?_setCell_other _ _ _ _ (by simp)]; exact hk.2⟩))
        (first | (go_at_call 37; refine (HI2.out _ (HLW.out.go (HB.out.trans (hcur.out.mono HB.out.size)))).mono ?_; rintro e w9 ⟨rfl, hb9⟩; have hcur := Lib.hid (hcur.out.trans (hb9.mono hcur.out.size)); have B59 := Lib.hid (B5.out.go hcur.out); have e0' := B59.out.frozen 0; have e1' := B59.out.frozen 1; have d0' := B59.out.cell 0; have d1' := B59.out.cell 1; have ld' := B59.out.lt; clear hb9))
      have HB9 := Lib.hid (((HB.out.trans (hcur.out.mono HB.out.size)).setCell (p := ⟨w.heap.size + 1 + 1, 0, none⟩) (by simp; omega) (.int .i64 pp)).setCell (p := ⟨w.heap.size + 1 + 1, 1, none⟩) (by simp; omega) (.int .i64 qq))
      have BR := Lib.hid ((B59.out.set_ 0 (.int .i64 pp)).set_ 1 (.int .i64 qq))
      clear HSF hcur B59 e0' e1' d0' d1' ld' b0 b1 d0 d1 e0 e1 lb ld hw1 hw2 ha1 ha2 ha3 B2 B5 HB HI2
      have rc := BR.out.cell
      go_wp2_with fail
      refine bodyPost_ret (v := .tuple #[.string (tx ++ ⟨#[32]⟩ ++ c2 ++ ⟨#[10]⟩), .agg #[.int .i64 pp, .int .i64 qq]]) (by simp [results, Tryd.results22, go_sem, rc]) rfl ⟨?_, HB9.out⟩
      rw [HRS.out, HPQ.out]
end Go.Proofs.YtnnfkfimicmboaaDoor
