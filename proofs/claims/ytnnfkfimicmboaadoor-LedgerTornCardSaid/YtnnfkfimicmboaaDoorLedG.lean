/- ledger.Text gives the text of entries that its plain function gives. Condition: the library's tables lie as they are laid; the entries lie in memory as the words say. -/
import Derived.Test.YtnnfkfimicmboaaDoorLedF
namespace Go.Proofs.YtnnfkfimicmboaaDoor
open Go.RowKit
namespace Pl
theorem lineS_len {s : Int × Int} {x : LE} (hs : SumOk s) (hx : lbad x = 0) : (lineS s x).length ≤ 60 := by
  obtain ⟨n1, n2, _, c0, c1⟩ := lbad_ok.1 hx
  obtain ⟨k1, k2, k3, k4⟩ := chk_ok hs (lineT x)
  have l1 := name_len n1
  have l2 := name_len n2
  have l3 := itoa_len (n := x.2.2) (by omega) (by omega)
  have l4 := itoa_len (n := sumK s x) (by unfold sumK chkN; omega) (by unfold sumK chkN; omega)
  unfold lineS line0 lineT
  simp only [List.length_append, List.length_cons, List.length_nil]
  omega
theorem textS_len {s : Int × Int} {l : List LE} (hs : SumOk s) (hl : ∀ x ∈ l, lbad x = 0) : (textS s l).length ≤ 60 * l.length := by
  induction l generalizing s with
  | nil => simp [textS]
  | cons x l ih =>
    have h1 := lineS_len hs (hl x (by simp))
    have h2 := ih (s := chkN s x) (chk_ok hs _) fun y hy => hl y (by simp [hy])
    rw [textS, List.length_append, List.length_cons]
    omega
def lText (l : List LE) : List UInt8 × Int := if lcheck l ≠ 0 then ([], lcheck l) else (textS s0 l, 0)
end Pl
set_option maxHeartbeats 3200000 in
set_option maxRecDepth 100000 in
theorem text_any (A : Option Addr) (n c : Nat) (l : List Pl.LE) (w : World) (h : Ents w A n l) (hl : LW w) :
    Calls Tryd.prog 8 #[.slice A n c] w fun e w' => e = .returned (.tuple #[txt (Pl.lText l).1, .int .i64 (Pl.lText l).2]) ∧ Below w.heap.size w w' := by
  have L := Lib.hid h.len
  have H := Lib.hid h
  have HLW := Lib.hid hl
  have HC := Lib.hid (fun w h => lcheck_any A n c l w h)
  have HX : Hid (Pl.lText l = if Pl.lcheck l ≠ 0 then ([], Pl.lcheck l) else (Pl.textS Pl.s0 l, 0)) := rfl
  generalize Pl.lText l = R at *
  clear h hl
  by_cases h0 : Pl.lcheck l = 0
  · rw [if_neg (by simpa using h0)] at HX
    obtain ⟨k1, k2, k3⟩ := Pl.lcheck_ok.1 h0
    rw [h0] at HC
    have hn : n ≤ 256 := by rw [← L.out]; exact k1
    have HOK := Lib.hid k2
    clear h0 k1 k2 k3
    go_enter Tryd.func8, Tryd.ntmps8
    go_wp2_with fail
    refine (HC.out _ H.out).mono ?_
    rintro e w1 ⟨rfl, hb⟩
    have HB1 := Lib.hid hb
    clear hb HC
    go_wp2_with fail
    have BS : Hid (Blk (w1.alloc (.cells #[.int .i64 1, .int .i64 0] 53)) w1.heap.size 53 #[.int .i64 (Pl.chkL Pl.s0 (l.take 0)).1, .int .i64 (Pl.chkL Pl.s0 (l.take 0)).2]) := Blk.new_ _ _ _ _ rfl
    have HB2 := Lib.hid (HB1.out.alloc HB1.out.size (.cells #[.int .i64 1, .int .i64 0] 53))
    have HGL : Hid (w.heap.size ≤ w1.heap.size) := HB1.out.size
    have hnil : (.string ⟨#[]⟩ : Value) = txt (Pl.textS Pl.s0 (l.take 0)) := rfl
    generalize w1.alloc (.cells #[.int .i64 1, .int .i64 0] 53) = w2 at *
    generalize w1.heap.size = g6 at *
    go_loopw [5, 19] (fun v i wr => ∃ k : Nat, k ≤ n ∧ i = .int .i64 k ∧ v = txt (Pl.textS Pl.s0 (l.take k)) ∧ Hid (Blk wr g6 53 #[.int .i64 (Pl.chkL Pl.s0 (l.take k)).1, .int .i64 (Pl.chkL Pl.s0 (l.take k)).2]) ∧ Hid (Below w.heap.size w wr)) (fun _ i _ => n - (intOf i).toNat)
    case atStart => exact ⟨0, Nat.zero_le _, rfl, hnil, BS, HB2⟩
    case round =>
      clear BS HB2 HB1 hnil
      obtain ⟨k, hk, rfl, rfl, BS, HB⟩ := hrel
      by_cases hlt : k < n
      · obtain ⟨b, o, rfl, hl, c0, c1, c2, hin⟩ := (H.out.go HB.out).at_ hlt
        have hbad := HOK.out _ (List.getElem_mem hl)
        have hso := Pl.chkL_ok Pl.s0_ok (l.take k)
        have hzs := Pl.textS_len Pl.s0_ok (l := l.take k) fun x hx => HOK.out x (List.mem_of_mem_take hx)
        have hzl := Pl.lineS_len hso hbad
        have HTX : Hid (Pl.textS Pl.s0 (l.take (k + 1)) = Pl.textS Pl.s0 (l.take k) ++ Pl.lineS (Pl.chkL Pl.s0 (l.take k)) l[k]) := by show _ = _; rw [List.take_succ_eq_append_getElem hl, Pl.textS_snoc]
        have HCX : Hid (Pl.chkL Pl.s0 (l.take (k + 1)) = Pl.chkN (Pl.chkL Pl.s0 (l.take k)) l[k]) := by show _ = _; rw [List.take_succ_eq_append_getElem hl, Pl.chkL_snoc]
        have hnm := Pl.lbad_ok.1 hbad
        have hn1 := Pl.name_len hnm.1
        have hn2 := Pl.name_len hnm.2.1
        rw [← size_bl] at hn1 hn2
        have HLN := Lib.hid (fun (w : World) h => line_any (Pl.chkL Pl.s0 (l.take k)) l[k] w hso hin (by omega) (by omega) h)
        have hlk : (l.take k).length ≤ 256 := by rw [List.length_take]; omega
        generalize Pl.chkN (Pl.chkL Pl.s0 (l.take k)) l[k] = nx at *
        generalize Pl.lineS (Pl.chkL Pl.s0 (l.take k)) l[k] = ln at *
        generalize Pl.chkL Pl.s0 (l.take k) = sm at *
        generalize Pl.textS Pl.s0 (l.take k) = tx at *
        generalize l[k] = x at *
        obtain ⟨xf, xt, xc⟩ := x
        obtain ⟨pa, pb⟩ := sm
        obtain ⟨na, nb⟩ := nx
        simp only at c0 c1 c2 HLN BS
        have htl : (⟨tx.toArray⟩ : ByteArray).size ≤ 60000 := by rw [size_bl, Pl.bl_mk]; omega
        have hll : (⟨ln.toArray⟩ : ByteArray).size ≤ 60 := by rw [size_bl, Pl.bl_mk]; omega
        have hadd : ∀ W, (Op.stringOp .add ⟨tx.toArray⟩ ⟨ln.toArray⟩).run Tryd.prog W = .ok (txt (tx ++ ln)) W := fun W => by rw [run_string_add_sum _ _ _ (by omega), txt_app]; rfl
        clear hl hbad hso hzs hzl hnm hn1 hn2 hin hlk htl hll
        have k0 : (0 : Int) ≤ (k : Int) := by omega
        have k1 : (k : Int) < (n : Int) := by omega
        have AL : Hid (Below wr.heap.size wr (wr.alloc (.cells #[.string xf, .string xt, .int .i64 xc] 31))) := (Below.refl _ _).alloc (Nat.le_refl _) _
        have HB1 := Lib.hid (HB.out.trans (AL.out.mono HB.out.size))
        have BS1 := Lib.hid (BS.out.go AL.out)
        have s0 := BS1.out.cell 0
        have s1 := BS1.out.cell 1
        unfold txt at *
        go_wp2_with fail
        refine (HLN.out _ (HLW.out.go HB1.out)).mono ?_
        rintro e w4 ⟨rfl, hb⟩
        have HB4 := Lib.hid (HB1.out.trans (hb.mono HB1.out.size))
        have BS4 := Lib.hid (BS1.out.go hb)
        have hg4 : g6 ≠ w4.heap.size := by have := BS4.out.lt; omega
        have BN := Lib.hid (Blk.new_ w4 w4.heap.size 53 #[.int .i64 na, .int .i64 nb] rfl)
        have BS5 := Lib.hid (BS4.out.alloc (.cells #[.int .i64 na, .int .i64 nb] 53))
        have HB5 := Lib.hid (HB4.out.alloc HB4.out.size (.cells #[.int .i64 na, .int .i64 nb] 53))
        clear hb HB HB1 BS BS1 AL s0 s1 c0 c1 c2 HLN HB5 BS5
        have s0 := BS4.out.cell 0
        have s1 := BS4.out.cell 1
        have f0 := BS4.out.frozen 0
        have f1 := BS4.out.frozen 1
        have ls := BS4.out.lt
        go_wp2_with fail
        have BS6 := Lib.hid (((BS4.out.set_ 0 (.int .i64 na)).set_ 1 (.int .i64 nb)).alloc (.cells #[.int .i64 na, .int .i64 nb] 53))
        have HB6 := Lib.hid (((HB4.out.setCell (p := ⟨g6, 0, none⟩) HGL.out (.int .i64 na)).setCell (p := ⟨g6, 1, none⟩) HGL.out (.int .i64 nb)).alloc (by have := HB4.out.size; simp; omega) (.cells #[.int .i64 na, .int .i64 nb] 53))
        go_roundw
        case rel =>
          refine ⟨k + 1, by omega, by go_num, by rw [HTX.out], ?_, HB6⟩
          rw [HCX.out]
          exact BS6.out
        case measure => simp [intOf]; omega
      · have : n = k := by omega
        subst this
        have HT : Hid (l.take n = l) := List.take_of_length_le (by rw [L.out]; exact Nat.le_refl _)
        rw [HT.out]
        unfold txt
        go_wp2_with fail
        go_ret2
        rw [HX.out]
        exact ⟨rfl, HB.out⟩
  · rw [if_pos h0] at HX
    generalize Pl.lcheck l = E at *
    have he : (E != 0) = true := by simpa using h0
    clear h0
    go_enter Tryd.func8, Tryd.ntmps8
    go_wp2_with fail
    refine (HC.out _ H.out).mono ?_
    rintro e w1 ⟨rfl, hb⟩
    have HB1 := Lib.hid hb
    clear hb HC
    go_wp2_with fail
    go_ret2
    rw [HX.out]
    exact ⟨rfl, HB1.out⟩
end Go.Proofs.YtnnfkfimicmboaaDoor
