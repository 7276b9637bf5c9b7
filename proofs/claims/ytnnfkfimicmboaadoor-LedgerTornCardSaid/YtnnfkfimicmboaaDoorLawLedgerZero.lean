/- The law LedgerZero, its walk: the balances of all accounts have the sum 0, and an entry more moves its amount. Condition: the entries lie in memory as the words say; the library's tables lie as they are laid. -/
import Derived.Test.YtnnfkfimicmboaaDoorLedJ
namespace Go.Proofs.YtnnfkfimicmboaaDoor
open Go.RowKit
namespace Pl
theorem sumB_bd {f : List UInt8 → Int} {M : Int} (N : List (List UInt8)) (h : ∀ t ∈ N, -M ≤ f t ∧ f t ≤ M) : -(M * N.length) ≤ sumB f N ∧ sumB f N ≤ M * N.length := by
  induction N with
  | nil => simp [sumB]
  | cons t N ih =>
    obtain ⟨i1, i2⟩ := ih fun u hu => h u (by simp [hu])
    have := h t (by simp)
    unfold sumB at i1 i2 ⊢
    rw [List.map_cons, List.sum_cons, List.length_cons]
    have e : M * ((N.length + 1 : Nat) : Int) = M * N.length + M := by push_cast; rw [Int.mul_add, Int.mul_one]
    rw [e]
    omega
theorem sumB_take (f : List UInt8 → Int) (N : List (List UInt8)) {k : Nat} (hk : k < N.length) : sumB f (N.take (k + 1)) = sumB f (N.take k) + f N[k] := by
  unfold sumB
  rw [List.take_succ_eq_append_getElem hk, List.map_append, List.sum_append]
  simp
theorem bal_none {l : List LE} {nm : ByteArray} (h : bl nm ∉ accL l) : bal l nm = 0 := by
  have h2 : bl nm ∉ nmsL l := fun e => h (accL_mem.2 e)
  clear h
  induction l using snocInd with
  | h0 => rfl
  | h1 l x ih =>
    rw [nmsL_append] at h2
    rw [bal_step, ih fun e => h2 (List.mem_append_left _ e)]
    have a : x.1 ≠ nm := fun e => h2 (List.mem_append_right _ (by simp [nmsL, e]))
    have b : x.2.1 ≠ nm := fun e => h2 (List.mem_append_right _ (by simp [nmsL, e]))
    rw [if_neg a, if_neg b]
    rfl
theorem lBalance_ok {l : List LE} (h : lcheck l = 0) (nm : ByteArray) : (lBalance l nm).1 = bal l nm ∧ ((lBalance l nm).2 = 0 ↔ bl nm ∈ accL l) := by
  unfold lBalance
  rw [if_neg (by simpa using h)]
  by_cases hm : bl nm ∈ accL l
  · rw [if_pos hm]; exact ⟨rfl, by simp [hm]⟩
  · rw [if_neg hm]; exact ⟨(bal_none hm).symm, by simp [hm]⟩
theorem lAB_bal : lBalance lAB ⟨#[66]⟩ = (5, 0) := by
  have h1 := lBalance_ok lAB_ok ⟨#[66]⟩
  have hm : bl ⟨#[66]⟩ ∈ accL lAB := accL_mem.2 (by decide)
  have hb : bal lAB ⟨#[66]⟩ = 5 := by decide +kernel
  exact Prod.ext (h1.1.trans hb) (h1.2.2 hm)
theorem lPost_ok {l : List LE} {x : LE} {least : Int} (h : lPost l x least = 0) : lcheck l = 0 ∧ lcheck (l ++ [x]) = 0 ∧ least ≤ bal (l ++ [x]) x.1 := by
  unfold lPost at h
  by_cases h1 : lcheck l = 0
  · rw [if_neg (by simpa using h1)] at h
    split at h
    · cases h
    · by_cases h2 : lcheck (l ++ [x]) = 0
      · rw [if_neg (by simpa using h2)] at h
        split at h
        · cases h
        · exact ⟨h1, h2, by omega⟩
      · rw [if_pos h2] at h; exact absurd h h2
  · rw [if_pos h1] at h; exact absurd h h1
end Pl
theorem str_at {w : World} {base g : Nat} {A : Option Addr} {n c : Nat} {zs : List (List UInt8)} (h : w.ownsRow base g 1 (.slice A n c) n (strs zs)) {k : Nat} (hk : k < n) :
    ∃ b o, A = some ⟨b, o, none⟩ ∧ ∃ hl : k < zs.length, w.cell? ⟨b, o + k, none⟩ = some (.string ⟨(zs[k]'hl).toArray⟩) := by
  have hr : Reads w w.heap.size 1 A n (strs zs) := Reads.of_own h
  obtain ⟨b, o, rfl, _, hc⟩ := hr.where_ (by omega) (by omega)
  have hl : k < zs.length := by have := hr.1; rw [strs_length] at this; omega
  exact ⟨b, o, rfl, hl, hc k _ (by simp [strs, hl, encStr])⟩
set_option maxHeartbeats 3200000 in
set_option maxRecDepth 100000 in
theorem zero_any (A : Option Addr) (n c : Nat) (l : List Pl.LE) (x : Pl.LE) (w : World) (h : Ents w A n l) (hx : EntIn x) (hl : LW w) :
    Calls Tryd.prog 5 #[.slice A n c, .agg #[.string x.1, .string x.2.1, .int .i64 x.2.2]] w fun e w' => e = .returned (.bool true) ∧ Below w.heap.size w w' := by
  obtain ⟨ba, bb, ct⟩ := x
  have L := Lib.hid h.len
  have H := Lib.hid h
  have HLW := Lib.hid hl
  have HX := Lib.hid hx
  have HWR := Lib.hid (fun w h => written_any w h)
  have HBAL := Lib.hid (fun (A : Option Addr) (n c : Nat) (l : List Pl.LE) nm w h => lbalance_any A n c l nm w h)
  have HAC := Lib.hid (fun w h => laccounts_any A n c l w h)
  have HPO := Lib.hid (fun w h => post_any A n c l (ba, bb, ct) (-1000000000000) w h HX.out (by decide) (by decide))
  unfold PostSaid at HPO
  clear h hl hx
  simp only at HPO ⊢
  go_enter Tryd.func5, Tryd.ntmps5
  go_wp2_with fail
  have AL : Hid (Below w.heap.size w (w.alloc (.cells #[.string ba, .string bb, .int .i64 ct] 31))) := (Below.refl _ _).alloc (Nat.le_refl _) _
  have BX := Lib.hid (Blk.new_ w w.heap.size 31 #[.string ba, .string bb, .int .i64 ct] rfl)
  have AL2 : Hid (Below w.heap.size w ((w.alloc (.cells #[.string ba, .string bb, .int .i64 ct] 31)).alloc (.cells #[.string ⟨#[65]⟩, .string ⟨#[66]⟩, .int .i64 5] 31))) := AL.out.alloc AL.out.size _
  have BX2 := Lib.hid (BX.out.alloc (.cells #[.string ⟨#[65]⟩, .string ⟨#[66]⟩, .int .i64 5] 31))
  have HE0 := Lib.hid (lAB_ents (w.alloc (.cells #[.string ba, .string bb, .int .i64 ct] 31)))
  have hsz : (w.alloc (.cells #[.string ba, .string bb, .int .i64 ct] 31)).heap.size = w.heap.size + 1 := by simp
  rw [hsz] at HE0
  clear hsz AL BX
  have HB0 := Lib.hid (HBAL.out (some ⟨w.heap.size + 1, 0, none⟩) 1 1 Pl.lAB ⟨#[66]⟩ _ HE0.out)
  rw [Pl.lAB_bal] at HB0
  simp only at HB0
  generalize (w.alloc (.cells #[.string ba, .string bb, .int .i64 ct] 31)).alloc (.cells #[.string ⟨#[65]⟩, .string ⟨#[66]⟩, .int .i64 5] 31) = w1 at *
  refine HB0.out.mono ?_
  rintro e w2 ⟨rfl, hb⟩
  have HB2 := Lib.hid (AL2.out.trans (hb.mono AL2.out.size))
  have BX3 := Lib.hid (BX2.out.go hb)
  clear hb AL2 BX2 HE0 HB0
  go_wp2_with (go_at_call 7; refine (HWR.out _ (HLW.out.go HB2.out)).mono ?_; rintro e w3 ⟨rfl, hb⟩; have HB3 := Lib.hid (HB2.out.trans (hb.mono HB2.out.size)); have BX4 := Lib.hid (BX3.out.go hb); clear hb)
  refine (HAC.out w3 (H.out.go HB3.out)).mono ?_
  rintro e w4 ⟨A4, c4, rfl, hown, hb⟩
  have HB4 := Lib.hid (HB3.out.trans (hb.mono HB3.out.size))
  have BX5 := Lib.hid (BX4.out.go hb)
  have OW := Lib.hid (own_base hown HB3.out.size)
  clear hb hown HB3 BX4 HB2 BX3 HAC
  by_cases h0 : Pl.lcheck l = 0
  · rw [if_neg (by simpa using h0)] at OW ⊢
    have HC0 := Lib.hid h0
    rw [h0]
    clear h0
    have HOK := Lib.hid (Pl.lcheck_ok.1 HC0.out)
    have hnl : n ≤ 256 := by rw [← L.out]; exact HOK.out.1
    have HBD : Hid (∀ t : List UInt8, -256000000000000 ≤ Pl.bal l ⟨t.toArray⟩ ∧ Pl.bal l ⟨t.toArray⟩ ≤ 256000000000000) := fun t => by
      have h1 := Pl.bal_bd (l := l) (fun y hy => (Pl.lbad_ok.1 (HOK.out.2.1 y hy)).2.2.2) ⟨t.toArray⟩
      have h2 := HOK.out.1
      omega
    have HBO : Hid (∀ t ∈ Pl.accL l, Pl.lBalance l ⟨t.toArray⟩ = (Pl.bal l ⟨t.toArray⟩, 0)) := fun t ht => by
      have h1 := Pl.lBalance_ok HC0.out ⟨t.toArray⟩
      exact Prod.ext h1.1 (h1.2.2 (by rw [Pl.bl_mk]; exact ht))
    have HZ := Lib.hid (Pl.acc_zero l)
    generalize hzs : Pl.accL l = zs at *
    have HZS := Lib.hid hzs
    have hzl : zs.length ≤ 64 := HOK.out.2.2
    clear hzs
    go_wp2_with fail
    go_loopw [9, 48] (fun s i wr => ∃ k : Nat, k ≤ zs.length ∧ s = .int .i64 (Pl.sumB (fun t => Pl.bal l ⟨t.toArray⟩) (zs.take k)) ∧ i = .int .i64 k ∧ Hid (Blk wr w.heap.size 31 #[.string ba, .string bb, .int .i64 ct]) ∧ Hid (Below w.heap.size w wr) ∧ Hid (wr.ownsRow w.heap.size 9 1 (.slice A4 zs.length c4) zs.length (strs zs))) (fun _ i _ => zs.length - (intOf i).toNat)
    case atStart => exact ⟨0, Nat.zero_le _, rfl, rfl, BX5.out, HB4.out, OW.out⟩
    case round =>
      clear BX5 HB4 OW
      obtain ⟨k, hk, rfl, rfl, BX, HB, OW⟩ := hrel
      by_cases hlt : k < zs.length
      · obtain ⟨b, o, rfl, hl1, c1⟩ := str_at OW.out hlt
        have hbo := HBO.out zs[k] (List.getElem_mem hl1)
        have hbd := HBD.out zs[k]
        have HS := Lib.hid (Pl.sumB_take (fun t => Pl.bal l ⟨t.toArray⟩) zs hl1)
        have hsb := Pl.sumB_bd (f := fun t => Pl.bal l ⟨t.toArray⟩) (M := 256000000000000) (zs.take k) (fun t _ => HBD.out t)
        rw [List.length_take, Nat.min_eq_left (Nat.le_of_lt hl1)] at hsb
        have hs1 : -16384000000000000 ≤ Pl.sumB (fun t => Pl.bal l ⟨t.toArray⟩) (zs.take k) ∧ Pl.sumB (fun t => Pl.bal l ⟨t.toArray⟩) (zs.take k) ≤ 16384000000000000 := by omega
        clear hsb
        have HB1 := Lib.hid (fun w h => HBAL.out A n c l ⟨zs[k].toArray⟩ w h)
        rw [hbo] at HB1
        simp only at HB1 HS
        clear hbo
        generalize zs[k] = z at *
        generalize Pl.sumB (fun t => Pl.bal l ⟨t.toArray⟩) (zs.take k) = sm at *
        generalize Pl.bal l ⟨z.toArray⟩ = bz at *
        go_wp2_with fail
        refine (HB1.out _ (H.out.go HB.out)).mono ?_
        rintro e w5 ⟨rfl, hb⟩
        have BX5 := Lib.hid (BX.out.go hb)
        have OW5 := Lib.hid (own_go OW.out hb)
        have HB5 := Lib.hid (HB.out.trans (hb.mono HB.out.size))
        have hww : IntKind.i64.wrap (sm + bz) = sm + bz := IntWalk.i64_in _ (by omega)
        clear hb BX OW HB HB1
        go_wp2_with fail
        go_roundw
        case rel => exact ⟨k + 1, by omega, by rw [HS.out], by go_num, BX5.out, HB5.out, OW5.out⟩
        case measure => simp [intOf]; omega
      · have hke : k = zs.length := by omega
        have hsz : Pl.sumB (fun t => Pl.bal l ⟨t.toArray⟩) (zs.take k) = 0 := by rw [hke, List.take_length]; exact HZ.out
        rw [hsz]
        clear hsz hke
        have x0 := BX.out.cell 0
        have x1 := BX.out.cell 1
        have x2 := BX.out.cell 2
        go_wp2_with fail
        refine (HPO.out _ (H.out.go HB.out)).mono ?_
        rintro e w5 ⟨A5, c5, rfl, hown, hb⟩
        have BX5 := Lib.hid (BX.out.go hb)
        have HB5 := Lib.hid (HB.out.trans (hb.mono HB.out.size))
        have OM := Lib.hid hown
        clear hb BX OW HB x0 x1 x2 hown
        by_cases hp : Pl.lPost l (ba, bb, ct) (-1000000000000) = 0
        · obtain ⟨q0, q1, _⟩ := Pl.lPost_ok hp
          have el : Pl.lPostL l (ba, bb, ct) (-1000000000000) = l ++ [(ba, bb, ct)] := by unfold Pl.lPostL; rw [if_pos hp]
          rw [el] at OM ⊢
          rw [hp]
          have hlen : (l ++ [(ba, bb, ct)]).length = n + 1 := by rw [List.length_append, L.out]; rfl
          have HE5 : Hid (Ents w5 A5 (n + 1) (l ++ [(ba, bb, ct)])) := ⟨by have := Reads.of_own OM.out; rwa [hlen] at this, fun y hy => by
            rcases List.mem_append.1 hy with hy | hy
            · exact H.out.2 y hy
            · rw [List.mem_singleton.1 hy]; exact HX.out⟩
          rw [hlen]
          obtain ⟨_, _, r3, _⟩ := Pl.lbad_ok.1 ((Pl.lcheck_ok.1 q1).2.1 (ba, bb, ct) (by simp))
          have b1 := Pl.lBalance_ok q0 bb
          have b2 := Pl.lBalance_ok q1 bb
          have b2z := b2.2.2 (Pl.accL_mem.2 (by rw [Pl.nmsL_append]; exact List.mem_append_right _ (by simp [Pl.nmsL])))
          have hst : Pl.bal (l ++ [(ba, bb, ct)]) bb = Pl.bal l bb + ct := by
            rw [Pl.bal_step, if_pos rfl, if_neg (by exact r3)]
            show Pl.bal l bb + (ct - 0) = _
            omega
          have HB1 := Lib.hid (fun w h => HBAL.out A n c l bb w h)
          have HB2 := Lib.hid (fun w h => HBAL.out A5 (n + 1) c5 (l ++ [(ba, bb, ct)]) bb w h)
          rw [b1.1] at HB1
          rw [b2.1, b2z, hst] at HB2
          have hbb := HBD.out (Pl.bl bb)
          change -256000000000000 ≤ Pl.bal l bb ∧ Pl.bal l bb ≤ 256000000000000 at hbb
          have hx2 : -9223372036854775808 ≤ ct ∧ ct ≤ 9223372036854775807 := HX.out.2.2
          clear q0 q1 el hlen r3 b1 b2 b2z hst hp OM
          generalize Pl.bal l bb = bz at *
          generalize (Pl.lBalance l bb).2 = ez at *
          have x1 := BX5.out.cell 1
          go_wp2_with fail
          refine (HB1.out _ (H.out.go HB5.out)).mono ?_
          rintro e w6 ⟨rfl, hb⟩
          have BX6 := Lib.hid (BX5.out.go hb)
          have HE6 := Lib.hid (HE5.out.go hb)
          have HB6 := Lib.hid (HB5.out.trans (hb.mono HB5.out.size))
          clear hb BX5 HE5 HB5 HB1 x1
          have x1 := BX6.out.cell 1
          go_wp2_with fail
          refine (HB2.out _ HE6.out).mono ?_
          rintro e w7 ⟨rfl, hb⟩
          have BX7 := Lib.hid (BX6.out.go hb)
          have HB7 := Lib.hid (HB6.out.trans (hb.mono HB6.out.size))
          clear hb BX6 HE6 HB6 HB2 x1
          have x2 := BX7.out.cell 2
          have hw1 : IntKind.i64.wrap (bz + ct - bz) = ct := by
            have : bz + ct - bz = ct := by omega
            rw [this]
            exact IntWalk.i64_in _ (by omega)
          go_wp2_with fail
          go_ret
          exact ⟨rfl, HB7.out⟩
        · have el : Pl.lPostL l (ba, bb, ct) (-1000000000000) = [] := by unfold Pl.lPostL; rw [if_neg hp]
          rw [el]
          have hp2 : (Pl.lPost l (ba, bb, ct) (-1000000000000) != 0) = true := by simpa using hp
          generalize Pl.lPost l (ba, bb, ct) (-1000000000000) = E at *
          clear hp el
          go_wp2_with fail
          go_ret
          exact ⟨rfl, HB5.out⟩
  · rw [if_pos h0]
    have he : (Pl.lcheck l != 0) = true := by simpa using h0
    generalize Pl.lcheck l = E at *
    clear h0
    go_wp2_with fail
    go_ret
    exact ⟨rfl, HB4.out⟩
end Go.Proofs.YtnnfkfimicmboaaDoor
