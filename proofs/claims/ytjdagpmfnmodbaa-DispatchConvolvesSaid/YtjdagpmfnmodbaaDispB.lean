/- dispatch.Best: its powers serve the demand at least cost. No condition. -/
import Derived.Test.YtjdagpmfnmodbaaDisp
import Derived.Test.YtjdagpmfnmodbaaPDispB
namespace Go.Proofs.Ytjdagpmfnmodbaa
open Go.RowKit
theorem insD_nil (fv : Value) (w : World) : Calls Try.prog 112 #[.slice none 0 0, .int .i64 0, .int .i64 0, fv] w fun e w' => e = .returned (.tuple #[]) ∧ w = w' := by
  go_enter Try.func112, Try.ntmps112
  go_wp2_with fail
  go_loopw [8] (fun i wr => i = .int .i64 1 ∧ w = wr) (fun _ _ => 0)
  case atStart => exact ⟨rfl, rfl⟩
  case round =>
    obtain ⟨rfl, rfl⟩ := hrel
    go_wp2_with fail
    go_end0
    exact ⟨rfl, rfl⟩
theorem stableD_nil (fv : Value) (w : World) : Calls Try.prog 86 #[.slice none 0 0, .int .i64 0, fv] w fun e w' => e = .returned (.tuple #[]) ∧ w = w' := by
  go_enter Try.func86, Try.ntmps86
  go_wp2_with fail
  go_loopw [7, 8] (fun va vb wr => va = .int .i64 0 ∧ vb = .int .i64 20 ∧ w = wr) (fun _ _ _ => 0)
  case atStart => exact ⟨rfl, rfl, rfl⟩
  case round =>
    obtain ⟨rfl, rfl, rfl⟩ := hrel
    go_wp2_with fail
    refine (insD_nil _ _).mono ?_
    rintro e w1 ⟨rfl, rfl⟩
    obtain ⟨wo, rfl⟩ : ∃ wo : World, wo = w := ⟨_, rfl⟩
    go_wp2_with fail
    go_loopw [6] (fun vs wr => vs = .int .i64 20 ∧ wo = wr) (fun _ _ => 0)
    case atStart => exact ⟨rfl, rfl⟩
    case round =>
      obtain ⟨rfl, rfl⟩ := hrel
      go_wp2_with fail
      go_end0
      exact ⟨rfl, rfl⟩
theorem sortD_nil (fv : Value) (w : World) : Calls Try.prog 45 #[.slice none 0 0, fv] w fun e w' => e = .returned (.tuple #[]) ∧ w = w' := by
  go_enter Try.func45, Try.ntmps45
  go_wp2_with fail
  refine (stableD_nil _ _).mono ?_
  rintro e w1 ⟨rfl, rfl⟩
  go_wp2_with fail
  go_end0
  exact ⟨rfl, rfl⟩
namespace Pl
def bcf (x y : B3) : Int := x.2.2 - y.2.2
theorem bcf_swo : Sort.SWO (Srt.ltOf bcf) := by
  constructor
  · intro x; unfold Srt.ltOf bcf; simp
  · intro x y z; unfold Srt.ltOf bcf; simp only [decide_eq_true_eq]; omega
  · intro x y z; unfold Srt.ltOf bcf; simp only [decide_eq_false_iff_not]; omega
theorem sorted_of {S0 : List B3} {m : Nat} {d : Array B3} (hm : S0.length = m) (hz : d.size = m) (hp : Sort.PermIn 0 m S0.toArray d) (hs : Sort.SortedIn (Srt.ltOf bcf) 0 m d) :
    d.toList.Perm S0 ∧ d.toList.Pairwise (fun a b => a.2.2 ≤ b.2.2) := by
  subst hm
  refine ⟨?_, ?_⟩
  · have h := hp.2.2
    rw [show d.extract 0 S0.length = d from by rw [← hz]; simp, show S0.toArray.extract 0 S0.length = S0.toArray from by
      apply Array.ext'
      simp [List.take_of_length_le]] at h
    first
      | exact h
      | exact h.symm
      | simpa using h
      | simpa using h.symm
  · rw [List.pairwise_iff_getElem]
    intro i j hi hj hij
    have hj2 : j < S0.length := by rw [Array.length_toList] at hj; omega
    have h := hs i j (Nat.zero_le _) hij hj2
    rw [getElem!_pos d i (by omega), getElem!_pos d j (by omega)] at h
    unfold Srt.ltOf bcf at h
    simp only [decide_eq_false_iff_not] at h
    simp only [Array.getElem_toList]
    omega
def isortB (S : List B3) : List B3 := (Sort.insertionSort (Srt.ltOf bcf) S.toArray 0 S.length).toList
theorem isortB_nil : isortB [] = [] := by unfold isortB; first | rfl | kernel_rfl | simp [Sort.insertionSort]
end Pl
theorem enters_best1 : ∀ args w, Sem.run Try.prog (callFunc 46 args) w = .ok (.enter 46 args) w := by intro args w; go_simp
set_option maxRecDepth 100000 in
theorem best1_any (x y : Int × Int × Int) (w : World) (hx : -1000000 ≤ x.2.2 ∧ x.2.2 ≤ 1000000) (hy : -1000000 ≤ y.2.2 ∧ y.2.2 ≤ 1000000) :
    Calls Try.prog 46 #[Srt.valD x, Srt.valD y] w fun e w' => e = .returned (.int .i64 (Pl.bcf x y)) ∧ Below w.heap.size w w' := by
  obtain ⟨a, b, c⟩ := x
  obtain ⟨a', b', c'⟩ := y
  simp only at hx hy
  unfold Srt.valD Pl.bcf
  simp only
  go_enter Try.func46, Try.ntmps46
  go_wp2_with fail
  go_ret
  exact ⟨rfl, ((Below.refl _ _).alloc (Nat.le_refl _) _).alloc (by simp) _⟩
theorem info_block : (Try.prog.info? 94).map (fun i => (i.zero, i.size, i.bytes)) = some (some (.agg #[.int .i64 0, .int .i64 0, .int .i64 0]), 3, 24) := by kernel_rfl
def BestSaid (l : List Pl.Off) (n : Nat) (d : Int) (w : World) (e : Ending) (w' : World) : Prop :=
  ∃ A ps cost p, e = .returned (.tuple #[.slice A n n, .int .i64 cost, .int .i64 0]) ∧ Pl.Served l n d ps cost p ∧ ((Pl.blocksK l n).length < 20 → ps = (Pl.dfill n d (Pl.isortB (Pl.blocksK l n))).1 ∧ cost = (Pl.dfill n d (Pl.isortB (Pl.blocksK l n))).2.1) ∧ -1000000000000 ≤ cost ∧ cost ≤ 1000000000000 ∧ Reads w' w'.heap.size 1 A n (ints ps) ∧ Below w.heap.size w w'
theorem best_bad (A : Option Addr) (n c : Nat) (l : List MOff) (d : Int) (w : World) (hcap : n ≤ c) (h : Offs w A n l) (h0 : Pl.dcheck (plo l) d ≠ 0) :
    Calls Try.prog 17 #[.slice A n c, .int .i64 d] w fun e w' => e = .returned (.tuple #[.slice none 0 0, .int .i64 0, .int .i64 (Pl.dcheck (plo l) d)]) ∧ Below w.heap.size w w' := by
  have HC := Lib.hid (dcheck_any A n c l d w hcap h)
  have h2 : (Pl.dcheck (plo l) d != 0) = true := by simpa using h0
  clear h0 h
  generalize Pl.dcheck (plo l) d = u at *
  go_enter Try.func17, Try.ntmps17
  go_wp2_with fail
  refine HC.out.mono ?_
  rintro e w1 ⟨rfl, hb⟩
  have HB1 := Lib.hid hb
  clear hb
  go_wp2_with fail
  go_ret3
  exact ⟨rfl, HB1.out⟩
namespace Pl
theorem blocks_len {l : List Off} {n : Nat} (h : ∀ k, k < n → (steps l k).length ≤ 12) : (blocksK l n).length ≤ 12 * n := by
  induction n with
  | zero => simp [blocksK]
  | succ n ih =>
    rw [blocksK, List.length_append, List.length_map]
    have := ih fun k hk => h k (by omega)
    have := h n (by omega)
    omega
end Pl
theorem flat_snocD (S : List Pl.B3) (b : Pl.B3) : (S ++ [b]).flatMap Srt.encD = S.flatMap Srt.encD ++ [.int .i64 b.1, .int .i64 b.2.1, .int .i64 b.2.2] := by
  rw [List.flatMap_append]; rfl
theorem flat_lenD (S : List Pl.B3) : (S.flatMap Srt.encD).length = S.length * 3 := by
  induction S with
  | nil => rfl
  | cons b S ih => rw [List.flatMap_cons, List.length_append, ih]; simp [Srt.encD]; omega
theorem Reads.b3_at {w : World} {B n : Nat} {A : Option Addr} {S : List Pl.B3} (h : Reads w B 3 A n (S.flatMap Srt.encD)) {k : Nat} (hk : k < n) :
    ∃ b o, A = some ⟨b, o, none⟩ ∧ ∃ hl : k < S.length, w.cell? ⟨b, o + k * 3, none⟩ = some (.int .i64 (S[k]'hl).1) ∧ w.cell? ⟨b, o + k * 3 + 1, none⟩ = some (.int .i64 (S[k]'hl).2.1) ∧ w.cell? ⟨b, o + k * 3 + 2, none⟩ = some (.int .i64 (S[k]'hl).2.2) := by
  obtain ⟨b, o, rfl, _, hc⟩ := h.where_ (by omega) (by omega)
  have hl : k < S.length := by have := h.1; rw [flat_lenD] at this; omega
  refine ⟨b, o, rfl, hl, ?_, ?_, ?_⟩
  · have := hc (k * 3) (.int .i64 S[k].1) (by have := Srt.flat_at Srt.encD 3 (fun _ => rfl) S k 0 hl (by omega); rw [Nat.add_zero] at this; rw [this]; rfl)
    exact this
  · have := hc (k * 3 + 1) (.int .i64 S[k].2.1) (by rw [Srt.flat_at Srt.encD 3 (fun _ => rfl) S k 1 hl (by omega)]; rfl)
    rwa [← Nat.add_assoc] at this
  · have := hc (k * 3 + 2) (.int .i64 S[k].2.2) (by rw [Srt.flat_at Srt.encD 3 (fun _ => rfl) S k 2 hl (by omega)]; rfl)
    rwa [← Nat.add_assoc] at this
set_option maxHeartbeats 6400000 in
set_option maxRecDepth 100000 in
theorem best_good (A : Option Addr) (n c : Nat) (l : List MOff) (d : Int) (w : World) (hcap : n ≤ c) (h : Offs w A n l) (h0 : Pl.dcheck (plo l) d = 0) :
    Calls Try.prog 17 #[.slice A n c, .int .i64 d] w (BestSaid (plo l) n d w) := by
  have HC := Lib.hid (dcheck_any A n c l d w hcap h)
  rw [h0] at HC
  obtain ⟨h1, d0, d1, d2⟩ := Pl.dcheck_ok h0
  have L1 := Lib.hid h.len
  have H := Lib.hid h
  rw [plo_len, L1.out] at d2
  obtain ⟨g1, _⟩ := Pl.oall_good h1
  have hn10 : n ≤ 10 := by have := L1.out; rw [plo_len] at g1; omega
  have HG := Lib.hid (fun k hk => Pl.steps_good h1 k hk)
  rw [plo_len, L1.out] at HG
  have HT2 : Hid (d ≤ Pl.sumN (fun k => Pl.total (Pl.steps (plo l) k)) n) := d2
  have HGD : Hid (∀ k, k < n → Pl.Good (Pl.steps (plo l) k)) := fun k hk => (HG.out k hk).1
  have HLN : Hid (∀ k, k ≤ n → (Pl.blocksK (plo l) k).length ≤ 12 * k) := fun k hk => Pl.blocks_len fun j hj => (HG.out j (by omega)).2
  obtain ⟨i0, hi0, hz0, hz1, hz2⟩ := info_parts info_block
  obtain ⟨j0, ji0, jz0, jz1, jz2⟩ := info_parts info_int
  have hmk0 : ∀ w, (Instr.makeSlice 24 (.int .i64 (n : Int)) (.int .i64 (n : Int))).run Try.prog w = .ok (.slice (some ⟨w.heap.size, 0, none⟩) n n) (w.alloc (.cells (madeCells #[.int .i64 0] n) 3)) := fun w => by
    have := run_make (P := Try.prog) w 24 3 j0 (.int .i64 0) Try.underlying24 ji0 jz0 .i64 .i64 n n (by omega) (by omega) (by rw [jz2]; omega) (by omega)
    rw [jz1, show (Value.int .i64 0).cells = #[.int .i64 0] from rfl] at this
    simpa using this
  generalize hz : madeCells #[Value.int .i64 0] n = ZC at hmk0
  have HZC := Lib.hid hz
  have HMK := Lib.hid hmk0
  clear hz hmk0 ji0 jz0 jz1 jz2 h0 h1 h d2 g1
  go_enter Try.func17, Try.ntmps17
  go_wp2_with fail
  refine HC.out.mono ?_
  rintro e w1 ⟨rfl, hb⟩
  have HB1 := Lib.hid hb
  clear hb
  go_wp2_with fail
  go_loopw [8, 26] (fun v i wr => ∃ (k : Nat) (Ab : Option Addr) (cb : Nat), k ≤ n ∧ i = .int .i64 k ∧ v = .slice Ab (Pl.blocksK (plo l) k).length cb ∧ Hid (wr.ownsRow w.heap.size 94 3 (.slice Ab (Pl.blocksK (plo l) k).length cb) (Pl.blocksK (plo l) k).length ((Pl.blocksK (plo l) k).flatMap Srt.encD)) ∧ Hid (Below w.heap.size w wr)) (fun _ i _ => n - (intOf i).toNat)
  case atStart => exact ⟨0, none, 0, Nat.zero_le _, rfl, rfl, World.ownsRow_nil _ _ _ _, HB1⟩
  case round =>
    clear HB1
    obtain ⟨k, Ab, cb, hk, rfl, rfl, OF, HB⟩ := hrel
    by_cases hlt : k < n
    · obtain ⟨b, o, rfl, hl1, c1, c2, hin⟩ := (H.out.go HB.out).at_ hlt
      obtain ⟨s1, s2⟩ := HG.out k hlt
      have hlen := HLN.out k hk
      have HS : Hid (Pl.blocksK (plo l) (k + 1) = Pl.blocksK (plo l) k ++ (Pl.steps (plo l) k).map fun s => ((k : Int), s.1, s.2)) := rfl
      rw [plo_steps hl1] at s1 s2 HS
      have HIN := Lib.hid (H.out.2 _ (List.getElem_mem hl1))
      have HST := Lib.hid s1
      clear hin s1
      generalize l[k] = z at *
      obtain ⟨nm, Az, nz, cz, st⟩ := z
      simp only at c1 c2 HS s2 HST
      have HR := Lib.hid HIN.out.2.2
      have hz := HR.out.pair_len
      have HBN := Lib.hid (HB.out.alloc HB.out.size (.cells #[.string nm, .slice Az nz cz] 33))
      have OFN := Lib.hid (OF.out.alloc (.cells #[.string nm, .slice Az nz cz] 33))
      have HZ := Lib.hid hz
      have hnz : nz ≤ 12 := Nat.le_trans (Nat.le_of_eq hz.symm) s2
      clear hz s2 HIN
      go_wp2_with fail
      clear c1 c2 OF HB
      generalize Pl.blocksK (plo l) k = S0 at *
      generalize wr.alloc (.cells #[.string nm, .slice Az nz cz] 33) = wi at *
      go_loopw [8, 34] (fun v i wr => ∃ (j : Nat) (Ab : Option Addr) (cb : Nat), j ≤ nz ∧ i = .int .i64 j ∧ v = .slice Ab (S0.length + j) cb ∧ Hid (wr.ownsRow w.heap.size 94 3 (.slice Ab (S0.length + j) cb) (S0.length + j) ((S0 ++ (st.take j).map fun s => ((k : Int), s.1, s.2)).flatMap Srt.encD)) ∧ Hid (Below w.heap.size w wr)) (fun _ i _ => nz - (intOf i).toNat)
      case atStart => exact ⟨0, Ab, cb, Nat.zero_le _, rfl, rfl, by simpa using OFN, HBN⟩
      case round =>
        clear OFN HBN
        obtain ⟨j, Ab, cb, hj, rfl, rfl, OF, HB⟩ := hrel
        by_cases hltj : j < nz
        · obtain ⟨b2, o2, rfl, hl2, d1, d2⟩ := (HR.out.go HB.out).pair_at hltj
          have HSN : Hid ((S0 ++ (st.take (j + 1)).map fun s => ((k : Int), s.1, s.2)).flatMap Srt.encD = (S0 ++ (st.take j).map fun s => ((k : Int), s.1, s.2)).flatMap Srt.encD ++ [.int .i64 k, .int .i64 st[j].1, .int .i64 st[j].2]) := by
            show _ = _
            rw [List.take_succ_eq_append_getElem hl2, List.map_append, ← List.append_assoc]
            exact flat_snocD _ _
          generalize (S0 ++ (st.take j).map fun s => ((k : Int), s.1, s.2)).flatMap Srt.encD = X0 at *
          generalize st[j] = pq at *
          obtain ⟨x, y⟩ := pq
          simp only at d1 d2 HSN
          have hsz := HB.out.size
          have OF2 := Lib.hid ((OF.out.alloc (.cells #[.int .i64 x, .int .i64 y] 57)).alloc (.cells #[.int .i64 k, .int .i64 x, .int .i64 y] 94))
          have OF1 := Lib.hid (OF.out.alloc (.cells #[.int .i64 x, .int .i64 y] 57))
          have HB2 := Lib.hid (HB.out.alloc HB.out.size (.cells #[.int .i64 x, .int .i64 y] 57))
          go_wp2_with (at_builtin; go_must (refine wpList_append_grow _ rfl (.tmp 38) (.tmp 45) 92 rfl w.heap.size 94 i0 _ 3 24 Try.underlying92 hi0 hz0 hz1 hz2 rfl (by decide) (.slice Ab (S0.length + j) cb) (S0.length + j) X0 rfl OF1.out (by simp; omega) #[.int .i64 k, .int .i64 x, .int .i64 y] rfl rfl (by simp) (by simp [Value.oneCell']) (by unfold maxLen; omega) (by omega) ?_); intro v' w3 hown3 hg3 hsz3; obtain ⟨A3, c3, rfl, _⟩ := own_slice hown3; have HO3 := Lib.hid hown3; have HG3 := Lib.hid hg3; clear hown3 hg3)
          have HB3 := Lib.hid (below_grown HB2.out HG3.out OF1.out (Nat.le_refl _) (by have := HB.out.size; simp; omega))
          go_roundw
          case rel =>
            refine ⟨j + 1, A3, c3, by omega, by go_num, rfl, ?_, HB3⟩
            rw [HSN.out]; exact HO3.out
          case measure => simp [intOf]; omega
        · have : j = nz := by omega
          subst this
          have HTK : Hid (st.take j = st) := List.take_of_length_le (by rw [HZ.out]; exact Nat.le_refl _)
          rw [HTK.out] at OF
          go_wp2_with fail
          go_roundw
          case rel =>
            refine ⟨k + 1, Ab, cb, by omega, by go_num, ?_, ?_, HB⟩
            · rw [HS.out, List.length_append, List.length_map, HZ.out]
            · rw [HS.out, List.length_append, List.length_map, HZ.out]; exact OF
          case measure => simp [intOf]; omega
    · have : k = n := by omega
      subst this
      have HPM := HG
      rcases OF.out.2 with ⟨hv, he⟩ | ⟨g, cap, cur, hv, hg1, _, hcap, _⟩
      · injection hv with hv1 hv2 hv3
        have HE : Hid (Pl.blocksK (plo l) k = []) := List.eq_nil_of_length_eq_zero hv2
        subst hv1 hv3
        rw [hv2]
        obtain ⟨p, hsv⟩ := Pl.served_of (bs := []) HGD.out d0 HT2.out (by rw [HE.out]) List.Pairwise.nil
        have HSV := Lib.hid hsv
        have hsz := HB.out.size
        clear hv2 he OF hsv
        go_wp2_with fail
        refine (sortD_nil _ _).mono ?_
        rintro e w6 ⟨rfl, rfl⟩
        have hmk := HMK.out
        go_wp2_with fail
        have HZL : Hid (ZC.toList = ints (List.replicate k 0)) := by show _ = _; rw [← HZC.out, toList_madeCells_one]; simp [ints]
        have HZS : Hid (ZC.size = k) := by show _ = _; rw [← HZC.out]; simp [size_madeCells]
        have OF7 : Hid ((wr.alloc (.cells ZC 3)).ownsRow wr.heap.size 3 1 (.slice (some ⟨wr.heap.size, 0, none⟩) k k) k (ints (List.replicate k 0))) := own_new wr ZC _ k _ (Nat.le_refl _) (by unfold maxLen; omega) HZS.out _ HZL.out _ rfl
        have HB7 := Lib.hid (HB.out.alloc HB.out.size (.cells ZC 3))
        clear HZL HZS hmk HB
        generalize wr.heap.size = g7 at *
        generalize wr.alloc (.cells ZC 3) = w7 at *
        go_loopw [1, 14, 56] (fun v1 v14 i wr => v1 = .int .i64 d ∧ v14 = .int .i64 0 ∧ i = .int .i64 0 ∧ w7 = wr) (fun _ _ _ _ => 0)
        case atStart => exact ⟨rfl, rfl, rfl, rfl⟩
        case round =>
          obtain ⟨rfl, rfl, rfl, rfl⟩ := hrel
          go_wp2_with fail
          go_ret3
          exact ⟨_, _, 0, p, rfl, HSV.out, fun _ => by rw [HE.out, Pl.isortB_nil]; exact ⟨rfl, rfl⟩, by omega, by omega, Reads.of_own OF7.out, HB7.out⟩
      · injection hv with hv1 hv2 hv3
        subst hv1 hv3
        have ROW : Hid (Srt.Row Srt.encD 3 w.heap.size 94 g (Pl.blocksK (plo l) k).length cb wr (Pl.blocksK (plo l) k).toArray) := ⟨by simp, fun _ => rfl, fun _ v hv => by simp [Srt.encD] at hv; rcases hv with rfl | rfl | rfl <;> rfl, hg1, by rw [List.toList_toArray]; exact OF.out⟩
        have HBK := Lib.hid (Pl.blocksK_good HGD.out (Nat.le_refl k))
        have HLK := HLN.out k (Nat.le_refl k)
        have HCMP : Hid (Srt.CmpOk 46 #[] Srt.valD Pl.bcf (fun x => -1000000 ≤ x.2.2 ∧ x.2.2 ≤ 1000000) g wr) := by
          intro wt x y hkp qx qy
          exact best1_any x y wt qx qy
        have HSORT := Lib.hid (Srt.sortD w.heap.size g (Pl.blocksK (plo l) k).length cb 46 _ Pl.bcf (fun x => -1000000 ≤ x.2.2 ∧ x.2.2 ≤ 1000000) wr enters_best1 HCMP.out Pl.bcf_swo (by omega) (Pl.blocksK (plo l) k).toArray wr (Srt.Kp.refl _ _) ROW.out (fun i hi => by
          rw [getElem!_pos _ i (by simpa using hi)]
          have := (HBK.out (Pl.blocksK (plo l) k)[i] (List.getElem_mem hi)).1
          simp only [List.getElem_toArray]
          exact ⟨this.2.2.2.2.1, this.2.2.2.2.2⟩))
        clear HCMP
        go_wp2_with fail
        refine HSORT.out.mono ?_
        rintro e w6 ⟨rfl, d', hrow, hperm, hsort, hdx, hkp⟩
        have HDX : Hid ((Pl.blocksK (plo l) k).length < 20 → d'.toList = Pl.isortB (Pl.blocksK (plo l) k)) := fun hh => by unfold Pl.isortB; rw [← hdx hh]
        obtain ⟨hpm, hsd⟩ := Pl.sorted_of rfl hrow.size hperm hsort
        have HPM := Lib.hid hpm
        have HSV := Lib.hid (Pl.served_of HGD.out d0 HT2.out hpm hsd)
        have HB6 := Lib.hid (below_kp HB.out hkp HB.out.size hg1)
        have HDL : Hid (d'.toList.length = (Pl.blocksK (plo l) k).length) := hpm.length_eq
        have HGB : Hid (∀ b ∈ d'.toList, Pl.GoodB k b) := fun b hb => (HBK.out b (hpm.mem_iff.1 hb)).1
        have HFB : Hid (∀ j, Pl.FillBd k d (Pl.dfill k d (d'.toList.take j))) := fun j => Pl.dfill_bd d0 _ fun b hb => HGB.out b (List.mem_of_mem_take hb)
        have HO6 := Lib.hid hrow.own
        clear hrow hperm hsort hdx hkp HSORT ROW hpm hsd HPM OF HB HBK
        have hsz := HB6.out.size
        have hmk := HMK.out
        generalize hlm : (Pl.blocksK (plo l) k).length = m at *
        have HLM := Lib.hid hlm
        clear hlm
        have HRX : Hid (Reads w6 w6.heap.size 3 (some ⟨g, 0, none⟩) m (d'.toList.flatMap Srt.encD)) := Reads.of_own HO6.out
        generalize d'.toList = bs at *
        go_wp2_with fail
        have HZL : Hid (ZC.toList = ints (List.replicate k 0)) := by show _ = _; rw [← HZC.out, toList_madeCells_one]; simp [ints]
        have HZS : Hid (ZC.size = k) := by show _ = _; rw [← HZC.out]; simp [size_madeCells]
        have OF7 : Hid ((w6.alloc (.cells ZC 3)).ownsRow w6.heap.size 3 1 (.slice (some ⟨w6.heap.size, 0, none⟩) k k) k (ints (List.replicate k 0))) := own_new w6 ZC _ k _ (Nat.le_refl _) (by unfold maxLen; omega) HZS.out _ HZL.out _ rfl
        have HB7 : Hid (Below w6.heap.size w6 (w6.alloc (.cells ZC 3))) := (Below.refl _ _).alloc (Nat.le_refl _) _
        clear HZL HZS hmk
        generalize w6.alloc (.cells ZC 3) = w7 at *
        go_loopw [1, 14, 56] (fun v1 v14 i wr => ∃ (j : Nat) (os : List Int) (cs dm : Int), j ≤ m ∧ i = .int .i64 j ∧ v1 = .int .i64 dm ∧ v14 = .int .i64 cs ∧ Hid (Pl.dfill k d (bs.take j) = (os, cs, dm)) ∧ Hid (wr.ownsRow w6.heap.size 3 1 (.slice (some ⟨w6.heap.size, 0, none⟩) k k) k (ints os)) ∧ Hid (Below w6.heap.size w6 wr)) (fun _ _ i _ => m - (intOf i).toNat)
        case atStart => exact ⟨0, List.replicate k 0, 0, d, Nat.zero_le _, rfl, rfl, rfl, rfl, OF7, HB7⟩
        case round =>
          clear OF7 HB7
          obtain ⟨j, os, cs, dm, hj, rfl, rfl, rfl, HR, OF, HBW⟩ := hrel
          have hfb := HFB.out j
          rw [HR.out] at hfb
          obtain ⟨f0, f1, f2, f3, _, f5⟩ := hfb
          simp only at f0 f1 f2 f3 f5
          by_cases hlt : j < m
          · obtain ⟨b, o, hA, hl1, c1, c2, c3⟩ := (HRX.out.below HBW.out).b3_at hlt
            obtain ⟨g0, g1, g2, g3, g4, g5⟩ := HGB.out _ (List.getElem_mem hl1)
            have HSN : Hid (Pl.dfill k d (bs.take (j + 1)) = Pl.dstep (os, cs, dm) bs[j]) := by show _ = _; rw [List.take_succ_eq_append_getElem hl1, Pl.dfill_snoc, HR.out]
            generalize bs[j] = x at *
            obtain ⟨x1, x2, x3⟩ := x
            simp only at c1 c2 c3 g0 g1 g2 g3 g4 g5
            obtain ⟨gi, rfl⟩ := Int.eq_ofNat_of_zero_le g0
            have gk : gi < k := by omega
            have co := own_int_cell OF.out gi gk
            have fo := World.ownsRow.frozenAt OF.out
            have hgb := f5 gi
            have gi0 : (0 : Int) ≤ (gi : Int) := g0
            have hszw := HBW.out.size
            generalize hov : os.getD gi 0 = ov at *
            have HOV := Lib.hid hov
            clear hov f5
            have olt := (OF.out.lt w6.heap.size rfl).2
            have AX := Lib.hid hA
            injection hA with hA; injection hA with hA1 hA2; subst hA1 hA2; rw [Nat.zero_add] at c1 c2 c3
            rcases Int.lt_or_le x2 dm with hm | hm
            · have mb := Pl.mul_bd (m := x2) (p := x3) g2 g3 g4 g5
              have HST : Hid (Pl.dstep (os, cs, dm) ((gi : Int), x2, x3) = (os.set gi (ov + x2), cs + x2 * x3, dm - x2)) := by
                show (os.set _ _, _, _) = _
                simp only [Int.toNat_natCast]
                rw [HOV.out, show min dm x2 = x2 from by omega]
              rw [HST.out] at HSN
              go_wp2_with fail
              go_roundw
              case rel => exact ⟨j + 1, _, _, _, by omega, by go_num, rfl, rfl, HSN, (own_int_set OF.out gi (ov + x2)).alloc _, (HBW.out.setCell (p := ⟨w6.heap.size, gi, none⟩) (Nat.le_refl _) _).alloc (by simp; omega) _⟩
              case measure => simp [intOf]; omega
            · have mb := Pl.mul_bd (m := dm) (p := x3) f0 (by omega) g4 g5
              have HST : Hid (Pl.dstep (os, cs, dm) ((gi : Int), x2, x3) = (os.set gi (ov + dm), cs + dm * x3, dm - dm)) := by
                show (os.set _ _, _, _) = _
                simp only [Int.toNat_natCast]
                rw [HOV.out, show min dm x2 = dm from by omega]
              rw [HST.out, Int.sub_self] at HSN
              go_wp2_with fail
              go_roundw
              case rel => exact ⟨j + 1, _, _, _, by omega, by go_num, rfl, rfl, HSN, (own_int_set OF.out gi (ov + dm)).alloc _, (HBW.out.setCell (p := ⟨w6.heap.size, gi, none⟩) (Nat.le_refl _) _).alloc (by simp; omega) _⟩
              case measure => simp [intOf]; omega
          · have : j = m := by omega
            subst this
            have HTK : Hid (bs.take j = bs) := List.take_of_length_le (by rw [HDL.out]; exact Nat.le_refl _)
            rw [HTK.out] at HR
            have HF : Hid (Pl.dfill k d bs = (os, cs, dm)) := HR
            go_wp2_with fail
            go_ret3
            obtain ⟨p, hsv⟩ := HSV.out
            have e1 : (List.foldl Pl.dstep (List.replicate k 0, 0, d) bs) = (os, cs, dm) := HF.out
            rw [e1] at hsv
            exact ⟨_, os, cs, p, rfl, hsv, fun hh => by rw [← HDX.out (by rw [← HLM.out]; exact hh), HF.out]; exact ⟨rfl, rfl⟩, by omega, by omega, Reads.of_own OF.out, HB6.out.trans (HBW.out.mono HB6.out.size)⟩
end Go.Proofs.Ytjdagpmfnmodbaa
