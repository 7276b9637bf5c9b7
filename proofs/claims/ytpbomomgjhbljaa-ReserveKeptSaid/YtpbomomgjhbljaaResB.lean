/- reserve.blocks for valid units: the blocks of their steps in the order of the prices, early ones ahead. No condition. reserve.Best: the fill of the blocks in the order of their prices. Condition: the units read take less memory than the form's reach. -/
import Derived.Test.YtpbomomgjhbljaaRes
import Derived.Test.YtpbomomgjhbljaaResS
import Derived.Test.YtpbomomgjhbljaaHours
namespace Go.Proofs.Ytpbomomgjhbljaa
open Go.RowKit
def BlocksSaid (l : List (MOff × Int)) (n : Nat) (w : World) (e : Ending) (w' : World) : Prop :=
  ∃ A c, ∃ bs : List Pl.B4, e = .returned (.slice A (Pl.rblocks (plr l) n).length c) ∧ bs.Perm (Pl.rblocks (plr l) n) ∧ bs.Pairwise Pl.rle ∧ ((Pl.rblocks (plr l) n).length < 20 → bs = Pl.isortR (Pl.rblocks (plr l) n)) ∧ w'.ownsRow w.heap.size 118 4 (.slice A (Pl.rblocks (plr l) n).length c) (Pl.rblocks (plr l) n).length (bs.flatMap Srt.encR) ∧ Below w.heap.size w w'
theorem flat_snocR (S : List Pl.B4) (b : Pl.B4) : (S ++ [b]).flatMap Srt.encR = S.flatMap Srt.encR ++ [.int .i64 b.1, .int .i64 b.2.1, .int .i64 b.2.2.1, .bool b.2.2.2] := by
  rw [List.flatMap_append]; rfl
set_option maxHeartbeats 6400000 in
set_option maxRecDepth 100000 in
theorem blocks_any (A : Option Addr) (n c : Nat) (l : List (MOff × Int)) (w : World) (h : Units w A n l) (hr : RGood l n) :
    Calls Try.prog 67 #[.slice A n c] w (BlocksSaid l n w) := by
  have L1 := Lib.hid h.len
  have H := Lib.hid h
  have HR := Lib.hid hr
  have hn10 := hr.n10
  obtain ⟨i0, hi0, hz0, hz1, hz2⟩ := info_parts info_rblock
  have HLN : Hid (∀ k, k ≤ n → (Pl.rblocks (plr l) k).length ≤ 24 * k) := fun k hk => Pl.rblocks_len fun j hj => (HR.out.good j (by omega)).2
  have HMN : Hid (∀ a b : Int, (if b < a then b else a) = min a b) := ite_min
  clear h hr
  go_enter Try.func67, Try.ntmps67
  go_wp2_with fail
  go_loopw [3, 12] (fun v i wr => ∃ (k : Nat) (Ab : Option Addr) (cb : Nat), k ≤ n ∧ i = .int .i64 k ∧ v = .slice Ab (Pl.rblocks (plr l) k).length cb ∧ Hid (wr.ownsRow w.heap.size 118 4 (.slice Ab (Pl.rblocks (plr l) k).length cb) (Pl.rblocks (plr l) k).length ((Pl.rblocks (plr l) k).flatMap Srt.encR)) ∧ Hid (Below w.heap.size w wr)) (fun _ i _ => n - (intOf i).toNat)
  case atStart => exact ⟨0, none, 0, Nat.zero_le _, rfl, rfl, World.ownsRow_nil _ _ _ _, Below.refl _ _⟩
  case round =>
    obtain ⟨k, Ab, cb, hk, rfl, rfl, OF, HB⟩ := hrel
    by_cases hlt : k < n
    · obtain ⟨b, o, rfl, hl1, c1, c2, c3⟩ := (H.out.go HB.out).at_ hlt
      have hlb := HLN.out k hk
      obtain ⟨s1, s2⟩ := HR.out.good k hlt
      have HH := Lib.hid (fun w2 hr => held_at HR.out hlt hl1 0 w2 hr (Int.le_refl 0) (by omega))
      have HSM := Lib.hid (fun w2 hr => rsum_at HR.out hlt hl1 w2 hr)
      have hT := s1.sum
      have hT0 := Pl.least_most (P := 0) (st := Pl.steps (Pl.roffs (plr l)) k) (fun q hq => (s1.step q hq).1)
      have hhb := Pl.heldF_bd s1 (HR.out.fast k hlt).1 (HR.out.fast k hlt).2 (Int.le_refl 0) (by omega)
      have hEb := Pl.earlyK_bd s1 (HR.out.fast k hlt).1
      have HEK : Hid (Pl.total (Pl.steps (Pl.roffs (plr l)) k) - Pl.heldF (Pl.ru (plr l) k).2 (Pl.steps (Pl.roffs (plr l)) k) 0 = Pl.earlyK (plr l) k) := rfl
      have HBS : Hid (Pl.rblocks (plr l) (k + 1) = Pl.rblocks (plr l) k ++ (Pl.rblk k (Pl.earlyK (plr l) k) (Pl.steps (Pl.roffs (plr l)) k)).1) := rfl
      rw [plr_steps hl1] at s1 s2 HH HSM hT hT0 hhb hEb HEK HBS
      have HIN := Lib.hid ((H.out.2 _ (List.getElem_mem hl1)).1)
      have HST := Lib.hid s1
      clear s1
      generalize l[k] = z at *
      obtain ⟨⟨nm, Az, nz, cz, st⟩, f⟩ := z
      simp only at c1 c2 c3 HH HSM s2 hT hT0 hhb hEb HEK HBS HST
      have hzl : st.length = nz := HIN.out.2.2.pair_len
      have HZL := Lib.hid hzl
      have hnz : nz ≤ 12 := by omega
      have hT1 : 0 ≤ Pl.total st := by omega
      generalize hS0 : Pl.rblocks (plr l) k = S0 at *
      generalize hE : Pl.earlyK (plr l) k = E at *
      generalize hy : Pl.heldF (Pl.ru (plr l) k).2 st 0 = y at *
      generalize hTT : Pl.total st = T at *
      obtain ⟨e0, e1⟩ := hEb
      have HTT := Lib.hid hTT
      clear hzl s2 hT0 hS0 hE hy hTT
      have HBN := Lib.hid (HB.out.alloc HB.out.size (.cells #[.string nm, .slice Az nz cz, .int .i64 f] 65))
      have BN := Lib.hid (Blk.new_ wr wr.heap.size 65 #[.string nm, .slice Az nz cz, .int .i64 f] rfl)
      have OFN := Lib.hid (OF.out.alloc (.cells #[.string nm, .slice Az nz cz, .int .i64 f] 65))
      go_wp2_with fail
      clear c1 c2 c3 HB OF
      generalize wr.alloc (.cells #[.string nm, .slice Az nz cz, .int .i64 f] 65) = w2 at *
      generalize wr.heap.size = bn at *
      have r0 := Wd.cell (BN.out.cell 0)
      have r1 := Wd.cell (BN.out.cell 1)
      have r2 := Wd.cell (BN.out.cell 2)
      have hye : IntKind.i64.wrap (T - y) = E := by rw [IntWalk.i64_in _ (by omega)]; exact HEK.out
      have HYE := Lib.hid hye
      clear hye
      refine wp_region_wd (by kernel_rfl) (by kernel_rfl) ?_
      repeat (go_big_quiet_step ((first | (go_at_call 68; exact Calls.wd (HSM.out _ (HIN.out.2.2.go (HBN.out.trans ((Wd.ok _).mono HBN.out.size))))) | (go_at_call 69; exact Calls.wd (HH.out _ (HIN.out.2.2.go (HBN.out.trans ((Wd.ok _).mono HBN.out.size))))))))
      refine wpQuiet_nil ?_
      rintro _ ⟨w6, rfl⟩
      have HBN := Lib.hid (HBN.out.trans (w6.ok.mono HBN.out.size))
      have BN := Lib.hid (BN.out.go w6.ok)
      have OFN := Lib.hid (own_go OFN.out w6.ok)
      clear r0 r1 r2 HYE
      generalize w6.val = w3 at *
      rw [HEK.out]
      have r1 := BN.out.cell 1
      go_wp2_with fail
      clear r1 BN
      have HST1 : Hid (∀ p ∈ st, 1 ≤ p.1) := fun p hp => (HST.out.step p hp).1
      have hs0l : S0.length ≤ 240 := by omega
      go_loopw [3, 6, 27] (fun v3 v6 i wr => ∃ (q : Nat) (Ab : Option Addr) (cb : Nat), q ≤ nz ∧ i = .int .i64 q ∧ v6 = .int .i64 (Pl.rblk k E (st.take q)).2 ∧ v3 = .slice Ab (S0.length + (Pl.rblk k E (st.take q)).1.length) cb ∧ Hid (wr.ownsRow w.heap.size 118 4 (.slice Ab (S0.length + (Pl.rblk k E (st.take q)).1.length) cb) (S0.length + (Pl.rblk k E (st.take q)).1.length) ((S0 ++ (Pl.rblk k E (st.take q)).1).flatMap Srt.encR)) ∧ Hid (Below w.heap.size w wr)) (fun _ _ i _ => nz - (intOf i).toNat)
      case atStart => exact ⟨0, Ab, cb, Nat.zero_le _, rfl, rfl, rfl, by simpa [Pl.rblk] using OFN, HBN⟩
      case round =>
        clear OFN HBN
        obtain ⟨q, Ab, cb, hq, rfl, rfl, rfl, OF, HB⟩ := hrel
        by_cases hltq : q < nz
        · obtain ⟨b2, o2, rfl, hl2, d1, d2⟩ := (HIN.out.2.2.go HB.out).pair_at hltq
          have hle := Pl.rblk_left (st := st.take q) k E (fun p hp => HST1.out p (List.mem_of_mem_take hp)) e0
          have hln := Pl.rblk_len k E (st.take q)
          have hpx := (HST.out.step _ (List.getElem_mem hl2))
          rw [List.length_take] at hln
          have HSN : Hid (Pl.rblk k E (st.take (q + 1)) = Pl.rstep k (Pl.rblk k E (st.take q)) st[q]) := by show _ = _; rw [List.take_succ_eq_append_getElem hl2, Pl.rblk_snoc]
          generalize Pl.rblk k E (st.take q) = a at *
          obtain ⟨L, aa⟩ := a
          generalize st[q] = pq at *
          obtain ⟨x1, y1⟩ := pq
          simp only at d1 d2 hle hln hpx OF
          obtain ⟨p1, p2, p3, p4⟩ := hpx
          obtain ⟨t0, t1⟩ := hle
          have hln2 : L.length ≤ 24 := by omega
          have OF1 := Lib.hid (OF.out.alloc (.cells #[.int .i64 x1, .int .i64 y1] 62))
          have HB1 := Lib.hid (HB.out.alloc HB.out.size (.cells #[.int .i64 x1, .int .i64 y1] 62))
          have hszr := HB.out.size
          have hmn := HMN.out
          clear hln
          by_cases hp2 : aa < x1
          · by_cases hp1 : 0 < aa
            · have HC : Hid (Pl.rstep k (L, aa) (x1, y1) = ((L ++ [((k : Int), aa, y1, false)]) ++ [((k : Int), x1 - aa, y1, true)], 0)) := by show _ = _; unfold Pl.rstep; simp only; rw [show min aa x1 = aa from by omega, if_pos hp1, if_pos hp2, Int.sub_self]
              go_wp2_with (first
                | (at_builtin; refine wpList_append_grow _ rfl (.tmp 40) (.tmp 46) 115 rfl w.heap.size 118 i0 _ 4 32 Try.underlying115 hi0 hz0 hz1 hz2 rfl (by decide) (.slice Ab (S0.length + L.length) cb) (S0.length + L.length) ((S0 ++ L).flatMap Srt.encR) rfl OF1.out (by simp; omega) #[.int .i64 k, .int .i64 aa, .int .i64 y1, .bool false] rfl rfl (by simp) (by simp [Value.oneCell']) (by unfold maxLen; omega) (by omega) ?_; intro v' w3 hown3 hg3 hsz3; obtain ⟨A3, c3, rfl, _⟩ := own_slice hown3; have HO3 := Lib.hid hown3; have HG3 := Lib.hid hg3; have BX3 := Lib.hid ((Blk.new_ wr wr.heap.size 62 #[.int .i64 x1, .int .i64 y1] rfl).grown HG3.out (own_ne OF.out (.inr (Nat.le_refl _)))); have k3 := BX3.out.cell; clear hown3 hg3)
                | (at_builtin; refine wpList_append_grow _ rfl (.tmp 52) (.tmp 61) 115 rfl w.heap.size 118 i0 _ 4 32 Try.underlying115 hi0 hz0 hz1 hz2 rfl (by decide) (.slice A3 (S0.length + L.length + 1) c3) (S0.length + L.length + 1) ((S0 ++ L).flatMap Srt.encR ++ [.int .i64 k, .int .i64 aa, .int .i64 y1, .bool false]) rfl HO3.out (by omega) #[.int .i64 k, .int .i64 (x1 - aa), .int .i64 y1, .bool true] rfl rfl (by simp) (by simp [Value.oneCell']) (by unfold maxLen; omega) (by omega) ?_; intro v4 w4 hown4 hg4 hsz4; obtain ⟨A4, c4, rfl, _⟩ := own_slice hown4; have HO4 := Lib.hid hown4; have HG4 := Lib.hid hg4; clear hown4 hg4))
              have HB3 := Lib.hid (below_grown HB1.out HG3.out OF1.out (Nat.le_refl _) (by have := HB.out.size; simp; omega))
              have HB4 := Lib.hid (below_grown HB3.out HG4.out HO3.out (Nat.le_refl _) HB3.out.size)
              go_roundw
              case rel =>
                refine ⟨q + 1, A4, c4, by omega, by go_num, by rw [HSN.out, HC.out], ?_, ?_, HB4⟩
                · rw [HSN.out, HC.out]; simp only; rw [List.length_append, List.length_append, ← Nat.add_assoc, ← Nat.add_assoc]; rfl
                · rw [HSN.out, HC.out]; simp only
                  rw [← List.append_assoc, ← List.append_assoc, flat_snocR, flat_snocR, List.length_append, List.length_append, ← Nat.add_assoc, ← Nat.add_assoc]
                  exact HO4.out
              case measure => simp [intOf]; omega
            · have : aa = 0 := by omega
              subst this
              have HC : Hid (Pl.rstep k (L, 0) (x1, y1) = (L ++ [((k : Int), x1, y1, true)], 0)) := by show _ = _; unfold Pl.rstep; simp only; rw [show min 0 x1 = 0 from by omega, if_neg (by omega), if_pos hp2, Int.sub_zero, Int.sub_zero]
              go_wp2_with (at_builtin; refine wpList_append_grow _ rfl (.tmp 52) (.tmp 61) 115 rfl w.heap.size 118 i0 _ 4 32 Try.underlying115 hi0 hz0 hz1 hz2 rfl (by decide) (.slice Ab (S0.length + L.length) cb) (S0.length + L.length) ((S0 ++ L).flatMap Srt.encR) rfl OF1.out (by simp; omega) #[.int .i64 k, .int .i64 x1, .int .i64 y1, .bool true] rfl rfl (by simp) (by simp [Value.oneCell']) (by unfold maxLen; omega) (by omega) ?_; intro v4 w4 hown4 hg4 hsz4; obtain ⟨A4, c4, rfl, _⟩ := own_slice hown4; have HO4 := Lib.hid hown4; have HG4 := Lib.hid hg4; have BX4 := Lib.hid ((Blk.new_ wr wr.heap.size 62 #[.int .i64 x1, .int .i64 y1] rfl).grown HG4.out (own_ne OF.out (.inr (Nat.le_refl _)))); have k4 := BX4.out.cell; clear hown4 hg4)
              have HB4 := Lib.hid (below_grown HB1.out HG4.out OF1.out (Nat.le_refl _) (by have := HB.out.size; simp; omega))
              go_roundw
              case rel =>
                refine ⟨q + 1, A4, c4, by omega, by go_num, by rw [HSN.out, HC.out], ?_, ?_, HB4⟩
                · rw [HSN.out, HC.out]; simp only; rw [List.length_append, ← Nat.add_assoc]; rfl
                · rw [HSN.out, HC.out]; simp only
                  rw [← List.append_assoc, flat_snocR, List.length_append, ← Nat.add_assoc]
                  exact HO4.out
              case measure => simp [intOf]; omega
          · have hp3 : x1 ≤ aa := by omega
            have HC : Hid (Pl.rstep k (L, aa) (x1, y1) = (L ++ [((k : Int), min aa x1, y1, false)], aa - min aa x1)) := by show _ = _; unfold Pl.rstep; simp only; rw [if_pos (by omega), if_neg (by omega), List.append_nil]
            go_wp2_with (at_builtin; refine wpList_append_grow _ rfl (.tmp 40) (.tmp 46) 115 rfl w.heap.size 118 i0 _ 4 32 Try.underlying115 hi0 hz0 hz1 hz2 rfl (by decide) (.slice Ab (S0.length + L.length) cb) (S0.length + L.length) ((S0 ++ L).flatMap Srt.encR) rfl OF1.out (by simp; omega) #[.int .i64 k, .int .i64 (min aa x1), .int .i64 y1, .bool false] rfl rfl (by simp) (by simp [Value.oneCell']) (by unfold maxLen; omega) (by omega) ?_; intro v' w3 hown3 hg3 hsz3; obtain ⟨A3, c3, rfl, _⟩ := own_slice hown3; have HO3 := Lib.hid hown3; have HG3 := Lib.hid hg3; have BX3 := Lib.hid ((Blk.new_ wr wr.heap.size 62 #[.int .i64 x1, .int .i64 y1] rfl).grown HG3.out (own_ne OF.out (.inr (Nat.le_refl _)))); have k3 := BX3.out.cell; clear hown3 hg3)
            have HB3 := Lib.hid (below_grown HB1.out HG3.out OF1.out (Nat.le_refl _) (by have := HB.out.size; simp; omega))
            go_roundw
            case rel =>
              refine ⟨q + 1, A3, c3, by omega, by go_num, by rw [HSN.out, HC.out], ?_, ?_, HB3⟩
              · rw [HSN.out, HC.out]; simp only; rw [List.length_append, ← Nat.add_assoc]; rfl
              · rw [HSN.out, HC.out]; simp only
                rw [← List.append_assoc, flat_snocR, List.length_append, ← Nat.add_assoc]
                exact HO3.out
            case measure => simp [intOf]; omega
        · have : q = nz := by omega
          subst this
          have HTK : Hid (st.take q = st) := List.take_of_length_le (by rw [HZL.out]; exact Nat.le_refl _)
          rw [HTK.out] at OF
          have HBL : Hid ((Pl.rblocks (plr l) (k + 1)).length = S0.length + (Pl.rblk k E st).1.length) := by show _ = _; rw [HBS.out, List.length_append]
          go_wp2_with fail
          go_roundw
          case rel =>
            refine ⟨k + 1, Ab, cb, by omega, by go_num, ?_, ?_, HB⟩
            · rw [HBL.out, HTK.out]
            · rw [HBL.out, HBS.out]; exact OF
          case measure => simp [intOf]; omega
    · have : k = n := by omega
      subst this
      have hlb := HLN.out k (Nat.le_refl k)
      have HBK : Hid (∀ b ∈ Pl.rblocks (plr l) k, Pl.GoodR k b) := Pl.rblocks_good (fun j hj => (HR.out.good j hj).1) (fun j hj => (HR.out.fast j hj).1) (Nat.le_refl _)
      have HSORT := Lib.hid (sortR_own w.heap.size Ab cb (Pl.rblocks (plr l) k) wr (by omega) (fun b hb => ⟨(HBK.out b hb).2.2.2.2.1, (HBK.out b hb).2.2.2.2.2⟩) OF.out)
      go_wp2_with fail
      refine HSORT.out.mono ?_
      rintro e w6 ⟨rfl, bs, hperm, hsort, hix, hown, hgr⟩
      have HB6 := Lib.hid (below_grown HB.out hgr OF.out (Nat.le_refl _) HB.out.size)
      have HPM := Lib.hid hperm
      have HSD := Lib.hid hsort
      have HIX := Lib.hid hix
      have HOW := Lib.hid hown
      clear hperm hsort hix hown hgr
      go_wp2_with fail
      go_ret
      exact ⟨Ab, cb, bs, rfl, HPM.out, HSD.out, HIX.out, HOW.out, HB6.out⟩
end Go.Proofs.Ytpbomomgjhbljaa
namespace Go.Proofs.Ytpbomomgjhbljaa
open Go.RowKit
namespace Pl
def rberr (l : List RU) (d need : Int) : Int := if rcheck l ≠ 0 then rcheck l else if (outB d 0 1000000 || outB need 0 1000000) = true then 4 else if rposs l - need < 0 then 8 else 0
theorem rberr_ok {l : List RU} {d need : Int} (h : rberr l d need = 0) : rcheck l = 0 ∧ (0 ≤ d ∧ d ≤ 1000000) ∧ (0 ≤ need ∧ need ≤ 1000000) ∧ 0 ≤ rposs l - need := by
  unfold rberr at h
  by_cases h1 : rcheck l = 0
  · rw [if_neg (by simpa using h1)] at h
    cases h2 : (outB d 0 1000000 || outB need 0 1000000)
    · rw [h2, if_neg (by decide)] at h
      rw [Bool.or_eq_false_iff] at h2
      refine ⟨h1, outB_false.1 h2.1, outB_false.1 h2.2, ?_⟩
      by_cases h3 : rposs l - need < 0
      · rw [if_pos h3] at h; exact absurd h (by decide)
      · omega
    · rw [h2, if_pos rfl] at h; exact absurd h (by decide)
  · rw [if_pos h1] at h; exact absurd h h1
end Pl
theorem enters_rbest1 : ∀ args w, Sem.run Try.prog (callFunc 66 args) w = .ok (.enter 66 args) w := by intro args w; go_simp
theorem rbest1_any (z : Int) (w : World) : Calls Try.prog 66 #[.int .i64 z] w fun e w' => e = .returned (.bool (Pl.outB z 0 1000000)) ∧ w = w' := by
  unfold Pl.outB
  by_cases h : z < 0
  · have e1 : decide (z < 0) = true := decide_eq_true h
    go_enter Try.func66, Try.ntmps66
    go_wp2_with fail
    go_ret
    exact ⟨by first | rfl | (rw [e1]; rfl), rfl⟩
  · have e1 : decide (z < 0) = false := decide_eq_false h
    go_enter Try.func66, Try.ntmps66
    go_wp2_with fail
    go_ret
    exact ⟨by first | rfl | (rw [e1]; rfl) | (simp [h]), rfl⟩
def RBestSaid (l : List (MOff × Int)) (n : Nat) (d need : Int) (w : World) (e : Ending) (w' : World) : Prop :=
  Below w.heap.size w w' ∧ ∃ bs : List Pl.B4, bs.Perm (Pl.rblocks (plr l) n) ∧ bs.Pairwise Pl.rle ∧ ((Pl.rblocks (plr l) n).length < 20 → bs = Pl.isortR (Pl.rblocks (plr l) n)) ∧
    ((0 < (Pl.rfill n d (Pl.possK (plr l) n - need) bs).2.2.1 ∧ e = .returned (.tuple #[.slice none 0 0, .int .i64 0, .int .i64 8])) ∨
      ((Pl.rfill n d (Pl.possK (plr l) n - need) bs).2.2.1 ≤ 0 ∧ ∃ A, e = .returned (.tuple #[.slice A n n, .int .i64 (Pl.rfill n d (Pl.possK (plr l) n - need) bs).2.1, .int .i64 0]) ∧ Reads w' w'.heap.size 1 A n (ints (Pl.rfill n d (Pl.possK (plr l) n - need) bs).1)))
set_option maxHeartbeats 3200000 in
set_option maxRecDepth 100000 in
theorem rbest_bad (A : Option Addr) (n c : Nat) (l : List (MOff × Int)) (d need : Int) (w : World) (hn : n * 48 ≤ 140737488351232) (h : Units w A n l) (h0 : Pl.rberr (plr l) d need ≠ 0) :
    Calls Try.prog 32 #[.slice A n c, .int .i64 d, .int .i64 need] w fun e w' => e = .returned (.tuple #[.slice none 0 0, .int .i64 0, .int .i64 (Pl.rberr (plr l) d need)]) ∧ Below w.heap.size w w' := by
  have L1 := Lib.hid h.len
  have HP := Lib.hid (possible_any A n c l w hn h)
  have H0 := Lib.hid h0
  have hE := enters_rbest1
  clear h h0
  by_cases h1 : Pl.rcheck (plr l) = 0
  · have HR := Lib.hid (rgood_of L1.out h1)
    have hn10 := HR.out.n10
    have hpb := Pl.possK_bd (n := n) (fun j hj => (HR.out.good j (by omega)).1) (fun j hj => HR.out.fast j (by omega))
    have hpo : rposs (plr l) = Pl.possK (plr l) n := by unfold rposs; rw [if_neg (by simpa using h1), plr_len, L1.out]
    rw [← hpo] at hpb
    obtain ⟨pb0, pb1⟩ := hpb
    clear hpo
    have HO1 := Lib.hid (fun w => rbest1_any d w)
    have HO2 := Lib.hid (fun w => rbest1_any need w)
    have HX : Hid (Pl.rberr (plr l) d need = if (Pl.outB d 0 1000000 || Pl.outB need 0 1000000) = true then 4 else if rposs (plr l) - need < 0 then 8 else 0) := by show _ = _; unfold Pl.rberr; rw [if_neg (by simpa using h1)]
    rw [h1] at HP
    clear h1
    cases ho1 : Pl.outB d 0 1000000
    · cases ho2 : Pl.outB need 0 1000000
      · have hnd := Pl.outB_false.1 ho2
        obtain ⟨n0, n1⟩ := hnd
        have hneg : rposs (plr l) - need < 0 := by
          have := H0.out
          rw [HX.out, ho1, ho2, if_neg (by decide)] at this
          by_cases h3 : rposs (plr l) - need < 0
          · exact h3
          · rw [if_neg h3] at this; exact absurd rfl this
        rw [ho1, ho2, if_neg (by decide), if_pos hneg] at HX
        rw [ho1] at HO1
        rw [ho2] at HO2
        clear ho1 ho2 H0
        generalize rposs (plr l) = po at *
        rw [HX.out]
        go_enter Try.func32, Try.ntmps32
        go_wp2_with fail
        refine HP.out.mono ?_
        rintro e w1 ⟨rfl, hb⟩
        have HB1 := Lib.hid hb
        clear hb
        go_wp2_with fail
        refine (HO1.out _).mono ?_
        rintro e w2 ⟨rfl, rfl⟩
        go_wp2_with fail
        refine (HO2.out _).mono ?_
        rintro e w2 ⟨rfl, rfl⟩
        go_wp2_with fail
        go_ret3
        exact ⟨rfl, HB1.out⟩
      · rw [ho1, ho2, if_pos (by decide)] at HX
        rw [ho1] at HO1
        rw [ho2] at HO2
        clear ho1 ho2 H0
        generalize rposs (plr l) = po at *
        rw [HX.out]
        go_enter Try.func32, Try.ntmps32
        go_wp2_with fail
        refine HP.out.mono ?_
        rintro e w1 ⟨rfl, hb⟩
        have HB1 := Lib.hid hb
        clear hb
        go_wp2_with fail
        refine (HO1.out _).mono ?_
        rintro e w2 ⟨rfl, rfl⟩
        go_wp2_with fail
        refine (HO2.out _).mono ?_
        rintro e w2 ⟨rfl, rfl⟩
        go_wp2_with fail
        go_ret3
        exact ⟨rfl, HB1.out⟩
    · rw [ho1, Bool.true_or, if_pos rfl] at HX
      rw [ho1] at HO1
      clear ho1 H0
      generalize rposs (plr l) = po at *
      rw [HX.out]
      go_enter Try.func32, Try.ntmps32
      go_wp2_with fail
      refine HP.out.mono ?_
      rintro e w1 ⟨rfl, hb⟩
      have HB1 := Lib.hid hb
      clear hb
      go_wp2_with fail
      refine (HO1.out _).mono ?_
      rintro e w2 ⟨rfl, rfl⟩
      go_wp2_with fail
      go_ret3
      exact ⟨rfl, HB1.out⟩
  · have HX : Hid (Pl.rberr (plr l) d need = Pl.rcheck (plr l)) := by show _ = _; unfold Pl.rberr; rw [if_pos h1]
    have h2 : (Pl.rcheck (plr l) != 0) = true := by simpa using h1
    clear h1 H0
    rw [HX.out]
    generalize Pl.rcheck (plr l) = u at *
    generalize rposs (plr l) = po at *
    go_enter Try.func32, Try.ntmps32
    go_wp2_with fail
    refine HP.out.mono ?_
    rintro e w1 ⟨rfl, hb⟩
    have HB1 := Lib.hid hb
    clear hb
    go_wp2_with fail
    go_ret3
    exact ⟨rfl, HB1.out⟩
theorem rbest_end {l : List (MOff × Int)} {n : Nat} {d need q cs dm lf : Int} {os : List Int} {bs : List Pl.B4} {w w' : World} {e : Ending} (hq : Pl.possK (plr l) n - need = q) (h1 : bs.Perm (Pl.rblocks (plr l) n)) (h2 : bs.Pairwise Pl.rle) (h3 : (Pl.rblocks (plr l) n).length < 20 → bs = Pl.isortR (Pl.rblocks (plr l) n)) (hF : Pl.rfill n d q bs = (os, cs, dm, lf)) (hb : Below w.heap.size w w')
    (hc : (0 < dm ∧ e = .returned (.tuple #[.slice none 0 0, .int .i64 0, .int .i64 8])) ∨ (dm ≤ 0 ∧ ∃ A, e = .returned (.tuple #[.slice A n n, .int .i64 cs, .int .i64 0]) ∧ Reads w' w'.heap.size 1 A n (ints os))) : RBestSaid l n d need w e w' := by
  subst hq
  refine ⟨hb, bs, h1, h2, h3, ?_⟩
  rw [hF]
  exact hc
set_option maxHeartbeats 6400000 in
set_option maxRecDepth 100000 in
theorem rbest_good (A : Option Addr) (n c : Nat) (l : List (MOff × Int)) (d need : Int) (w : World) (hn : n * 48 ≤ 140737488351232) (h : Units w A n l) (h0 : Pl.rberr (plr l) d need = 0) :
    Calls Try.prog 32 #[.slice A n c, .int .i64 d, .int .i64 need] w (RBestSaid l n d need w) := by
  have L1 := Lib.hid h.len
  have HP := Lib.hid (possible_any A n c l w hn h)
  have hE := enters_rbest1
  obtain ⟨h1, ⟨d0, d1⟩, ⟨n0, n1⟩, hq⟩ := Pl.rberr_ok h0
  have HR := Lib.hid (rgood_of L1.out h1)
  have hn10 := HR.out.n10
  have hpb := Pl.possK_bd (n := n) (fun j hj => (HR.out.good j (by omega)).1) (fun j hj => HR.out.fast j (by omega))
  have hpo : rposs (plr l) = Pl.possK (plr l) n := by unfold rposs; rw [if_neg (by simpa using h1), plr_len, L1.out]
  rw [hpo] at hq HP
  rw [h1] at HP
  obtain ⟨pb0, pb1⟩ := hpb
  have HO1 := Lib.hid (fun w => rbest1_any d w)
  rw [Pl.outB_false.2 ⟨d0, d1⟩] at HO1
  have HO2 := Lib.hid (fun w => rbest1_any need w)
  rw [Pl.outB_false.2 ⟨n0, n1⟩] at HO2
  have HBL := Lib.hid (fun w h => blocks_any A n c l w h HR.out)
  have H := Lib.hid h
  have HGB : Hid (∀ b ∈ Pl.rblocks (plr l) n, Pl.GoodR n b) := Pl.rblocks_good (fun j hj => (HR.out.good j hj).1) (fun j hj => (HR.out.fast j hj).1) (Nat.le_refl _)
  have hlb := Pl.rblocks_len (l := plr l) (n := n) (fun j hj => (HR.out.good j hj).2)
  obtain ⟨j0, ji0, jz0, jz1, jz2⟩ := info_parts info_int
  have hmk0 : ∀ w, (Instr.makeSlice 22 (.int .i64 (n : Int)) (.int .i64 (n : Int))).run Try.prog w = .ok (.slice (some ⟨w.heap.size, 0, none⟩) n n) (w.alloc (.cells (madeCells #[.int .i64 0] n) 3)) := fun w => by
    have := run_make (P := Try.prog) w 22 3 j0 (.int .i64 0) Try.underlying22 ji0 jz0 .i64 .i64 n n (by omega) (by omega) (by rw [jz2]; omega) (by omega)
    rw [jz1, show (Value.int .i64 0).cells = #[.int .i64 0] from rfl] at this
    simpa using this
  generalize hz : madeCells #[Value.int .i64 0] n = ZC at hmk0
  have HZC := Lib.hid hz
  have HMK := Lib.hid hmk0
  have HMN : Hid (∀ a b : Int, (if b < a then b else a) = min a b) := ite_min
  generalize hqq : Pl.possK (plr l) n - need = q at *
  have HQ := Lib.hid hqq
  generalize hpp : Pl.possK (plr l) n = pk at *
  have HPK := Lib.hid hpp
  have HQ2 : Hid (pk - need = q) := hqq
  have hqb : q ≤ 1000000 := by omega
  clear hz hmk0 ji0 jz0 jz1 jz2 h h0 h1 hpo hqq hpp HQ
  go_enter Try.func32, Try.ntmps32
  go_wp2_with fail
  refine HP.out.mono ?_
  rintro e w1 ⟨rfl, hb⟩
  have HB1 := Lib.hid hb
  clear hb HP
  go_wp2_with fail
  refine (HO1.out _).mono ?_
  rintro e w2 ⟨rfl, rfl⟩
  go_wp2_with fail
  refine (HO2.out _).mono ?_
  rintro e w2 ⟨rfl, rfl⟩
  have hq2 : 0 ≤ pk - need := by rw [HQ2.out]; exact hq
  have hmk := HMK.out
  go_wp2_with fail
  rw [HQ2.out]
  have HZL : Hid (ZC.toList = ints (List.replicate n 0)) := by show _ = _; rw [← HZC.out, toList_madeCells_one]; simp [ints]
  have IB : Hid (IBlk (w1.alloc (.cells ZC 3)) w1.heap.size 3 (List.replicate n 0)) := IBlk.new_ _ _ _ _ rfl HZL.out
  have HB2 := Lib.hid (HB1.out.alloc HB1.out.size (.cells ZC 3))
  have g7w := HB1.out.size
  clear hmk HZL HB1
  refine (HBL.out _ (H.out.go HB2.out)).mono ?_
  generalize w1.heap.size = g7 at *
  generalize w1.alloc (.cells ZC 3) = w3 at *
  rintro e w6 ⟨Ab, cb, bs, rfl, hperm, hsort, hix, hown, hb⟩
  have g7l := IB.out.lt
  have IB6 := Lib.hid (IB.out.go hb)
  have HB6 := Lib.hid (HB2.out.trans (hb.mono HB2.out.size))
  have OF6 := Lib.hid hown
  have HPM := Lib.hid hperm
  have HSD := Lib.hid hsort
  have HIX := Lib.hid hix
  have HGS : Hid (∀ b ∈ bs, Pl.GoodR n b) := fun b hb => HGB.out b (HPM.out.mem_iff.1 hb)
  have HBL2 : Hid (bs.length = (Pl.rblocks (plr l) n).length) := hperm.length_eq
  have HFB : Hid (∀ j, Pl.RFillBd n d q (Pl.rfill n d q (bs.take j))) := fun j => Pl.rfill_bd d0 hq _ fun b hb => HGS.out b (List.mem_of_mem_take hb)
  clear hperm hsort hix hown hb HBL IB HB2
  generalize hm : (Pl.rblocks (plr l) n).length = m at *
  have HM := Lib.hid hm
  clear hm
  generalize w3.heap.size = base at *
  go_wp2_with fail
  go_loopw [1, 9, 13, 44] (fun v1 v9 v13 i wr => ∃ (j : Nat) (os : List Int) (cs dm lf : Int), j ≤ m ∧ i = .int .i64 j ∧ v1 = .int .i64 dm ∧ v9 = .int .i64 lf ∧ v13 = .int .i64 cs ∧ Hid (Pl.rfill n d q (bs.take j) = (os, cs, dm, lf)) ∧ Hid (IBlk wr g7 3 os) ∧ Hid (wr.ownsRow base 118 4 (.slice Ab m cb) m (bs.flatMap Srt.encR)) ∧ Hid (Below w.heap.size w wr)) (fun _ _ _ i _ => m - (intOf i).toNat)
  case atStart => exact ⟨0, List.replicate n 0, 0, d, q, Nat.zero_le _, rfl, rfl, rfl, rfl, rfl, IB6, OF6, HB6⟩
  case round =>
    clear IB6 OF6 HB6
    obtain ⟨j, os, cs, dm, lf, hj, rfl, rfl, rfl, rfl, HF, IB, OF, HB⟩ := hrel
    have hfb := HFB.out j
    rw [HF.out] at hfb
    obtain ⟨f0, f1, f2, f3, f4, f5, f6, f7⟩ := hfb
    simp only at f0 f1 f2 f3 f4 f5 f6 f7
    have HOL := Lib.hid f6
    have HOB := Lib.hid f7
    clear f6 f7
    by_cases hlt : j < m
    · obtain ⟨b, o, rfl, hl1, c1, c2, c3, c4⟩ := (Reads.of_own OF.out).b4_at hlt
      obtain ⟨g0, g1, g2, g3, g4, g5⟩ := HGS.out _ (List.getElem_mem hl1)
      have HSN : Hid (Pl.rfill n d q (bs.take (j + 1)) = Pl.rfstep (os, cs, dm, lf) bs[j]) := by show _ = _; rw [List.take_succ_eq_append_getElem hl1, Pl.rfill_snoc, HF.out]
      generalize bs[j] = x at *
      obtain ⟨x1, x2, x3, x4⟩ := x
      simp only at c1 c2 c3 c4 g0 g1 g2 g3 g4 g5
      obtain ⟨gi, rfl⟩ := Int.eq_ofNat_of_zero_le g0
      have gk : gi < n := by omega
      have hgb := HOB.out gi
      have gi0 : (0 : Int) ≤ (gi : Int) := g0
      have hszw := HB.out.size
      have glt := IB.out.lt
      have gne : ¬ g7 = wr.heap.size := by omega
      cases x4
      · have IB1 := Lib.hid (IB.out.alloc (.cells #[.int .i64 gi, .int .i64 x2, .int .i64 x3, .bool false] 118))
        have co := IB1.out.cell gi (by rw [HOL.out]; exact gk)
        have fo := IB1.out.frozen
        have IBS := Lib.hid ((IB.out.set_ gi (os.getD gi 0 + min dm x2)).alloc (.cells #[.int .i64 gi, .int .i64 x2, .int .i64 x3, .bool false] 118))
        generalize hov : os.getD gi 0 = ov at *
        have HOV := Lib.hid hov
        clear hov
        have OFS := Lib.hid ((own_far OF.out (p := ⟨g7, gi, none⟩) g7l (.int .i64 (ov + min dm x2))).alloc (.cells #[.int .i64 gi, .int .i64 x2, .int .i64 x3, .bool false] 118))
        have HBS := Lib.hid ((HB.out.setCell (p := ⟨g7, gi, none⟩) g7w (.int .i64 (ov + min dm x2))).alloc (by simp; omega) (.cells #[.int .i64 gi, .int .i64 x2, .int .i64 x3, .bool false] 118))
        have hmn := HMN.out
        have mb := Pl.mul_bd (m := min dm x2) (p := x3) (by omega) (by omega) g4 g5
        have HST : Hid (Pl.rfstep (os, cs, dm, lf) ((gi : Int), x2, x3, false) = (os.set gi (ov + min dm x2), cs + min dm x2 * x3, dm - min dm x2, lf)) := by
          show (os.set _ _, _, _, _) = _
          simp only [Int.toNat_natCast, Pl.rn, Pl.rq, Bool.false_eq_true, if_false, Int.sub_zero]
          rw [HOV.out]
        rw [HST.out] at HSN
        go_wp2_with fail
        go_roundw
        case rel => exact ⟨j + 1, _, _, _, _, by omega, by go_num, rfl, rfl, rfl, HSN, IBS, OFS, HBS⟩
        case measure => simp [intOf]; omega
      · have IB1 := Lib.hid (IB.out.alloc (.cells #[.int .i64 gi, .int .i64 x2, .int .i64 x3, .bool true] 118))
        have co := IB1.out.cell gi (by rw [HOL.out]; exact gk)
        have fo := IB1.out.frozen
        have IBS := Lib.hid ((IB.out.set_ gi (os.getD gi 0 + min dm (min x2 lf))).alloc (.cells #[.int .i64 gi, .int .i64 x2, .int .i64 x3, .bool true] 118))
        generalize hov : os.getD gi 0 = ov at *
        have HOV := Lib.hid hov
        clear hov
        have OFS := Lib.hid ((own_far OF.out (p := ⟨g7, gi, none⟩) g7l (.int .i64 (ov + min dm (min x2 lf)))).alloc (.cells #[.int .i64 gi, .int .i64 x2, .int .i64 x3, .bool true] 118))
        have HBS := Lib.hid ((HB.out.setCell (p := ⟨g7, gi, none⟩) g7w (.int .i64 (ov + min dm (min x2 lf)))).alloc (by simp; omega) (.cells #[.int .i64 gi, .int .i64 x2, .int .i64 x3, .bool true] 118))
        have hmn := HMN.out
        have mb := Pl.mul_bd (m := min dm (min x2 lf)) (p := x3) (by omega) (by omega) g4 g5
        have HST : Hid (Pl.rfstep (os, cs, dm, lf) ((gi : Int), x2, x3, true) = (os.set gi (ov + min dm (min x2 lf)), cs + min dm (min x2 lf) * x3, dm - min dm (min x2 lf), lf - min dm (min x2 lf))) := by
          show (os.set _ _, _, _, _) = _
          simp only [Int.toNat_natCast, Pl.rn, Pl.rq, if_true]
          rw [HOV.out, show min (min dm x2) lf = min dm (min x2 lf) from by omega]
        rw [HST.out] at HSN
        go_wp2_with fail
        go_roundw
        case rel => exact ⟨j + 1, _, _, _, _, by omega, by go_num, rfl, rfl, rfl, HSN, IBS, OFS, HBS⟩
        case measure => simp [intOf]; omega
    · have : j = m := by omega
      subst this
      have HTK : Hid (bs.take j = bs) := List.take_of_length_le (by rw [HBL2.out]; exact Nat.le_refl _)
      rw [HTK.out] at HF
      have HQ3 : Hid (Pl.possK (plr l) n - need = q) := by show _ = _; rw [HPK.out]; exact HQ2.out
      by_cases hdm : 0 < dm
      · go_wp2_with fail
        go_ret3
        exact rbest_end HQ3.out HPM.out HSD.out (by rw [HM.out]; exact HIX.out) HF.out HB.out (.inl ⟨hdm, rfl⟩)
      · go_wp2_with fail
        go_ret3
        exact rbest_end HQ3.out HPM.out HSD.out (by rw [HM.out]; exact HIX.out) HF.out HB.out (.inr ⟨by omega, _, rfl, IB.out.reads HOL.out⟩)
end Go.Proofs.Ytpbomomgjhbljaa
