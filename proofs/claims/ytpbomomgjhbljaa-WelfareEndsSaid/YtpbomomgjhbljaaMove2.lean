/- welfare.Move for valid offers and powers: the move that saves most. -/
import Derived.Test.YtpbomomgjhbljaaWelf
import Derived.Test.YtpbomomgjhbljaaPMove2
import Derived.Test.YtpbomomgjhbljaaQuiet
namespace Go.Proofs.Ytpbomomgjhbljaa
open Go.RowKit
def MoveSaid (l : List Pl.Off) (n : Nat) (xs : List Int) (w : World) (e : Ending) (w' : World) : Prop :=
  ∃ (i k : Nat) (m : Int), Pl.Moved l n xs i k m ∧ ((m = 0 ∧ e = .returned (.tuple #[.int .i64 0, .int .i64 0, .int .i64 0, .int .i64 8])) ∨ (m ≠ 0 ∧ e = .returned (.tuple #[.int .i64 i, .int .i64 k, .int .i64 m, .int .i64 0]))) ∧ Below w.heap.size w w'
set_option maxHeartbeats 12800000 in
set_option maxRecDepth 100000 in
theorem move_good (A B : Option Addr) (n c e' : Nat) (l : List MOff) (xs : List Int) (w : World) (hcap : n ≤ c) (h : Offs w A n l) (hp : Reads w w.heap.size 1 B n (ints xs)) (h0 : (Pl.dCost (plo l) xs).2.2 = 0) :
    Calls Try.prog 37 #[.slice A n c, .slice B n e'] w (MoveSaid (plo l) n xs w) := by
  have L1 := Lib.hid h.len
  have H := Lib.hid h
  have HC := Lib.hid (dCost_any A B n c n e' l xs w hcap h hp)
  obtain ⟨h1, _, h3, h4⟩ := Pl.dCost_ok h0
  rw [h4] at HC
  have HG : Hid (∀ k, k < n → Pl.Good (Pl.steps (plo l) k) ∧ (Pl.steps (plo l) k).length ≤ 12) := fun k hk => Pl.steps_good h1 k (by rw [plo_len, L1.out]; exact hk)
  have HX : Hid (∀ k, k < n → 0 ≤ xs.getD k 0 ∧ xs.getD k 0 ≤ Pl.total (Pl.steps (plo l) k)) := fun k hk => h3 k (by rw [plo_len, L1.out]; exact hk)
  have HOC : Hid (∀ k, k < n → Pl.ocheck (Pl.nameK (plo l) k) (Pl.steps (plo l) k) = 0) := fun k hk => Pl.check_at h1 (by rw [plo_len, L1.out]; exact hk)
  have HMB : Hid (∀ k, k < n → -2000000 ≤ Pl.lastP (plo l) xs k ∧ Pl.lastP (plo l) xs k ≤ 1000000 ∧ -1000000 ≤ Pl.nextP (plo l) xs k ∧ Pl.nextP (plo l) xs k ≤ 2000000) := fun k hk => by
    have := Pl.marg_self (HG.out k hk).1 (HX.out k hk).1 (HX.out k hk).2
    unfold Pl.lastP Pl.nextP
    omega
  have HMG : Hid (∀ (k : Nat) (hk : k < n) (hl : k < l.length) (w2 : World), Reads w2 w2.heap.size 2 l[k].A l[k].n (pairs l[k].st) → l[k].nm.size ≤ 9223372036854775807 →
      Calls Try.prog 64 #[.agg #[.string l[k].nm, .slice l[k].A l[k].n l[k].c], .int .i64 (xs.getD k 0)] w2 fun e w' => e = .returned (.tuple #[.int .i64 (Pl.lastP (plo l) xs k), .int .i64 (Pl.nextP (plo l) xs k), .int .i64 0]) ∧ Below w2.heap.size w2 w') := fun k hk hl w2 hr hn => by
    have hoc := HOC.out k hk
    obtain ⟨x0, x1⟩ := HX.out k hk
    rw [plo_steps hl, plo_name hl] at hoc
    rw [plo_steps hl] at x1
    have hop : Pl.opcheck l[k].nm l[k].st (xs.getD k 0) = 0 := by unfold Pl.opcheck; rw [if_neg (by simpa using hoc), if_neg (by omega)]
    have := oMarg_any l[k].nm l[k].A l[k].n l[k].c l[k].st (xs.getD k 0) w2 hn hr
    have HE : Pl.oMarg l[k].nm l[k].st (xs.getD k 0) = (Pl.lastP (plo l) xs k, Pl.nextP (plo l) xs k, 0) := by
      unfold Pl.oMarg Pl.lastP Pl.nextP
      rw [if_neg (by simpa using hop), plo_steps hl]
    rw [HE] at this
    exact this
  have HSM : Hid (∀ (k : Nat) (hk : k < n) (hl : k < l.length) (w2 : World), Reads w2 w2.heap.size 2 l[k].A l[k].n (pairs l[k].st) →
      Calls Try.prog 68 #[.agg #[.string l[k].nm, .slice l[k].A l[k].n l[k].c]] w2 fun e w' => e = .returned (.int .i64 (Pl.total (Pl.steps (plo l) k))) ∧ Below w2.heap.size w2 w') := fun k hk hl w2 hr => by
    obtain ⟨g1, g2⟩ := HG.out k hk
    rw [plo_steps hl] at g1 g2 ⊢
    exact osum_any l[k].nm l[k].A l[k].n l[k].c l[k].st w2 hr g1 (by have := hr.pair_len; omega)
  obtain ⟨g1, _⟩ := Pl.oall_good h1
  have hn10 : n ≤ 10 := by have := L1.out; rw [plo_len] at g1; omega
  unfold ThreeSaid at HC
  clear h h0 h1 h3 h4 g1
  go_enter Try.func37, Try.ntmps37
  go_wp2_with fail
  refine HC.out.mono ?_
  rintro e w1 ⟨rfl, hb⟩
  have HB1 := Lib.hid hb
  clear hb HC
  go_wp2_with fail
  go_loopw [11, 12, 13, 36] (fun v1 v2 v3 i wr => ∃ (a fr to : Nat) (m : Int), a ≤ n ∧ i = .int .i64 a ∧ v1 = .int .i64 fr ∧ v2 = .int .i64 to ∧ v3 = .int .i64 m ∧ Hid (Pl.MvRel (plo l) n xs a 0 fr to m) ∧ m ≤ 2000000 ∧ Hid (Below w.heap.size w wr)) (fun _ _ _ i _ => n - (intOf i).toNat)
  case atStart => exact ⟨0, 0, 0, 0, Nat.zero_le _, rfl, rfl, rfl, rfl, Pl.MvRel.start _ _ _, by omega, HB1⟩
  case round =>
    clear HB1
    obtain ⟨a, fr, to, m, ha, rfl, rfl, rfl, rfl, HM, hm2, HB⟩ := hrel
    have hm0 := HM.out.pos
    by_cases hlt : a < n
    · obtain ⟨b, o, hA, hl1, c1, c2, hin⟩ := (H.out.go HB.out).at_ hlt
      obtain ⟨b', o', hBB, hl2, q1⟩ := (hp.go HB.out).int_at hlt
      subst hA hBB
      have hxe : xs.getD a 0 = xs[a] := by rw [List.getD_eq_getElem?_getD, List.getElem?_eq_getElem hl2]; rfl
      rw [← hxe] at q1
      have HQ : Hid (∀ w', Below w.heap.size w w' → ∀ j, j < n → w'.cell? ⟨b', o' + j, none⟩ = some (.int .i64 (xs.getD j 0))) := fun w' hb j hj => by
        obtain ⟨b2, o2, e, hl, hc⟩ := (hp.go hb).int_at hj
        injection e with e; injection e with e1 e2; subst e1 e2
        rw [hc, List.getD_eq_getElem?_getD, List.getElem?_eq_getElem hl]; rfl
      have HIN := Lib.hid hin
      have HG1 := Lib.hid (fun w2 hr => HMG.out a hlt hl1 w2 hr HIN.out.1)
      obtain ⟨z1, z2, z3, z4⟩ := HMB.out a hlt
      clear hin hxe
      generalize hz : l[a] = z at *
      have HZ := Lib.hid hz
      clear hz
      obtain ⟨nm, Az, nz, cz, st⟩ := z
      simp only at c1 c2 HG1
      have HBN := Lib.hid (HB.out.alloc HB.out.size (.cells #[.string nm, .slice Az nz cz] 57))
      have BN := Lib.hid (Blk.new_ wr wr.heap.size 57 #[.string nm, .slice Az nz cz] rfl)
      have q4 : (wr.alloc (.cells #[.string nm, .slice Az nz cz] 57)).cell? ⟨b', o' + a, none⟩ = some (.int .i64 (xs.getD a 0)) := by rw [World.cell?_alloc_some _ _ _ (by rw [q1]; rfl)]; exact q1
      have HIN2 := Lib.hid (HIN.out.2.2.go ((Below.refl _ _).alloc (Nat.le_refl _) (.cells #[.string nm, .slice Az nz cz] 57)))
      have k1 : (0 : Int) ≤ (a : Int) := by omega
      have k2 : (a : Int) < (n : Int) := by omega
      go_wp2_with fail
      clear c1 c2 q1 HB HIN
      generalize wr.alloc (.cells #[.string nm, .slice Az nz cz] 57) = w2 at *
      generalize wr.heap.size = bn at *
      have r0 := Wd.cell (BN.out.cell 0)
      have r1 := Wd.cell (BN.out.cell 1)
      replace q4 := Wd.cell q4
      generalize hla : Pl.lastP (plo l) xs a = la at *
      generalize hna : Pl.nextP (plo l) xs a = na at *
      have HLA := Lib.hid hla
      clear hla hna
      refine wp_region_wd (by kernel_rfl) (by kernel_rfl) ?_
      repeat (go_big_quiet_step ((go_at_call 64; exact Calls.wd (HG1.out _ (HIN2.out.go (Wd.ok _))))))
      refine wpQuiet_nil ?_
      rintro _ ⟨w6, rfl⟩
      have HB3 := Lib.hid (HBN.out.trans (w6.ok.mono HBN.out.size))
      clear r0 r1 q4
      generalize w6.val = w3 at *
      all_goals
        go_wp2_with fail
        have HB30 := HB3
        clear HIN2
        go_loopw [11, 12, 13, 53] (fun v1 v2 v3 i wr => ∃ (k fr to : Nat) (m : Int), k ≤ n ∧ i = .int .i64 k ∧ v1 = .int .i64 fr ∧ v2 = .int .i64 to ∧ v3 = .int .i64 m ∧ Hid (Pl.MvRel (plo l) n xs a k fr to m) ∧ m ≤ 2000000 ∧ Hid (Below w.heap.size w wr)) (fun _ _ _ i _ => n - (intOf i).toNat)
        case atStart => exact ⟨0, fr, to, m, Nat.zero_le _, rfl, rfl, rfl, rfl, HM, hm2, HB3⟩
        case round =>
          clear HB3 HB30 HM hm2 hm0
          obtain ⟨k, fr, to, m, hk, rfl, rfl, rfl, rfl, HM, hm2, HB⟩ := hrel
          have hm0 := HM.out.pos
          by_cases hltk : k < n
          · obtain ⟨b3, o3, hA, hl3, c1, c2, hin⟩ := (H.out.go HB.out).at_ hltk
            injection hA with hA; injection hA with hA1 hA2; subst hA1 hA2
            have q1 := HQ.out wr HB.out k hltk
            have HINk := Lib.hid hin
            have HG2 := Lib.hid (fun w2 hr => HMG.out k hltk hl3 w2 hr HINk.out.1)
            have HS2 := Lib.hid (fun w2 hr => HSM.out k hltk hl3 w2 hr)
            obtain ⟨y1, y2, y3, y4⟩ := HMB.out k hltk
            clear hin
            generalize hz : l[k] = z at *
            have HZ2 := Lib.hid hz
            clear hz
            obtain ⟨nm2, Az2, nz2, cz2, st2⟩ := z
            simp only at c1 c2 HG2 HS2
            have HBN2 := Lib.hid (HB.out.alloc HB.out.size (.cells #[.string nm2, .slice Az2 nz2 cz2] 57))
            have BN2 := Lib.hid (Blk.new_ wr wr.heap.size 57 #[.string nm2, .slice Az2 nz2 cz2] rfl)
            have q4 : (wr.alloc (.cells #[.string nm2, .slice Az2 nz2 cz2] 57)).cell? ⟨b', o' + k, none⟩ = some (.int .i64 (xs.getD k 0)) := by rw [World.cell?_alloc_some _ _ _ (by rw [q1]; rfl)]; exact q1
            have HIN3 := Lib.hid (HINk.out.2.2.go ((Below.refl _ _).alloc (Nat.le_refl _) (.cells #[.string nm2, .slice Az2 nz2 cz2] 57)))
            have k3 : (0 : Int) ≤ (k : Int) := by omega
            have k4 : (k : Int) < (n : Int) := by omega
            go_wp2_with fail
            clear c1 c2 q1 HB HINk
            generalize wr.alloc (.cells #[.string nm2, .slice Az2 nz2 cz2] 57) = w4 at *
            generalize wr.heap.size = bk at *
            have r0 := Wd.cell (BN2.out.cell 0)
            have r1 := Wd.cell (BN2.out.cell 1)
            replace q4 := Wd.cell q4
            generalize hnk : Pl.nextP (plo l) xs k = nk at *
            have HNK := Lib.hid hnk
            generalize hlk : Pl.lastP (plo l) xs k = lk at *
            clear hnk hlk
            refine wp_region_wd (by kernel_rfl) (by kernel_rfl) ?_
            repeat (go_big_quiet_step ((go_at_call 64; exact Calls.wd (HG2.out _ (HIN3.out.go (Wd.ok _))))))
            refine wpQuiet_nil ?_
            rintro _ ⟨w6, rfl⟩
            have HB5 := Lib.hid (HBN2.out.trans (w6.ok.mono HBN2.out.size))
            have BN5 := Lib.hid (BN2.out.go w6.ok)
            have HIN5 := Lib.hid (HIN3.out.go w6.ok)
            clear r0 r1 q4
            generalize w6.val = w5 at *
            all_goals
              have qa := HQ.out w5 HB5.out a hlt
              have qk := HQ.out w5 HB5.out k hltk
              have r6 := BN5.out.cell 0
              have r7 := BN5.out.cell 1
              replace qa := Wd.cell qa
              replace qk := Wd.cell qk
              replace r6 := Wd.cell r6
              replace r7 := Wd.cell r7
              by_cases t1 : a = k
              · have HN := Lib.hid (HM.out.skip (fun hm => absurd t1 hm.1))
                have u1 : ((a : Int) != (k : Int)) = false := by rw [t1]; simp
                clear t1
                go_wp2_with fail
                refine wp_region_wd (by kernel_rfl) (by kernel_rfl) ?_
                repeat (go_big_quiet_step ((go_at_call 68; exact Calls.wd (HS2.out _ (HIN5.out.go (Wd.ok _))))))
                refine wpQuiet_nil ?_
                rintro _ ⟨w6, rfl⟩
                have HB6 := Lib.hid (HB5.out.trans (w6.ok.mono HB5.out.size))
                clear qa qk r6 r7 HB5
                generalize w6.val = w7 at *
                go_wp2_with fail
                go_roundw
                case rel => exact ⟨k + 1, fr, to, m, by omega, by go_num, rfl, rfl, rfl, HN, hm2, HB6⟩
                case measure => simp [intOf]; omega
              · have u1 : ((a : Int) != (k : Int)) = true := by simp; omega
                by_cases t2 : 0 < xs.getD a 0
                · have u2 : decide (0 < xs.getD a 0) = true := decide_eq_true t2
                  by_cases t3 : xs.getD k 0 < Pl.total (Pl.steps (plo l) k)
                  · have u3 : decide (xs.getD k 0 < Pl.total (Pl.steps (plo l) k)) = true := decide_eq_true t3
                    by_cases t4 : m < la - nk
                    · have u4 : decide (m < la - nk) = true := decide_eq_true t4
                      have HN := Lib.hid (HM.out.take hlt hltk ⟨t1, t2, t3⟩ (by rw [HLA.out, HNK.out]; exact t4))
                      rw [HLA.out, HNK.out] at HN
                      have v2 : la - nk ≤ 2000000 := by omega
                      clear t1
                      generalize xs.getD a 0 = xa at *
                      generalize xs.getD k 0 = xk at *
                      generalize Pl.total (Pl.steps (plo l) k) = tk at *
                      go_wp2_with fail
                      refine wp_region_wd (by kernel_rfl) (by kernel_rfl) ?_
                      repeat (go_big_quiet_step ((go_at_call 68; exact Calls.wd (HS2.out _ (HIN5.out.go (Wd.ok _))))))
                      refine wpQuiet_nil ?_
                      rintro _ ⟨w6, rfl⟩
                      have HB6 := Lib.hid (HB5.out.trans (w6.ok.mono HB5.out.size))
                      clear qa qk r6 r7 HB5
                      generalize w6.val = w7 at *
                      go_wp2_with fail
                      go_roundw
                      case rel => exact ⟨k + 1, a, k, la - nk, by omega, by go_num, rfl, rfl, rfl, HN, v2, HB6⟩
                      case measure => simp [intOf]; omega
                    · have u4 : decide (m < la - nk) = false := decide_eq_false t4
                      have HN := Lib.hid (HM.out.skip (fun _ => by rw [HLA.out, HNK.out]; omega))
                      clear t1
                      generalize xs.getD a 0 = xa at *
                      generalize xs.getD k 0 = xk at *
                      generalize Pl.total (Pl.steps (plo l) k) = tk at *
                      go_wp2_with fail
                      refine wp_region_wd (by kernel_rfl) (by kernel_rfl) ?_
                      repeat (go_big_quiet_step ((go_at_call 68; exact Calls.wd (HS2.out _ (HIN5.out.go (Wd.ok _))))))
                      refine wpQuiet_nil ?_
                      rintro _ ⟨w6, rfl⟩
                      have HB6 := Lib.hid (HB5.out.trans (w6.ok.mono HB5.out.size))
                      clear qa qk r6 r7 HB5
                      generalize w6.val = w7 at *
                      go_wp2_with fail
                      go_roundw
                      case rel => exact ⟨k + 1, fr, to, m, by omega, by go_num, rfl, rfl, rfl, HN, hm2, HB6⟩
                      case measure => simp [intOf]; omega
                  · have u3 : decide (xs.getD k 0 < Pl.total (Pl.steps (plo l) k)) = false := decide_eq_false t3
                    have HN := Lib.hid (HM.out.skip (fun hm => absurd hm.2.2 t3))
                    clear t1
                    generalize xs.getD a 0 = xa at *
                    generalize xs.getD k 0 = xk at *
                    generalize Pl.total (Pl.steps (plo l) k) = tk at *
                    go_wp2_with fail
                    refine wp_region_wd (by kernel_rfl) (by kernel_rfl) ?_
                    repeat (go_big_quiet_step ((go_at_call 68; exact Calls.wd (HS2.out _ (HIN5.out.go (Wd.ok _))))))
                    refine wpQuiet_nil ?_
                    rintro _ ⟨w6, rfl⟩
                    have HB6 := Lib.hid (HB5.out.trans (w6.ok.mono HB5.out.size))
                    clear qa qk r6 r7 HB5
                    generalize w6.val = w7 at *
                    go_wp2_with fail
                    go_roundw
                    case rel => exact ⟨k + 1, fr, to, m, by omega, by go_num, rfl, rfl, rfl, HN, hm2, HB6⟩
                    case measure => simp [intOf]; omega
                · have u2 : decide (0 < xs.getD a 0) = false := decide_eq_false t2
                  have HN := Lib.hid (HM.out.skip (fun hm => absurd hm.2.1 t2))
                  clear t1
                  generalize xs.getD a 0 = xa at *
                  generalize xs.getD k 0 = xk at *
                  generalize Pl.total (Pl.steps (plo l) k) = tk at *
                  go_wp2_with fail
                  refine wp_region_wd (by kernel_rfl) (by kernel_rfl) ?_
                  repeat (go_big_quiet_step ((go_at_call 68; exact Calls.wd (HS2.out _ (HIN5.out.go (Wd.ok _))))))
                  refine wpQuiet_nil ?_
                  rintro _ ⟨w6, rfl⟩
                  have HB6 := Lib.hid (HB5.out.trans (w6.ok.mono HB5.out.size))
                  clear qa qk r6 r7 HB5
                  generalize w6.val = w7 at *
                  go_wp2_with fail
                  go_roundw
                  case rel => exact ⟨k + 1, fr, to, m, by omega, by go_num, rfl, rfl, rfl, HN, hm2, HB6⟩
                  case measure => simp [intOf]; omega
          · have : k = n := by omega
            subst this
            go_wp2_with fail
            go_roundw
            case rel => exact ⟨a + 1, fr, to, m, by omega, by go_num, rfl, rfl, rfl, HM.out.row, hm2, HB⟩
            case measure => simp [intOf]; omega
    · have : a = n := by omega
      subst this
      have HD := Lib.hid HM.out.done
      by_cases e0 : m = 0
      · subst e0
        go_wp2_with fail
        refine bodyPost_ret (results_tmp4 rfl _ _ _) rfl ?_
        exact ⟨fr, to, 0, HD.out, .inl ⟨rfl, rfl⟩, HB.out⟩
      · have e1 : (m == 0) = false := by simpa using e0
        have E0 := Lib.hid e0
        clear e0
        go_wp2_with fail
        refine bodyPost_ret (results_tmp4 rfl _ _ _) rfl ?_
        exact ⟨fr, to, m, HD.out, .inr ⟨E0.out, rfl⟩, HB.out⟩
end Go.Proofs.Ytpbomomgjhbljaa
