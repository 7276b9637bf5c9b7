/- The law CommitMore: for all generators and demands the call returns true, and old memory is left as it is. No condition. -/
import Derived.Test.YtchafkocobbndaaBest
import Derived.Test.YtchafkocobbndaaAlone
import Derived.Test.YtchafkocobbndaaPCommitG
namespace Go.Proofs.Ytchafkocobbndaa
open Go.RowKit
/-- 's[:k]' -/
theorem slice_to {w0 : World} {B n c : Nat} {A : Option Addr} {zs : List Int} (hr : Reads w0 B 1 A n (ints zs)) (hnc : n ≤ c) (l : Int) (k : Nat) (hl : l = k) (hk : k ≤ n) :
    ∃ A', (∀ w, (Instr.slice 23 (.slice A n c) none (some (.int .i64 l)) none).run Try.prog w = .ok (.slice A' k c) w) ∧ Reads w0 B 1 A' k (ints (zs.take k)) := by
  subst hl
  refine ⟨A, fun w => ?_, hr.take_ hk⟩
  have e : A.map (·.add 0) = A := by
    cases A with
    | none => rfl
    | some a => simp [Addr.add]
  rw [run_slice_h w 23 A n c elem_ints .i64 k (by omega) (by omega), size_ints]
  simp [sliced, Result.andThen]
  exact fun _ => e
theorem best_ex (AL A B : Option Addr) (w : World) (h : Unis w A 1 [aloneU AL]) (hq : Reads w w.heap.size 1 B 2 (ints [12, 0])) :
    Calls Try.prog 13 #[.slice A 1 1, .slice B 2 2] w fun e w' => ∃ v, e = .returned (.tuple #[v, .int .i64 75, .int .i64 0]) ∧ Below w.heap.size w w' := by
  refine (cbest_any A B 1 1 2 2 [aloneU AL] [12, 0] w (Nat.le_refl _) h hq).mono ?_
  rintro e w' ⟨A', c', R, cost, er, rfl, hbp, _, _, hb⟩
  obtain ⟨rfl, rfl⟩ := Pl.best_ex hbp
  exact ⟨_, rfl, hb⟩
theorem best_some_ (A B : Option Addr) (n c m cm : Nat) (l : List MU) (ds : List Int) (w : World) (hcap : n ≤ c) (h : Unis w A n l) (hd : Reads w w.heap.size 1 B m (ints ds)) :
    Calls Try.prog 13 #[.slice A n c, .slice B m cm] w fun e w' => ∃ v s cost er, e = .returned (.tuple #[v, .int .i64 cost, .int .i64 er]) ∧ Pl.BestP (plus l) ds s cost er ∧ Below w.heap.size w w' := by
  refine (cbest_any A B n c m cm l ds w hcap h hd).mono ?_
  rintro e w' ⟨A', c', R, cost, er, rfl, hbp, _, _, hb⟩
  exact ⟨_, _, _, _, rfl, hbp, hb⟩
set_option maxHeartbeats 6400000 in
set_option maxRecDepth 100000 in
theorem commitMore_walk (A : Option Addr) (n c : Nat) (l : List MU) (B : Option Addr) (m d : Nat) (ds : List Int) (w : World) (hcap : n ≤ c) (hcm : c ≤ maxLen) (h : Unis w A n l) (hq : Reads w w.heap.size 1 B m (ints ds)) (hmd : m ≤ d) (hdm : d ≤ maxLen) :
    Calls Try.prog 4 #[.slice A n c, .slice B m d] w fun e w' => e = .returned (.bool true) ∧ Below w.heap.size w w' := by
  have HST := Lib.hid (fun (ds : List Int) (B : Option Addr) (m : Nat) w h hq => best_some_ A B n c m d l ds w hcap h hq)
  have HEX := Lib.hid best_ex
  have H := Lib.hid h
  have HQ := Lib.hid hq
  have L0 := Lib.hid h.len
  have L1 := Lib.hid hq.int_len
  clear h hq
  have hn47 : n ≤ 9223372036854775807 := by unfold maxLen at hcm; omega
  have hm47 : m ≤ 9223372036854775807 := by unfold maxLen at hdm; omega
  have HAL := Lib.hid alone_any
  unfold vUn aloneU at HAL
  go_enter Try.func4, Try.ntmps4
  go_wp2_with fail
  refine (HAL.out _).mono ?_
  rintro e1 w1 ⟨AL, rfl, hin, hb⟩
  have HIN : Hid (UnIn w1 (aloneU AL)) := hin
  have HB1 := Lib.hid hb
  clear hin hb HAL
  go_wp2_with fail
  have HU1 := Lib.hid (Unis.lit HIN.out 35 _ rfl)
  have A1 := Lib.hid (HB1.out.alloc HB1.out.size (.cells (ucells (aloneU AL)).toArray 35))
  have hcel : (ucells (aloneU AL)).toArray = #[.string ⟨#[65]⟩, .int .i64 0, .int .i64 20, .int .i64 20, .int .i64 20, .int .i64 1, .int .i64 1, .int .i64 9, .string ⟨#[65]⟩, .slice AL 2 2, .bool false, .int .i64 5, .int .i64 0] := rfl
  rw [hcel] at HU1 A1
  have hs1 : (w1.alloc (.cells #[.string ⟨#[65]⟩, .int .i64 0, .int .i64 20, .int .i64 20, .int .i64 20, .int .i64 1, .int .i64 1, .int .i64 9, .string ⟨#[65]⟩, .slice AL 2 2, .bool false, .int .i64 5, .int .i64 0] 35)).heap.size = w1.heap.size + 1 := by simp
  clear hcel
  generalize w1.alloc (.cells #[.string ⟨#[65]⟩, .int .i64 0, .int .i64 20, .int .i64 20, .int .i64 20, .int .i64 1, .int .i64 1, .int .i64 9, .string ⟨#[65]⟩, .slice AL 2 2, .bool false, .int .i64 5, .int .i64 0] 35) = w2 at *
  have A2 := Lib.hid (A1.out.alloc A1.out.size (.cells #[.int .i64 12, .int .i64 0] 3))
  have RD2 := Lib.hid (Reads.lit w2 #[.int .i64 12, .int .i64 0] 3 2 1 (w1.heap.size + 1) hs1.symm rfl)
  have HU2 := Lib.hid (HU1.out.go ((Below.refl w2.heap.size w2).alloc (Nat.le_refl _) (.cells #[.int .i64 12, .int .i64 0] 3)))
  generalize w2.alloc (.cells #[.int .i64 12, .int .i64 0] 3) = w3 at *
  refine (HEX.out AL _ _ w3 HU2.out RD2.out).mono ?_
  rintro e1 w5 ⟨vX, rfl, hb⟩
  have HB5 := Lib.hid (A2.out.trans (hb.mono A2.out.size))
  clear hb HEX A1 A2 HU1 HU2 RD2 hs1 HIN HB1
  by_cases hm0 : m = 0
  · subst hm0
    go_wp2_with fail
    go_ret
    exact ⟨rfl, HB5.out⟩
  · have hm1 : ((m : Int) == 0) = false := by rw [beq_eq_false_iff_ne]; omega
    have hm2 : ¬ ((m : Int) = 0) := by omega
    go_wp2_with fail
    go_loopw [35] (fun i wr => ∃ k : Nat, k ≤ n ∧ i = .int .i64 k ∧ Hid (Pl.Plus0 (plus (l.take k))) ∧ Hid (Below w.heap.size w wr)) (fun i _ => n - (intOf i).toNat)
    case atStart => exact ⟨0, Nat.zero_le _, rfl, fun u hu => absurd hu (by simp [plus]), HB5⟩
    case round =>
      clear HB5
      obtain ⟨k, hk, rfl, HP, HB⟩ := hrel
      by_cases hlt : k < n
      · obtain ⟨b, o, rfl, u, ⟨hl, hu⟩, c0, c1, c2, c3, c4, c5, c6, c7, c8, c9, c10, c11, c12, hin⟩ := (H.out.go HB.out).cells5 hlt
        have HTK : Hid ((0 < u.n → 0 ≤ (u.st.getD 0 (0, 0)).2) → Pl.Plus0 (plus (l.take (k + 1)))) := by
          intro hh v hv
          have e : plus (l.take (k + 1)) = plus (l.take k) ++ [plu u] := by rw [List.take_succ_eq_append_getElem hl, hu]; unfold plus; rw [List.map_append]; rfl
          rw [e] at hv
          rcases List.mem_append.1 hv with hv | hv
          · exact HP.out v hv
          · rw [List.mem_singleton.1 hv]
            intro h0
            exact hh (by have := hin.2.2.2.pair_len; rw [← this]; exact h0)
        have HIN := Lib.hid hin
        clear hu hl hin
        obtain ⟨⟨rn, r1, r2, r3, r4, r5, r6, r7⟩, nm, Az, nz, cz, st, ⟨s1, s2, s3⟩⟩ := u
        simp only at c0 c1 c2 c3 c4 c5 c6 c7 c8 c9 c10 c11 c12 HTK
        have A0 := Lib.hid ((Below.refl wr.heap.size wr).alloc (Nat.le_refl _) (.cells #[.string rn, .int .i64 r1, .int .i64 r2, .int .i64 r3, .int .i64 r4, .int .i64 r5, .int .i64 r6, .int .i64 r7, .string nm, .slice Az nz cz, .bool s1, .int .i64 s2, .int .i64 s3] 35))
        have HB0 := Lib.hid (HB.out.trans (A0.out.mono HB.out.size))
        have HI0 := Lib.hid (HIN.out.go A0.out)
        have HRS : Hid (Reads (wr.alloc (.cells #[.string rn, .int .i64 r1, .int .i64 r2, .int .i64 r3, .int .i64 r4, .int .i64 r5, .int .i64 r6, .int .i64 r7, .string nm, .slice Az nz cz, .bool s1, .int .i64 s2, .int .i64 s3] 35)) (wr.alloc (.cells #[.string rn, .int .i64 r1, .int .i64 r2, .int .i64 r3, .int .i64 r4, .int .i64 r5, .int .i64 r6, .int .i64 r7, .string nm, .slice Az nz cz, .bool s1, .int .i64 s2, .int .i64 s3] 35)).heap.size 2 Az nz (pairs st)) := HI0.out.2.2.2
        have k0 : (0 : Int) ≤ (k : Int) := by omega
        have k1 : (k : Int) < (n : Int) := by omega
        by_cases hz : nz = 0
        · subst hz
          have HPS := HTK.out (fun h => absurd h (by omega))
          have HPS := Lib.hid HPS
          go_wp2_with fail
          go_roundw
          case rel => exact ⟨k + 1, by omega, by go_num, HPS, HB0⟩
          case measure => simp [intOf]; omega
        · obtain ⟨bz, oz, rfl, hzl, z0, z1⟩ := HRS.out.pair_at (k := 0) (by omega)
          have hpz : (st.getD 0 (0, 0)).2 = (st[0]).2 := by rw [List.getD_eq_getElem?_getD, List.getElem?_eq_getElem hzl]; rfl
          rw [hpz] at HTK
          generalize st[0] = pz at *
          obtain ⟨pa, pb⟩ := pz
          simp only [Nat.zero_mul, Nat.add_zero] at z1
          have hz1 : (0 : Int) < (nz : Int) := by omega
          simp only at HTK
          by_cases hpb : pb < 0
          · go_wp2_with fail
            go_ret
            exact ⟨rfl, HB0.out⟩
          · have HPS := Lib.hid (HTK.out (fun _ => by omega))
            go_wp2_with fail
            go_roundw
            case rel => exact ⟨k + 1, by omega, by go_num, HPS, HB0⟩
            case measure => simp [intOf]; omega
      · have : n = k := by omega
        subst this
        have HPL : Hid (Pl.Plus0 (plus l)) := by
          have := HP.out
          rw [List.take_of_length_le (by rw [L0.out]; exact Nat.le_refl _)] at this
          exact this
        have HD : Hid (ds.take (m - 1) = ds.dropLast) := by show _ = _; rw [List.dropLast_eq_take, L1.out]
        obtain ⟨A', hsl, hr⟩ := slice_to HQ.out hmd ((m : Int) - 1) (m - 1) (by omega) (by omega)
        rw [HD.out] at hr
        have HR := Lib.hid hr
        clear hr HP
        go_wp2_with fail
        refine (HST.out ds B m wr (H.out.go HB.out) (HQ.out.go HB.out)).mono ?_
        rintro e1 w2 ⟨v2, s2, n2, er2, rfl, hbp2, hb2⟩
        have HBP2 := Lib.hid hbp2
        have HB2 := Lib.hid (HB.out.trans (hb2.mono HB.out.size))
        clear hb2 hbp2
        go_wp2_with fail
        refine (HST.out ds.dropLast A' (m - 1) w2 (H.out.go HB2.out) (HR.out.go HB2.out)).mono ?_
        rintro e1 w3 ⟨v3, s3, n3, er3, rfl, hbp3, hb3⟩
        have hll := Pl.less_law HBP2.out hbp3 (by rw [L1.out]; omega) HPL.out
        have HB3 := Lib.hid (HB2.out.trans (hb3.mono HB2.out.size))
        clear hb3 hbp3
        by_cases he : er2 = 0
        · obtain ⟨rfl, hle⟩ := hll he
          subst he
          go_wp2_with fail
          go_ret
          exact ⟨rfl, HB3.out⟩
        · clear hll
          have he2 : (er2 != 0) = true := by simpa using he
          go_wp2_with fail
          go_ret
          exact ⟨rfl, HB3.out⟩
end Go.Proofs.Ytchafkocobbndaa
