/- dual.CheckAll gives what its plain function gives. Condition: the generators lie in memory as the words of DUnit say. -/
import Derived.Test.YtchafkocobbndaaDUnit
import Derived.Test.YtchafkocobbndaaIdxInt
namespace Go.Proofs.Ytchafkocobbndaa
open Go.RowKit
theorem enters_duall1 : ∀ args w, Sem.run Try.prog (callFunc 49 args) w = .ok (.enter 49 args) w := by intro args w; go_simp
theorem enters_duall2 : ∀ args w, Sem.run Try.prog (callFunc 50 args) w = .ok (.enter 50 args) w := by intro args w; go_simp
set_option maxRecDepth 100000 in
theorem duall2_any (z : Int) (w : World) : Calls Try.prog 50 #[.int .i64 z] w fun e w' => e = .returned (.bool (Pl.badDem z)) ∧ w = w' := by
  unfold Pl.badDem
  by_cases h : z < 0
  · have e1 : decide (z < 0) = true := decide_eq_true h
    go_enter Try.func50, Try.ntmps50
    go_wp2_with fail
    go_ret
    exact ⟨by first | rfl | (rw [e1]; rfl), rfl⟩
  · have e1 : decide (z < 0) = false := decide_eq_false h
    go_enter Try.func50, Try.ntmps50
    go_wp2_with fail
    go_ret
    exact ⟨by first | rfl | (rw [e1]; rfl) | (simp [h]), rfl⟩
set_option maxRecDepth 100000 in
theorem duall1_any (nm : ByteArray) (bo : Nat) (z : MU) (w : World) (hc : w.cell? ⟨bo, 0, none⟩ = some (.string nm)) (lt : bo < w.heap.size) :
    Calls Try.prog 49 #[vUn z, .pointer (some ⟨bo, 0, none⟩)] w fun e w' => e = .returned (.bool (Pl.nmEq nm (plu z))) ∧ Below w.heap.size w w' := by
  unfold vUn Pl.nmEq plu
  obtain ⟨⟨rn, r1, r2, r3, r4, r5, r6, r7⟩, a, b, c, d, st, ⟨s1, s2, s3⟩⟩ := z
  simp only
  go_enter Try.func49, Try.ntmps49
  go_wp2_with fail
  all_goals
    go_ret
    exact ⟨rfl, (Below.refl _ _).alloc (Nat.le_refl _) _⟩
set_option maxHeartbeats 1600000 in
set_option maxRecDepth 100000 in
theorem idxfn_un (A : Option Addr) (n c : Nat) (l : List MU) (nm : ByteArray) (bo : Nat) (w : World) (hn : n ≤ 1000000000000000) (hc : w.cell? ⟨bo, 0, none⟩ = some (.string nm)) (h : Unis w A n l) :
    Calls Try.prog 74 #[.slice A n c, .func (.func 49) #[] #[.pointer (some ⟨bo, 0, none⟩)]] w fun e w' => e = .returned (.int .i64 (Pl.idxOf (fun z : MU => Pl.nmEq nm (plu z)) l)) ∧ Below w.heap.size w w' := by
  have HL := Lib.hid h.len
  have H := Lib.hid h
  clear h
  have lt := cell_lt hc
  go_enter Try.func74, Try.ntmps74
  go_wp2_with fail
  go_loopw [8] (fun i wr => ∃ k : Nat, k ≤ n ∧ i = .int .i64 k ∧ Hid (∀ j (hj : j < l.length), j < k → Pl.nmEq nm (plu l[j]) = false) ∧ Below w.heap.size w wr) (fun i _ => n - (intOf i).toNat)
  case atStart => exact ⟨0, Nat.zero_le _, rfl, fun j _ h => absurd h (by omega), Below.refl _ _⟩
  case round =>
    obtain ⟨k, hk, rfl, HN, hbel⟩ := hrel
    have HB := Lib.hid hbel
    clear hbel
    by_cases hlt : k < n
    · obtain ⟨b, o, rfl, hl, cc, _⟩ := (H.out.go HB.out).at_ hlt
      have HC := Lib.hid (duall1_any nm bo l[k] wr (by rw [HB.out.cell (p := ⟨bo, 0, none⟩) lt]; exact hc) (Nat.lt_of_lt_of_le lt HB.out.size))
      unfold vUn at HC
      have c0 : wr.cell? ⟨b, o + k * 13, none⟩ = some (.string l[k].r.name) := cc 0 _ rfl
      have c1 := cc 1 _ rfl
      have c2 := cc 2 _ rfl
      have c3 := cc 3 _ rfl
      have c4 := cc 4 _ rfl
      have c5 := cc 5 _ rfl
      have c6 := cc 6 _ rfl
      have c7 := cc 7 _ rfl
      have c8 := cc 8 _ rfl
      have c9 := cc 9 _ rfl
      have c10 := cc 10 _ rfl
      have c11 := cc 11 _ rfl
      have c12 := cc 12 _ rfl
      clear cc
      go_wp2_with fail
      refine HC.out.mono ?_
      rintro e w' ⟨rfl, hb⟩
      have HB2 := Lib.hid (HB.out.trans (hb.mono HB.out.size))
      clear hb c0 c1 c2 c3 c4 c5 c6 c7 c8 c9 c10 c11 c12
      cases hv : Pl.nmEq nm (plu l[k])
      · have HV := Lib.hid hv
        clear hv HC
        go_wp2_with fail
        go_roundw
        case rel =>
          exact ⟨k + 1, by omega, by go_num, fun j hj hjk => by
            by_cases e : j = k
            · subst e; exact HV.out
            · exact HN.out j hj (by omega), HB2.out⟩
        case measure => simp [intOf]; omega
      · have HV := Lib.hid hv
        clear hv HC
        go_wp2_with fail
        go_ret
        exact ⟨ret_int (Pl.idxOf_hit (fun z : MU => Pl.nmEq nm (plu z)) l k hl HV.out HN.out).symm, HB2.out⟩
    · go_wp2_with fail
      go_ret
      exact ⟨ret_int (Pl.idxOf_miss (fun z : MU => Pl.nmEq nm (plu z)) l fun j hj => HN.out j hj (by have := HL.out; omega)).symm, HB.out⟩
theorem contains_un (A : Option Addr) (n c : Nat) (l : List MU) (nm : ByteArray) (bo : Nat) (w : World) (hn : n ≤ 1000000000000000) (hc : w.cell? ⟨bo, 0, none⟩ = some (.string nm)) (h : Unis w A n l) :
    Calls Try.prog 48 #[.slice A n c, .func (.func 49) #[] #[.pointer (some ⟨bo, 0, none⟩)]] w fun e w' => e = .returned (.bool (Pl.has (Pl.nmEq nm) (plus l))) ∧ Below w.heap.size w w' := by
  have hh : Pl.has (Pl.nmEq nm) (plus l) = Pl.has (fun z : MU => Pl.nmEq nm (plu z)) l := by
    unfold Pl.has plus
    rw [List.any_map]
    rfl
  rw [hh]
  go_enter Try.func48, Try.ntmps48
  go_wp2_with fail
  refine (idxfn_un A n c l nm bo _ hn hc h).mono ?_
  rintro e w' ⟨rfl, hb⟩
  go_wp2_with fail
  go_ret
  exact ⟨ret_bool (Pl.has_idx _ l), hb⟩
set_option maxHeartbeats 3200000 in
set_option maxRecDepth 100000 in
theorem duall_any (A B : Option Addr) (n c m d : Nat) (l : List MU) (ds : List Int) (w : World) (hcap : n ≤ c) (h : Unis w A n l) (hq : Reads w w.heap.size 1 B m (ints ds)) :
    Calls Try.prog 28 #[.slice A n c, .slice B m d] w fun e w' => e = .returned (.int .i64 (Pl.duAll (plus l) ds)) ∧ Below w.heap.size w w' := by
  have L1 := Lib.hid h.len
  have M1 := Lib.hid hq.int_len
  have H := Lib.hid h
  have HQ := Lib.hid hq
  clear h hq
  by_cases h32 : n ≤ 3 ∧ m ≤ 8
  · obtain ⟨hn3, hm8⟩ := h32
    have HNL : Hid (¬ (3 < (plus l).length ∨ 8 < ds.length)) := by show ¬ _; rw [plus_len, L1.out, M1.out]; omega
    have HCO2 := Lib.hid (fun (w : World) (hh : Reads w w.heap.size 1 B m (ints ds)) => contains_int B m d ds 50 Pl.badDem w.heap.size w (by omega) enters_duall2 (Lib.hid fun z w => duall2_any z w) hh)
    go_enter Try.func28, Try.ntmps28
    go_wp2_with fail
    go_loopw [18] (fun i wr => ∃ k : Nat, k ≤ n ∧ i = .int .i64 k ∧ Hid (Pl.duAllK (plus l) k = 0) ∧ Below w.heap.size w wr) (fun i _ => n - (intOf i).toNat)
    case atStart => exact ⟨0, Nat.zero_le _, rfl, rfl, Below.refl _ _⟩
    case round =>
      obtain ⟨k, hk, rfl, HZ, hbel⟩ := hrel
      have HB := Lib.hid hbel
      clear hbel
      by_cases hlt : k < n
      · have HTK := Lib.hid ((H.out.go HB.out).take hlt)
        obtain ⟨b, o, rfl, hl1, cc, hin⟩ := (H.out.go HB.out).at_ hlt
        have hlp : k < (plus l).length := by rw [plus_len]; exact hl1
        have HERR := Lib.hid (fun e he h => Pl.duAllK_err (l := plus l) (ds := ds) (k := k) (e := e) HNL.out hlp HZ.out h he)
        have HOK := Lib.hid (fun (h : Pl.duAllS ((plus l).take k) ((plus l)[k]'hlp) = 0) => (Pl.duAllK_succ (l := plus l) (k := k) hlp HZ.out).trans h)
        rw [plus_at hl1, plus_take] at HERR HOK
        have HIN := Lib.hid hin
        have HOC := Lib.hid (fun (w : World) (hq : UnIn w l[k]) => ducheck_any l[k] w hq)
        have HCO := Lib.hid (fun (q : Nat) (w : World) (bo : Nat) (hc : w.cell? ⟨bo, 0, none⟩ = some (.string l[k].r.name)) (h : Unis w (some ⟨b, o, none⟩) k (l.take k)) => contains_un (some ⟨b, o, none⟩) k q (l.take k) l[k].r.name bo w (by omega) hc h)
        have hnm : (plu l[k]).r.name = l[k].r.name := rfl
        unfold Pl.duAllS at HERR HOK
        rw [hnm] at HERR HOK
        generalize Pl.duCheck (plu l[k]) = dc at *
        generalize l[k] = z at *
        clear hin hnm
        obtain ⟨⟨rn, r1, r2, r3, r4, r5, r6, r7⟩, nm, Az, nz, cz, st, ⟨s1, s2, s3⟩⟩ := z
        simp only at HERR HOK HCO
        unfold vUn at HOC
        simp only at HOC
        have c0 : wr.cell? ⟨b, o + k * 13, none⟩ = some (.string rn) := cc 0 _ rfl
        have c1 := cc 1 _ rfl
        have c2 := cc 2 _ rfl
        have c3 := cc 3 _ rfl
        have c4 := cc 4 _ rfl
        have c5 := cc 5 _ rfl
        have c6 := cc 6 _ rfl
        have c7 := cc 7 _ rfl
        have c8 := cc 8 _ rfl
        have c9 := cc 9 _ rfl
        have c10 := cc 10 _ rfl
        have c11 := cc 11 _ rfl
        have c12 := cc 12 _ rfl
        clear cc
        simp only at c0 c1 c2 c3 c4 c5 c6 c7 c8 c9 c10 c11 c12
        have A0 := (Below.refl wr.heap.size wr).alloc (Nat.le_refl _) (.cells #[.string rn, .int .i64 r1, .int .i64 r2, .int .i64 r3, .int .i64 r4, .int .i64 r5, .int .i64 r6, .int .i64 r7, .string nm, .slice Az nz cz, .bool s1, .int .i64 s2, .int .i64 s3] 35)
        have BN := Lib.hid (Blk.new_ wr wr.heap.size 35 #[.string rn, .int .i64 r1, .int .i64 r2, .int .i64 r3, .int .i64 r4, .int .i64 r5, .int .i64 r6, .int .i64 r7, .string nm, .slice Az nz cz, .bool s1, .int .i64 s2, .int .i64 s3] rfl)
        have HBN := Lib.hid (HB.out.trans (A0.mono HB.out.size))
        have HTN := Lib.hid (HTK.out.go A0)
        have HIN0 := Lib.hid (HIN.out.go A0)
        have hsz := HB.out.size
        clear A0
        go_wp2_with fail
        refine (HOC.out _ HIN0.out).mono ?_
        rintro e w3 ⟨rfl, hb⟩
        have BN3 := Lib.hid (BN.out.go hb)
        have HB3 := Lib.hid (HBN.out.trans (hb.mono HBN.out.size))
        have HT3 := Lib.hid (HTN.out.go hb)
        clear hb BN HBN HIN HIN0 HOC HTK HTN c0 c1 c2 c3 c4 c5 c6 c7 c8 c9 c10 c11 c12
        generalize wr.heap.size = bn at *
        have q0 : w3.cell? ⟨bn, 0, none⟩ = some (.string rn) := BN3.out.cell 0
        by_cases h0 : dc = 0
        · have hz0 : (dc != 0) = false := by simpa using h0
          have hk1 : (k : Int) ≤ (c : Int) := by omega
          have hk2 : (0 : Int) ≤ (k : Int) := by omega
          have HC := Lib.hid (fun q => HCO.out q w3 bn q0 HT3.out)
          cases h7 : Pl.has (Pl.nmEq rn) (plus (l.take k))
          · have HZ2 : Hid (Pl.duAllK (plus l) (k + 1) = 0) := HOK.out (by rw [if_neg (by simpa using h0), if_neg (by rw [h7]; decide)])
            rw [h7] at HC
            clear HERR HOK h7 HCO h0
            go_wp2_with fail
            refine (HC.out _).mono ?_
            rintro e w4 ⟨rfl, hb⟩
            have HB4 := Lib.hid (HB3.out.trans (hb.mono HB3.out.size))
            clear hb
            go_wp2_with fail
            go_roundw
            case rel => exact ⟨k + 1, by omega, by go_num, HZ2, HB4.out⟩
            case measure => simp [intOf]; omega
          · have HE : Hid (Pl.duAll (plus l) ds = 7) := HERR.out 7 (by decide) (by rw [if_neg (by simpa using h0), if_pos h7])
            rw [h7] at HC
            clear HERR HOK h7 HCO h0
            go_wp2_with fail
            refine (HC.out _).mono ?_
            rintro e w4 ⟨rfl, hb⟩
            have HB4 := Lib.hid (HB3.out.trans (hb.mono HB3.out.size))
            clear hb
            go_wp2_with fail
            go_ret
            exact ⟨by rw [HE.out]; rfl, HB4.out⟩
        · have hz0 : (dc != 0) = true := by simpa using h0
          have HE : Hid (Pl.duAll (plus l) ds = dc) := HERR.out _ h0 (by rw [if_pos h0])
          clear HERR HOK HCO h0
          go_wp2_with fail
          go_ret
          exact ⟨by rw [HE.out]; rfl, HB3.out⟩
      · have : k = n := by omega
        subst this
        have HZ1 : Hid (Pl.duAllK (plus l) (plus l).length = 0) := by show _ = _; rw [plus_len, L1.out]; exact HZ.out
        have HC2 := Lib.hid (HCO2.out wr (HQ.out.go HB.out))
        clear HCO2
        cases hv : Pl.has Pl.badDem ds
        · have HE : Hid (Pl.duAll (plus l) ds = 0) := by show _ = _; rw [Pl.duAll, if_neg HNL.out, if_neg (by rw [HZ1.out]; simp), if_neg (by rw [hv]; decide)]
          rw [hv] at HC2
          clear hv
          go_wp2_with fail
          refine HC2.out.mono ?_
          rintro e w4 ⟨rfl, rfl⟩
          go_wp2_with fail
          go_ret
          exact ⟨by rw [HE.out]; rfl, HB.out⟩
        · have HE : Hid (Pl.duAll (plus l) ds = 4) := by show _ = _; rw [Pl.duAll, if_neg HNL.out, if_neg (by rw [HZ1.out]; simp), if_pos hv]
          rw [hv] at HC2
          clear hv
          go_wp2_with fail
          refine HC2.out.mono ?_
          rintro e w4 ⟨rfl, rfl⟩
          go_wp2_with fail
          go_ret
          exact ⟨by rw [HE.out]; rfl, HB.out⟩
  · have HE : Hid (Pl.duAll (plus l) ds = 2) := by show _ = _; rw [Pl.duAll, if_pos (by rw [plus_len, L1.out, M1.out]; omega)]
    by_cases hn3 : n ≤ 3
    · have hm8 : ¬ m ≤ 8 := fun h => h32 ⟨hn3, h⟩
      clear h32
      go_enter Try.func28, Try.ntmps28
      go_wp2_with fail
      go_ret
      exact ⟨by rw [HE.out]; rfl, Below.refl _ _⟩
    · clear h32
      go_enter Try.func28, Try.ntmps28
      go_wp2_with fail
      go_ret
      exact ⟨by rw [HE.out]; rfl, Below.refl _ _⟩
end Go.Proofs.Ytchafkocobbndaa
