/- relaylang's Name, node and rule answer as their plain functions say. Condition: names are as long as a string can be; the program reads. -/
import Derived.Test.YtpamgeemmbbkkaaBlk02
namespace Go.Proofs.Ytpamgeemmbbkkaa
open Go.RowKit
set_option maxRecDepth 100000
def kwC : Obj := .cells #[.string ⟨#[65, 78, 68]⟩, .string ⟨#[79, 82]⟩, .string ⟨#[78, 79, 84]⟩, .string ⟨#[68, 69, 76, 65, 89]⟩, .string ⟨#[76, 65, 84, 67, 72]⟩] 9
set_option maxHeartbeats 1600000 in
theorem rname_any (s : ByteArray) (w : World) (hs : s.size ≤ 9223372036854775807) :
    Calls Try.prog 41 #[.string s] w fun e w' => e = .returned (.bool (Pl.rnameB s)) ∧ Below w.heap.size w w' := by
  obtain ⟨cap, w1, hrun, hc, hb⟩ := bytes_of s w
  have HC := Lib.hid hc
  have HBW := Lib.hid hb
  have HRB : Hid (Pl.rnameB s = (Pl.nameB s && !Pl.inB Pl.keywords s)) := rfl
  have d2 := (Below.refl w1.heap.size w1).alloc (Nat.le_refl _) kwC
  have CK := Lib.hid (contains_txt (some ⟨w1.heap.size, 0, none⟩) 5 5 Pl.keywords s (w1.alloc kwC) (w1.alloc kwC).heap.size (by omega) (Reads.lit w1 #[.string ⟨#[65, 78, 68]⟩, .string ⟨#[79, 82]⟩, .string ⟨#[78, 79, 84]⟩, .string ⟨#[68, 69, 76, 65, 89]⟩, .string ⟨#[76, 65, 84, 67, 72]⟩] 9 5 1 w1.heap.size rfl rfl))
  have HB2 := Lib.hid (hb.trans (d2.mono hb.size))
  generalize Pl.rnameB s = R at *
  generalize Pl.inB Pl.keywords s = kw at *
  unfold kwC at CK HB2
  clear hc d2
  go_enter Try.func41, Try.ntmps41
  go_wp2_with fail
  go_loop [2, 3, 4, 8] (fun _ _ _ i => ∃ k : Nat, k ≤ s.size ∧ i = .int .i64 k ∧ ∀ j (hj : j < s.size), j < k → Pl.okByte j s[j] = true) (fun _ _ _ i => s.size - (intOf i).toNat)
  case atStart => exact ⟨0, Nat.zero_le _, rfl, fun j _ h => absurd h (by omega)⟩
  case round =>
    obtain ⟨k, hk, rfl, hno⟩ := hrel
    have HN := Lib.hid hno
    clear hno
    by_cases hlt : k < s.size
    · have hc := HC.out k hlt
      have HK : Hid (Pl.okByte k s[k] = decide ((65 ≤ s[k].toNat ∧ s[k].toNat ≤ 90) ∨ (0 < k ∧ 48 ≤ s[k].toNat ∧ s[k].toNat ≤ 57))) := rfl
      have HT : Hid (∀ h : Pl.okByte k s[k] = true, ∀ j (hj : j < s.size), j < k + 1 → Pl.okByte j s[j] = true) := by
        intro h j hj hjk
        by_cases e : j = k
        · subst e; exact h
        · exact HN.out j hj (by omega)
      have HF : Hid (Pl.okByte k s[k] = false → R = false) := fun h => by rw [HRB.out, Pl.nameB_no k hlt h]; rfl
      generalize s[k] = cc at *
      have hcc : cc.toNat < 256 := cc.toNat_lt
      generalize cc.toNat = c at *
      clear CK HB2
      go_wp2_with fail
      all_goals try simp only [Bool.not_eq_true', Bool.not_eq_false', decide_eq_false_iff_not, decide_eq_true_eq] at *
      all_goals first
        | (go_ret
           exact ⟨ret_bool (HF.out (by rw [HK.out]; apply decide_eq_false; omega)).symm, HBW.out⟩)
        | (go_round
           case rel => exact ⟨k + 1, by omega, by go_num, HT.out (by rw [HK.out]; apply decide_eq_true; omega)⟩
           case measure => simp [intOf]; omega)
    · have HA : Hid (Pl.nameB s = decide (1 ≤ s.size ∧ s.size ≤ 8)) := Pl.nameB_all fun j hj => HN.out j hj (by omega)
      rw [HA.out] at HRB
      clear HA HC HN
      by_cases h1 : 1 ≤ s.size
      · by_cases h8 : s.size ≤ 8
        · have HR : Hid (R = !kw) := by show _ = _; rw [HRB.out]; simp [h1, h8]
          have e1 : decide ((1 : Int) ≤ (s.size : Int)) = true := by simp; omega
          have e8 : decide ((s.size : Int) ≤ 8) = true := by simp; omega
          go_wp2_with fail
          refine CK.out.mono ?_
          rintro e w2 ⟨rfl, rfl⟩
          go_wp2_with fail
          go_ret
          exact ⟨by rw [HR.out]; rfl, HB2.out⟩
        · have HR : Hid (R = false) := by show _ = _; rw [HRB.out]; simp [h8]
          have e1 : decide ((1 : Int) ≤ (s.size : Int)) = true := by simp; omega
          have e8 : decide ((s.size : Int) ≤ 8) = false := by simp; omega
          go_wp2_with fail
          go_ret
          exact ⟨by rw [HR.out]; rfl, HBW.out⟩
      · have HR : Hid (R = false) := by show _ = _; rw [HRB.out]; simp [h1]
        have e1 : decide ((1 : Int) ≤ (s.size : Int)) = false := by simp; omega
        go_wp2_with fail
        go_ret
        exact ⟨by rw [HR.out]; rfl, HBW.out⟩
/-! node -/
set_option maxHeartbeats 1600000 in
theorem rnode_any (x : Pl.RN) (w : World) (hs : x.name.size ≤ 9223372036854775807) :
    Calls Try.prog 43 #[.agg #[.int .i64 x.op, .string x.name, .int .i64 x.value]] w fun e w' => e = .returned (.int .i64 (Pl.nodeE x)) ∧ Below w.heap.size w w' := by
  obtain ⟨op, nm, vl⟩ := x
  simp only at hs ⊢
  have HS : Hid (Pl.nodeE ⟨op, nm, vl⟩ = if ¬ (0 ≤ op ∧ op ≤ 7) then 1 else if ((op = 0 ∨ op = 1 ∨ op = 2) ∧ Pl.rnameB nm = false) ∨ (¬ (op = 0 ∨ op = 1 ∨ op = 2) ∧ nm.size ≠ 0) then 6 else if vl < (if op = 6 then 1 else 0) ∨ (if op = 1 ∨ op = 2 then 1000000 else if op = 6 then 100000 else 0) < vl then 4 else 0) := rfl
  have CN := Lib.hid (fun (w1 : World) => rname_any nm w1 hs)
  generalize Pl.nodeE ⟨op, nm, vl⟩ = R at *
  generalize Pl.rnameB nm = rb at *
  have F0 := Lib.hid ((Below.refl w.heap.size w).alloc (Nat.le_refl _) (.cells #[.int .i64 op, .string nm, .int .i64 vl] 93))
  have B0 := Lib.hid (Blk.new_ w w.heap.size 93 #[.int .i64 op, .string nm, .int .i64 vl] rfl)
  have HEM : Hid (nm.toList.isEmpty = decide (nm.size = 0)) := by
    show _ = _
    rw [ByteArray.toList_eq, Bool.eq_iff_iff, List.isEmpty_iff, decide_eq_true_eq]
    constructor
    · intro h; have := congrArg List.length h; simpa using this
    · intro h; apply List.eq_nil_of_length_eq_zero; simpa using h
  by_cases hop : 0 ≤ op ∧ op ≤ 7
  · have hc : op = 0 ∨ op = 1 ∨ op = 2 ∨ op = 3 ∨ op = 4 ∨ op = 5 ∨ op = 6 ∨ op = 7 := by omega
    clear hop
    rcases hc with rfl | rfl | rfl | rfl | rfl | rfl | rfl | rfl
    · have HE : Hid (R = if rb = false then 6 else if vl < 0 ∨ 0 < vl then 4 else 0) := by show _ = _; rw [HS.out]; simp
      clear HS HEM
      go_enter Try.func43, Try.ntmps43
      go_wp2_with fail
      refine (CN.out _).mono ?_
      rintro e w1 ⟨rfl, hb⟩
      have F1 := Lib.hid (F0.out.trans (hb.mono F0.out.size))
      have B1 := Lib.hid (B0.out.go hb)
      clear hb CN F0 B0
      have k0 := B1.out.cell
      cases rb
      · have HR : Hid (R = 6) := by show _ = _; rw [HE.out]; simp
        clear HE
        go_wp2_with fail
        go_ret
        exact ⟨by rw [HR.out]; rfl, F1.out⟩
      · rw [if_neg (by simp)] at HE
        by_cases v0 : vl < 0
        · have HR : Hid (R = 4) := by show _ = _; rw [HE.out, if_pos (.inl v0)]
          have f0 : decide (vl < 0) = true := by simp [v0]
          go_wp2_with fail
          go_ret
          exact ⟨by rw [HR.out]; rfl, F1.out⟩
        · have f0 : decide (vl < 0) = false := by simp; omega
          by_cases v1 : 0 < vl
          · have HR : Hid (R = 4) := by show _ = _; rw [HE.out, if_pos (.inr v1)]
            have f1 : decide (0 < vl) = true := by simp [v1]
            go_wp2_with fail
            go_ret
            exact ⟨by rw [HR.out]; rfl, F1.out⟩
          · have HR : Hid (R = 0) := by show _ = _; rw [HE.out, if_neg (by omega)]
            have f1 : decide (0 < vl) = false := by simp; omega
            go_wp2_with fail
            go_ret
            exact ⟨by rw [HR.out]; rfl, F1.out⟩
    · have HE : Hid (R = if rb = false then 6 else if vl < 0 ∨ 1000000 < vl then 4 else 0) := by show _ = _; rw [HS.out]; simp
      clear HS HEM
      go_enter Try.func43, Try.ntmps43
      go_wp2_with fail
      refine (CN.out _).mono ?_
      rintro e w1 ⟨rfl, hb⟩
      have F1 := Lib.hid (F0.out.trans (hb.mono F0.out.size))
      have B1 := Lib.hid (B0.out.go hb)
      clear hb CN F0 B0
      have k0 := B1.out.cell
      cases rb
      · have HR : Hid (R = 6) := by show _ = _; rw [HE.out]; simp
        clear HE
        go_wp2_with fail
        go_ret
        exact ⟨by rw [HR.out]; rfl, F1.out⟩
      · rw [if_neg (by simp)] at HE
        by_cases v0 : vl < 0
        · have HR : Hid (R = 4) := by show _ = _; rw [HE.out, if_pos (.inl v0)]
          have f0 : decide (vl < 0) = true := by simp [v0]
          go_wp2_with fail
          go_ret
          exact ⟨by rw [HR.out]; rfl, F1.out⟩
        · have f0 : decide (vl < 0) = false := by simp; omega
          by_cases v1 : 1000000 < vl
          · have HR : Hid (R = 4) := by show _ = _; rw [HE.out, if_pos (.inr v1)]
            have f1 : decide (1000000 < vl) = true := by simp [v1]
            go_wp2_with fail
            go_ret
            exact ⟨by rw [HR.out]; rfl, F1.out⟩
          · have HR : Hid (R = 0) := by show _ = _; rw [HE.out, if_neg (by omega)]
            have f1 : decide (1000000 < vl) = false := by simp; omega
            go_wp2_with fail
            go_ret
            exact ⟨by rw [HR.out]; rfl, F1.out⟩
    · have HE : Hid (R = if rb = false then 6 else if vl < 0 ∨ 1000000 < vl then 4 else 0) := by show _ = _; rw [HS.out]; simp
      clear HS HEM
      go_enter Try.func43, Try.ntmps43
      go_wp2_with fail
      refine (CN.out _).mono ?_
      rintro e w1 ⟨rfl, hb⟩
      have F1 := Lib.hid (F0.out.trans (hb.mono F0.out.size))
      have B1 := Lib.hid (B0.out.go hb)
      clear hb CN F0 B0
      have k0 := B1.out.cell
      cases rb
      · have HR : Hid (R = 6) := by show _ = _; rw [HE.out]; simp
        clear HE
        go_wp2_with fail
        go_ret
        exact ⟨by rw [HR.out]; rfl, F1.out⟩
      · rw [if_neg (by simp)] at HE
        by_cases v0 : vl < 0
        · have HR : Hid (R = 4) := by show _ = _; rw [HE.out, if_pos (.inl v0)]
          have f0 : decide (vl < 0) = true := by simp [v0]
          go_wp2_with fail
          go_ret
          exact ⟨by rw [HR.out]; rfl, F1.out⟩
        · have f0 : decide (vl < 0) = false := by simp; omega
          by_cases v1 : 1000000 < vl
          · have HR : Hid (R = 4) := by show _ = _; rw [HE.out, if_pos (.inr v1)]
            have f1 : decide (1000000 < vl) = true := by simp [v1]
            go_wp2_with fail
            go_ret
            exact ⟨by rw [HR.out]; rfl, F1.out⟩
          · have HR : Hid (R = 0) := by show _ = _; rw [HE.out, if_neg (by omega)]
            have f1 : decide (1000000 < vl) = false := by simp; omega
            go_wp2_with fail
            go_ret
            exact ⟨by rw [HR.out]; rfl, F1.out⟩
    · have HE : Hid (R = if nm.size ≠ 0 then 6 else if vl < 0 ∨ 0 < vl then 4 else 0) := by show _ = _; rw [HS.out]; simp
      clear HS CN
      have k0 := B0.out.cell
      by_cases hz : nm.size = 0
      · have hem : nm.toList.isEmpty = true := by rw [HEM.out]; simp [hz]
        rw [if_neg (by simpa using hz)] at HE
        clear hz HEM
        go_enter Try.func43, Try.ntmps43
        by_cases v0 : vl < 0
        · have HR : Hid (R = 4) := by show _ = _; rw [HE.out, if_pos (.inl v0)]
          have f0 : decide (vl < 0) = true := by simp [v0]
          go_wp2_with fail
          go_ret
          exact ⟨by rw [HR.out]; rfl, F0.out⟩
        · have f0 : decide (vl < 0) = false := by simp; omega
          by_cases v1 : 0 < vl
          · have HR : Hid (R = 4) := by show _ = _; rw [HE.out, if_pos (.inr v1)]
            have f1 : decide (0 < vl) = true := by simp [v1]
            go_wp2_with fail
            go_ret
            exact ⟨by rw [HR.out]; rfl, F0.out⟩
          · have HR : Hid (R = 0) := by show _ = _; rw [HE.out, if_neg (by omega)]
            have f1 : decide (0 < vl) = false := by simp; omega
            go_wp2_with fail
            go_ret
            exact ⟨by rw [HR.out]; rfl, F0.out⟩
      · have hem : nm.toList.isEmpty = false := by rw [HEM.out]; simp [hz]
        rw [if_pos hz] at HE
        have HR := HE
        clear hz HEM HE
        go_enter Try.func43, Try.ntmps43
        go_wp2_with fail
        go_ret
        exact ⟨by rw [HR.out]; rfl, F0.out⟩
    · have HE : Hid (R = if nm.size ≠ 0 then 6 else if vl < 0 ∨ 0 < vl then 4 else 0) := by show _ = _; rw [HS.out]; simp
      clear HS CN
      have k0 := B0.out.cell
      by_cases hz : nm.size = 0
      · have hem : nm.toList.isEmpty = true := by rw [HEM.out]; simp [hz]
        rw [if_neg (by simpa using hz)] at HE
        clear hz HEM
        go_enter Try.func43, Try.ntmps43
        by_cases v0 : vl < 0
        · have HR : Hid (R = 4) := by show _ = _; rw [HE.out, if_pos (.inl v0)]
          have f0 : decide (vl < 0) = true := by simp [v0]
          go_wp2_with fail
          go_ret
          exact ⟨by rw [HR.out]; rfl, F0.out⟩
        · have f0 : decide (vl < 0) = false := by simp; omega
          by_cases v1 : 0 < vl
          · have HR : Hid (R = 4) := by show _ = _; rw [HE.out, if_pos (.inr v1)]
            have f1 : decide (0 < vl) = true := by simp [v1]
            go_wp2_with fail
            go_ret
            exact ⟨by rw [HR.out]; rfl, F0.out⟩
          · have HR : Hid (R = 0) := by show _ = _; rw [HE.out, if_neg (by omega)]
            have f1 : decide (0 < vl) = false := by simp; omega
            go_wp2_with fail
            go_ret
            exact ⟨by rw [HR.out]; rfl, F0.out⟩
      · have hem : nm.toList.isEmpty = false := by rw [HEM.out]; simp [hz]
        rw [if_pos hz] at HE
        have HR := HE
        clear hz HEM HE
        go_enter Try.func43, Try.ntmps43
        go_wp2_with fail
        go_ret
        exact ⟨by rw [HR.out]; rfl, F0.out⟩
    · have HE : Hid (R = if nm.size ≠ 0 then 6 else if vl < 0 ∨ 0 < vl then 4 else 0) := by show _ = _; rw [HS.out]; simp
      clear HS CN
      have k0 := B0.out.cell
      by_cases hz : nm.size = 0
      · have hem : nm.toList.isEmpty = true := by rw [HEM.out]; simp [hz]
        rw [if_neg (by simpa using hz)] at HE
        clear hz HEM
        go_enter Try.func43, Try.ntmps43
        by_cases v0 : vl < 0
        · have HR : Hid (R = 4) := by show _ = _; rw [HE.out, if_pos (.inl v0)]
          have f0 : decide (vl < 0) = true := by simp [v0]
          go_wp2_with fail
          go_ret
          exact ⟨by rw [HR.out]; rfl, F0.out⟩
        · have f0 : decide (vl < 0) = false := by simp; omega
          by_cases v1 : 0 < vl
          · have HR : Hid (R = 4) := by show _ = _; rw [HE.out, if_pos (.inr v1)]
            have f1 : decide (0 < vl) = true := by simp [v1]
            go_wp2_with fail
            go_ret
            exact ⟨by rw [HR.out]; rfl, F0.out⟩
          · have HR : Hid (R = 0) := by show _ = _; rw [HE.out, if_neg (by omega)]
            have f1 : decide (0 < vl) = false := by simp; omega
            go_wp2_with fail
            go_ret
            exact ⟨by rw [HR.out]; rfl, F0.out⟩
      · have hem : nm.toList.isEmpty = false := by rw [HEM.out]; simp [hz]
        rw [if_pos hz] at HE
        have HR := HE
        clear hz HEM HE
        go_enter Try.func43, Try.ntmps43
        go_wp2_with fail
        go_ret
        exact ⟨by rw [HR.out]; rfl, F0.out⟩
    · have HE : Hid (R = if nm.size ≠ 0 then 6 else if vl < 1 ∨ 100000 < vl then 4 else 0) := by show _ = _; rw [HS.out]; simp
      clear HS CN
      have k0 := B0.out.cell
      by_cases hz : nm.size = 0
      · have hem : nm.toList.isEmpty = true := by rw [HEM.out]; simp [hz]
        rw [if_neg (by simpa using hz)] at HE
        clear hz HEM
        go_enter Try.func43, Try.ntmps43
        by_cases v0 : vl < 1
        · have HR : Hid (R = 4) := by show _ = _; rw [HE.out, if_pos (.inl v0)]
          have f0 : decide (vl < 1) = true := by simp [v0]
          go_wp2_with fail
          go_ret
          exact ⟨by rw [HR.out]; rfl, F0.out⟩
        · have f0 : decide (vl < 1) = false := by simp; omega
          by_cases v1 : 100000 < vl
          · have HR : Hid (R = 4) := by show _ = _; rw [HE.out, if_pos (.inr v1)]
            have f1 : decide (100000 < vl) = true := by simp [v1]
            go_wp2_with fail
            go_ret
            exact ⟨by rw [HR.out]; rfl, F0.out⟩
          · have HR : Hid (R = 0) := by show _ = _; rw [HE.out, if_neg (by omega)]
            have f1 : decide (100000 < vl) = false := by simp; omega
            go_wp2_with fail
            go_ret
            exact ⟨by rw [HR.out]; rfl, F0.out⟩
      · have hem : nm.toList.isEmpty = false := by rw [HEM.out]; simp [hz]
        rw [if_pos hz] at HE
        have HR := HE
        clear hz HEM HE
        go_enter Try.func43, Try.ntmps43
        go_wp2_with fail
        go_ret
        exact ⟨by rw [HR.out]; rfl, F0.out⟩
    · have HE : Hid (R = if nm.size ≠ 0 then 6 else if vl < 0 ∨ 0 < vl then 4 else 0) := by show _ = _; rw [HS.out]; simp
      clear HS CN
      have k0 := B0.out.cell
      by_cases hz : nm.size = 0
      · have hem : nm.toList.isEmpty = true := by rw [HEM.out]; simp [hz]
        rw [if_neg (by simpa using hz)] at HE
        clear hz HEM
        go_enter Try.func43, Try.ntmps43
        by_cases v0 : vl < 0
        · have HR : Hid (R = 4) := by show _ = _; rw [HE.out, if_pos (.inl v0)]
          have f0 : decide (vl < 0) = true := by simp [v0]
          go_wp2_with fail
          go_ret
          exact ⟨by rw [HR.out]; rfl, F0.out⟩
        · have f0 : decide (vl < 0) = false := by simp; omega
          by_cases v1 : 0 < vl
          · have HR : Hid (R = 4) := by show _ = _; rw [HE.out, if_pos (.inr v1)]
            have f1 : decide (0 < vl) = true := by simp [v1]
            go_wp2_with fail
            go_ret
            exact ⟨by rw [HR.out]; rfl, F0.out⟩
          · have HR : Hid (R = 0) := by show _ = _; rw [HE.out, if_neg (by omega)]
            have f1 : decide (0 < vl) = false := by simp; omega
            go_wp2_with fail
            go_ret
            exact ⟨by rw [HR.out]; rfl, F0.out⟩
      · have hem : nm.toList.isEmpty = false := by rw [HEM.out]; simp [hz]
        rw [if_pos hz] at HE
        have HR := HE
        clear hz HEM HE
        go_enter Try.func43, Try.ntmps43
        go_wp2_with fail
        go_ret
        exact ⟨by rw [HR.out]; rfl, F0.out⟩
  · rw [if_pos hop] at HS
    have HR := HS
    clear HS HEM CN
    have k0 := B0.out.cell
    have e0 : (op == 0) = false := by simp; omega
    have e1 : (op == 1) = false := by simp; omega
    have e2 : (op == 2) = false := by simp; omega
    have e3 : (op == 3) = false := by simp; omega
    have e4 : (op == 4) = false := by simp; omega
    have e5 : (op == 5) = false := by simp; omega
    have e6 : (op == 6) = false := by simp; omega
    have e7 : (op == 7) = false := by simp; omega
    clear hop
    go_enter Try.func43, Try.ntmps43
    go_wp2_with fail
    go_ret
    exact ⟨by rw [HR.out]; rfl, F0.out⟩
end Go.Proofs.Ytpamgeemmbbkkaa
