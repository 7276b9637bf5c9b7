/- auction.checkFills: it gives what its plain function gives. No condition. -/
import Derived.Test.YtpbomomgjhbljaaAchkB
import Derived.Test.YtpbomomgjhbljaaFit
namespace Go.Proofs.Ytpbomomgjhbljaa
open Go.RowKit
namespace Pl
def badFill (x : Ord × Int) : Bool := decide (x.2 < 0) || decide (x.1.pow < x.2)
def cfills (l : List Ord) (fs : List Int) : Int := if acheck l ≠ 0 then acheck l else if fs.length ≠ l.length then 3 else if has badFill (l.zip fs) = true then 4 else 0
theorem acheck_len {l : List Ord} (h : acheck l = 0) : l.length ≤ 32 := by
  unfold acheck at h
  split at h
  · cases h
  · omega
end Pl
set_option maxHeartbeats 3200000 in
set_option maxRecDepth 100000 in
theorem cfills_any (A B : Option Addr) (n m c d : Nat) (l : List Pl.Ord) (fs : List Int) (w : World) (hcap : n ≤ c) (hs : ∀ z ∈ l, z.name.size ≤ 9223372036854775807) (hr : Reads w w.heap.size 4 A n (orders l)) (hf : Reads w w.heap.size 1 B m (ints fs)) :
    Calls Try.prog 58 #[.slice A n c, .slice B m d] w fun e w' => e = .returned (.int .i64 (Pl.cfills l fs)) ∧ Below w.heap.size w w' := by
  have L1 := Lib.hid hr.ord_len
  have L2 := Lib.hid hf.int_len
  have HC := Lib.hid (acheck_any A n c l w hcap hs hr)
  clear hs
  by_cases h0 : Pl.acheck l = 0
  · have h32 := Pl.acheck_len h0
    rw [h0] at HC
    by_cases hm : m = n
    · subst hm
      have HF : Hid (Pl.cfills l fs = if Pl.has Pl.badFill (l.zip fs) = true then 4 else 0) := by show _ = _; unfold Pl.cfills; rw [if_neg (by simp [h0]), if_neg (by rw [L1.out, L2.out]; simp)]
      have hmm : ((m : Int) != (m : Int)) = false := by simp
      have h32' : m ≤ 32 := by have := L1.out; omega
      clear h0 h32
      go_enter Try.func58, Try.ntmps58
      go_wp2_with fail
      refine HC.out.mono ?_
      rintro e w1 ⟨rfl, hb1⟩
      have HB1 := Lib.hid hb1
      clear hb1
      go_wp2_with fail
      go_loopw [20] (fun i wr => ∃ k : Nat, k ≤ m ∧ i = .int .i64 k ∧ Hid (∀ j (hj : j < (l.zip fs).length), j < k → Pl.badFill (l.zip fs)[j] = false) ∧ Below w.heap.size w wr) (fun i _ => m - (intOf i).toNat)
      case atStart => exact ⟨0, Nat.zero_le _, rfl, fun j _ h => absurd h (by omega), HB1.out⟩
      case round =>
        obtain ⟨k, hk, rfl, HN, hbel⟩ := hrel
        have HB := Lib.hid hbel
        clear hbel
        by_cases hlt : k < m
        · obtain ⟨b, o, rfl, hl1, c1, c2, c3, c4⟩ := (hr.below HB.out).ord_at hlt
          obtain ⟨b', o', rfl, hl2, d1⟩ := (hf.below HB.out).int_at hlt
          have hz : k < (l.zip fs).length := by rw [List.length_zip]; omega
          have HZ : Hid (Pl.badFill (l.zip fs)[k] = (decide (fs[k] < 0) || decide (l[k].pow < fs[k]))) := by show _ = _; rw [List.getElem_zip]; rfl
          generalize fs[k] = f at *
          generalize l[k] = z at *
          obtain ⟨nm, bz, pw, pr⟩ := z
          simp only at c1 c2 c3 c4
          have hsz := HB.out.size
          have k1 : (0 : Int) ≤ (k : Int) := by omega
          have k2 : (k : Int) < (m : Int) := by omega
          have BN := Lib.hid (Blk.new_ wr wr.heap.size 32 #[.string nm, .bool bz, .int .i64 pw, .int .i64 pr] rfl)
          have HBN := Lib.hid (HB.out.alloc HB.out.size (.cells #[.string nm, .bool bz, .int .i64 pw, .int .i64 pr] 32))
          have q4 : (wr.alloc (.cells #[.string nm, .bool bz, .int .i64 pw, .int .i64 pr] 32)).cell? ⟨b', o' + k, none⟩ = some (.int .i64 f) := by rw [World.cell?_alloc_some _ _ _ (by rw [d1]; rfl)]; exact d1
          go_wp2_with fail
          generalize wr.alloc (.cells #[.string nm, .bool bz, .int .i64 pw, .int .i64 pr] 32) = w2 at *
          generalize wr.heap.size = bn at *
          have q2 : w2.cell? ⟨bn, 2, none⟩ = some (.int .i64 pw) := BN.out.cell 2
          clear c1 c2 c3 c4 d1
          have HV : Hid (∀ v, (decide (f < 0) || decide (pw < f)) = v → Pl.badFill (l.zip fs)[k] = v) := fun v h => HZ.out.trans h
          cases g1 : decide (f < 0)
          · cases g2 : decide (pw < f)
            · have HK := Lib.hid (HV.out false (by rw [g1, g2]; rfl))
              go_quiet (fail)
              go_wp2_with fail
              go_roundw
              case rel =>
                refine ⟨k + 1, by omega, by go_num, fun j hj hjk => ?_, below_drewN_s HBN.out _⟩
                by_cases e : j = k
                · subst e; exact HK.out
                · exact HN.out j hj (by omega)
              case measure => simp [intOf]; omega
            · have HK := Lib.hid (HV.out true (by rw [g1, g2]; rfl))
              have HE : Hid (Pl.cfills l fs = 4) := by show _ = _; rw [HF.out, if_pos (by unfold Pl.has; rw [List.any_eq_true]; exact ⟨_, List.getElem_mem hz, HK.out⟩)]
              go_quiet (fail)
              go_wp2_with fail
              go_ret
              exact ⟨by rw [HE.out]; rfl, below_drewN_s HBN.out _⟩
          · have HK := Lib.hid (HV.out true (by rw [g1]; rfl))
            have HE : Hid (Pl.cfills l fs = 4) := by show _ = _; rw [HF.out, if_pos (by unfold Pl.has; rw [List.any_eq_true]; exact ⟨_, List.getElem_mem hz, HK.out⟩)]
            go_quiet (fail)
            go_wp2_with fail
            go_ret
            exact ⟨by rw [HE.out]; rfl, below_drewN_s HBN.out _⟩
        · have : k = m := by omega
          subst this
          have HE : Hid (Pl.cfills l fs = 0) := by
            show _ = _
            rw [HF.out, if_neg (by
              unfold Pl.has
              rw [Bool.not_eq_true, List.any_eq_false]
              intro x hx
              obtain ⟨j, hj, rfl⟩ := List.getElem_of_mem hx
              rw [HN.out j hj (by rw [List.length_zip] at hj; have := L1.out; omega)]
              decide)]
          go_wp2_with fail
          go_ret
          exact ⟨by rw [HE.out]; rfl, HB.out⟩
    · have HF : Hid (Pl.cfills l fs = 3) := by show _ = _; unfold Pl.cfills; rw [if_neg (by simp [h0]), if_pos (by rw [L1.out, L2.out]; exact hm)]
      have hmm : ((m : Int) != (n : Int)) = true := by simp; omega
      clear h0 hm
      go_enter Try.func58, Try.ntmps58
      go_wp2_with fail
      refine HC.out.mono ?_
      rintro e w1 ⟨rfl, hb1⟩
      have HB1 := Lib.hid hb1
      clear hb1
      go_wp2_with fail
      go_ret
      exact ⟨by rw [HF.out]; rfl, HB1.out⟩
  · have HF : Hid (Pl.cfills l fs = Pl.acheck l) := by show _ = _; unfold Pl.cfills; rw [if_pos h0]
    have h2 : (Pl.acheck l != 0) = true := by simpa using h0
    clear h0
    generalize Pl.acheck l = u at *
    go_enter Try.func58, Try.ntmps58
    go_wp2_with fail
    refine HC.out.mono ?_
    rintro e w1 ⟨rfl, hb1⟩
    have HB1 := Lib.hid hb1
    clear hb1
    go_wp2_with fail
    go_ret
    exact ⟨by rw [HF.out]; rfl, HB1.out⟩
end Go.Proofs.Ytpbomomgjhbljaa
