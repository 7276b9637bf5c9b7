/- dispatch.check and dispatch.Best: what they give. No condition. -/
import Derived.Test.YtjdagpmfnmodbaaOffs
import Derived.Test.YtjdagpmfnmodbaaSrtED
import Derived.Test.YtjdagpmfnmodbaaOwn
import Derived.Outline
namespace Go.Proofs.Ytjdagpmfnmodbaa
open Go.RowKit
theorem dcheck_any (A : Option Addr) (n c : Nat) (l : List MOff) (d : Int) (w : World) (hcap : n ≤ c) (h : Offs w A n l) :
    Calls Try.prog 44 #[.slice A n c, .int .i64 d] w fun e w' => e = .returned (.int .i64 (Pl.dcheck (plo l) d)) ∧ Below w.heap.size w w' := by
  have L1 := Lib.hid h.len
  have H := Lib.hid h
  have HC := Lib.hid (fun w h => oall_any A n c l w hcap h)
  clear h
  by_cases h0 : Pl.oall (plo l) = 0
  · obtain ⟨g1, _⟩ := Pl.oall_good h0
    have hn10 : n ≤ 10 := by have := L1.out; rw [plo_len] at g1; omega
    have HG := Lib.hid (fun k hk => Pl.steps_good h0 k hk)
    have HT := Lib.hid (fun k hk => Pl.totals_bd h0 k hk)
    rw [plo_len, L1.out] at HG HT
    have HF : Hid (Pl.dcheck (plo l) d = if d < 0 ∨ 1000000 < d then 4 else if Pl.totals (plo l) n < d then 8 else 0) := by show _ = _; unfold Pl.dcheck; rw [if_neg (by simpa using h0), plo_len, L1.out]
    rw [h0] at HC
    clear h0 g1
    go_enter Try.func44, Try.ntmps44
    go_wp2_with fail
    refine (HC.out _ H.out).mono ?_
    rintro e w1 ⟨rfl, hb⟩
    have HB1 := Lib.hid hb
    clear hb
    go_wp2_with fail
    go_loopw [6, 16] (fun t i wr => ∃ k : Nat, k ≤ n ∧ i = .int .i64 k ∧ t = .int .i64 (Pl.totals (plo l) k) ∧ Below w.heap.size w wr) (fun _ i _ => n - (intOf i).toNat)
    case atStart => exact ⟨0, Nat.zero_le _, rfl, rfl, HB1.out⟩
    case round =>
      obtain ⟨k, hk, rfl, rfl, hbel⟩ := hrel
      have HB := Lib.hid hbel
      clear hbel
      obtain ⟨t0, t1⟩ := HT.out k hk
      by_cases hlt : k < n
      · obtain ⟨b, o, rfl, hl1, c1, c2, hin⟩ := (H.out.go HB.out).at_ hlt
        obtain ⟨s1, s2⟩ := HG.out k hlt
        have HS : Hid (Pl.totals (plo l) (k + 1) = Pl.totals (plo l) k + Pl.total (Pl.steps (plo l) k)) := rfl
        rw [plo_steps hl1] at s1 s2 HS
        obtain ⟨u0, u1⟩ := HT.out (k + 1) hlt
        rw [HS.out] at u0 u1
        have v0 := s1.nonneg
        have v1 := s1.sum
        have HIN := Lib.hid hin
        have HOS := Lib.hid (fun (w : World) (hq : Reads w w.heap.size 2 l[k].A l[k].n (pairs l[k].st)) => osum_any l[k].nm l[k].A l[k].n l[k].c l[k].st w hq s1 (by have := hq.pair_len; omega))
        clear hin s1 s2
        generalize l[k] = z at *
        obtain ⟨nm, Az, nz, cz, st⟩ := z
        unfold vOff at HOS
        simp only at c1 c2 HOS HS u0 u1 v0 v1
        have HBN := Lib.hid (HB.out.alloc HB.out.size (.cells #[.string nm, .slice Az nz cz] 33))
        generalize Pl.total st = tz at *
        generalize Pl.totals (plo l) k = tk at *
        go_wp2_with fail
        refine (HOS.out _ (HIN.out.2.2.go ((Below.refl _ _).alloc (Nat.le_refl _) _))).mono ?_
        rintro e w3 ⟨rfl, hb⟩
        have HB3 := Lib.hid (HBN.out.trans (hb.mono HBN.out.size))
        clear hb
        go_wp2_with fail
        go_roundw
        case rel => exact ⟨k + 1, by omega, by go_num, by rw [HS.out], HB3.out⟩
        case measure => simp [intOf]; omega
      · have : k = n := by omega
        subst this
        generalize Pl.totals (plo l) k = tk at *
        by_cases d0 : d < 0
        · rw [if_pos (.inl d0)] at HF
          go_wp2_with fail
          go_ret
          exact ⟨by rw [HF.out]; rfl, HB.out⟩
        · by_cases d1 : 1000000 < d
          · rw [if_pos (.inr d1)] at HF
            go_wp2_with fail
            go_ret
            exact ⟨by rw [HF.out]; rfl, HB.out⟩
          · rw [if_neg (by omega)] at HF
            by_cases d2 : tk < d
            · rw [if_pos d2] at HF
              go_wp2_with fail
              go_ret
              exact ⟨by rw [HF.out]; rfl, HB.out⟩
            · rw [if_neg d2] at HF
              go_wp2_with fail
              go_ret
              exact ⟨by rw [HF.out]; rfl, HB.out⟩
  · have HF : Hid (Pl.dcheck (plo l) d = Pl.oall (plo l)) := by show _ = _; unfold Pl.dcheck; rw [if_pos h0]
    have h2 : (Pl.oall (plo l) != 0) = true := by simpa using h0
    clear h0
    generalize Pl.oall (plo l) = u at *
    go_enter Try.func44, Try.ntmps44
    go_wp2_with fail
    refine (HC.out _ H.out).mono ?_
    rintro e w1 ⟨rfl, hb⟩
    have HB1 := Lib.hid hb
    clear hb
    go_wp2_with fail
    go_ret
    exact ⟨by rw [HF.out]; rfl, HB1.out⟩
end Go.Proofs.Ytjdagpmfnmodbaa
