/- Sizes of numbers and of rational numbers in 32-bit words, plain; lowest terms. No program. -/
import Derived.Test.YtoblpcljhblnmaaGreatDoorPLarge
namespace Go.Proofs.YtoblpcljhblnmaaGreatDoor.Pl
theorem nw_addi (a b : Int) : nw (a + b).natAbs ≤ max (nw a.natAbs) (nw b.natAbs) + 1 := Nat.le_trans (nw_mono (Int.natAbs_add_le a b)) (nw_add _ _)
theorem nw_muli (a b : Int) : nw (a * b).natAbs ≤ nw a.natAbs + nw b.natAbs := by rw [Int.natAbs_mul]; exact nw_mul _ _
def rsz (q : Rat) : Nat := max (nw q.num.natAbs) (nw q.den)
theorem rsz_num (q : Rat) : nw q.num.natAbs ≤ rsz q := Nat.le_max_left _ _
theorem rsz_den (q : Rat) : nw q.den ≤ rsz q := Nat.le_max_right _ _
theorem div_le (n : Int) (d : Nat) (hd : d ≠ 0) : (mkRat n d).num.natAbs ≤ n.natAbs ∧ (mkRat n d).den ≤ d := by
  rw [Rat.num_mkRat, Rat.den_mkRat, if_neg hd, if_neg hd]
  exact ⟨Int.natAbs_ediv_le_natAbs _ _, Nat.div_le_self _ _⟩
theorem rsz_mk {n : Int} {d k : Nat} (hd : d ≠ 0) (h1 : nw n.natAbs ≤ k) (h2 : nw d ≤ k) : rsz (mkRat n d) ≤ k := by
  have h := div_le n d hd
  exact Nat.max_le.2 ⟨Nat.le_trans (nw_mono h.1) h1, Nat.le_trans (nw_mono h.2) h2⟩
theorem rsz_add (p q : Rat) : rsz (p + q) ≤ rsz p + rsz q + 1 := by
  rw [Rat.add_def']
  refine rsz_mk (Nat.mul_ne_zero p.den_nz q.den_nz) ?_ ?_
  · have h1 := nw_addi (p.num * q.den) (q.num * p.den)
    have h2 := nw_muli p.num q.den
    have h3 := nw_muli q.num p.den
    rw [Int.natAbs_natCast] at h2 h3
    have := rsz_num p; have := rsz_num q; have := rsz_den p; have := rsz_den q
    omega
  · have := nw_mul p.den q.den; have := rsz_den p; have := rsz_den q
    omega
theorem rsz_mul (p q : Rat) : rsz (p * q) ≤ rsz p + rsz q := by
  rw [Rat.mul_def']
  refine rsz_mk (Nat.mul_ne_zero p.den_nz q.den_nz) ?_ ?_
  · have h2 := nw_muli p.num q.num
    have := rsz_num p; have := rsz_num q
    omega
  · have := nw_mul p.den q.den; have := rsz_den p; have := rsz_den q
    omega
theorem rsz_neg (p : Rat) : rsz (-p) = rsz p := by unfold rsz; rw [Rat.neg_num, Rat.neg_den, Int.natAbs_neg]
theorem rsz_sub (p q : Rat) : rsz (p - q) ≤ rsz p + rsz q + 1 := by
  rw [Rat.sub_eq_add_neg]
  have := rsz_add p (-q)
  rw [rsz_neg] at this
  exact this
theorem rsz_int (z : Int) : rsz (z : Rat) = max (nw z.natAbs) 1 := by
  unfold rsz
  rw [Rat.num_intCast, Rat.den_intCast]
  have : nw 1 = 1 := by decide +kernel
  rw [this]
theorem low_one (n : Int) : (Rat.divInt n 1).num = n ∧ (Rat.divInt n 1).den = 1 := by
  have : Rat.divInt n 1 = mkRat n 1 := rfl
  rw [this, Rat.num_mkRat, Rat.den_mkRat]
  simp
theorem divInt_pos {d : Int} (hd : 0 < d) (n : Int) : Rat.divInt n d = mkRat n d.natAbs := by
  obtain ⟨k, rfl⟩ : ∃ k : Nat, d = (k : Int) := ⟨d.toNat, by omega⟩
  rw [Int.natAbs_natCast]
  exact Rat.divInt_ofNat n k
theorem low_cop {n d : Int} (hd : 0 < d) (hg : Nat.gcd n.natAbs d.natAbs = 1) : (Rat.divInt n d).num = n ∧ ((Rat.divInt n d).den : Int) = d := by
  rw [divInt_pos hd, Rat.num_mkRat, Rat.den_mkRat, if_neg (by omega), if_neg (by omega), Nat.gcd_comm, hg]
  simp; omega
theorem low_div {n d : Int} (hd : 0 < d) : (Rat.divInt n d).num.natAbs = n.natAbs / Nat.gcd n.natAbs d.natAbs ∧ ((Rat.divInt n d).den : Int) = d / (Nat.gcd n.natAbs d.natAbs : Nat) ∧ ((Rat.divInt n d).num < 0 ↔ n < 0) := by
  have hg : 0 < Nat.gcd n.natAbs d.natAbs := Nat.gcd_pos_of_pos_right _ (by omega)
  have hdv : ((Nat.gcd n.natAbs d.natAbs : Nat) : Int) ∣ n := by
    exact Int.dvd_natAbs.1 (Int.natCast_dvd_natCast.2 (Nat.gcd_dvd_left n.natAbs d.natAbs))
  rw [divInt_pos hd, Rat.num_mkRat, Rat.den_mkRat, if_neg (by omega), if_neg (by omega), Nat.gcd_comm d.natAbs]
  refine ⟨?_, ?_, ?_⟩
  · rw [Int.natAbs_ediv_of_dvd hdv, Int.natAbs_natCast]
  · rw [Int.natCast_ediv]
    congr 1
    omega
  · obtain ⟨k, hk⟩ := hdv
    generalize Nat.gcd n.natAbs d.natAbs = g at *
    rw [hk, Int.mul_ediv_cancel_left _ (by omega)]
    have hg' : (0 : Int) < (g : Int) := by omega
    constructor
    · intro h; exact Int.mul_neg_of_pos_of_neg hg' h
    · intro h
      rcases Int.lt_or_le k 0 with h1 | h1
      · exact h1
      · have := Int.mul_nonneg (Int.le_of_lt hg') h1; omega
end Go.Proofs.YtoblpcljhblnmaaGreatDoor.Pl
