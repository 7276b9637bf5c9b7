/- Bounds of the fill of blocks, plain. No program. -/
import Derived.Test.YtpbomomgjhbljaaPOffs
namespace Go.Proofs.Ytpbomomgjhbljaa.Pl
def dfill (n : Nat) (d : Int) (bs : List B3) : List Int × Int × Int := bs.foldl dstep (List.replicate n 0, 0, d)
theorem dfill_snoc (n : Nat) (d : Int) (bs : List B3) (b : B3) : dfill n d (bs ++ [b]) = dstep (dfill n d bs) b := by unfold dfill; rw [List.foldl_append]; rfl
structure FillBd (n : Nat) (d : Int) (r : List Int × Int × Int) : Prop where
  d0 : 0 ≤ r.2.2
  d1 : r.2.2 ≤ d
  c0 : -(1000000 * (d - r.2.2)) ≤ r.2.1
  c1 : r.2.1 ≤ 1000000 * (d - r.2.2)
  len : r.1.length = n
  out : ∀ g, 0 ≤ r.1.getD g 0 ∧ r.1.getD g 0 ≤ d - r.2.2
theorem dfill_bd {n : Nat} {d : Int} (h0 : 0 ≤ d) (bs : List B3) (hb : ∀ b ∈ bs, GoodB n b) : FillBd n d (dfill n d bs) := by
  induction bs using snocInd with
  | h0 =>
    refine ⟨h0, Int.le_refl _, by show -(1000000 * (d - d)) ≤ 0; omega, by show 0 ≤ 1000000 * (d - d); omega, by simp [dfill], fun g => ?_⟩
    have : (List.replicate n (0 : Int)).getD g 0 = 0 := by rw [List.getD_eq_getElem?_getD, List.getElem?_replicate]; split <;> rfl
    show 0 ≤ (List.replicate n (0 : Int)).getD g 0 ∧ (List.replicate n (0 : Int)).getD g 0 ≤ d - d
    omega
  | h1 bs b ih =>
    have ih := ih fun x hx => hb x (by simp [hx])
    obtain ⟨b0, b1, b2, b3, b4, b5⟩ := hb b (by simp)
    rw [dfill_snoc]
    generalize dfill n d bs = r at *
    obtain ⟨os, cs, dm⟩ := r
    obtain ⟨i0, i1, i2, i3, i4, i5⟩ := ih
    obtain ⟨g, pw, pr⟩ := b
    simp only at b0 b1 b2 b3 b4 b5 i0 i1 i2 i3 i4 i5
    have e : dstep (os, cs, dm) (g, pw, pr) = (os.set g.toNat (os.getD g.toNat 0 + min dm pw), cs + min dm pw * pr, dm - min dm pw) := rfl
    rw [e]
    have m0 : 0 ≤ min dm pw := by omega
    have m1 : min dm pw ≤ dm := by omega
    have q1 : min dm pw * pr ≤ min dm pw * 1000000 := Int.mul_le_mul_of_nonneg_left b5 m0
    have q2 : min dm pw * (-1000000) ≤ min dm pw * pr := Int.mul_le_mul_of_nonneg_left b4 m0
    generalize min dm pw = m at *
    refine ⟨by show 0 ≤ dm - m; omega, by show dm - m ≤ d; omega, by show -(1000000 * (d - (dm - m))) ≤ cs + m * pr; omega, by show cs + m * pr ≤ 1000000 * (d - (dm - m)); omega, by show (os.set _ _).length = n; rw [List.length_set]; exact i4, fun x => ?_⟩
    show 0 ≤ (os.set g.toNat (os.getD g.toNat 0 + m)).getD x 0 ∧ (os.set g.toNat (os.getD g.toNat 0 + m)).getD x 0 ≤ d - (dm - m)
    rw [getD_set]
    have h1 := i5 x
    have h2 := i5 g.toNat
    split <;> omega
end Go.Proofs.Ytpbomomgjhbljaa.Pl
