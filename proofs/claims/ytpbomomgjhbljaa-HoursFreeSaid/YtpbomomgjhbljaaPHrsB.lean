/- Without limits of changes the change of a plan is a dispatch, plain; the example of the law HoursFree. No program. -/
import Derived.Test.YtpbomomgjhbljaaHrsB
import Derived.Test.YtpbomomgjhbljaaServed
namespace Go.Proofs.Ytpbomomgjhbljaa.Pl
theorem hfree_law {l : List Off} {n : Nat} {xs : List Int} {d : Int} {bs : List B3} (hn : l.length = n) (h1 : oall l = 0) (hg : ∀ k, k < n → Good (steps l k)) (hx : ∀ k, k < n → 0 ≤ xs.getD k 0 ∧ xs.getD k 0 ≤ total (steps l k)) (d0 : 0 ≤ d) (d1 : d ≤ 1000000) (hp : bs.Perm (blocksK l n)) (hs : bs.Pairwise (fun a b => a.2.2 ≤ b.2.2)) :
    (0 < (dfill n d bs).2.2 → dcheck l d ≠ 0) ∧ ((dfill n d bs).2.2 ≤ 0 → dcheck l d = 0 ∧ ∃ p, Served l n d (dfill n d bs).1 (dfill n d bs).2.1 p ∧ hcostK l (dfill n d bs).1 xs n = (dfill n d bs).2.1 - costK l xs n) := by
  subst hn
  have hB : ∀ b ∈ bs, GoodB l.length b := fun b hb => (blocksK_good hg (Nat.le_refl _) b (hp.mem_iff.1 hb)).1
  have h0 : ∀ b ∈ bs, 0 ≤ b.2.1 := fun b hb => (hB b hb).2.2.1
  have hr : (dfill l.length d bs).2.2 = d - min d (totals l l.length) := by
    unfold dfill
    rw [(dfold_rest _ _ _ _).2, (filled_all bs d d0 h0).1, sumF_perm _ hp, blocksK_sum]
    have : sumN (fun k => sumF (fun s => s.1) (steps l k)) l.length = totals l l.length := sumN_congr fun k _ => (total_sum _).symm
    rw [this]
  have hdc : dcheck l d = if totals l l.length < d then 8 else 0 := by
    unfold dcheck
    rw [if_neg (by simpa using h1), if_neg (by omega)]
  constructor
  · intro h
    rw [hr] at h
    rw [hdc, if_pos (by omega)]
    decide
  · intro h
    rw [hr] at h
    have ht : d ≤ totals l l.length := by omega
    refine ⟨by rw [hdc, if_neg (by omega)], ?_⟩
    obtain ⟨p, hsv⟩ := served_of hg d0 ht hp hs
    refine ⟨p, hsv, ?_⟩
    have hps : ∀ k, k < l.length → 0 ≤ (dfill l.length d bs).1.getD k 0 ∧ (dfill l.length d bs).1.getD k 0 ≤ total (steps l k) := fun k hk => by
      have a1 := hsv.at_ k hk
      have a2 := least_most (P := p) (fun q hq => ((hg k hk).step q hq).1)
      unfold dfill
      omega
    rw [hcostK_eq (Nat.le_refl _) h1 hps hx]
    have hc : (dfill l.length d bs).2.1 = costK l (dfill l.length d bs).1 l.length := hsv.cost
    rw [← hc]
theorem hfreeEx : (dCost servedL [10, 10]).2.2 = 0 ∧ hleft [10, 10] 2 22 2 = 6 ∧ (hblocks servedL [10, 10] 2 2).length = 4 ∧ (hfill (hlows [10, 10] 2 2) 6 (isortH (hblocks servedL [10, 10] 2 2))).2.2 = 0 ∧ hcostK servedL (hfill (hlows [10, 10] 2 2) 6 (isortH (hblocks servedL [10, 10] 2 2))).1 [10, 10] 2 = 16 :=
  ⟨by kernel_rfl, by kernel_rfl, by kernel_rfl, by kernel_rfl, by kernel_rfl⟩
def twoL : List Off := [(⟨#[65]⟩, [(10, 5), (10, 8)])]
theorem twoEx : dcheck twoL 12 = 0 ∧ (blocksK twoL 1).length < 20 ∧ (dfill 1 12 (isortB (blocksK twoL 1))).2.1 = 66 := ⟨by kernel_rfl, by decide, by kernel_rfl⟩
end Go.Proofs.Ytpbomomgjhbljaa.Pl
