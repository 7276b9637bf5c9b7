/- Plain laws for the blocks of a stable sort; nothing of the program stands here. -/
import Derived.Test.YtpbomomgjhbljaaPSortB
namespace Go.Proofs.Ytpbomomgjhbljaa.Srt
open Go.Sort
variable {α : Type} [Inhabited α] {lt : α → α → Bool}
theorem Qperm {Q : α → Prop} {d d' : Array α} {n a b : Nat} (hz : d.size = n) (hp : PermIn a b d d') (hb : b ≤ n) (h : ∀ p, p < n → Q d[p]!) : ∀ p, p < n → Q d'[p]! := by
  intro p hn
  by_cases hc : a ≤ p ∧ p < b
  · exact permIn_all d d' a b Q (by omega) hp (fun i _ i2 => h i (by omega)) p hc.1 hc.2
  · rw [hp.2.1 p (by omega)]; exact h p hn
/-- each block of s places below a is sorted -/
def Blocks (lt : α → α → Bool) (s a : Nat) (d : Array α) : Prop := ∀ t, SortedIn lt (t * s) (min ((t + 1) * s) a) d
theorem blocks_zero (s : Nat) (d : Array α) : Blocks lt s 0 d := fun t i j _ _ h => by omega
theorem blocks_next {s a b t0 : Nat} {d d1 : Array α} (h : Blocks lt s a d) (ha : a = t0 * s) (hp : PermIn a b d d1) (hs : SortedIn lt a b d1) (hb : b ≤ a + s) : Blocks lt s b d1 := by
  intro t i j h1 h2 h3
  rcases Nat.lt_trichotomy t t0 with c | c | c
  · have e : (t + 1) * s ≤ t0 * s := Nat.mul_le_mul_right s c
    rw [hp.2.1 i (.inl (by omega)), hp.2.1 j (.inl (by omega))]
    exact h t i j h1 h2 (by omega)
  · subst c
    exact hs i j (by omega) h2 (by omega)
  · exfalso
    have e : (t0 + 1) * s ≤ t * s := Nat.mul_le_mul_right s c
    rw [Nat.add_mul] at e
    omega
theorem blocks_all {s n : Nat} {d : Array α} (h : Blocks lt s n d) (hn : n ≤ s) : SortedIn lt 0 n d := by
  intro i j h1 h2 h3
  exact h 0 i j (by omega) h2 (by omega)
/-- blocks of 2 s below a, blocks of s from a on -/
structure Mix (lt : α → α → Bool) (s a n : Nat) (d : Array α) : Prop where
  low : Blocks lt (2 * s) a d
  high : ∀ t, a ≤ t * s → SortedIn lt (t * s) (min ((t + 1) * s) n) d
theorem mix_zero {s n : Nat} {d : Array α} (h : Blocks lt s n d) : Mix lt s 0 n d := ⟨blocks_zero _ _, fun t _ => h t⟩
theorem Mix.left_ {s a n t0 : Nat} {d : Array α} (h : Mix lt s a n d) (ha : a = t0 * (2 * s)) (m : Nat) (hm : m ≤ a + s) (hn : m ≤ n) : SortedIn lt a m d := by
  have e : a = (t0 * 2) * s := by rw [ha, Nat.mul_assoc]
  have := h.high (t0 * 2) (by omega)
  rw [Nat.add_mul, ← e] at this
  intro i j h1 h2 h3
  exact this i j h1 h2 (by omega)
theorem Mix.right_ {s a n t0 : Nat} {d : Array α} (h : Mix lt s a n d) (ha : a = t0 * (2 * s)) (b : Nat) (hb : b ≤ a + 2 * s) (hn : b ≤ n) : SortedIn lt (a + s) b d := by
  have e : a = (t0 * 2) * s := by rw [ha, Nat.mul_assoc]
  have e2 : (t0 * 2 + 1) * s = a + s := by rw [Nat.add_mul, ← e]; omega
  have := h.high (t0 * 2 + 1) (by omega)
  rw [Nat.add_mul (t0 * 2 + 1) 1, e2] at this
  intro i j h1 h2 h3
  exact this i j h1 h2 (by omega)
theorem Mix.next {s a n t0 : Nat} {d d1 : Array α} (h : Mix lt s a n d) (ha : a = t0 * (2 * s)) (hp : PermIn a (a + 2 * s) d d1) (hs : SortedIn lt a (a + 2 * s) d1) : Mix lt s (a + 2 * s) n d1 := by
  refine ⟨blocks_next h.low ha hp hs (Nat.le_refl _), fun t ht i j h1 h2 h3 => ?_⟩
  rw [hp.2.1 i (.inr (by omega)), hp.2.1 j (.inr (by omega))]
  exact h.high t (by omega) i j h1 h2 h3
theorem Mix.last {s a n t0 : Nat} {d d1 : Array α} (h : Mix lt s a n d) (ha : a = t0 * (2 * s)) (hn : n ≤ a + 2 * s) (hp : PermIn a n d d1) (hs : SortedIn lt a n d1) : Blocks lt (2 * s) n d1 := blocks_next h.low ha hp hs hn
end Go.Proofs.Ytpbomomgjhbljaa.Srt
