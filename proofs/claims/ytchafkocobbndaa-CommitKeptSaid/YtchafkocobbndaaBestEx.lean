/- The first checks of the laws of commitments: commit.Best at a generator alone. No condition. -/
import Derived.Test.YtchafkocobbndaaBest
import Derived.Test.YtchafkocobbndaaAlone
import Derived.Test.YtchafkocobbndaaPCommitG
namespace Go.Proofs.Ytchafkocobbndaa
open Go.RowKit
theorem best_ex (AL A B : Option Addr) (w : World) (h : Unis w A 1 [aloneU AL]) (hq : Reads w w.heap.size 1 B 2 (ints [12, 0])) :
    Calls Try.prog 13 #[.slice A 1 1, .slice B 2 2] w fun e w' => ∃ v, e = .returned (.tuple #[v, .int .i64 75, .int .i64 0]) ∧ Below w.heap.size w w' := by
  refine (cbest_any A B 1 1 2 2 [aloneU AL] [12, 0] w (Nat.le_refl _) h hq).mono ?_
  rintro e w' ⟨A', c', R, cost, er, rfl, hbp, _, _, hb⟩
  obtain ⟨rfl, rfl⟩ := Pl.best_ex hbp
  exact ⟨_, rfl, hb⟩
theorem best_some_ (A B : Option Addr) (n c m cm : Nat) (l : List MU) (ds : List Int) (w : World) (hcap : n ≤ c) (h : Unis w A n l) (hd : Reads w w.heap.size 1 B m (ints ds)) :
    Calls Try.prog 13 #[.slice A n c, .slice B m cm] w fun e w' => ∃ v s cost er, e = .returned (.tuple #[v, .int .i64 cost, .int .i64 er]) ∧ Pl.BestP (plus l) ds s cost er ∧ Below w.heap.size w w' := by
  refine (cbest_any A B n c m cm l ds w hcap h hd).mono ?_
  rintro e w' ⟨A', c', R, cost, er, rfl, hbp, _, _, hb⟩
  exact ⟨_, _, _, _, rfl, hbp, hb⟩
end Go.Proofs.Ytchafkocobbndaa
