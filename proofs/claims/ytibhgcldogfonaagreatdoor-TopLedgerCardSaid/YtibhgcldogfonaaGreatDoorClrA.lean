/- Words for auction.Clear: the head of a slice of places, cuts that keep the block, stores elsewhere. No condition. -/
import Derived.Test.YtibhgcldogfonaaGreatDoorPAucB
import Derived.Test.YtibhgcldogfonaaGreatDoorBase
import Derived.BigRegion
namespace Go.Proofs.YtibhgcldogfonaaGreatDoor
open Go.RowKit
theorem Reads.apart {w : World} {B n : Nat} {A : Option Addr} {xs : List Value} {size : Nat} (h : Reads w B size A n xs) {p : Addr} (hp : ∀ ad, A = some ad → ad.block ≠ p.block) (u : Value) : Reads (w.setCell p u) B size A n xs :=
  ⟨h.1, fun hn => by
    obtain ⟨ad, e, hb, hc⟩ := h.2 hn
    exact ⟨ad, e, hb, fun j v hv => (World.cell?_setCell_other w p (ad.add j) u (fun e2 => hp ad e (by rw [← block_of_add ad j, e2]))).trans (hc j v hv)⟩⟩
/-- 's[1:]' of the rest of a row: the block stays -/
theorem rest_from {w0 : World} {B n c : Nat} {A : Option Addr} {zs : List Int} {i : Nat} (hr : Reads w0 B 1 A n (ints (zs.drop i))) (hnc : n ≤ c) (h1 : 1 ≤ n) :
    ∃ A' c', (∀ w, (Instr.slice 25 (.slice A n c) (some (.int .i64 1)) none none).run Tryz.prog w = .ok (.slice A' (n - 1) c') w) ∧ Reads w0 B 1 A' (n - 1) (ints (zs.drop (i + 1))) ∧ n - 1 ≤ c' ∧ (∀ ad, A' = some ad → ∃ a0, A = some a0 ∧ ad.block = a0.block) := by
  refine ⟨if c = 1 then A else A.map (·.add (1 * 1)), c - 1, fun w => ?_, ?_, by omega, fun ad h => ?_⟩
  · have := run_slice_l w 25 A n c elem_ints .i64 1 (by omega) (by omega)
    rw [size_ints] at this
    simpa [sliced, Result.andThen] using this
  · have := hr.cut h1 hnc
    unfold ints at this ⊢
    rw [Nat.mul_one] at this ⊢
    rw [← List.map_drop, List.drop_drop] at this
    exact this
  · split at h
    · exact ⟨ad, h, rfl⟩
    · cases A with
      | none => cases h
      | some a => injection h with h; subst h; exact ⟨a, rfl, block_of_add _ _⟩
theorem head_at {w : World} {B n : Nat} {A : Option Addr} {d : List Int} {i : Nat} (h : Reads w B 1 A n (ints (d.drop i))) (hi : i < d.length) (hp : 0 ≤ d.getD i 0) :
    ∃ b o, A = some ⟨b, o, none⟩ ∧ w.cell? ⟨b, o, none⟩ = some (.int .i64 ((Pl.dN d i : Nat) : Int)) := by
  have hl : (d.drop i).length = n := h.int_len
  rw [List.length_drop] at hl
  obtain ⟨b, o, rfl, h1, hc⟩ := h.int_at (k := 0) (by omega)
  refine ⟨b, o, rfl, ?_⟩
  rw [Nat.add_zero] at hc
  rw [hc, List.getElem_drop]
  have e : d.getD i 0 = d[i] := by rw [List.getD_eq_getElem?_getD, List.getElem?_eq_getElem hi]; rfl
  unfold Pl.dN
  simp only [Nat.add_zero]
  rw [e] at hp ⊢
  rw [Int.toNat_of_nonneg hp]
theorem Reads.oat {w : World} {B n : Nat} {b o : Nat} {l : List Pl.Ord} (h : Reads w B 4 (some ⟨b, o, none⟩) n (orders l)) {k : Nat} (hk : k < n) :
    w.cell? ⟨b, o + k * 4, none⟩ = some (.string (Pl.oAt l k).name) ∧ w.cell? ⟨b, o + k * 4 + 1, none⟩ = some (.bool (Pl.oAt l k).buy) ∧ w.cell? ⟨b, o + k * 4 + 2, none⟩ = some (.int .i64 (Pl.oAt l k).pow) ∧ w.cell? ⟨b, o + k * 4 + 3, none⟩ = some (.int .i64 (Pl.oAt l k).price) := by
  obtain ⟨b', o', e, hl, h1, h2, h3, h4⟩ := h.ord_at hk
  injection e with e
  injection e with e1 e2
  subst e1 e2
  rw [Pl.oAt_eq hl]
  exact ⟨h1, h2, h3, h4⟩
def vlen : Value → Nat
  | .slice _ n _ => n
  | _ => 0
/-- the memory behind the three stores of a round -/
theorem clr_store {w w0 : World} {N g n nb ns : Nat} {fs xb xs : List Int} {Ab As : Option Addr} {z1 z2 z3 q : Value} (hN : N < g) (OF : w0.ownsRow (N + 1) 3 1 (.slice (some ⟨g, 0, none⟩) n n) n (ints fs))
    (BN : Blk w0 N 27 #[z1, z2, z3]) (BR : Blk w0 (g + 1) 27 #[.int .i64 0, q, .slice (some ⟨g, 0, none⟩) n n])
    (HRB : Reads w0 w0.heap.size 1 Ab nb (ints xb)) (HRS : Reads w0 w0.heap.size 1 As ns (ints xs)) (HB : Below N w w0) (HLB : ∀ ad, Ab = some ad → g + 1 < ad.block) (HLS : ∀ ad, As = some ad → g + 1 < ad.block) (kb ks : Nat) (kbn : kb < n) (ksn : ks < n) (hne : kb ≠ ks) (a b c : Int) :
    Hid ((((w0.setCell ⟨g, kb, none⟩ (.int .i64 a)).setCell ⟨g, ks, none⟩ (.int .i64 b)).setCell ⟨g + 1, 1, none⟩ (.int .i64 c)).ownsRow (N + 1) 3 1 (.slice (some ⟨g, 0, none⟩) n n) n (ints ((fs.set kb a).set ks b))) ∧
    Hid (Blk (((w0.setCell ⟨g, kb, none⟩ (.int .i64 a)).setCell ⟨g, ks, none⟩ (.int .i64 b)).setCell ⟨g + 1, 1, none⟩ (.int .i64 c)) N 27 #[z1, z2, z3]) ∧
    Hid (Blk (((w0.setCell ⟨g, kb, none⟩ (.int .i64 a)).setCell ⟨g, ks, none⟩ (.int .i64 b)).setCell ⟨g + 1, 1, none⟩ (.int .i64 c)) (g + 1) 27 #[.int .i64 0, .int .i64 c, .slice (some ⟨g, 0, none⟩) n n]) ∧
    Hid (Reads (((w0.setCell ⟨g, kb, none⟩ (.int .i64 a)).setCell ⟨g, ks, none⟩ (.int .i64 b)).setCell ⟨g + 1, 1, none⟩ (.int .i64 c)) (((w0.setCell ⟨g, kb, none⟩ (.int .i64 a)).setCell ⟨g, ks, none⟩ (.int .i64 b)).setCell ⟨g + 1, 1, none⟩ (.int .i64 c)).heap.size 1 Ab nb (ints xb)) ∧
    Hid (Reads (((w0.setCell ⟨g, kb, none⟩ (.int .i64 a)).setCell ⟨g, ks, none⟩ (.int .i64 b)).setCell ⟨g + 1, 1, none⟩ (.int .i64 c)) (((w0.setCell ⟨g, kb, none⟩ (.int .i64 a)).setCell ⟨g, ks, none⟩ (.int .i64 b)).setCell ⟨g + 1, 1, none⟩ (.int .i64 c)).heap.size 1 As ns (ints xs)) ∧
    Hid (Below N w (((w0.setCell ⟨g, kb, none⟩ (.int .i64 a)).setCell ⟨g, ks, none⟩ (.int .i64 b)).setCell ⟨g + 1, 1, none⟩ (.int .i64 c))) ∧
    (((w0.setCell ⟨g, kb, none⟩ (.int .i64 a)).setCell ⟨g, ks, none⟩ (.int .i64 b)).setCell ⟨g + 1, 1, none⟩ (.int .i64 c)).cell? ⟨g, kb, none⟩ = some (.int .i64 a) ∧
    (((w0.setCell ⟨g, kb, none⟩ (.int .i64 a)).setCell ⟨g, ks, none⟩ (.int .i64 b)).setCell ⟨g + 1, 1, none⟩ (.int .i64 c)).cell? ⟨g, ks, none⟩ = some (.int .i64 b) := by
  have hl := own_int_len OF
  have OF5 := own_other (own_int_set (own_int_set OF kb a) ks b) (g' := g + 1) (by omega) 1 (.int .i64 c)
  have e1 : ((fs.set kb a).set ks b).getD kb 0 = a := by
    have : Pl.fAt ((fs.set kb a).set ks b) kb = a := by rw [Pl.fAt_other (fun e => hne e.symm), Pl.fAt_same (by omega)]
    exact this
  have e2 : ((fs.set kb a).set ks b).getD ks 0 = b := by
    have : Pl.fAt ((fs.set kb a).set ks b) ks = b := Pl.fAt_same (by rw [List.length_set]; omega)
    exact this
  have c1 := own_int_cell OF5 kb kbn
  have c2 := own_int_cell OF5 ks ksn
  rw [e1] at c1
  rw [e2] at c2
  have sz : (((w0.setCell ⟨g, kb, none⟩ (.int .i64 a)).setCell ⟨g, ks, none⟩ (.int .i64 b)).setCell ⟨g + 1, 1, none⟩ (.int .i64 c)).heap.size = w0.heap.size := by simp
  refine ⟨OF5, ((BN.far (by simp; omega) _).far (by simp; omega) _).far (by simp; omega) _, ((BR.far (by simp) _).far (by simp) _).set_ 1 _, ?_, ?_, ((HB.setCell (by simp; omega) _).setCell (by simp; omega) _).setCell (by simp; omega) _, c1, c2⟩
  · rw [sz]
    exact ((HRB.apart (fun ad h => by have := HLB ad h; simp; omega) _).apart (fun ad h => by have := HLB ad h; simp; omega) _).apart (fun ad h => by have := HLB ad h; simp; omega) _
  · rw [sz]
    exact ((HRS.apart (fun ad h => by have := HLS ad h; simp; omega) _).apart (fun ad h => by have := HLS ad h; simp; omega) _).apart (fun ad h => by have := HLS ad h; simp; omega) _
end Go.Proofs.YtibhgcldogfonaaGreatDoor
