/- slices.Equal at texts of numbers. No condition. The fixed network of the laws of the market, with its offers. No condition. -/
import Derived.Test.YtoblpcljhblnmaaGreatDoorRatChk
import Derived.Test.YtoblpcljhblnmaaGreatDoorSrt
import Derived.Test.YtoblpcljhblnmaaGreatDoorName
import Derived.Test.YtoblpcljhblnmaaGreatDoorRights
import Derived.Test.YtoblpcljhblnmaaGreatDoorTop
namespace Go.Proofs.YtoblpcljhblnmaaGreatDoor
open Go.RowKit
theorem eqvec_any (A B : Option Addr) (n m c d : Nat) (x y : List (List UInt8)) (w : World) (hn : n ≤ 1000000000000000) (hx : Reads w w.heap.size 1 A n (txs x)) (hy : Reads w w.heap.size 1 B m (txs y)) (hxy : x = y) :
    Calls Tryz.prog 13 #[.slice A n c, .slice B m d] w fun e w' => e = .returned (.bool true) ∧ Below w.heap.size w w' := by
  subst hxy
  have hnm : m = n := by have := txs_len hx; have := txs_len hy; omega
  subst hnm
  have e0 : ((m : Int) != (m : Int)) = false := by simp
  go_enter Tryz.func13, Tryz.ntmps13
  go_wp2_with fail
  go_loopw [13] (fun i wr => ∃ k : Nat, k ≤ m ∧ i = .int .i64 k ∧ Below w.heap.size w wr) (fun i _ => m - (intOf i).toNat)
  case atStart => exact ⟨0, Nat.zero_le _, rfl, Below.refl _ _⟩
  case round =>
    obtain ⟨k, hk, rfl, hb⟩ := hrel
    have HB := Lib.hid hb
    by_cases hlt : k < m
    · obtain ⟨b, o, rfl, hq1, hl1, c1⟩ := txs_at (hx.go hb) (k := k) hlt
      obtain ⟨b', o', rfl, hq2, hl2, d1⟩ := txs_at (hy.go hb) (k := k) hlt
      clear hb
      generalize x[k] = z at *
      unfold tx at c1 d1
      generalize (⟨⟨z⟩⟩ : ByteArray) = t at *
      have ez : (t.toList != t.toList) = false := by simp
      go_wp2_with fail
      go_region
      go_wp2_with fail
      go_roundw
      case rel => exact ⟨k + 1, by omega, by go_num, HB.out.drew⟩
      case measure => simp [intOf]; omega
    · go_wp2_with fail
      go_ret
      exact ⟨rfl, HB.out⟩
end Go.Proofs.YtoblpcljhblnmaaGreatDoor
namespace Go.Proofs.YtoblpcljhblnmaaGreatDoor
open Go.RowKit
set_option maxRecDepth 100000
def tN1 : ByteArray := ⟨#[78, 49]⟩
def tN2 : ByteArray := ⟨#[78, 50]⟩
def RN (lim : Int) : Pl.Net := ⟨[tN1, tN2], [], [⟨⟨#[76, 49]⟩, tN1, tN2, 1000, 1000, 0, lim, lim, 1⟩], [⟨⟨#[71, 49]⟩, tN1, 0, 20, 1⟩, ⟨⟨#[71, 50]⟩, tN2, 0, 20, 1⟩], [⟨⟨#[68, 49]⟩, tN2, 15⟩], []⟩
theorem RN_sz (lim : Int) : NetSz (RN lim) := by
  have h : (Pl.allDevs (RN 10)).all (fun d => decide (d.name.size ≤ maxLen) && d.at_.all (fun s => decide (s.size ≤ maxLen))) = true := by decide +kernel
  have h9 : ∀ d ∈ Pl.allDevs (RN 10), d.name.size ≤ maxLen ∧ ∀ s ∈ d.at_, s.size ≤ maxLen := fun d hd => by
    have h1 := List.all_eq_true.1 h d hd
    simp only [Bool.and_eq_true, decide_eq_true_eq] at h1
    exact ⟨h1.1, fun s hs => by have := List.all_eq_true.1 h1.2 s hs; simpa using this⟩
  have e : ∀ l : Int, (Pl.allDevs (RN l)).map (fun d => (d.name, d.at_)) = (Pl.allDevs (RN 10)).map (fun d => (d.name, d.at_)) := fun l => rfl
  refine ⟨fun d hd => ?_⟩
  have h1 := List.mem_map_of_mem (f := fun d : Pl.Dev => (d.name, d.at_)) hd
  rw [e lim, List.mem_map] at h1
  obtain ⟨d', hd', he⟩ := h1
  have h2 := h9 d' hd'
  have e1 : d'.name = d.name := congrArg Prod.fst he
  have e2 : d'.at_ = d.at_ := congrArg Prod.snd he
  rw [e1, e2] at h2
  exact h2
theorem lit_reads9 (w : World) (g : Nat) (cs : Array Value) (e : TypeId) (n size : Nat) (hb : Blk w g e cs) (h : cs.size = n * size) : Reads w w.heap.size size (some ⟨g, 0, none⟩) n cs.toList := by
  refine ⟨by simpa using h, fun _ => ⟨_, rfl, hb.lt, fun j u hu => ?_⟩⟩
  have hadd : (⟨g, 0, none⟩ : Addr).add j = ⟨g, j, none⟩ := by unfold Addr.add; split <;> simp_all
  rw [hadd, hb.cell]
  simpa using hu
def RingOffs (w : World) (A : Option Addr) : Prop :=
  ∃ g g1 g2, A = some ⟨g, 0, none⟩ ∧ Blk w g 87 #[.string ⟨#[71, 49]⟩, .slice (some ⟨g1, 0, none⟩) 1 1, .string ⟨#[71, 50]⟩, .slice (some ⟨g2, 0, none⟩) 1 1] ∧ Blk w g1 93 #[.int .i64 20, .int .i64 5] ∧ Blk w g2 93 #[.int .i64 20, .int .i64 8]
theorem ring_any (lim : Int) (w : World) : Calls Tryz.prog 11 #[.int .i64 lim] w fun e w' => ∃ (M : MNet) (A : Option Addr), e = .returned (.tuple #[vNet M, .slice A 2 2]) ∧ M.N = RN lim ∧ NetIn w' w'.heap.size M ∧ RingOffs w' A ∧ Below w.heap.size w w' := by
  go_enter Tryz.func11, Tryz.ntmps11
  go_wp2_with fail
  have F0 := Lib.hid (Below.refl w.heap.size w)
  have s0 : Hid (w.heap.size = w.heap.size) := Lib.hid rfl
  have F1 := Lib.hid (F0.out.alloc F0.out.size (.cells #[.slice (some ⟨w.heap.size + 1, 0, none⟩) 2 2, .slice none 0 0, .slice (some ⟨w.heap.size + 1 + 1, 0, none⟩) 1 1, .slice (some ⟨w.heap.size + 1 + 1 + 1, 0, none⟩) 2 2, .slice (some ⟨w.heap.size + 1 + 1 + 1 + 1, 0, none⟩) 1 1, .slice none 0 0] 29))
  have s1 : Hid ((w.alloc (.cells #[.slice (some ⟨w.heap.size + 1, 0, none⟩) 2 2, .slice none 0 0, .slice (some ⟨w.heap.size + 1 + 1, 0, none⟩) 1 1, .slice (some ⟨w.heap.size + 1 + 1 + 1, 0, none⟩) 2 2, .slice (some ⟨w.heap.size + 1 + 1 + 1 + 1, 0, none⟩) 1 1, .slice none 0 0] 29)).heap.size = w.heap.size + 1) := by show _ = _; rw [World.size_alloc, s0.out]
  have XN := Lib.hid (Blk.new_ w (w.heap.size) 29 #[.slice (some ⟨w.heap.size + 1, 0, none⟩) 2 2, .slice none 0 0, .slice (some ⟨w.heap.size + 1 + 1, 0, none⟩) 1 1, .slice (some ⟨w.heap.size + 1 + 1 + 1, 0, none⟩) 2 2, .slice (some ⟨w.heap.size + 1 + 1 + 1 + 1, 0, none⟩) 1 1, .slice none 0 0] s0.out.symm)
  generalize w.alloc (.cells #[.slice (some ⟨w.heap.size + 1, 0, none⟩) 2 2, .slice none 0 0, .slice (some ⟨w.heap.size + 1 + 1, 0, none⟩) 1 1, .slice (some ⟨w.heap.size + 1 + 1 + 1, 0, none⟩) 2 2, .slice (some ⟨w.heap.size + 1 + 1 + 1 + 1, 0, none⟩) 1 1, .slice none 0 0] 29) = v1 at *
  have F2 := Lib.hid (F1.out.alloc F1.out.size (.cells #[.string ⟨#[78, 49]⟩, .string ⟨#[78, 50]⟩] 9))
  have s2 : Hid ((v1.alloc (.cells #[.string ⟨#[78, 49]⟩, .string ⟨#[78, 50]⟩] 9)).heap.size = w.heap.size + 1 + 1) := by show _ = _; rw [World.size_alloc, s1.out]
  replace XN := Lib.hid (XN.out.alloc (.cells #[.string ⟨#[78, 49]⟩, .string ⟨#[78, 50]⟩] 9))
  have X0 := Lib.hid (Blk.new_ v1 (w.heap.size + 1) 9 #[.string ⟨#[78, 49]⟩, .string ⟨#[78, 50]⟩] s1.out.symm)
  generalize v1.alloc (.cells #[.string ⟨#[78, 49]⟩, .string ⟨#[78, 50]⟩] 9) = v2 at *
  have F3 := Lib.hid (F2.out.alloc F2.out.size (.cells #[.string ⟨#[76, 49]⟩, .string ⟨#[78, 49]⟩, .string ⟨#[78, 50]⟩, .int .i64 1000, .int .i64 1000, .int .i64 0, .int .i64 lim, .int .i64 lim, .int .i64 1] 53))
  have s3 : Hid ((v2.alloc (.cells #[.string ⟨#[76, 49]⟩, .string ⟨#[78, 49]⟩, .string ⟨#[78, 50]⟩, .int .i64 1000, .int .i64 1000, .int .i64 0, .int .i64 lim, .int .i64 lim, .int .i64 1] 53)).heap.size = w.heap.size + 1 + 1 + 1) := by show _ = _; rw [World.size_alloc, s2.out]
  replace XN := Lib.hid (XN.out.alloc (.cells #[.string ⟨#[76, 49]⟩, .string ⟨#[78, 49]⟩, .string ⟨#[78, 50]⟩, .int .i64 1000, .int .i64 1000, .int .i64 0, .int .i64 lim, .int .i64 lim, .int .i64 1] 53))
  replace X0 := Lib.hid (X0.out.alloc (.cells #[.string ⟨#[76, 49]⟩, .string ⟨#[78, 49]⟩, .string ⟨#[78, 50]⟩, .int .i64 1000, .int .i64 1000, .int .i64 0, .int .i64 lim, .int .i64 lim, .int .i64 1] 53))
  have X1 := Lib.hid (Blk.new_ v2 (w.heap.size + 1 + 1) 53 #[.string ⟨#[76, 49]⟩, .string ⟨#[78, 49]⟩, .string ⟨#[78, 50]⟩, .int .i64 1000, .int .i64 1000, .int .i64 0, .int .i64 lim, .int .i64 lim, .int .i64 1] s2.out.symm)
  generalize v2.alloc (.cells #[.string ⟨#[76, 49]⟩, .string ⟨#[78, 49]⟩, .string ⟨#[78, 50]⟩, .int .i64 1000, .int .i64 1000, .int .i64 0, .int .i64 lim, .int .i64 lim, .int .i64 1] 53) = v3 at *
  have F4 := Lib.hid (F3.out.alloc F3.out.size (.cells #[.string ⟨#[71, 49]⟩, .string ⟨#[78, 49]⟩, .int .i64 0, .int .i64 20, .int .i64 1, .string ⟨#[71, 50]⟩, .string ⟨#[78, 50]⟩, .int .i64 0, .int .i64 20, .int .i64 1] 64))
  have s4 : Hid ((v3.alloc (.cells #[.string ⟨#[71, 49]⟩, .string ⟨#[78, 49]⟩, .int .i64 0, .int .i64 20, .int .i64 1, .string ⟨#[71, 50]⟩, .string ⟨#[78, 50]⟩, .int .i64 0, .int .i64 20, .int .i64 1] 64)).heap.size = w.heap.size + 1 + 1 + 1 + 1) := by show _ = _; rw [World.size_alloc, s3.out]
  replace XN := Lib.hid (XN.out.alloc (.cells #[.string ⟨#[71, 49]⟩, .string ⟨#[78, 49]⟩, .int .i64 0, .int .i64 20, .int .i64 1, .string ⟨#[71, 50]⟩, .string ⟨#[78, 50]⟩, .int .i64 0, .int .i64 20, .int .i64 1] 64))
  replace X0 := Lib.hid (X0.out.alloc (.cells #[.string ⟨#[71, 49]⟩, .string ⟨#[78, 49]⟩, .int .i64 0, .int .i64 20, .int .i64 1, .string ⟨#[71, 50]⟩, .string ⟨#[78, 50]⟩, .int .i64 0, .int .i64 20, .int .i64 1] 64))
  replace X1 := Lib.hid (X1.out.alloc (.cells #[.string ⟨#[71, 49]⟩, .string ⟨#[78, 49]⟩, .int .i64 0, .int .i64 20, .int .i64 1, .string ⟨#[71, 50]⟩, .string ⟨#[78, 50]⟩, .int .i64 0, .int .i64 20, .int .i64 1] 64))
  have X2 := Lib.hid (Blk.new_ v3 (w.heap.size + 1 + 1 + 1) 64 #[.string ⟨#[71, 49]⟩, .string ⟨#[78, 49]⟩, .int .i64 0, .int .i64 20, .int .i64 1, .string ⟨#[71, 50]⟩, .string ⟨#[78, 50]⟩, .int .i64 0, .int .i64 20, .int .i64 1] s3.out.symm)
  generalize v3.alloc (.cells #[.string ⟨#[71, 49]⟩, .string ⟨#[78, 49]⟩, .int .i64 0, .int .i64 20, .int .i64 1, .string ⟨#[71, 50]⟩, .string ⟨#[78, 50]⟩, .int .i64 0, .int .i64 20, .int .i64 1] 64) = v4 at *
  have F5 := Lib.hid (F4.out.alloc F4.out.size (.cells #[.string ⟨#[68, 49]⟩, .string ⟨#[78, 50]⟩, .int .i64 15] 67))
  have s5 : Hid ((v4.alloc (.cells #[.string ⟨#[68, 49]⟩, .string ⟨#[78, 50]⟩, .int .i64 15] 67)).heap.size = w.heap.size + 1 + 1 + 1 + 1 + 1) := by show _ = _; rw [World.size_alloc, s4.out]
  replace XN := Lib.hid (XN.out.alloc (.cells #[.string ⟨#[68, 49]⟩, .string ⟨#[78, 50]⟩, .int .i64 15] 67))
  replace X0 := Lib.hid (X0.out.alloc (.cells #[.string ⟨#[68, 49]⟩, .string ⟨#[78, 50]⟩, .int .i64 15] 67))
  replace X1 := Lib.hid (X1.out.alloc (.cells #[.string ⟨#[68, 49]⟩, .string ⟨#[78, 50]⟩, .int .i64 15] 67))
  replace X2 := Lib.hid (X2.out.alloc (.cells #[.string ⟨#[68, 49]⟩, .string ⟨#[78, 50]⟩, .int .i64 15] 67))
  have X3 := Lib.hid (Blk.new_ v4 (w.heap.size + 1 + 1 + 1 + 1) 67 #[.string ⟨#[68, 49]⟩, .string ⟨#[78, 50]⟩, .int .i64 15] s4.out.symm)
  generalize v4.alloc (.cells #[.string ⟨#[68, 49]⟩, .string ⟨#[78, 50]⟩, .int .i64 15] 67) = v5 at *
  have F6 := Lib.hid (F5.out.alloc F5.out.size (.cells #[.slice (some ⟨w.heap.size + 1, 0, none⟩) 2 2, .slice none 0 0, .slice (some ⟨w.heap.size + 1 + 1, 0, none⟩) 1 1, .slice (some ⟨w.heap.size + 1 + 1 + 1, 0, none⟩) 2 2, .slice (some ⟨w.heap.size + 1 + 1 + 1 + 1, 0, none⟩) 1 1, .slice none 0 0] 29))
  have s6 : Hid ((v5.alloc (.cells #[.slice (some ⟨w.heap.size + 1, 0, none⟩) 2 2, .slice none 0 0, .slice (some ⟨w.heap.size + 1 + 1, 0, none⟩) 1 1, .slice (some ⟨w.heap.size + 1 + 1 + 1, 0, none⟩) 2 2, .slice (some ⟨w.heap.size + 1 + 1 + 1 + 1, 0, none⟩) 1 1, .slice none 0 0] 29)).heap.size = w.heap.size + 1 + 1 + 1 + 1 + 1 + 1) := by show _ = _; rw [World.size_alloc, s5.out]
  replace XN := Lib.hid (XN.out.alloc (.cells #[.slice (some ⟨w.heap.size + 1, 0, none⟩) 2 2, .slice none 0 0, .slice (some ⟨w.heap.size + 1 + 1, 0, none⟩) 1 1, .slice (some ⟨w.heap.size + 1 + 1 + 1, 0, none⟩) 2 2, .slice (some ⟨w.heap.size + 1 + 1 + 1 + 1, 0, none⟩) 1 1, .slice none 0 0] 29))
  replace X0 := Lib.hid (X0.out.alloc (.cells #[.slice (some ⟨w.heap.size + 1, 0, none⟩) 2 2, .slice none 0 0, .slice (some ⟨w.heap.size + 1 + 1, 0, none⟩) 1 1, .slice (some ⟨w.heap.size + 1 + 1 + 1, 0, none⟩) 2 2, .slice (some ⟨w.heap.size + 1 + 1 + 1 + 1, 0, none⟩) 1 1, .slice none 0 0] 29))
  replace X1 := Lib.hid (X1.out.alloc (.cells #[.slice (some ⟨w.heap.size + 1, 0, none⟩) 2 2, .slice none 0 0, .slice (some ⟨w.heap.size + 1 + 1, 0, none⟩) 1 1, .slice (some ⟨w.heap.size + 1 + 1 + 1, 0, none⟩) 2 2, .slice (some ⟨w.heap.size + 1 + 1 + 1 + 1, 0, none⟩) 1 1, .slice none 0 0] 29))
  replace X2 := Lib.hid (X2.out.alloc (.cells #[.slice (some ⟨w.heap.size + 1, 0, none⟩) 2 2, .slice none 0 0, .slice (some ⟨w.heap.size + 1 + 1, 0, none⟩) 1 1, .slice (some ⟨w.heap.size + 1 + 1 + 1, 0, none⟩) 2 2, .slice (some ⟨w.heap.size + 1 + 1 + 1 + 1, 0, none⟩) 1 1, .slice none 0 0] 29))
  replace X3 := Lib.hid (X3.out.alloc (.cells #[.slice (some ⟨w.heap.size + 1, 0, none⟩) 2 2, .slice none 0 0, .slice (some ⟨w.heap.size + 1 + 1, 0, none⟩) 1 1, .slice (some ⟨w.heap.size + 1 + 1 + 1, 0, none⟩) 2 2, .slice (some ⟨w.heap.size + 1 + 1 + 1 + 1, 0, none⟩) 1 1, .slice none 0 0] 29))
  generalize v5.alloc (.cells #[.slice (some ⟨w.heap.size + 1, 0, none⟩) 2 2, .slice none 0 0, .slice (some ⟨w.heap.size + 1 + 1, 0, none⟩) 1 1, .slice (some ⟨w.heap.size + 1 + 1 + 1, 0, none⟩) 2 2, .slice (some ⟨w.heap.size + 1 + 1 + 1 + 1, 0, none⟩) 1 1, .slice none 0 0] 29) = v6 at *
  have F7 := Lib.hid (F6.out.alloc F6.out.size (.cells #[.int .i64 20, .int .i64 5] 93))
  have s7 : Hid ((v6.alloc (.cells #[.int .i64 20, .int .i64 5] 93)).heap.size = w.heap.size + 1 + 1 + 1 + 1 + 1 + 1 + 1) := by show _ = _; rw [World.size_alloc, s6.out]
  replace XN := Lib.hid (XN.out.alloc (.cells #[.int .i64 20, .int .i64 5] 93))
  replace X0 := Lib.hid (X0.out.alloc (.cells #[.int .i64 20, .int .i64 5] 93))
  replace X1 := Lib.hid (X1.out.alloc (.cells #[.int .i64 20, .int .i64 5] 93))
  replace X2 := Lib.hid (X2.out.alloc (.cells #[.int .i64 20, .int .i64 5] 93))
  replace X3 := Lib.hid (X3.out.alloc (.cells #[.int .i64 20, .int .i64 5] 93))
  have Y1 := Lib.hid (Blk.new_ v6 (w.heap.size + 1 + 1 + 1 + 1 + 1 + 1) 93 #[.int .i64 20, .int .i64 5] s6.out.symm)
  generalize v6.alloc (.cells #[.int .i64 20, .int .i64 5] 93) = v7 at *
  have F8 := Lib.hid (F7.out.alloc F7.out.size (.cells #[.int .i64 20, .int .i64 8] 93))
  have s8 : Hid ((v7.alloc (.cells #[.int .i64 20, .int .i64 8] 93)).heap.size = w.heap.size + 1 + 1 + 1 + 1 + 1 + 1 + 1 + 1) := by show _ = _; rw [World.size_alloc, s7.out]
  replace XN := Lib.hid (XN.out.alloc (.cells #[.int .i64 20, .int .i64 8] 93))
  replace X0 := Lib.hid (X0.out.alloc (.cells #[.int .i64 20, .int .i64 8] 93))
  replace X1 := Lib.hid (X1.out.alloc (.cells #[.int .i64 20, .int .i64 8] 93))
  replace X2 := Lib.hid (X2.out.alloc (.cells #[.int .i64 20, .int .i64 8] 93))
  replace X3 := Lib.hid (X3.out.alloc (.cells #[.int .i64 20, .int .i64 8] 93))
  replace Y1 := Lib.hid (Y1.out.alloc (.cells #[.int .i64 20, .int .i64 8] 93))
  have Y2 := Lib.hid (Blk.new_ v7 (w.heap.size + 1 + 1 + 1 + 1 + 1 + 1 + 1) 93 #[.int .i64 20, .int .i64 8] s7.out.symm)
  generalize v7.alloc (.cells #[.int .i64 20, .int .i64 8] 93) = v8 at *
  have F9 := Lib.hid (F8.out.alloc F8.out.size (.cells #[.string ⟨#[71, 49]⟩, .slice (some ⟨w.heap.size + 1 + 1 + 1 + 1 + 1 + 1, 0, none⟩) 1 1, .string ⟨#[71, 50]⟩, .slice (some ⟨w.heap.size + 1 + 1 + 1 + 1 + 1 + 1 + 1, 0, none⟩) 1 1] 87))
  have s9 : Hid ((v8.alloc (.cells #[.string ⟨#[71, 49]⟩, .slice (some ⟨w.heap.size + 1 + 1 + 1 + 1 + 1 + 1, 0, none⟩) 1 1, .string ⟨#[71, 50]⟩, .slice (some ⟨w.heap.size + 1 + 1 + 1 + 1 + 1 + 1 + 1, 0, none⟩) 1 1] 87)).heap.size = w.heap.size + 1 + 1 + 1 + 1 + 1 + 1 + 1 + 1 + 1) := by show _ = _; rw [World.size_alloc, s8.out]
  replace XN := Lib.hid (XN.out.alloc (.cells #[.string ⟨#[71, 49]⟩, .slice (some ⟨w.heap.size + 1 + 1 + 1 + 1 + 1 + 1, 0, none⟩) 1 1, .string ⟨#[71, 50]⟩, .slice (some ⟨w.heap.size + 1 + 1 + 1 + 1 + 1 + 1 + 1, 0, none⟩) 1 1] 87))
  replace X0 := Lib.hid (X0.out.alloc (.cells #[.string ⟨#[71, 49]⟩, .slice (some ⟨w.heap.size + 1 + 1 + 1 + 1 + 1 + 1, 0, none⟩) 1 1, .string ⟨#[71, 50]⟩, .slice (some ⟨w.heap.size + 1 + 1 + 1 + 1 + 1 + 1 + 1, 0, none⟩) 1 1] 87))
  replace X1 := Lib.hid (X1.out.alloc (.cells #[.string ⟨#[71, 49]⟩, .slice (some ⟨w.heap.size + 1 + 1 + 1 + 1 + 1 + 1, 0, none⟩) 1 1, .string ⟨#[71, 50]⟩, .slice (some ⟨w.heap.size + 1 + 1 + 1 + 1 + 1 + 1 + 1, 0, none⟩) 1 1] 87))
  replace X2 := Lib.hid (X2.out.alloc (.cells #[.string ⟨#[71, 49]⟩, .slice (some ⟨w.heap.size + 1 + 1 + 1 + 1 + 1 + 1, 0, none⟩) 1 1, .string ⟨#[71, 50]⟩, .slice (some ⟨w.heap.size + 1 + 1 + 1 + 1 + 1 + 1 + 1, 0, none⟩) 1 1] 87))
  replace X3 := Lib.hid (X3.out.alloc (.cells #[.string ⟨#[71, 49]⟩, .slice (some ⟨w.heap.size + 1 + 1 + 1 + 1 + 1 + 1, 0, none⟩) 1 1, .string ⟨#[71, 50]⟩, .slice (some ⟨w.heap.size + 1 + 1 + 1 + 1 + 1 + 1 + 1, 0, none⟩) 1 1] 87))
  replace Y1 := Lib.hid (Y1.out.alloc (.cells #[.string ⟨#[71, 49]⟩, .slice (some ⟨w.heap.size + 1 + 1 + 1 + 1 + 1 + 1, 0, none⟩) 1 1, .string ⟨#[71, 50]⟩, .slice (some ⟨w.heap.size + 1 + 1 + 1 + 1 + 1 + 1 + 1, 0, none⟩) 1 1] 87))
  replace Y2 := Lib.hid (Y2.out.alloc (.cells #[.string ⟨#[71, 49]⟩, .slice (some ⟨w.heap.size + 1 + 1 + 1 + 1 + 1 + 1, 0, none⟩) 1 1, .string ⟨#[71, 50]⟩, .slice (some ⟨w.heap.size + 1 + 1 + 1 + 1 + 1 + 1 + 1, 0, none⟩) 1 1] 87))
  have Y0 := Lib.hid (Blk.new_ v8 (w.heap.size + 1 + 1 + 1 + 1 + 1 + 1 + 1 + 1) 87 #[.string ⟨#[71, 49]⟩, .slice (some ⟨w.heap.size + 1 + 1 + 1 + 1 + 1 + 1, 0, none⟩) 1 1, .string ⟨#[71, 50]⟩, .slice (some ⟨w.heap.size + 1 + 1 + 1 + 1 + 1 + 1 + 1, 0, none⟩) 1 1] s8.out.symm)
  generalize v8.alloc (.cells #[.string ⟨#[71, 49]⟩, .slice (some ⟨w.heap.size + 1 + 1 + 1 + 1 + 1 + 1, 0, none⟩) 1 1, .string ⟨#[71, 50]⟩, .slice (some ⟨w.heap.size + 1 + 1 + 1 + 1 + 1 + 1 + 1, 0, none⟩) 1 1] 87) = v9 at *
  have k7 := XN.out.cell
  refine bodyPost_ret (v := .tuple #[.agg #[.slice (some ⟨w.heap.size + 1, 0, none⟩) 2 2, .slice none 0 0, .slice (some ⟨w.heap.size + 1 + 1, 0, none⟩) 1 1, .slice (some ⟨w.heap.size + 1 + 1 + 1, 0, none⟩) 2 2, .slice (some ⟨w.heap.size + 1 + 1 + 1 + 1, 0, none⟩) 1 1, .slice none 0 0], .slice (some ⟨w.heap.size + 1 + 1 + 1 + 1 + 1 + 1 + 1 + 1, 0, none⟩) 2 2]) (by simp [results, Tryz.results11, go_sem, k7]) rfl ⟨⟨RN lim, some ⟨w.heap.size + 1, 0, none⟩, 2, 2, none, 0, 0, some ⟨w.heap.size + 1 + 1, 0, none⟩, 1, 1, some ⟨w.heap.size + 1 + 1 + 1, 0, none⟩, 2, 2, some ⟨w.heap.size + 1 + 1 + 1 + 1, 0, none⟩, 1, 1, none, 0, 0⟩, some ⟨w.heap.size + 1 + 1 + 1 + 1 + 1 + 1 + 1 + 1, 0, none⟩, rfl, rfl, ⟨?_, ?_, ?_, ?_, ?_, ?_, (by show (2 : Nat) ≤ 9223372036854775807; omega), (by show (0 : Nat) ≤ 9223372036854775807; omega), (by show (1 : Nat) ≤ 9223372036854775807; omega), (by show (2 : Nat) ≤ 9223372036854775807; omega), (by show (1 : Nat) ≤ 9223372036854775807; omega), (by show (0 : Nat) ≤ 9223372036854775807; omega), RN_sz lim⟩, ⟨_, _, _, rfl, Y0.out, Y1.out, Y2.out⟩, F9.out⟩
  · exact lit_reads9 _ _ _ _ 2 1 X0.out rfl
  · exact ⟨Reads.none_, rfl⟩
  · exact ⟨lit_reads9 _ _ _ _ 1 9 X1.out rfl, rfl⟩
  · exact ⟨lit_reads9 _ _ _ _ 2 5 X2.out rfl, rfl⟩
  · exact ⟨lit_reads9 _ _ _ _ 1 3 X3.out rfl, rfl⟩
  · exact ⟨Reads.none_, rfl⟩
end Go.Proofs.YtoblpcljhblnmaaGreatDoor
