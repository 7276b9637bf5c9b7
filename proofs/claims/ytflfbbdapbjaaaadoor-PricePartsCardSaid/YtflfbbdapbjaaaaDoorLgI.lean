/- Package large: Cmp, Of answer as integers. Condition: the words read; there are at most 2^45 of them. -/
import Derived.Test.YtflfbbdapbjaaaaDoorLgH
namespace Go.Proofs.YtflfbbdapbjaaaaDoor
open Go.RowKit
set_option maxRecDepth 100000
theorem boxes2 (w : World) (x y : Array Value) (t : TypeId) : let w1 := (w.alloc (.cells x t)).alloc (.cells y t)
    Blk w1 w.heap.size t x ∧ Blk w1 (w.heap.size + 1) t y ∧ Below w.heap.size w w1 ∧ w1.heap.size = w.heap.size + 1 + 1 :=
  ⟨(Blk.new_ w _ t x rfl).alloc _, Blk.new_ _ (w.heap.size + 1) t y (by simp), ((Below.refl _ w).alloc (Nat.le_refl _) _).alloc (by simp) _, by simp⟩
set_option maxHeartbeats 1600000 in
theorem of_any (n : Int) (w : World) (h0 : -9223372036854775808 ≤ n) (h1 : n ≤ 9223372036854775807) : Calls Tryd.prog 22 #[.int .i64 n] w (NumSaid n w) := by
  obtain ⟨m, hm⟩ : ∃ m : Nat, m = n.natAbs := ⟨_, rfl⟩
  have hmb : m ≤ 9223372036854775808 := by omega
  obtain ⟨lo, hlo⟩ : ∃ lo : Nat, lo = m % 4294967296 := ⟨_, rfl⟩
  obtain ⟨hi, hhi⟩ : ∃ hi : Nat, hi = m / 4294967296 := ⟨_, rfl⟩
  have em : (m : Int) % 4294967296 = (lo : Int) := by omega
  have ed : (m : Int) / 4294967296 = (hi : Int) := by omega
  have eh : (hi : Int) % 4294967296 = (hi : Int) := by omega
  have hv : Pl.lv [lo, hi] = m := by show lo + 4294967296 * (hi + 4294967296 * 0) = m; omega
  have hW : Pl.W32 [lo, hi] := fun x hx => by
    simp only [List.mem_cons, List.not_mem_nil, or_false] at hx
    rcases hx with rfl | rfl <;> omega
  have D0 := (Below.refl w.heap.size w).alloc (Nat.le_refl _) (.cells #[.bool false, .slice none 0 0] 40)
  have D1 := D0.alloc (by simp) (.cells #[.int .u32 (lo : Int), .int .u32 (hi : Int)] 57)
  have B1 := Lib.hid ((Blk.new_ w w.heap.size 40 #[.bool false, .slice none 0 0] rfl).alloc (.cells #[.int .u32 (lo : Int), .int .u32 (hi : Int)] 57))
  have hr : Reads ((w.alloc (.cells #[.bool false, .slice none 0 0] 40)).alloc (.cells #[.int .u32 (lo : Int), .int .u32 (hi : Int)] 57)) ((w.alloc (.cells #[.bool false, .slice none 0 0] 40)).alloc (.cells #[.int .u32 (lo : Int), .int .u32 (hi : Int)] 57)).heap.size 1 (some ⟨w.heap.size + 1, 0, none⟩) 2 (u32s [lo, hi]) := Reads.lit _ #[.int .u32 (lo : Int), .int .u32 (hi : Int)] _ 2 1 _ (by simp) rfl
  have HNO := Lib.hid (fun b => norm_any b (some ⟨w.heap.size + 1, 0, none⟩) 2 2 [lo, hi] _ (by omega) (Nat.le_refl _) hr hW)
  have HD := Lib.hid D1
  rw [hv] at HNO
  clear D0 D1 hr hW hv
  by_cases hn : n < 0
  · have hs : sgn true m = n := by unfold sgn; simp; omega
    have HN := Lib.hid (HNO.out true)
    rw [hs] at HN
    have w1 : IntKind.u64.wrap n = n + 18446744073709551616 := by rw [IntKind.wrap_u64]; omega
    have w2 : IntKind.u64.wrap (-(n + 18446744073709551616)) = (m : Int) := by rw [IntKind.wrap_u64]; omega
    clear hs HNO hlo hhi hm
    go_enter Tryd.func22, Tryd.ntmps22
    go_wp2_with fail
    refine HN.out.mono ?_
    rintro e w6 ⟨rfl, hna6, hbl6⟩
    have BR6 := Lib.hid (B1.out.go hbl6)
    have F6 := Lib.hid (HD.out.trans (hbl6.mono HD.out.size))
    have HN6 := Lib.hid hna6
    clear HN hna6 hbl6 hn
    have f6 := BR6.out.frozen
    have g6 := BR6.out.cell
    have l6 := BR6.out.lt
    unfold vNum
    go_wp2_with fail
    have F7 := Lib.hid (num_put BR6.out HN6.out F6.out (Nat.le_refl _))
    have k7 := F7.out.1.cell
    refine bodyPost_ret (v := vNum n (some ⟨w.heap.size + 1, 0, none⟩) 2) (by simp [results, Tryd.results22, go_sem, vNum, k7]) rfl ⟨_, 2, rfl, F7.out.2⟩
  · have hs : sgn false m = n := by unfold sgn; simp; omega
    have HN := Lib.hid (HNO.out false)
    rw [hs] at HN
    have w1 : IntKind.u64.wrap n = (m : Int) := by rw [IntKind.wrap_u64]; omega
    clear hs HNO hlo hhi hm
    go_enter Tryd.func22, Tryd.ntmps22
    go_wp2_with fail
    refine HN.out.mono ?_
    rintro e w6 ⟨rfl, hna6, hbl6⟩
    have BR6 := Lib.hid (B1.out.go hbl6)
    have F6 := Lib.hid (HD.out.trans (hbl6.mono HD.out.size))
    have HN6 := Lib.hid hna6
    clear HN hna6 hbl6 hn
    have f6 := BR6.out.frozen
    have g6 := BR6.out.cell
    have l6 := BR6.out.lt
    unfold vNum
    go_wp2_with fail
    have F7 := Lib.hid (num_put BR6.out HN6.out F6.out (Nat.le_refl _))
    have k7 := F7.out.1.cell
    refine bodyPost_ret (v := vNum n (some ⟨w.heap.size + 1, 0, none⟩) 2) (by simp [results, Tryd.results22, go_sem, vNum, k7]) rfl ⟨_, 2, rfl, F7.out.2⟩
end Go.Proofs.YtflfbbdapbjaaaaDoor
