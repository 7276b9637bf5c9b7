/- The fixed network of the laws: two lines of nodes, a line and a breaker at its end. No condition. -/
import Derived.Test.YtpamgeemmbbkkaaNet
import Derived.Test.YtpamgeemmbbkkaaPField
namespace Go.Proofs.Ytpamgeemmbbkkaa
open Go.RowKit
set_option maxRecDepth 100000
def tA : ByteArray := ⟨#[65]⟩
def tB : ByteArray := ⟨#[66]⟩
def tC : ByteArray := ⟨#[67]⟩
def tS : ByteArray := ⟨#[83]⟩
def tL : ByteArray := ⟨#[76]⟩
def tG : ByteArray := ⟨#[71]⟩
def LN : Pl.Net := ⟨[tA, tB, tC], [⟨tS, tA, tB, true, false⟩], [⟨tL, tB, tC, 1000, 1000, 0, 9, 9, 0⟩], [⟨tG, tA, 0, 9, 0⟩], [], []⟩
theorem LN_sz : NetSz LN := by
  have h : (Pl.allDevs LN).all (fun d => decide (d.name.size ≤ maxLen) && d.at_.all (fun s => decide (s.size ≤ maxLen))) = true := by decide +kernel
  refine ⟨fun d hd => ?_⟩
  have h1 := List.all_eq_true.1 h d hd
  simp only [Bool.and_eq_true, decide_eq_true_eq] at h1
  exact ⟨h1.1, fun s hs => by have := List.all_eq_true.1 h1.2 s hs; simpa using this⟩
def lnN : Obj := .cells #[.string ⟨#[65]⟩, .string ⟨#[66]⟩, .string ⟨#[67]⟩] 9
def lnS : Obj := .cells #[.string ⟨#[83]⟩, .string ⟨#[65]⟩, .string ⟨#[66]⟩, .bool true, .bool false] 50
def lnB : Obj := .cells #[.string ⟨#[76]⟩, .string ⟨#[66]⟩, .string ⟨#[67]⟩, .int .i64 1000, .int .i64 1000, .int .i64 0, .int .i64 9, .int .i64 9, .int .i64 0] 42
def lnG : Obj := .cells #[.string ⟨#[71]⟩, .string ⟨#[65]⟩, .int .i64 0, .int .i64 9, .int .i64 0] 89
/-- a literal's row behind further blocks -/
theorem lit_reads (w : World) (g : Nat) (cs : Array Value) (e : TypeId) (n size : Nat) (hb : Blk w g e cs) (h : cs.size = n * size) : Reads w w.heap.size size (some ⟨g, 0, none⟩) n cs.toList := by
  refine ⟨by simpa using h, fun _ => ⟨_, rfl, hb.lt, fun j u hu => ?_⟩⟩
  have hadd : (⟨g, 0, none⟩ : Addr).add j = ⟨g, j, none⟩ := by unfold Addr.add; split <;> simp_all
  rw [hadd, hb.cell]
  simpa using hu
theorem line_any (w : World) : Calls Try.prog 26 #[] w fun e w' => ∃ M : MNet, e = .returned (vNet M) ∧ M.N = LN ∧ NetIn w' w'.heap.size M ∧ Below w.heap.size w w' := by
  go_enter Try.func26, Try.ntmps26
  go_wp2_with fail
  have XN := Lib.hid (((((Blk.new_ w w.heap.size 29 #[.slice (some ⟨w.heap.size + 1, 0, none⟩) 3 3, .slice (some ⟨w.heap.size + 1 + 1, 0, none⟩) 1 1, .slice (some ⟨w.heap.size + 1 + 1 + 1, 0, none⟩) 1 1, .slice (some ⟨w.heap.size + 1 + 1 + 1 + 1, 0, none⟩) 1 1, .slice none 0 0, .slice none 0 0] rfl).alloc lnN).alloc lnS).alloc lnB).alloc lnG)
  have X0 := Lib.hid ((((Blk.new_ (w.alloc (.cells #[.slice (some ⟨w.heap.size + 1, 0, none⟩) 3 3, .slice (some ⟨w.heap.size + 1 + 1, 0, none⟩) 1 1, .slice (some ⟨w.heap.size + 1 + 1 + 1, 0, none⟩) 1 1, .slice (some ⟨w.heap.size + 1 + 1 + 1 + 1, 0, none⟩) 1 1, .slice none 0 0, .slice none 0 0] 29)) (w.heap.size + 1) 9 #[.string ⟨#[65]⟩, .string ⟨#[66]⟩, .string ⟨#[67]⟩] (by simp)).alloc lnS).alloc lnB).alloc lnG)
  have X1 := Lib.hid (((Blk.new_ ((w.alloc (.cells #[.slice (some ⟨w.heap.size + 1, 0, none⟩) 3 3, .slice (some ⟨w.heap.size + 1 + 1, 0, none⟩) 1 1, .slice (some ⟨w.heap.size + 1 + 1 + 1, 0, none⟩) 1 1, .slice (some ⟨w.heap.size + 1 + 1 + 1 + 1, 0, none⟩) 1 1, .slice none 0 0, .slice none 0 0] 29)).alloc lnN) (w.heap.size + 1 + 1) 50 #[.string ⟨#[83]⟩, .string ⟨#[65]⟩, .string ⟨#[66]⟩, .bool true, .bool false] (by simp)).alloc lnB).alloc lnG)
  have X2 := Lib.hid ((Blk.new_ (((w.alloc (.cells #[.slice (some ⟨w.heap.size + 1, 0, none⟩) 3 3, .slice (some ⟨w.heap.size + 1 + 1, 0, none⟩) 1 1, .slice (some ⟨w.heap.size + 1 + 1 + 1, 0, none⟩) 1 1, .slice (some ⟨w.heap.size + 1 + 1 + 1 + 1, 0, none⟩) 1 1, .slice none 0 0, .slice none 0 0] 29)).alloc lnN).alloc lnS) (w.heap.size + 1 + 1 + 1) 42 #[.string ⟨#[76]⟩, .string ⟨#[66]⟩, .string ⟨#[67]⟩, .int .i64 1000, .int .i64 1000, .int .i64 0, .int .i64 9, .int .i64 9, .int .i64 0] (by simp)).alloc lnG)
  have X3 := Lib.hid (Blk.new_ ((((w.alloc (.cells #[.slice (some ⟨w.heap.size + 1, 0, none⟩) 3 3, .slice (some ⟨w.heap.size + 1 + 1, 0, none⟩) 1 1, .slice (some ⟨w.heap.size + 1 + 1 + 1, 0, none⟩) 1 1, .slice (some ⟨w.heap.size + 1 + 1 + 1 + 1, 0, none⟩) 1 1, .slice none 0 0, .slice none 0 0] 29)).alloc lnN).alloc lnS).alloc lnB) (w.heap.size + 1 + 1 + 1 + 1) 89 #[.string ⟨#[71]⟩, .string ⟨#[65]⟩, .int .i64 0, .int .i64 9, .int .i64 0] (by simp))
  have F5 := Lib.hid ((((((Below.refl w.heap.size w).alloc (Nat.le_refl _) (.cells #[.slice (some ⟨w.heap.size + 1, 0, none⟩) 3 3, .slice (some ⟨w.heap.size + 1 + 1, 0, none⟩) 1 1, .slice (some ⟨w.heap.size + 1 + 1 + 1, 0, none⟩) 1 1, .slice (some ⟨w.heap.size + 1 + 1 + 1 + 1, 0, none⟩) 1 1, .slice none 0 0, .slice none 0 0] 29)).alloc (by simp) lnN).alloc (by simp; omega) lnS).alloc (by simp; omega) lnB).alloc (by simp; omega) lnG)
  unfold lnN lnS lnB lnG at *
  generalize ((((w.alloc (.cells #[.slice (some ⟨w.heap.size + 1, 0, none⟩) 3 3, .slice (some ⟨w.heap.size + 1 + 1, 0, none⟩) 1 1, .slice (some ⟨w.heap.size + 1 + 1 + 1, 0, none⟩) 1 1, .slice (some ⟨w.heap.size + 1 + 1 + 1 + 1, 0, none⟩) 1 1, .slice none 0 0, .slice none 0 0] 29)).alloc (.cells #[.string ⟨#[65]⟩, .string ⟨#[66]⟩, .string ⟨#[67]⟩] 9)).alloc (.cells #[.string ⟨#[83]⟩, .string ⟨#[65]⟩, .string ⟨#[66]⟩, .bool true, .bool false] 50)).alloc (.cells #[.string ⟨#[76]⟩, .string ⟨#[66]⟩, .string ⟨#[67]⟩, .int .i64 1000, .int .i64 1000, .int .i64 0, .int .i64 9, .int .i64 9, .int .i64 0] 42)).alloc (.cells #[.string ⟨#[71]⟩, .string ⟨#[65]⟩, .int .i64 0, .int .i64 9, .int .i64 0] 89) = wf at *
  have k7 := XN.out.cell
  refine bodyPost_ret (v := .agg #[.slice (some ⟨w.heap.size + 1, 0, none⟩) 3 3, .slice (some ⟨w.heap.size + 1 + 1, 0, none⟩) 1 1, .slice (some ⟨w.heap.size + 1 + 1 + 1, 0, none⟩) 1 1, .slice (some ⟨w.heap.size + 1 + 1 + 1 + 1, 0, none⟩) 1 1, .slice none 0 0, .slice none 0 0]) (by simp [results, Try.results26, go_sem, k7]) rfl ⟨⟨LN, some ⟨w.heap.size + 1, 0, none⟩, 3, 3, some ⟨w.heap.size + 1 + 1, 0, none⟩, 1, 1, some ⟨w.heap.size + 1 + 1 + 1, 0, none⟩, 1, 1, some ⟨w.heap.size + 1 + 1 + 1 + 1, 0, none⟩, 1, 1, none, 0, 0, none, 0, 0⟩, rfl, rfl, ⟨?_, ?_, ?_, ?_, ?_, ?_, (by show (3 : Nat) ≤ 9223372036854775807; omega), (by show (1 : Nat) ≤ 9223372036854775807; omega), (by show (1 : Nat) ≤ 9223372036854775807; omega), (by show (1 : Nat) ≤ 9223372036854775807; omega), (by show (0 : Nat) ≤ 9223372036854775807; omega), (by show (0 : Nat) ≤ 9223372036854775807; omega), LN_sz⟩, F5.out⟩
  · exact lit_reads _ _ _ _ 3 1 X0.out rfl
  · exact ⟨lit_reads _ _ _ _ 1 5 X1.out rfl, rfl⟩
  · exact ⟨lit_reads _ _ _ _ 1 9 X2.out rfl, rfl⟩
  · exact ⟨lit_reads _ _ _ _ 1 5 X3.out rfl, rfl⟩
  · exact ⟨Reads.none_, rfl⟩
  · exact ⟨Reads.none_, rfl⟩
end Go.Proofs.Ytpamgeemmbbkkaa
