/- A field of package choose in memory: its edges, its sources; room. No condition. -/
import Derived.Test.YtpamgeemmbbkkaaRepI
import Derived.Test.YtpamgeemmbbkkaaFaultP
import Derived.Test.YtpamgeemmbbkkaaPChoose
namespace Go.Proofs.Ytpamgeemmbbkkaa
open Go.RowKit
set_option maxRecDepth 100000
def edgC (e : Pl.Edg) : List Value := [.int .i64 e.a, .int .i64 e.b, .string e.name, .bool e.breaker, .int .i64 e.flow]
def bools (l : List Bool) : List Value := l.map Value.bool
theorem bools_len {w : World} {B n : Nat} {A : Option Addr} {zs : List Bool} (h : Reads w B 1 A n (bools zs)) : zs.length = n := by
  have := h.1; simpa [bools] using this
theorem bools_at {w : World} {B n : Nat} {A : Option Addr} {zs : List Bool} (h : Reads w B 1 A n (bools zs)) {k : Nat} (hk : k < n) :
    ∃ b o, A = some ⟨b, o, none⟩ ∧ b < B ∧ ∃ hl : k < zs.length, w.cell? ⟨b, o + k, none⟩ = some (.bool (zs[k]'hl)) := by
  obtain ⟨b, o, rfl, hb, hc⟩ := h.where_ (by omega) (by omega)
  have hl : k < zs.length := by have := bools_len h; omega
  exact ⟨b, o, rfl, hb, hl, hc k _ (by simp [bools, hl])⟩
theorem edg_at {w : World} {B : Nat} {A : Option Addr} {n : Nat} {l : List Pl.Edg} (h : Elems edgC 5 w B A n l) {k : Nat} (hk : k < n) :
    ∃ b o, A = some ⟨b, o, none⟩ ∧ ∃ hl : k < l.length, w.cell? ⟨b, o + k * 5, none⟩ = some (.int .i64 (l[k]'hl).a) ∧ w.cell? ⟨b, o + k * 5 + 1, none⟩ = some (.int .i64 (l[k]'hl).b) ∧ w.cell? ⟨b, o + k * 5 + 2, none⟩ = some (.string (l[k]'hl).name) ∧ w.cell? ⟨b, o + k * 5 + 3, none⟩ = some (.bool (l[k]'hl).breaker) ∧ w.cell? ⟨b, o + k * 5 + 4, none⟩ = some (.int .i64 (l[k]'hl).flow) := by
  obtain ⟨b, o, rfl, _, hl, hc⟩ := Elems.at_ (dec := edgC) (size := 5) (fun _ => rfl) (by decide) h hk
  exact ⟨b, o, rfl, hl, hc 0 (by omega), hc 1 (by omega), hc 2 (by omega), hc 3 (by omega), hc 4 (by omega)⟩
/-- a field at block g -/
structure FieldIn (w : World) (B g : Nat) (E : List Pl.Edg) (src : List Bool) (place : Int) (n : Nat) : Prop where
  blk : ∃ (Ae As : Option Addr) (ne ce cs : Nat), Blk w g 130 #[.slice Ae ne ce, .int .i64 place, .slice As n cs, .int .i64 n] ∧ Elems edgC 5 w B Ae ne E ∧ Reads w B 1 As n (bools src)
  lt : g < B
  few : E.length ≤ 1000
  nn : n ≤ 1000
  fl : ∀ e ∈ E, -1000000 ≤ e.flow ∧ e.flow ≤ 1000000
theorem FieldIn.go {w w' : World} {B g n : Nat} {E : List Pl.Edg} {src : List Bool} {place : Int} (h : FieldIn w B g E src place n) (hb : Below B w w') : FieldIn w' B g E src place n := by
  obtain ⟨⟨Ae, As, ne, ce, cs, h1, h2, h3⟩, hl, h4, h5, h6⟩ := h
  exact ⟨⟨Ae, As, ne, ce, cs, h1.below hb hl, h2.below hb, h3.below hb⟩, hl, h4, h5, h6⟩
theorem FieldIn.more {w : World} {B B' g n : Nat} {E : List Pl.Edg} {src : List Bool} {place : Int} (h : FieldIn w B g E src place n) (hb : B ≤ B') : FieldIn w B' g E src place n := by
  obtain ⟨⟨Ae, As, ne, ce, cs, h1, h2, h3⟩, hl, h4, h5, h6⟩ := h
  exact ⟨⟨Ae, As, ne, ce, cs, h1, h2.more hb, h3.more hb⟩, by omega, h4, h5, h6⟩
/-- choose.field.room -/
theorem room_any (f : Value) (e : Pl.Edg) (u : Int) (w : World) (hf : -1000000 ≤ e.flow ∧ e.flow ≤ 1000000) :
    Calls Try.prog 60 #[f, .agg #[.int .i64 e.a, .int .i64 e.b, .string e.name, .bool e.breaker, .int .i64 e.flow], .int .i64 u] w fun x w' => x = .returned (.int .i64 (Pl.roomE e u)) ∧ Below w.heap.size w w' := by
  have HE : Hid (Pl.roomE e u = (if e.breaker then 1 else 1000) - (if u = e.b then -e.flow else e.flow)) := rfl
  generalize Pl.roomE e u = R at *
  obtain ⟨a, b, nm, br, fl⟩ := e
  simp only at *
  have A0 := Lib.hid ((Below.refl w.heap.size w).alloc (Nat.le_refl _) (.cells #[.int .i64 a, .int .i64 b, .string nm, .bool br, .int .i64 fl] 132))
  have w1 : IntKind.i64.wrap (-fl) = -fl := IntWalk.i64_in _ (by omega)
  have w2 : IntKind.i64.wrap (1 - fl) = 1 - fl := IntWalk.i64_in _ (by omega)
  have w3 : IntKind.i64.wrap (1 - -fl) = 1 - -fl := IntWalk.i64_in _ (by omega)
  have w4 : IntKind.i64.wrap (1000 - fl) = 1000 - fl := IntWalk.i64_in _ (by omega)
  have w5 : IntKind.i64.wrap (1000 - -fl) = 1000 - -fl := IntWalk.i64_in _ (by omega)
  cases br
  · by_cases hu : u = b
    · rw [if_pos hu] at HE
      subst hu
      go_enter Try.func60, Try.ntmps60
      go_wp2_with fail
      all_goals
        go_ret
        exact ⟨by first | (rw [HE.out]; rfl) | (rw [HE.out]; simp [Int.sub_neg]), A0.out⟩
    · rw [if_neg hu] at HE
      have hub : (u == b) = false := by simpa using hu
      clear hu
      go_enter Try.func60, Try.ntmps60
      go_wp2_with fail
      all_goals
        go_ret
        exact ⟨by first | (rw [HE.out]; rfl) | (rw [HE.out]; simp [Int.sub_neg]), A0.out⟩
  · by_cases hu : u = b
    · rw [if_pos hu] at HE
      subst hu
      go_enter Try.func60, Try.ntmps60
      go_wp2_with fail
      all_goals
        go_ret
        exact ⟨by first | (rw [HE.out]; rfl) | (rw [HE.out]; simp [Int.sub_neg]), A0.out⟩
    · rw [if_neg hu] at HE
      have hub : (u == b) = false := by simpa using hu
      clear hu
      go_enter Try.func60, Try.ntmps60
      go_wp2_with fail
      all_goals
        go_ret
        exact ⟨by first | (rw [HE.out]; rfl) | (rw [HE.out]; simp [Int.sub_neg]), A0.out⟩
end Go.Proofs.Ytpamgeemmbbkkaa
