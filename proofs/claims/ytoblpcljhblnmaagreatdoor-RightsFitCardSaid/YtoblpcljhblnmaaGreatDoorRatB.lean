/- Slices of rational numbers as cells: what reads as a list of them, kept by all that leaves the old blocks alone. Rational numbers in a block that the call has made: made, read, stored. Condition: the words read. large.ParseAll: the numbers of valid texts, in a row of their own. Condition: at most 2^41 - 1 texts. -/
import Derived.Test.YtoblpcljhblnmaaGreatDoorRatAS
import Derived.Test.YtoblpcljhblnmaaGreatDoorSrt
namespace Go.Proofs.YtoblpcljhblnmaaGreatDoor
open Go.RowKit
set_option maxRecDepth 100000
def rtC (r : Rt) : List Value := [.bool r.N.b, .slice r.N.A r.N.n r.N.c, .bool r.D.b, .slice r.D.A r.D.n r.D.c]
def rts (l : List (Rat × Rt)) : List Value := l.flatMap fun x => rtC x.2
theorem rts_len : ∀ l : List (Rat × Rt), (rts l).length = 4 * l.length
  | [] => rfl
  | x :: l => by
    have ih := rts_len l
    have e : rts (x :: l) = rtC x.2 ++ rts l := by unfold rts; rw [List.flatMap_cons]
    rw [e, List.length_append, ih, List.length_cons]
    show 4 + _ = _
    omega
theorem rts_at : ∀ {l : List (Rat × Rt)} {k : Nat} (hk : k < l.length), (rts l)[k * 4]? = some (.bool l[k].2.N.b) ∧ (rts l)[k * 4 + 1]? = some (.slice l[k].2.N.A l[k].2.N.n l[k].2.N.c) ∧ (rts l)[k * 4 + 2]? = some (.bool l[k].2.D.b) ∧ (rts l)[k * 4 + 3]? = some (.slice l[k].2.D.A l[k].2.D.n l[k].2.D.c)
  | x :: l, 0, _ => ⟨rfl, rfl, rfl, rfl⟩
  | x :: l, k + 1, hk => by
    have ih := rts_at (l := l) (k := k) (by simpa using hk)
    have e1 : (k + 1) * 4 = k * 4 + 1 + 1 + 1 + 1 := by omega
    rw [e1]
    exact ih
theorem rts_snoc (l : List (Rat × Rt)) (x : Rat × Rt) : rts l ++ rtC x.2 = rts (l ++ [x]) := by unfold rts; rw [List.flatMap_append]; simp
structure RatsIs (w : World) (B : Nat) (A : Option Addr) (n : Nat) (l : List (Rat × Rt)) : Prop where
  row : Reads w B 4 A n (rts l)
  each : ∀ x ∈ l, RatIs w B x.1 x.2
theorem RatsIs.len {w : World} {B n : Nat} {A : Option Addr} {l : List (Rat × Rt)} (h : RatsIs w B A n l) : l.length = n := by
  have h1 := h.row.1
  rw [rts_len] at h1
  omega
theorem RatsIs.go {w w' : World} {n : Nat} {A : Option Addr} {l : List (Rat × Rt)} (h : RatsIs w w.heap.size A n l) (hb : Below w.heap.size w w') : RatsIs w' w'.heap.size A n l :=
  ⟨h.row.go hb, fun x hx => (h.each x hx).go hb⟩
theorem RatsIs.at {w : World} {B n : Nat} {A : Option Addr} {l : List (Rat × Rt)} (h : RatsIs w B A n l) {k : Nat} (hk : k < n) :
    ∃ b o, A = some ⟨b, o, none⟩ ∧ b < B ∧ ∃ hl : k < l.length, w.cell? ⟨b, o + k * 4, none⟩ = some (.bool l[k].2.N.b) ∧ w.cell? ⟨b, o + k * 4 + 1, none⟩ = some (.slice l[k].2.N.A l[k].2.N.n l[k].2.N.c) ∧ w.cell? ⟨b, o + k * 4 + 2, none⟩ = some (.bool l[k].2.D.b) ∧ w.cell? ⟨b, o + k * 4 + 3, none⟩ = some (.slice l[k].2.D.A l[k].2.D.n l[k].2.D.c) ∧ RatIs w B l[k].1 l[k].2 := by
  obtain ⟨b, o, rfl, hb, hc⟩ := h.row.where_ (by omega) (by decide)
  have hl : k < l.length := by rw [h.len]; exact hk
  obtain ⟨h1, h2, h3, h4⟩ := rts_at hl
  exact ⟨b, o, rfl, hb, hl, hc _ _ h1, hc _ _ h2, hc _ _ h3, hc _ _ h4, h.each _ (List.getElem_mem hl)⟩
theorem info_rat : (Tryz.prog.info? 105).map (fun i => (i.zero, i.size, i.bytes)) = some (some (.agg #[.bool false, .slice none 0 0, .bool false, .slice none 0 0]), 4, 64) := by kernel_rfl
end Go.Proofs.YtoblpcljhblnmaaGreatDoor
namespace Go.Proofs.YtoblpcljhblnmaaGreatDoor
open Go.RowKit
set_option maxRecDepth 100000
def rtl (l : List Rt) : List Value := l.flatMap rtC
def rt0 : Rt := ⟨⟨false, none, 0, 0⟩, ⟨false, none, 0, 0⟩⟩
theorem rtC_len (x : Rt) : (rtC x).length = 4 := rfl
theorem rtl_rts (L : List (Rat × Rt)) : rtl (L.map (·.2)) = rts L := by unfold rtl rts; rw [List.flatMap_map]
theorem rtl_len (l : List Rt) : (rtl l).length = 4 * l.length := by
  have := rts_len (l.map fun r => ((0 : Rat), r))
  rw [← rtl_rts, List.length_map, List.map_map] at this
  rw [← this]
  congr 2
  exact (List.map_id l).symm
theorem rtl_at : ∀ {l : List Rt} {k : Nat} (hk : k < l.length), (rtl l)[k * 4]? = some (.bool l[k].N.b) ∧ (rtl l)[k * 4 + 1]? = some (.slice l[k].N.A l[k].N.n l[k].N.c) ∧ (rtl l)[k * 4 + 2]? = some (.bool l[k].D.b) ∧ (rtl l)[k * 4 + 3]? = some (.slice l[k].D.A l[k].D.n l[k].D.c)
  | x :: l, 0, _ => ⟨rfl, rfl, rfl, rfl⟩
  | x :: l, k + 1, hk => by
    have ih := rtl_at (l := l) (k := k) (by simpa using hk)
    have e1 : (k + 1) * 4 = k * 4 + 1 + 1 + 1 + 1 := by omega
    rw [e1]
    exact ih
theorem rtl_set {l : List Rt} {k : Nat} (hk : k < l.length) (x : Rt) : ((((rtl l).set (k * 4) (.bool x.N.b)).set (k * 4 + 1) (.slice x.N.A x.N.n x.N.c)).set (k * 4 + 2) (.bool x.D.b)).set (k * 4 + 3) (.slice x.D.A x.D.n x.D.c) = rtl (l.set k x) := Srt.lset_flat rtC 4 rtC_len l k hk x
theorem noU32_rtl (l : List Rt) : noU32 (rtl l).toArray := fun i k h => by
  rw [List.getElem?_toArray] at h
  have hm := List.mem_of_getElem? h
  unfold rtl at hm
  rw [List.mem_flatMap] at hm
  obtain ⟨x, _, hx⟩ := hm
  simp [rtC] at hx
def RB (w : World) (g : Nat) (l : List Rt) : Prop := Blk w g 105 (rtl l).toArray
abbrev rput (w : World) (g k : Nat) (x : Rt) : World := (((w.setCell ⟨g, k * 4, none⟩ (.bool x.N.b)).setCell ⟨g, k * 4 + 1, none⟩ (.slice x.N.A x.N.n x.N.c)).setCell ⟨g, k * 4 + 2, none⟩ (.bool x.D.b)).setCell ⟨g, k * 4 + 3, none⟩ (.slice x.D.A x.D.n x.D.c)
section
variable {w w' : World} {g : Nat} {l : List Rt}
theorem rput_size (w : World) (g k : Nat) (x : Rt) : (rput w g k x).heap.size = w.heap.size := by simp
theorem rput_off (w : World) (g k : Nat) (x : Rt) (p : Addr) (hp : p.block ≠ g) : (rput w g k x).cell? p = w.cell? p := (off_set _ g _ _ p hp).trans ((off_set _ g _ _ p hp).trans ((off_set _ g _ _ p hp).trans (off_set w g _ _ p hp)))
theorem RB.lt (h : RB w g l) : g < w.heap.size := Blk.lt h
theorem RB.at_ (h : RB w g l) {k : Nat} (hk : k < l.length) : w.cell? ⟨g, k * 4, none⟩ = some (.bool l[k].N.b) ∧ w.cell? ⟨g, k * 4 + 1, none⟩ = some (.slice l[k].N.A l[k].N.n l[k].N.c) ∧ w.cell? ⟨g, k * 4 + 2, none⟩ = some (.bool l[k].D.b) ∧ w.cell? ⟨g, k * 4 + 3, none⟩ = some (.slice l[k].D.A l[k].D.n l[k].D.c) := by
  obtain ⟨h1, h2, h3, h4⟩ := rtl_at hk
  exact ⟨(Blk.cell h _).trans (by rw [List.getElem?_toArray]; exact h1), (Blk.cell h _).trans (by rw [List.getElem?_toArray]; exact h2), (Blk.cell h _).trans (by rw [List.getElem?_toArray]; exact h3), (Blk.cell h _).trans (by rw [List.getElem?_toArray]; exact h4)⟩
theorem RB.set_ (h : RB w g l) {k : Nat} (hk : k < l.length) (x : Rt) : RB (rput w g k x) g (l.set k x) := by
  have h1 := (((Blk.set_ h (k * 4) (.bool x.N.b)).set_ (k * 4 + 1) (.slice x.N.A x.N.n x.N.c)).set_ (k * 4 + 2) (.bool x.D.b)).set_ (k * 4 + 3) (.slice x.D.A x.D.n x.D.c)
  unfold RB
  rw [← rtl_set hk x]
  simpa using h1
theorem RB.go (h : RB w g l) (hb : Below w.heap.size w w') : RB w' g l := Blk.go h hb
theorem RB.reads (h : RB w g l) : Reads w w.heap.size 4 (some ⟨g, 0, none⟩) l.length (rtl l) := by
  refine ⟨(rtl_len l).trans (Nat.mul_comm 4 _), fun _ => ⟨_, rfl, h.lt, fun j u hu => ?_⟩⟩
  have e : (⟨g, 0, none⟩ : Addr).add j = ⟨g, j, none⟩ := by
    unfold Addr.add
    by_cases hj : j = 0
    · subst hj; rfl
    · simp [hj]
  rw [e]
  refine (Blk.cell h j).trans ?_
  rw [List.getElem?_toArray]; exact hu
theorem made_rat (n : Nat) : (madeCells #[.bool false, .slice none 0 0, .bool false, .slice none 0 0] (n * 4)).toList = rtl (List.replicate n rt0) := by
  apply List.ext_getElem?
  intro j
  by_cases hj : j < n * 4
  · have h2 : j % 4 < 4 := Nat.mod_lt _ (by decide)
    have h3 : j / 4 < (List.replicate n rt0).length := by rw [List.length_replicate]; omega
    have h1 := Srt.flat_at rtC 4 rtC_len (List.replicate n rt0) (j / 4) (j % 4) h3 h2
    rw [show j / 4 * 4 + j % 4 = j by omega, List.getElem_replicate] at h1
    unfold rtl
    rw [h1]
    have h4 : (madeCells #[Value.bool false, .slice none 0 0, .bool false, .slice none 0 0] (n * 4)).toList[j]? = some ((#[Value.bool false, .slice none 0 0, .bool false, .slice none 0 0] : Array Value)[j % 4]!) := by
      simp [madeCells, hj]
    rw [h4]
    generalize j % 4 = r at *
    match r, h2 with
    | 0, _ => rfl
    | 1, _ => rfl
    | 2, _ => rfl
    | 3, _ => rfl
  · rw [List.getElem?_eq_none (by simp [size_madeCells]; omega), List.getElem?_eq_none (by
      rw [rtl_len, List.length_replicate]
      omega)]
theorem make_rat (n : Nat) (hn : n ≤ 2199023255552) (w : World) : (Instr.makeSlice 94 (.int .i64 (n : Int)) (.int .i64 (n : Int))).run Tryz.prog w = .ok (.slice (some ⟨w.heap.size, 0, none⟩) n n) (w.alloc (.cells (rtl (List.replicate n rt0)).toArray 105)) := by
  obtain ⟨j0, ji0, jz0, jz1, jz2⟩ := info_parts info_rat
  have := run_make (P := Tryz.prog) w 94 105 j0 (.agg #[.bool false, .slice none 0 0, .bool false, .slice none 0 0]) Tryz.underlying94 ji0 jz0 .i64 .i64 n n (by omega) (by omega) (by rw [jz2]; omega) (by omega)
  rw [jz1, show (Value.agg #[.bool false, .slice none 0 0, .bool false, .slice none 0 0]).cells = #[.bool false, .slice none 0 0, .bool false, .slice none 0 0] from rfl] at this
  rw [show (rtl (List.replicate n rt0)).toArray = madeCells #[.bool false, .slice none 0 0, .bool false, .slice none 0 0] (n * 4) from by
    apply Array.ext'
    rw [made_rat]]
  simpa using this
end
structure RL (w : World) (g : Nat) (L : List (Rat × Rt)) (m : Nat) : Prop where
  blk : RB w g (L.map (·.2) ++ List.replicate m rt0)
  each : ∀ x ∈ L, RatIs w w.heap.size x.1 x.2
section
variable {w w' : World} {g g' m : Nat} {L : List (Rat × Rt)} {q : Rat} {x y : Rt} {t : TypeId} {cs : Array Value}
theorem RatIs.set_ (h : RatIs w w.heap.size q x) (hb : Blk w g t cs) (hc : noU32 cs) (i : Nat) (u : Value) : RatIs (w.setCell ⟨g, i, none⟩ u) (w.setCell ⟨g, i, none⟩ u).heap.size q x := by
  have e : (w.setCell ⟨g, i, none⟩ u).heap.size = w.heap.size := by simp
  rw [e]
  exact ⟨h.n.off hb hc (off_set w g i u), h.d.off hb hc (off_set w g i u)⟩
theorem RatIs.putR {l : List Rt} (h : RatIs w w.heap.size q x) (hb : RB w g l) (k : Nat) (y : Rt) : RatIs (rput w g k y) (rput w g k y).heap.size q x := by
  rw [rput_size]
  exact ⟨h.n.off hb (noU32_rtl l) (rput_off w g k y), h.d.off hb (noU32_rtl l) (rput_off w g k y)⟩
theorem RL.lt (h : RL w g L m) : g < w.heap.size := h.blk.lt
theorem RL.go (h : RL w g L m) (hb : Below w.heap.size w w') : RL w' g L m := ⟨h.blk.go hb, fun x hx => (h.each x hx).go hb⟩
theorem RL.new_ (w : World) (n : Nat) : RL (w.alloc (.cells (rtl (List.replicate n rt0)).toArray 105)) w.heap.size [] n := ⟨Blk.new_ w _ _ _ rfl, fun x hx => by cases hx⟩
theorem RL.add (h : RL w g L (m + 1)) (hx : RatIs w w.heap.size q x) : RL (rput w g L.length x) g (L ++ [(q, x)]) m := by
  refine ⟨?_, fun y hy => ?_⟩
  · have h1 := h.blk.set_ (k := L.length) (by simp) x
    rw [List.set_append_right _ _ (by rw [List.length_map]; exact Nat.le_refl _), List.length_map, Nat.sub_self, List.replicate_succ, List.set_cons_zero] at h1
    rw [List.map_append, List.append_assoc]
    exact h1
  · rw [List.mem_append] at hy
    rcases hy with hy | hy
    · exact (h.each y hy).putR h.blk _ _
    · rw [List.mem_singleton] at hy
      subst hy
      exact hx.putR h.blk _ _
theorem RL.set_ (h : RL w g L 0) (hx : RatIs w w.heap.size q x) {k : Nat} (hk : k < L.length) : RL (rput w g k x) g (L.set k (q, x)) 0 := by
  refine ⟨?_, fun y hy => ?_⟩
  · have h1 := h.blk.set_ (k := k) (by simp; omega) x
    rw [List.replicate_zero, List.append_nil] at h1 ⊢
    rw [List.map_set]
    exact h1
  · rcases List.mem_or_eq_of_mem_set hy with hy | hy
    · exact (h.each y hy).putR h.blk _ _
    · subst hy
      exact hx.putR h.blk _ _
theorem RL.at_ (h : RL w g L m) {k : Nat} (hk : k < L.length) : w.cell? ⟨g, k * 4, none⟩ = some (.bool L[k].2.N.b) ∧ w.cell? ⟨g, k * 4 + 1, none⟩ = some (.slice L[k].2.N.A L[k].2.N.n L[k].2.N.c) ∧ w.cell? ⟨g, k * 4 + 2, none⟩ = some (.bool L[k].2.D.b) ∧ w.cell? ⟨g, k * 4 + 3, none⟩ = some (.slice L[k].2.D.A L[k].2.D.n L[k].2.D.c) := by
  have h1 := h.blk.at_ (k := k) (by simp; omega)
  rw [List.getElem_append_left (by simpa using hk)] at h1
  simpa using h1
theorem RL.rats (h : RL w g L 0) : RatsIs w w.heap.size (some ⟨g, 0, none⟩) L.length L := by
  have h1 := h.blk
  rw [List.replicate_zero, List.append_nil] at h1
  have h2 := h1.reads
  rw [rtl_rts, List.length_map] at h2
  exact ⟨h2, h.each⟩
theorem RL.frozen (h : RL w g L m) (k : Nat) : w.frozen? ⟨g, k, none⟩ = false := Blk.frozen h.blk k
end
end Go.Proofs.YtoblpcljhblnmaaGreatDoor
namespace Go.Proofs.YtoblpcljhblnmaaGreatDoor
open Go.RowKit
set_option maxRecDepth 100000
def ParseASaid (qs : List Rat) (n : Nat) (w : World) (e : Ending) (w' : World) : Prop :=
  ∃ (g : Nat) (L : List (Rat × Rt)), e = .returned (.slice (some ⟨g, 0, none⟩) n n) ∧ w.heap.size ≤ g ∧ RL w' g L 0 ∧ L.map (·.1) = qs ∧ Below w.heap.size w w'
end Go.Proofs.YtoblpcljhblnmaaGreatDoor
