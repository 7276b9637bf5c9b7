/- The reference's machine in memory: words. No condition. The reference's machine: after answers where an expression ends. Condition: the machine reads. -/
import Derived.Test.YtpamgeemmbbkkaaBlk15
import Derived.Test.YtpamgeemmbbkkaaBlk06
namespace Go.Proofs.Ytpamgeemmbbkkaa
open Go.RowKit
/-- where a machine lies -/
structure MC where
  mm : Nat
  A : Option Addr
  n : Nat
  c : Nat
  l : List MRul
  oV : Value
  tV : Value
  gO : Nat
  gT : Nat
  cO : Nat
  cT : Nat
  gV : Nat
  gD : Nat
  rO : Nat → Nat
  rT : Nat → Nat
  H : Nat
def MC.len (M : MC) (k : Nat) : Nat := match M.l[k]? with | some o => o.ex.length | none => 0
def MC.S (M : MC) (i : Nat) : Prop := i = M.gV ∨ i = M.gD ∨ ∃ k, k < M.n ∧ (i = M.rO k ∨ i = M.rT k)
def rowB (κ : Nat → Nat → Pl.Mem) (k m : Nat) : Array Value := ((List.range m).map fun a => Value.bool (κ k a).1).toArray
def rowI (κ : Nat → Nat → Pl.Mem) (k m : Nat) : Array Value := ((List.range m).map fun a => Value.int .i64 (κ k a).2).toArray
/-- the machine: its latches and delays κ, values, and which rules are done -/
structure MSt (M : MC) (w : World) (κ : Nat → Nat → Pl.Mem) (vs ds : List Bool) : Prop where
  mach : Blk w M.mm 114 #[.slice M.A M.n M.c, M.oV, M.tV, .slice (some ⟨M.gV, 0, none⟩) M.n M.n, .slice (some ⟨M.gD, 0, none⟩) M.n M.n]
  hO : 0 < M.n → M.oV = .slice (some ⟨M.gO, 0, none⟩) M.n M.cO
  hT : 0 < M.n → M.tV = .slice (some ⟨M.gT, 0, none⟩) M.n M.cT
  rules : Ruls w M.H M.A M.n M.l
  outO : 0 < M.n → ∃ cs, Blk w M.gO 110 cs ∧ ∀ k, k < M.n → cs[k]? = some (.slice (some ⟨M.rO k, 0, none⟩) (M.len k) (M.len k))
  outT : 0 < M.n → ∃ cs, Blk w M.gT 45 cs ∧ ∀ k, k < M.n → cs[k]? = some (.slice (some ⟨M.rT k, 0, none⟩) (M.len k) (M.len k))
  rowO : ∀ k, k < M.n → Blk w (M.rO k) 4 (rowB κ k (M.len k))
  rowT : ∀ k, k < M.n → Blk w (M.rT k) 3 (rowI κ k (M.len k))
  vals : Bools w M.gV M.n vs
  done : Bools w M.gD M.n ds
  low : M.H ≤ w.heap.size ∧ ∀ i, M.S i → M.H ≤ i
  apart : M.gV ≠ M.gD ∧ (∀ i j, i < M.n → j < M.n → i ≠ j → M.rO i ≠ M.rO j ∧ M.rT i ≠ M.rT j) ∧ ∀ k, k < M.n → M.rO k ≠ M.gV ∧ M.rO k ≠ M.gD
theorem rowB_at {κ : Nat → Nat → Pl.Mem} {k m a : Nat} (ha : a < m) : (rowB κ k m)[a]? = some (.bool (κ k a).1) := by unfold rowB; simp [ha]
theorem rowI_at {κ : Nat → Nat → Pl.Mem} {k m a : Nat} (ha : a < m) : (rowI κ k m)[a]? = some (.int .i64 (κ k a).2) := by unfold rowI; simp [ha]
theorem rowB_set (κ : Nat → Nat → Pl.Mem) (k m a : Nat) (x : Bool) (t : Int) : (rowB κ k m).setIfInBounds a (.bool x) = rowB (Pl.kapp κ k [(a, (x, t))]) k m := by
  unfold rowB
  apply Array.ext'
  rw [Array.toList_setIfInBounds]
  refine List.ext_getElem? (fun i => ?_)
  rw [List.getElem?_set, List.getElem?_map, List.getElem?_map]
  simp only [List.length_map, List.length_range, Pl.kapp_self, Pl.app, List.foldl, Pl.put1]
  by_cases hi : i < m
  · have hr : (List.range m)[i]? = some i := by simp [hi]
    rw [hr]
    by_cases e : a = i
    · subst e; simp [hi]
    · have e' : ¬ i = a := fun h => e h.symm
      simp [e, e']
  · have hr : (List.range m)[i]? = none := by simp; omega
    rw [hr]
    by_cases e : a = i
    · subst e; simp [hi]
    · simp [e]
theorem rowI_set (κ : Nat → Nat → Pl.Mem) (k m a : Nat) (x : Bool) (t : Int) : (rowI κ k m).setIfInBounds a (.int .i64 t) = rowI (Pl.kapp κ k [(a, (x, t))]) k m := by
  unfold rowI
  apply Array.ext'
  rw [Array.toList_setIfInBounds]
  refine List.ext_getElem? (fun i => ?_)
  rw [List.getElem?_set, List.getElem?_map, List.getElem?_map]
  simp only [List.length_map, List.length_range, Pl.kapp_self, Pl.app, List.foldl, Pl.put1]
  by_cases hi : i < m
  · have hr : (List.range m)[i]? = some i := by simp [hi]
    rw [hr]
    by_cases e : a = i
    · subst e; simp [hi]
    · have e' : ¬ i = a := fun h => e h.symm
      simp [e, e']
  · have hr : (List.range m)[i]? = none := by simp; omega
    rw [hr]
    by_cases e : a = i
    · subst e; simp [hi]
    · simp [e]
theorem rowB_congr {κ κ' : Nat → Nat → Pl.Mem} {k m : Nat} (h : ∀ a, (κ k a).1 = (κ' k a).1) : rowB κ k m = rowB κ' k m := by unfold rowB; simp [h]
theorem rowI_congr {κ κ' : Nat → Nat → Pl.Mem} {k m : Nat} (h : ∀ a, (κ k a).2 = (κ' k a).2) : rowI κ k m = rowI κ' k m := by unfold rowI; simp [h]
section
variable {M : MC} {w w' : World} {κ κ' : Nat → Nat → Pl.Mem} {vs ds : List Bool}
theorem MSt.go (h : MSt M w κ vs ds) (hb : Below w.heap.size w w') : MSt M w' κ vs ds :=
  ⟨h.mach.go hb, h.hO, h.hT, h.rules.below (hb.mono h.low.1), fun hn => let ⟨cs, h1, h2⟩ := h.outO hn; ⟨cs, h1.go hb, h2⟩, fun hn => let ⟨cs, h1, h2⟩ := h.outT hn; ⟨cs, h1.go hb, h2⟩, fun k hk => (h.rowO k hk).go hb, fun k hk => (h.rowT k hk).go hb, h.vals.go hb, h.done.go hb, ⟨Nat.le_trans h.low.1 hb.size, h.low.2⟩, h.apart⟩
theorem MSt.sub (h : MSt M w κ vs ds) : ∀ i, M.S i → i < w.heap.size := by
  rintro i (rfl | rfl | ⟨k, hk, rfl | rfl⟩)
  · exact h.vals.2.lt
  · exact h.done.2.lt
  · exact (h.rowO k hk).lt
  · exact (h.rowT k hk).lt
/-- On[k][a] is written -/
theorem MSt.setOn (h : MSt M w κ vs ds) {k : Nat} (hk : k < M.n) (a : Nat) (x : Bool) : MSt M (w.setCell ⟨M.rO k, a, none⟩ (.bool x)) (Pl.kapp κ k [(a, (x, (κ k a).2))]) vs ds := by
  have f : Fr (fun i => i = M.rO k) w (w.setCell ⟨M.rO k, a, none⟩ (.bool x)) := (Fr.refl _ w).set_ _ _ (.inr rfl)
  have hb : Below M.H w (w.setCell ⟨M.rO k, a, none⟩ (.bool x)) := f.to_below (fun i e => by subst e; exact h.low.2 _ (.inr (.inr ⟨k, hk, .inl rfl⟩))) h.low.1
  have ro := h.rowO k hk
  have ne : ∀ {g : Nat} {t : TypeId} {cs : Array Value}, Blk w g t cs → t ≠ 4 → g ≠ M.rO k := fun hg ht => hg.ne_ ro ht
  refine ⟨f.blk h.mach (ne h.mach (by decide)), h.hO, h.hT, h.rules.below hb, fun hn => ?_, fun hn => ?_, fun j hj => ?_, fun j hj => ?_, ⟨h.vals.1, f.blk h.vals.2 (fun e => (h.apart.2.2 k hk).1 e.symm)⟩, ⟨h.done.1, f.blk h.done.2 (fun e => (h.apart.2.2 k hk).2 e.symm)⟩, ⟨by simpa using h.low.1, h.low.2⟩, h.apart⟩
  · obtain ⟨cs, h1, h2⟩ := h.outO hn; exact ⟨cs, f.blk h1 (ne h1 (by decide)), h2⟩
  · obtain ⟨cs, h1, h2⟩ := h.outT hn; exact ⟨cs, f.blk h1 (ne h1 (by decide)), h2⟩
  · by_cases e : j = k
    · subst e
      rw [← rowB_set κ j (M.len j) a x]
      exact ro.set_ a _
    · have := f.blk (h.rowO j hj) (h.apart.2.1 j k hj hk e).1
      rw [rowB_congr (κ' := κ) (fun b => by rw [Pl.kapp_other e])]
      exact this
  · have := f.blk (h.rowT j hj) (ne (h.rowT j hj) (by decide))
    rw [rowI_congr (κ' := κ) (fun b => ?_)]
    · exact this
    · by_cases e : j = k
      · subst e
        rw [Pl.kapp_self]
        simp only [Pl.app, List.foldl, Pl.put1]
        split
        · rename_i e; rw [e]
        · rfl
      · rw [Pl.kapp_other e]
/-- Timers[k][a] is written -/
theorem MSt.setTm (h : MSt M w κ vs ds) {k : Nat} (hk : k < M.n) (a : Nat) (t : Int) : MSt M (w.setCell ⟨M.rT k, a, none⟩ (.int .i64 t)) (Pl.kapp κ k [(a, ((κ k a).1, t))]) vs ds := by
  have f : Fr (fun i => i = M.rT k) w (w.setCell ⟨M.rT k, a, none⟩ (.int .i64 t)) := (Fr.refl _ w).set_ _ _ (.inr rfl)
  have hb : Below M.H w (w.setCell ⟨M.rT k, a, none⟩ (.int .i64 t)) := f.to_below (fun i e => by subst e; exact h.low.2 _ (.inr (.inr ⟨k, hk, .inr rfl⟩))) h.low.1
  have ro := h.rowT k hk
  have ne : ∀ {g : Nat} {ty : TypeId} {cs : Array Value}, Blk w g ty cs → ty ≠ 3 → g ≠ M.rT k := fun hg ht => hg.ne_ ro ht
  refine ⟨f.blk h.mach (ne h.mach (by decide)), h.hO, h.hT, h.rules.below hb, fun hn => ?_, fun hn => ?_, fun j hj => ?_, fun j hj => ?_, ⟨h.vals.1, f.blk h.vals.2 (ne h.vals.2 (by decide))⟩, ⟨h.done.1, f.blk h.done.2 (ne h.done.2 (by decide))⟩, ⟨by simpa using h.low.1, h.low.2⟩, h.apart⟩
  · obtain ⟨cs, h1, h2⟩ := h.outO hn; exact ⟨cs, f.blk h1 (ne h1 (by decide)), h2⟩
  · obtain ⟨cs, h1, h2⟩ := h.outT hn; exact ⟨cs, f.blk h1 (ne h1 (by decide)), h2⟩
  · have := f.blk (h.rowO j hj) (ne (h.rowO j hj) (by decide))
    rw [rowB_congr (κ' := κ) (fun b => ?_)]
    · exact this
    · by_cases e : j = k
      · subst e
        rw [Pl.kapp_self]
        simp only [Pl.app, List.foldl, Pl.put1]
        split
        · rename_i e; rw [e]
        · rfl
      · rw [Pl.kapp_other e]
  · by_cases e : j = k
    · subst e
      rw [← rowI_set κ j (M.len j) a _ t]
      exact ro.set_ a _
    · have := f.blk (h.rowT j hj) (h.apart.2.1 j k hj hk e).2
      rw [rowI_congr (κ' := κ) (fun b => by rw [Pl.kapp_other e])]
      exact this
/-- a rule's value, and that it is done -/
theorem MSt.setVal (h : MSt M w κ vs ds) (k : Nat) (x : Bool) : MSt M (w.setCell ⟨M.gV, k, none⟩ (.bool x)) κ (vs.set k x) ds := by
  have f : Fr (fun i => i = M.gV) w (w.setCell ⟨M.gV, k, none⟩ (.bool x)) := (Fr.refl _ w).set_ _ _ (.inr rfl)
  have hb : Below M.H w (w.setCell ⟨M.gV, k, none⟩ (.bool x)) := f.to_below (fun i e => by subst e; exact h.low.2 _ (.inl rfl)) h.low.1
  have ne : ∀ {g : Nat} {ty : TypeId} {cs : Array Value}, Blk w g ty cs → ty ≠ 4 → g ≠ M.gV := fun hg ht => hg.ne_ h.vals.2 ht
  refine ⟨f.blk h.mach (ne h.mach (by decide)), h.hO, h.hT, h.rules.below hb, fun hn => ?_, fun hn => ?_, fun j hj => f.blk (h.rowO j hj) (h.apart.2.2 j hj).1, fun j hj => f.blk (h.rowT j hj) (ne (h.rowT j hj) (by decide)), h.vals.set_ k x, ⟨h.done.1, f.blk h.done.2 (fun e => h.apart.1 e.symm)⟩, ⟨by simpa using h.low.1, h.low.2⟩, h.apart⟩
  · obtain ⟨cs, h1, h2⟩ := h.outO hn; exact ⟨cs, f.blk h1 (ne h1 (by decide)), h2⟩
  · obtain ⟨cs, h1, h2⟩ := h.outT hn; exact ⟨cs, f.blk h1 (ne h1 (by decide)), h2⟩
theorem MSt.setDone (h : MSt M w κ vs ds) (k : Nat) (x : Bool) : MSt M (w.setCell ⟨M.gD, k, none⟩ (.bool x)) κ vs (ds.set k x) := by
  have f : Fr (fun i => i = M.gD) w (w.setCell ⟨M.gD, k, none⟩ (.bool x)) := (Fr.refl _ w).set_ _ _ (.inr rfl)
  have hb : Below M.H w (w.setCell ⟨M.gD, k, none⟩ (.bool x)) := f.to_below (fun i e => by subst e; exact h.low.2 _ (.inr (.inl rfl))) h.low.1
  have ne : ∀ {g : Nat} {ty : TypeId} {cs : Array Value}, Blk w g ty cs → ty ≠ 4 → g ≠ M.gD := fun hg ht => hg.ne_ h.done.2 ht
  refine ⟨f.blk h.mach (ne h.mach (by decide)), h.hO, h.hT, h.rules.below hb, fun hn => ?_, fun hn => ?_, fun j hj => f.blk (h.rowO j hj) (h.apart.2.2 j hj).2, fun j hj => f.blk (h.rowT j hj) (ne (h.rowT j hj) (by decide)), ⟨h.vals.1, f.blk h.vals.2 h.apart.1⟩, h.done.set_ k x, ⟨by simpa using h.low.1, h.low.2⟩, h.apart⟩
  · obtain ⟨cs, h1, h2⟩ := h.outO hn; exact ⟨cs, f.blk h1 (ne h1 (by decide)), h2⟩
  · obtain ⟨cs, h1, h2⟩ := h.outT hn; exact ⟨cs, f.blk h1 (ne h1 (by decide)), h2⟩
/-- the record written out, for a rule k of it -/
theorem MSt.full (h : MSt M w κ vs ds) (hn : 0 < M.n) : Blk w M.mm 114 #[.slice M.A M.n M.c, .slice (some ⟨M.gO, 0, none⟩) M.n M.cO, .slice (some ⟨M.gT, 0, none⟩) M.n M.cT, .slice (some ⟨M.gV, 0, none⟩) M.n M.n, .slice (some ⟨M.gD, 0, none⟩) M.n M.n] := by
  have := h.mach
  rw [h.hO hn, h.hT hn] at this
  exact this
/-- times in their range, and none at a latch -/
def TmL (M : MC) (κ : Nat → Nat → Pl.Mem) : Prop := Pl.Times κ ∧ ∀ (k : Nat) (o : MRul) (a : Nat) (x : Pl.RN), M.l[k]? = some o → o.ex[a]? = some x → x.op = 7 → (κ k a).2 = 0
theorem TmL.put (h : TmL M κ) {k a : Nat} {y : Pl.Mem} (hy : 0 ≤ y.2 ∧ y.2 ≤ 1000000) (hl : ∀ (o : MRul) (x : Pl.RN), M.l[k]? = some o → o.ex[a]? = some x → x.op = 7 → y.2 = 0) : TmL M (Pl.kapp κ k [(a, y)]) := by
  refine ⟨h.1.kapp (fun u hu => by simp at hu; subst hu; exact hy), fun j o b x ho hx h7 => ?_⟩
  by_cases e : j = k
  · subst e
    rw [Pl.kapp_self]
    simp only [Pl.app, List.foldl, Pl.put1]
    split
    · rename_i e; subst e; exact hl o x ho hx h7
    · exact h.2 j o b x ho hx h7
  · rw [Pl.kapp_other e]; exact h.2 j o b x ho hx h7
/-- memory behind a call: the writes us to rule k's places -/
def MPost (M : MC) (Inv : (Nat → Nat → Pl.Mem) → List Bool → List Bool → Prop) (w : World) (κ : Nat → Nat → Pl.Mem) (k : Nat) (us : List (Nat × Pl.Mem)) (w' : World) : Prop :=
  ∃ κ' vs' ds', MSt M w' κ' vs' ds' ∧ Inv κ' vs' ds' ∧ κ' k = Pl.app (κ k) us ∧ TmL M κ' ∧ Fr M.S w w'
end
/-- what an evaluation at rule k may ask: flags of other rules, by name -/
structure Env (M : MC) (F : ByteArray → Bool) (Inv : (Nat → Nat → Pl.Mem) → List Bool → List Bool → Prop) (ms : Int) (Af : Option Addr) (nf cf : Nat) (fs : List ByteArray) (NS : List ByteArray) (k : Nat) : Prop where
  loc : ∀ κ vs ds us, Inv κ vs ds → Inv (Pl.kapp κ k us) vs ds
  flag : ∀ nm ∈ NS, ∀ i : Nat, i < M.n → Pl.ruleI (prl M.l) nm = (i : Int) → ∀ w κ vs ds, MSt M w κ vs ds → Reads w M.H 1 Af nf (txts fs) → Inv κ vs ds → TmL M κ →
    Calls Try.prog 48 #[.pointer (some ⟨M.mm, 0, none⟩), .int .i64 (i : Int), .int .i64 ms, .slice Af nf cf] w fun e w' => e = .returned (.bool (F nm)) ∧ MPost M Inv w κ k [] w'
  miss : ∀ nm ∈ NS, Pl.ruleI (prl M.l) nm < 0 → F nm = Pl.inB fs nm
/-- the contract of the reference's evaluation -/
def EvR (M : MC) (F : ByteArray → Bool) (Inv : (Nat → Nat → Pl.Mem) → List Bool → List Bool → Prop) (ms : Int) (Af : Option Addr) (nf cf : Nat) (fs : List ByteArray) (k at_ e : Nat) (t : Pl.RT) : Prop :=
  ∀ w κ vs ds, MSt M w κ vs ds → Reads w M.H 1 Af nf (txts fs) → Inv κ vs ds → TmL M κ →
    Calls Try.prog 87 #[.pointer (some ⟨M.mm, 0, none⟩), .int .i64 (k : Int), .int .i64 (at_ : Int), .int .i64 ms, .slice Af nf cf] w fun e' w' =>
      e' = .returned (.tuple #[.bool (Pl.val F ms (κ k) t), .int .i64 (e : Int)]) ∧ MPost M Inv w κ k (Pl.upd F ms (κ k) t) w'
end Go.Proofs.Ytpamgeemmbbkkaa
namespace Go.Proofs.Ytpamgeemmbbkkaa
open Go.RowKit
set_option maxRecDepth 100000
theorem mrul_at {M : MC} {w : World} {κ : Nat → Nat → Pl.Mem} {vs ds : List Bool} (h : MSt M w κ vs ds) {k at_ : Nat} {o : MRul} {x : Pl.RN} (hk : M.l[k]? = some o) (hx : o.ex[at_]? = some x) :
    k < M.n ∧ at_ < o.n ∧ o.n = M.len k ∧ ∃ b0 o0 b1 o1, M.A = some ⟨b0, o0, none⟩ ∧ o.A = some ⟨b1, o1, none⟩ ∧ b0 < w.heap.size ∧ b1 < w.heap.size ∧ w.cell? ⟨b0, o0 + k * 2, none⟩ = some (.string o.nm) ∧ w.cell? ⟨b0, o0 + k * 2 + 1, none⟩ = some (.slice (some ⟨b1, o1, none⟩) o.n o.c) ∧
      w.cell? ⟨b1, o1 + at_ * 3, none⟩ = some (.int .i64 x.op) ∧ w.cell? ⟨b1, o1 + at_ * 3 + 1, none⟩ = some (.string x.name) ∧ w.cell? ⟨b1, o1 + at_ * 3 + 2, none⟩ = some (.int .i64 x.value) := by
  obtain ⟨hl, e⟩ := List.getElem?_eq_some_iff.1 hk
  have hkn : k < M.n := by have := h.rules.len; omega
  obtain ⟨b0, o0, hA, hb0, hlk, p0, p1, hri⟩ := rul_at h.rules hkn
  rw [e] at p0 p1 hri
  obtain ⟨han, b1, o1, hA1, hb1, r0, r1, r2⟩ := rn_is hri.2.2.1 hx
  rw [hA1] at p1
  have hlen : o.n = M.len k := by unfold MC.len; rw [hk]; exact hri.2.2.1.2.symm
  exact ⟨hkn, han, hlen, b0, o0, b1, o1, hA, hA1, Nat.lt_of_lt_of_le hb0 h.low.1, Nat.lt_of_lt_of_le hb1 h.low.1, p0, p1, r0, r1, r2⟩
def AftOk (M : MC) (k at_ e : Nat) : Prop := ∀ w κ vs ds, MSt M w κ vs ds → Calls Try.prog 101 #[.pointer (some ⟨M.mm, 0, none⟩), .int .i64 (k : Int), .int .i64 (at_ : Int)] w fun e' w' => e' = .returned (.int .i64 (e : Int)) ∧ w' = w
set_option maxHeartbeats 1600000 in
theorem after_step {M : MC} {k at_ : Nat} {o : MRul} {x : Pl.RN} (hk : M.l[k]? = some o) (hx : o.ex[at_]? = some x) (hsm : o.n ≤ 64) (ps : Nat → Nat) (cnt : Nat) (hc : Pl.opn x.op = cnt) (h0 : ps 0 = at_ + 1) (hps : ∀ j, j ≤ cnt → ps j ≤ 64) (ih : ∀ j, j < cnt → AftOk M k (ps j) (ps (j + 1))) : AftOk M k at_ (ps cnt) := by
  intro w κ vs ds h
  obtain ⟨hkn, han, _, b0, o0, b1, o1, hA, hA1, hb0, hb1, p0, p1, r0, r1, r2⟩ := mrul_at h hk hx
  have q0 := h.mach.cell 0
  rw [hA] at q0
  have HM := Lib.hid h
  have HIH := Lib.hid ih
  have HPS := Lib.hid hps
  have H0 : Hid (((ps 0 : Nat) : Int) = (at_ : Int) + 1) := by show _ = _; omega
  have HOP := Lib.hid (fun W => opq_any x.op W)
  rw [hc] at HOP
  have hcl : cnt ≤ 2 := by rw [← hc]; exact Pl.opn_le _
  have hml := h.mach.lt
  have k0 : (0 : Int) ≤ (k : Int) := by omega
  have k1 : (k : Int) < (M.n : Int) := by omega
  have a0 : (0 : Int) ≤ (at_ : Int) := by omega
  have a1 : (at_ : Int) < (o.n : Int) := by omega
  generalize x.op = op at *
  clear h hk hx hA hA1 ih hps h0 hc r1 r2 p0
  go_enter Try.func101, Try.ntmps101
  go_wp2_with fail
  refine (HOP.out _).mono ?_
  rintro e w1 ⟨rfl, rfl⟩
  go_wp2_with fail
  go_loopw [7, 23] (fun nx i wr => ∃ j : Nat, j ≤ cnt ∧ i = .int .i64 j ∧ nx = .int .i64 (ps j : Nat) ∧ w1 = wr) (fun _ i _ => cnt - (intOf i).toNat)
  case atStart => exact ⟨0, Nat.zero_le _, rfl, by rw [H0.out], rfl⟩
  case round =>
    obtain ⟨j, hj, rfl, rfl, rfl⟩ := hrel
    by_cases hlt : j < cnt
    · have HC := Lib.hid (HIH.out j hlt w1 κ vs ds HM.out)
      have hpj := HPS.out j hj
      have hpj1 := HPS.out (j + 1) (by omega)
      have hj1 : (j : Int) < (cnt : Int) := by omega
      go_wp2_with fail
      refine HC.out.mono ?_
      rintro e w2 ⟨rfl, rfl⟩
      go_wp2_with fail
      go_roundw
      case rel => exact ⟨j + 1, by omega, by go_num, rfl, by first | exact rfl | trivial⟩
      case measure => simp [intOf]; omega
    · have hjj : j = cnt := by omega
      subst hjj
      have hj1 : ¬ ((j : Int) < (j : Int)) := by omega
      go_wp2_with fail
      go_ret
      exact ⟨rfl, rfl⟩
theorem after_any {M : MC} {k : Nat} {o : MRul} (hk : M.l[k]? = some o) (hsm : o.n ≤ 64) (hlen : o.ex.length = o.n) {at_ e : Nat} {t : Pl.RT} (h : Pl.IsT o.ex at_ e t) : AftOk M k at_ e := by
  induction h with
  | @leaf at_ x hx h0 =>
    have hl := (List.getElem?_eq_some_iff.1 hx).1
    exact after_step hk hx hsm (fun _ => at_ + 1) 0 h0 rfl (fun j hj => by omega) (fun j hj => by omega)
  | @un at_ e x a hx h0 ha ih =>
    have := ha.le
    have := ha.lt
    exact after_step hk hx hsm (fun j => if j = 0 then at_ + 1 else e) 1 h0 rfl (fun j hj => by split <;> omega) (fun j hj => by
      have : j = 0 := by omega
      subst this; exact ih)
  | @bin at_ m e x a b hx h0 ha hb ih1 ih2 =>
    have := hb.le
    have := ha.lt
    have := hb.lt
    exact after_step hk hx hsm (fun j => if j = 0 then at_ + 1 else if j = 1 then m else e) 2 h0 rfl (fun j hj => by split <;> (try split) <;> omega) (fun j hj => by
      have : j = 0 ∨ j = 1 := by omega
      rcases this with rfl | rfl
      · exact ih1
      · exact ih2)
end Go.Proofs.Ytpamgeemmbbkkaa
