/- What a relay's program computes in a step, plain: expressions as trees. No program. The relay's own map: a place of a rule's expression to what is kept there, as a function. No condition. -/
import Derived.Test.YtpamgeemmbbkkaaBlk01
import Derived.Test.YtpamgeemmbbkkaaBase
import Derived.Maps.OwnSet
import Derived.Maps.OwnOps
import Derived.DeepKeys4
namespace Go.Proofs.Ytpamgeemmbbkkaa.Pl
inductive RT where
  | leaf (at_ : Nat) (x : RN)
  | un (at_ : Nat) (x : RN) (a : RT)
  | bin (at_ : Nat) (x : RN) (a b : RT)
/-- the expression from 'at' to 'e' is this tree -/
inductive IsT (ex : List RN) : Nat → Nat → RT → Prop where
  | leaf {at_ : Nat} {x : RN} : ex[at_]? = some x → opn x.op = 0 → IsT ex at_ (at_ + 1) (.leaf at_ x)
  | un {at_ e : Nat} {x : RN} {a : RT} : ex[at_]? = some x → opn x.op = 1 → IsT ex (at_ + 1) e a → IsT ex at_ e (.un at_ x a)
  | bin {at_ m e : Nat} {x : RN} {a b : RT} : ex[at_]? = some x → opn x.op = 2 → IsT ex (at_ + 1) m a → IsT ex m e b → IsT ex at_ e (.bin at_ x a b)
theorem IsT.lt {ex : List RN} {at_ e : Nat} {t : RT} (h : IsT ex at_ e t) : at_ < e := by
  induction h with
  | leaf _ _ => omega
  | un _ _ _ ih => omega
  | bin _ _ _ _ ih1 ih2 => omega
theorem IsT.le {ex : List RN} {at_ e : Nat} {t : RT} (h : IsT ex at_ e t) : e ≤ ex.length := by
  induction h with
  | leaf h _ => have := (List.getElem?_eq_some_iff.1 h).1; omega
  | un _ _ _ ih => exact ih
  | bin _ _ _ _ _ ih2 => exact ih2
theorem drop_get {ex : List RN} {at_ : Nat} {x : RN} (h : ex[at_]? = some x) : ex.drop at_ = x :: ex.drop (at_ + 1) := by
  obtain ⟨hl, e⟩ := List.getElem?_eq_some_iff.1 h
  rw [List.drop_eq_getElem_cons hl, e]
/-- needs served by a tree -/
theorem IsT.endG {ex : List RN} {at_ e : Nat} {t : RT} (h : IsT ex at_ e t) : ∀ n, Pl.endG (n + 1) (ex.drop at_) = (Pl.endG n (ex.drop e)).map (· + (e - at_)) := by
  induction h with
  | @leaf at_ x h h0 =>
    intro n
    rw [drop_get h]
    show (Pl.endG (n + opn x.op) (ex.drop (at_ + 1))).map (· + 1) = _
    rw [h0, Nat.add_zero, show at_ + 1 - at_ = 1 by omega]
  | @un at_ e x a h h0 ha ih =>
    intro n
    rw [drop_get h]
    show (Pl.endG (n + opn x.op) (ex.drop (at_ + 1))).map (· + 1) = _
    rw [h0, ih n, Option.map_map]
    have := ha.lt
    congr 1
    funext c
    show c + (e - (at_ + 1)) + 1 = c + (e - at_)
    omega
  | @bin at_ m e x a b h h0 ha hb ih1 ih2 =>
    intro n
    rw [drop_get h]
    show (Pl.endG (n + opn x.op) (ex.drop (at_ + 1))).map (· + 1) = _
    rw [h0, show n + 2 = (n + 1) + 1 by omega, ih1 (n + 1), ih2 n, Option.map_map, Option.map_map]
    have := ha.lt
    have := hb.lt
    congr 1
    funext c
    show c + (e - m) + (m - (at_ + 1)) + 1 = c + (e - at_)
    omega
theorem IsT.end_ {ex : List RN} {at_ e : Nat} {t : RT} (h : IsT ex at_ e t) : endI ex at_ = e := by
  unfold endI
  rw [h.endG 0]
  have := h.lt
  have e0 : Pl.endG 0 (ex.drop e) = some 0 := by simp [Pl.endG]
  rw [e0]
  show ((at_ + (0 + (e - at_)) : Nat) : Int) = e
  omega
/-- every expression is a tree -/
theorem tree_of (ex : List RN) : ∀ (s at_ c : Nat), ex.length - at_ ≤ s → Pl.endG 1 (ex.drop at_) = some c → ∃ t, IsT ex at_ (at_ + c) t
  | 0, at_, c, hs, h => by
    rw [List.drop_of_length_le (by omega)] at h
    unfold Pl.endG at h; cases h
  | s + 1, at_, c, hs, h => by
    rcases Nat.lt_or_ge at_ ex.length with hl | hl
    · have hg : ex[at_]? = some ex[at_] := List.getElem?_eq_getElem hl
      have hd := drop_get hg
      rw [hd] at h
      have h : (Pl.endG (0 + opn ex[at_].op) (ex.drop (at_ + 1))).map (· + 1) = some c := h
      rw [Nat.zero_add] at h
      cases e : Pl.endG (opn ex[at_].op) (ex.drop (at_ + 1)) with
      | none => rw [e] at h; cases h
      | some d =>
        rw [e] at h
        have h : d + 1 = c := by simpa using h
        subst h
        have ho := opn_le ex[at_].op
        have hc : opn ex[at_].op = 0 ∨ opn ex[at_].op = 1 ∨ opn ex[at_].op = 2 := by omega
        rcases hc with h0 | h1 | h2
        · rw [h0] at e
          have e : 0 = d := by simpa [Pl.endG] using e
          subst e
          exact ⟨_, .leaf hg h0⟩
        · rw [h1] at e
          obtain ⟨a, ha⟩ := tree_of ex s (at_ + 1) d (by omega) e
          rw [show at_ + 1 + d = at_ + (d + 1) by omega] at ha
          exact ⟨_, .un hg h1 ha⟩
        · rw [h2, show (2 : Nat) = 1 + 1 by rfl] at e
          obtain ⟨p, q, e1, e2, e3⟩ := endG_add (ex.drop (at_ + 1)) 1 e
          obtain ⟨a, ha⟩ := tree_of ex s (at_ + 1) p (by omega) e1
          rw [List.drop_drop] at e2
          obtain ⟨b, hb⟩ := tree_of ex s (at_ + 1 + p) q (by omega) e2
          rw [show at_ + 1 + p + q = at_ + (d + 1) by omega] at hb
          exact ⟨_, .bin hg h2 ha hb⟩
    · rw [List.drop_of_length_le hl] at h
      unfold Pl.endG at h; cases h
/-- what a delay or a latch keeps -/
abbrev Mem := Bool × Int
def tim (ms : Int) (m : Mem) : Int := if m.1 = true then min (m.2 + ms) 1000000 else 0
section
variable (fl : ByteArray → Bool) (ms : Int) (m : Nat → Mem)
def val : RT → Bool
  | .leaf _ x => if x.op = 0 then fl x.name else if x.op = 1 then decide (x.value < 0) else decide (0 < x.value)
  | .un at_ x a => if x.op = 3 then !val a else (m at_).1 && decide (x.value ≤ tim ms (m at_))
  | .bin at_ x a b => if x.op = 4 then val a && val b else if x.op = 5 then val a || val b else ((m at_).1 || val a) && !val b
/-- what an evaluation writes, in its order -/
def upd : RT → List (Nat × Mem)
  | .leaf _ _ => []
  | .un at_ x a => if x.op = 3 then upd a else [(at_, ((m at_).1, tim ms (m at_)))]
  | .bin at_ x a b => if x.op = 4 ∨ x.op = 5 then upd a ++ upd b else upd a ++ upd b ++ [(at_, (val fl ms m (.bin at_ x a b), 0))]
/-- the delays that it meets -/
def dls : RT → List (Nat × RT)
  | .leaf _ _ => []
  | .un at_ x a => if x.op = 3 then dls a else [(at_, a)]
  | .bin _ _ a b => dls a ++ dls b
/-- what is kept at the step's end -/
def fin : RT → List (Nat × Mem)
  | .leaf _ _ => []
  | .un at_ x a => if x.op = 3 then fin a else (at_, (val fl ms m a, tim ms (m at_))) :: fin a
  | .bin at_ x a b => if x.op = 4 ∨ x.op = 5 then fin a ++ fin b else fin a ++ fin b ++ [(at_, (val fl ms m (.bin at_ x a b), 0))]
end
/-- the places of a tree that keep something -/
def plc : RT → List Nat
  | .leaf _ _ => []
  | .un at_ x a => if x.op = 3 then plc a else at_ :: plc a
  | .bin at_ x a b => if x.op = 4 ∨ x.op = 5 then plc a ++ plc b else plc a ++ plc b ++ [at_]
theorem plc_in {ex : List RN} {at_ e : Nat} {t : RT} (h : IsT ex at_ e t) : ∀ p ∈ plc t, at_ ≤ p ∧ p < e := by
  induction h with
  | leaf _ _ => intro p hp; cases hp
  | @un at_ e x a _ _ ha ih =>
    intro p hp
    have := ha.lt
    unfold plc at hp
    split at hp
    · have := ih p hp; omega
    · rcases List.mem_cons.1 hp with rfl | hp
      · omega
      · have := ih p hp; omega
  | @bin at_ m e x a b _ _ ha hb ih1 ih2 =>
    intro p hp
    have h1 := ha.lt
    have h2 := hb.lt
    have key : p ∈ plc a ++ plc b → at_ ≤ p ∧ p < e := fun hp => by
      rcases List.mem_append.1 hp with hp | hp
      · have := ih1 p hp; omega
      · have := ih2 p hp; omega
    unfold plc at hp
    split at hp
    · exact key hp
    · rcases List.mem_append.1 hp with hp | hp
      · exact key hp
      · simp at hp; omega
/-- values depend on what is kept in the tree alone -/
theorem val_congr {fl : ByteArray → Bool} {ms : Int} {m m' : Nat → Mem} : ∀ (t : RT), (∀ p ∈ plc t, m p = m' p) → val fl ms m t = val fl ms m' t
  | .leaf _ _, _ => rfl
  | .un at_ x a, h => by
    unfold val
    by_cases h3 : x.op = 3
    · rw [if_pos h3, if_pos h3, val_congr a (fun p hp => h p (by unfold plc; rw [if_pos h3]; exact hp))]
    · rw [if_neg h3, if_neg h3, h at_ (by unfold plc; rw [if_neg h3]; simp)]
  | .bin at_ x a b, h => by
    have ha := val_congr (fl := fl) (ms := ms) a (fun p hp => h p (by unfold plc; split <;> simp [hp]))
    have hb := val_congr (fl := fl) (ms := ms) b (fun p hp => h p (by unfold plc; split <;> simp [hp]))
    unfold val
    rw [ha, hb]
    by_cases h4 : x.op = 4
    · rw [if_pos h4, if_pos h4]
    · rw [if_neg h4, if_neg h4]
      by_cases h5 : x.op = 5
      · rw [if_pos h5, if_pos h5]
      · rw [if_neg h5, if_neg h5, h at_ (by unfold plc; rw [if_neg (by omega)]; simp)]
/-- the memory behind some writes -/
def put1 (m : Nat → Mem) (u : Nat × Mem) : Nat → Mem := fun p => if p = u.1 then u.2 else m p
def app (m : Nat → Mem) (us : List (Nat × Mem)) : Nat → Mem := us.foldl put1 m
theorem app_append (m : Nat → Mem) (a b : List (Nat × Mem)) : app m (a ++ b) = app (app m a) b := by unfold app; rw [List.foldl_append]
theorem app_out {p : Nat} : ∀ (us : List (Nat × Mem)) (m : Nat → Mem), (∀ u ∈ us, u.1 ≠ p) → app m us p = m p
  | [], _, _ => rfl
  | u :: us, m, h => by
    show app (put1 m u) us p = m p
    rw [app_out us _ (fun v hv => h v (by simp [hv]))]
    unfold put1
    rw [if_neg (fun e => h u (by simp) e.symm)]
theorem upd_pos {fl : ByteArray → Bool} {ms : Int} {m : Nat → Mem} : ∀ (t : RT), ∀ u ∈ upd fl ms m t, u.1 ∈ plc t
  | .leaf _ _, u, h => by cases h
  | .un at_ x a, u, h => by
    unfold upd at h
    unfold plc
    split at h
    · rename_i h3; rw [if_pos h3]; exact upd_pos a u h
    · rename_i h3; rw [if_neg h3]; simp at h; subst h; simp
  | .bin at_ x a b, u, h => by
    unfold upd at h
    unfold plc
    have key : u ∈ upd fl ms m a ++ upd fl ms m b → u.1 ∈ plc a ++ plc b := fun h => by
      rcases List.mem_append.1 h with h | h
      · exact List.mem_append_left _ (upd_pos a u h)
      · exact List.mem_append_right _ (upd_pos b u h)
    split at h
    · rename_i h3; rw [if_pos h3]; exact key h
    · rename_i h3
      rw [if_neg h3]
      rcases List.mem_append.1 h with h | h
      · exact List.mem_append_left _ (key h)
      · simp at h; subst h; simp
theorem upd_congr {fl : ByteArray → Bool} {ms : Int} {m m' : Nat → Mem} : ∀ (t : RT), (∀ p ∈ plc t, m p = m' p) → upd fl ms m t = upd fl ms m' t
  | .leaf _ _, _ => rfl
  | .un at_ x a, h => by
    unfold upd
    by_cases h3 : x.op = 3
    · rw [if_pos h3, if_pos h3, upd_congr a (fun p hp => h p (by unfold plc; rw [if_pos h3]; exact hp))]
    · rw [if_neg h3, if_neg h3, h at_ (by unfold plc; rw [if_neg h3]; simp)]
  | .bin at_ x a b, h => by
    have ha := upd_congr (fl := fl) (ms := ms) a (fun p hp => h p (by unfold plc; split <;> simp [hp]))
    have hb := upd_congr (fl := fl) (ms := ms) b (fun p hp => h p (by unfold plc; split <;> simp [hp]))
    unfold upd
    rw [ha, hb, val_congr (fl := fl) (ms := ms) (.bin at_ x a b) h]
/-- the second operand sees the memory as the first one found it -/
theorem IsT.apart {ex : List RN} {l m e : Nat} {a b : RT} (ha : IsT ex l m a) (hb : IsT ex m e b) (fl : ByteArray → Bool) (ms : Int) (k : Nat → Mem) : ∀ p ∈ plc b, app k (upd fl ms k a) p = k p := by
  intro p hp
  refine app_out _ _ (fun u hu e => ?_)
  have h1 := plc_in ha _ (upd_pos a u hu)
  have h2 := plc_in hb p hp
  omega
theorem IsT.val_second {ex : List RN} {l m e : Nat} {a b : RT} (ha : IsT ex l m a) (hb : IsT ex m e b) (fl : ByteArray → Bool) (ms : Int) (k : Nat → Mem) :
    val fl ms (app k (upd fl ms k a)) b = val fl ms k b ∧ upd fl ms (app k (upd fl ms k a)) b = upd fl ms k b :=
  ⟨val_congr b (ha.apart hb fl ms k), upd_congr b (ha.apart hb fl ms k)⟩
end Go.Proofs.Ytpamgeemmbbkkaa.Pl
namespace Go.Proofs.Ytpamgeemmbbkkaa
open Go.RowKit
open Go.Maps (Keyed)
namespace KM
theorem laidOut_prog : laidOutB Try.prog = true := by kernel_rfl
theorem row : (165 : TypeId) < Try.prog.types.size := of_decide_eq_true (by kernel_rfl)
theorem wide : (match Try.prog.underlying 165 with | some (.array _ _) | some (.struct _) => true | _ => false) = true := by rw [Try.underlying165]
set_option maxRecDepth 100000 in
theorem deep : Try.prog.keyTypeAt 4 165 = true := by kernel_rfl
set_option maxRecDepth 100000 in
theorem keyed : Keyed Try.prog 165 := Keyed.of_law (deep_law_laid laidOut_prog (m := 4) (by omega) row deep wide)
theorem cells_place : Try.prog.cellsOf 165 = 2 := by kernel_rfl
theorem cells_i : Try.prog.cellsOf 3 = 1 := by kernel_rfl
set_option maxRecDepth 100000 in
theorem type : Try.prog.keyType 165 = true := by kernel_rfl
/-- the words of a place as a key -/
def kLits (k a : Int) : List Lit := [.int .i64 k, .int .i64 a]
def kLit (k a : Int) : Lit := .string (keyBytes (kLits k a))
/-- a place as it can be -/
def Ok (n : Nat) : Prop := n ≤ 1000000000
theorem Ok.wf {n : Nat} (h : Ok n) : (Lit.int .i64 (n : Int)).wf = true := by
  have e : IntKind.i64.min = -9223372036854775808 := rfl
  unfold Ok at h
  simp [Lit.wf, e]
  omega
theorem keyLits_place (d : Nat) (k a : Int) (hk : (Lit.int .i64 k).wf = true) (ha : (Lit.int .i64 a).wf = true) :
    Try.prog.keyLits (d + 2) 165 [.int .i64 k, .int .i64 a] = some (kLits k a) := by
  have hi : ∀ (b : Int), (Lit.int .i64 b).wf = true → Try.prog.keyLits (d + 1) 3 [.int .i64 b] = some [.int .i64 b] := fun b h => by
    simp [Program.keyLits, Try.underlying3, h]
  unfold Program.keyLits
  simp [Try.underlying165, cells_place, cells_i, hi _ hk, hi _ ha, kLits]
set_option maxRecDepth 100000 in
theorem keyOf_place (k a : Int) (hk : (Lit.int .i64 k).wf = true) (ha : (Lit.int .i64 a).wf = true) :
    keyOf Try.prog 165 (.agg #[.int .i64 k, .int .i64 a]) = some (kLit k a) := by
  have h3 : 3 ≤ Try.prog.types.size := of_decide_eq_true (by kernel_rfl)
  obtain ⟨m, hm⟩ : ∃ m, Try.prog.types.size + 1 = m + 2 := ⟨Try.prog.types.size - 1, by omega⟩
  unfold keyOf
  rw [Try.underlying165]
  simp only [type, hm, Bool.true_and]
  have hf : (Value.agg #[.int .i64 k, .int .i64 a]).formed Try.prog 165 = true := by simp [Value.formed, Try.underlying165, cells_place]
  rw [hf, if_pos rfl]
  have e : (Value.agg #[.int .i64 k, .int .i64 a]).cells.toList = [.int .i64 k, .int .i64 a] := rfl
  rw [e, keyLits_place m k a hk ha]
  rfl
set_option maxRecDepth 100000 in
theorem kLit_inj {k a l b : Int} (hk : (Lit.int .i64 k).wf = true) (ha : (Lit.int .i64 a).wf = true) (hl : (Lit.int .i64 l).wf = true) (hb : (Lit.int .i64 b).wf = true) (h : kLit k a = kLit l b) : k = l ∧ a = b := by
  have k1 := keyOf_place k a hk ha
  have k2 := keyOf_place l b hl hb
  rw [h] at k1
  have := keyed.inj k1 k2
  injection this with this
  simp at this
  exact this
/-- how what is kept reads -/
def memR (v : Value) : Option (DataW Unit × List MemPlace) :=
  match v with
  | .agg x => match x.toList with
    | [.bool b, .int .i64 t] => some (.agg [.lit (.bool b), .lit (.int .i64 t)], [])
    | _ => none
  | _ => none
/-- .. as a value -/
def memV (x : Pl.Mem) : Value := .agg #[.bool x.1, .int .i64 x.2]
def memD (x : Pl.Mem) : DataW Unit := .agg [.lit (.bool x.1), .lit (.int .i64 x.2)]
theorem memR_mk (x : Pl.Mem) : memR (memV x) = some (memD x, []) := rfl
theorem memR_inv {v : Value} {x : Pl.Mem} {ps : List MemPlace} (h : memR v = some (memD x, ps)) : v = memV x := by
  unfold memR at h
  split at h
  · rename_i y
    split at h
    · rename_i b t e
      simp only [Option.some.injEq, Prod.mk.injEq, memD, DataW.agg.injEq, List.cons.injEq, DataW.lit.injEq, Lit.bool.injEq, Lit.int.injEq, true_and, and_true] at h
      obtain ⟨⟨rfl, rfl⟩, _⟩ := h
      have : y = #[.bool x.1, .int .i64 x.2] := Array.toList_inj.1 (by rw [e])
      rw [this]; rfl
    · cases h
  · cases h
theorem zero_mem (w : World) : (zeroValue 167).run Try.prog w = .ok (memV (false, 0)) w := by kernel_rfl
end KM
/-- block b of w is a map that keeps κ: k the rule, a the place in its expression -/
def KMap (w : World) (b n : Nat) (κ : Nat → Nat → Pl.Mem) : Prop := ∃ D : DataW Unit, w.ownsMap Try.prog 165 KM.memR b n D ∧ Maps.IsMap D ∧
  ∀ k a, KM.Ok k → KM.Ok a → D.atKey (KM.kLit k a) (KM.memD (false, 0)) = KM.memD (κ k a)
def kput (κ : Nat → Nat → Pl.Mem) (k a : Nat) (v : Pl.Mem) : Nat → Nat → Pl.Mem := fun l b => if l = k ∧ b = a then v else κ l b
theorem KMap.lt {w : World} {b n : Nat} {κ : Nat → Nat → Pl.Mem} (h : KMap w b n κ) : b < w.heap.size := h.choose_spec.1.lt
theorem KMap.kept {w w' : World} {row : Option Nat} {b n : Nat} {κ : Nat → Nat → Pl.Mem} (h : KMap w b n κ) (hg : w.grownBy w' row) (hne : some b ≠ row) : KMap w' b n κ := by
  obtain ⟨D, h1, h2⟩ := h
  exact ⟨D, h1.kept hg hne, h2⟩
theorem KMap.setCell {w : World} {b n : Nat} {κ : Nat → Nat → Pl.Mem} (h : KMap w b n κ) {a : Addr} (ha : b ≠ a.block) (u : Value) : KMap (w.setCell a u) b n κ := by
  obtain ⟨D, h1, h2⟩ := h
  exact ⟨D, h1.setCell ha u, h2⟩
theorem KMap.alloc {w : World} {b n : Nat} {κ : Nat → Nat → Pl.Mem} (h : KMap w b n κ) (o : Obj) : KMap (w.alloc o) b n κ := by
  obtain ⟨D, h1, h2⟩ := h
  exact ⟨D, h1.alloc o, h2⟩
theorem KMap.drew {w : World} {b n : Nat} {κ : Nat → Nat → Pl.Mem} (h : KMap w b n κ) : KMap w.drew b n κ := h
theorem kmap_made (w : World) : KMap (w.alloc (.map #[] 0)) w.heap.size 0 (fun _ _ => (false, 0)) :=
  ⟨_, World.ownsMap_made w _ _ _, Maps.isMap_empty, fun _ _ _ _ => rfl⟩
/-- the map behind a write -/
theorem kmap_put {D : DataW Unit} {κ : Nat → Nat → Pl.Mem} {k a : Nat} (hD : Maps.IsMap D) (h : ∀ k a, KM.Ok k → KM.Ok a → D.atKey (KM.kLit k a) (KM.memD (false, 0)) = KM.memD (κ k a)) (hk : KM.Ok k) (ha : KM.Ok a) (v : Pl.Mem) :
    Maps.IsMap (D.put (KM.kLit k a) (KM.memD v)) ∧ ∀ l b, KM.Ok l → KM.Ok b → (D.put (KM.kLit k a) (KM.memD v)).atKey (KM.kLit l b) (KM.memD (false, 0)) = KM.memD (kput κ k a v l b) := by
  refine ⟨hD.put _ _, fun l b hl hb => ?_⟩
  unfold kput
  by_cases e : l = k ∧ b = a
  · obtain ⟨rfl, rfl⟩ := e
    rw [if_pos ⟨rfl, rfl⟩]
    exact Maps.atKey_put_same hD (KM.keyed.key (KM.keyOf_place _ _ hk.wf ha.wf)) _ _
  · rw [if_neg e]
    have hne : KM.kLit l b ≠ KM.kLit k a := fun e2 => e (by
      have := KM.kLit_inj hl.wf hb.wf hk.wf ha.wf e2
      omega)
    rw [Maps.atKey_put_other hne]
    exact h l b hl hb
/-- at the operation: what is kept at a place -/
theorem wpList_look_kmap (w : World) {ops : Array Oper} {rest : List Oper} {o : Oper} {a : Act} {Q : Exit → Act → World → Prop}
    (hg : o.guard = none) (m x : Operand) (hop : o.op = Op.lookup 151 m x false)
    (b n : Nat) (κ : Nat → Nat → Pl.Mem) (k c : Nat) (hk : KM.Ok k) (hc : KM.Ok c)
    (hm : a.eval m = .map (some b)) (hown : KMap w b n κ) (hx : a.eval x = .agg #[.int .i64 (k : Int), .int .i64 (c : Int)])
    (hK : wpList Try.prog ops Q rest (a.put o.dst (.agg #[.bool (κ k c).1, .int .i64 (κ k c).2])) w) :
    wpList Try.prog ops Q (o :: rest) a w := by
  refine wpList_plain hg fun K' hK' => ?_
  obtain ⟨D, h1, h2, h3⟩ := hown
  obtain ⟨v, ps, hrun, hv⟩ := h1.lookup KM.keyed Try.underlying151 (KM.zero_mem w) (KM.memR_mk (false, 0)) (KM.keyOf_place _ _ hk.wf hc.wf)
  rw [h3 k c hk hc] at hv
  cases KM.memR_inv hv
  unfold Oper.wp
  simp [execOp, hop, hm, hx, hrun, Result.andThen]
  exact hK' _ _ hK
/-- at the operation: something is kept -/
theorem wpList_put_kmap (w : World) {ops : Array Oper} {rest : List Oper} {o : Oper} {a : Act} {Q : Exit → Act → World → Prop}
    (hg : o.guard = none) (m x v : Operand) (hop : o.op = Op.mapUpdate 151 m x v)
    (b n : Nat) (κ : Nat → Nat → Pl.Mem) (k c : Nat) (y : Pl.Mem) (hk : KM.Ok k) (hc : KM.Ok c) (hn : n < maxLen)
    (hm : a.eval m = .map (some b)) (hown : KMap w b n κ) (hx : a.eval x = .agg #[.int .i64 (k : Int), .int .i64 (c : Int)]) (hv : a.eval v = .agg #[.bool y.1, .int .i64 y.2])
    (hK : ∀ w', KMap w' b (n + 1) (kput κ k c y) → w.grownBy w' (some b) → w.mapTurned w' b → wpList Try.prog ops Q rest (a.put o.dst undef) w') :
    wpList Try.prog ops Q (o :: rest) a w := by
  obtain ⟨D, h1, h2, h3⟩ := hown
  refine wpList_mapUpdate_in w hg m x v _ hop _ _ KM.keyed Try.underlying151 KM.memR b n D hm h1 hn _ _ _ hx hv (KM.keyOf_place _ _ hk.wf hc.wf) _ [] (KM.memR_mk y) ?_
  intro w' hw hturn
  exact hK w' ⟨_, hw, kmap_put h2 h3 hk hc y⟩ hturn.grown hturn
end Go.Proofs.Ytpamgeemmbbkkaa
