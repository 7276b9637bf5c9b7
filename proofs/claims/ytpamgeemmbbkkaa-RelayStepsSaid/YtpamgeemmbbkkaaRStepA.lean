/- The two phases of a relay's step in memory: relations of its loops. No condition. -/
import Derived.Test.YtpamgeemmbbkkaaBlk11
import Derived.Test.YtpamgeemmbbkkaaREvalE
namespace Go.Proofs.Ytpamgeemmbbkkaa
open Go.RowKit
/-- what a step knows of its program -/
structure Prg (n : Nat) (l : List MRul) (ol : List Int) (ND : Nat → List Int) (tr : Nat → Pl.RT) : Prop where
  ord : Pl.OrdOk ND n ol
  all : ol.length = n
  rule : ∀ k, k < n → ∃ o, l[k]? = some o ∧ o.n ≤ 64 ∧ o.ex.length = o.n ∧ (∀ x ∈ o.ex, 0 ≤ x.op ∧ x.op ≤ 7) ∧ Pl.IsT o.ex 0 o.ex.length (tr k)
  need : ∀ i, i < n → ∀ nm ∈ Pl.nds (tr i), 0 ≤ Pl.ruleI (prl l) nm → Pl.ruleI (prl l) nm ∈ ND i
/-- the values of a step -/
def ValsOk (n : Nat) (l : List MRul) (fs : List ByteArray) (ms : Int) (κ0 : Nat → Nat → Pl.Mem) (tr : Nat → Pl.RT) (V : List Bool) : Prop :=
  V.length = n ∧ ∀ i, i < n → V.getD i false = Pl.val (Pl.flP (prl l) V fs) ms (κ0 i) (tr i)
def exOf (l : List MRul) (k : Nat) : List Pl.RN := match l[k]? with | some o => o.ex | none => []
section
variable {w wr w1 : World} {B s r gv b : Nat} {A : Option Addr} {n c : Nat} {l : List MRul} {AO : Option Addr} {cO : Nat} {ol : List Int} {vs : List Bool} {ms : Int} {Af : Option Addr} {nf cf : Nat} {fs : List ByteArray} {vL : Value} {nK nK0 : Nat} {κ0 : Nat → Nat → Pl.Mem} {tr : Nat → Pl.RT} {V : List Bool} {ND : Nat → List Int} {j : Nat}
theorem Prg.sz (h : Prg n l ol ND tr) {k : Nat} (hk : k < n) : Pl.sz (tr k) ≤ 64 := by
  obtain ⟨o, _, h1, h2, _, ht⟩ := h.rule k hk
  have := ht.sz
  omega
/-- the first phase behind j rules -/
def P1 (w : World) (B s r gv b : Nat) (A : Option Addr) (n c : Nat) (l : List MRul) (AO : Option Addr) (cO : Nat) (ol : List Int) (ms : Int) (Af : Option Addr) (nf cf : Nat) (fs : List ByteArray) (nK0 : Nat) (κ0 : Nat → Nat → Pl.Mem) (tr : Nat → Pl.RT) (V : List Bool) (j nK : Nat) (vs : List Bool) (vL : Value) (wr : World) : Prop :=
  EvIn wr B s r gv b A n c l (.slice AO n cO) vs ms Af nf cf fs vL (Pl.qOf (Pl.firstQ tr (ol.take j))) nK (Pl.κone tr (Pl.flP (prl l) V fs) ms κ0 (ol.take j)) ∧ Fr (fun i => i = gv ∨ i = b) w wr ∧
    (∀ g, vL.ownBlock = some g → w.heap.size ≤ g) ∧ nK ≤ nK0 + 64 * j ∧ (∀ x : Nat, (x : Int) ∈ ol.take j → vs.getD x false = V.getD x false)
theorem P1.step (hp : Prg n l ol ND tr) (hV : ValsOk n l fs ms κ0 tr V) (hs : s = w.heap.size) (hB : B ≤ gv) (h : P1 w B s r gv b A n c l AO cO ol ms Af nf cf fs nK0 κ0 tr V j nK vs vL wr) {i : Nat} (hj : j < n) (hi : ol[j]'(by have := hp.all; omega) = (i : Int)) {e : Ending}
    (he : EvSaid wr B s r gv b A n c l (.slice AO n cO) vs ms Af nf cf fs vL (Pl.qOf (Pl.firstQ tr (ol.take j))) nK (Pl.κone tr (Pl.flP (prl l) V fs) ms κ0 (ol.take j)) i (tr i) e w1) :
    e = .returned (.bool (V.getD i false)) ∧ w1.cell? ⟨r, 2, none⟩ = some (.slice (some ⟨gv, 0, none⟩) n n) ∧ (∃ u, w1.cell? ⟨gv, i, none⟩ = some (.bool u)) ∧ w1.frozen? ⟨gv, i, none⟩ = false ∧ gv < w1.heap.size ∧
      ∃ vL1 nK1, P1 w B s r gv b A n c l AO cO ol ms Af nf cf fs nK0 κ0 tr V (j + 1) nK1 (vs.set i (V.getD i false)) vL1 (w1.setCell ⟨gv, i, none⟩ (.bool (V.getD i false))) := by
  obtain ⟨hE, hF, hO, hN, hX⟩ := h
  have hjl : j < ol.length := by have := hp.all; omega
  have hil := hp.ord.2.1 ol[j] (List.getElem_mem hjl)
  have hin : i < n := by omega
  have hni : (i : Int) ∉ ol.take j := by rw [← hi]; exact hp.ord.not_in hjl
  have hfl : ∀ nm ∈ Pl.nds (tr i), Pl.flP (prl l) vs fs nm = Pl.flP (prl l) V fs nm :=
    Pl.turn_flags (R := Pl.ruleI (prl l)) (B := Pl.inB fs) hp.ord hp.all hp.need hj hi hX
  obtain ⟨e1, vL1, nK1, hR, hf, ho, hnk⟩ := he
  rw [Pl.κone_at hni, Pl.val_fl (tr i) hfl, ← hV.2 i hin] at e1
  have hb := hR.val
  have hlt : i < vs.length := by rw [hb.1]; exact hin
  refine ⟨e1, hR.rel.cell 2, ⟨_, bools_at hb hin⟩, hb.2.frozen i, hb.2.lt, vL1, nK1, ?_, ?_, ?_, ?_, ?_⟩
  · have := hR.setVal hB i (V.getD i false)
    rw [List.take_succ_eq_append_getElem hjl, hi, Pl.firstQ_snoc, Pl.κone_snoc hni]
    rw [Pl.κone_at hni, Pl.upd_fl (tr i) hfl, ← Pl.qOf_kids] at this
    have e : Pl.qOf (Pl.firstQ tr (ol.take j) ++ Pl.kidsI i (tr i)) = Pl.qOf (Pl.firstQ tr (ol.take j)) ++ Pl.qOf (Pl.kidsI i (tr i)) := by unfold Pl.qOf; rw [List.map_append]
    rw [e]
    exact this
  · refine ((hF.trans hf ?_).set_ _ _ (.inr (.inl rfl)))
    rintro k hk (rfl | rfl | e)
    · omega
    · exact .inr rfl
    · have := hO k e; omega
  · intro g hg
    rcases ho g hg with e | e
    · exact hO g e
    · exact Nat.le_trans hF.size e
  · have := hp.sz hin; omega
  · intro x hx
    rw [List.take_succ_eq_append_getElem hjl, hi, List.mem_append, List.mem_singleton] at hx
    by_cases hxi : x = i
    · subst hxi; exact Pl.getD_set_same hlt _
    · rw [Pl.getD_set_ne' (fun e => hxi e.symm)]
      rcases hx with hx | hx
      · exact hX x hx
      · omega
/-- the second phase -/
def P2 (w : World) (B s r gv b : Nat) (A : Option Addr) (n c : Nat) (l : List MRul) (AO : Option Addr) (cO : Nat) (ms : Int) (Af : Option Addr) (nf cf : Nat) (fs : List ByteArray) (nK0 : Nat) (κ0 : Nat → Nat → Pl.Mem) (tr : Nat → Pl.RT) (V : List Bool) (Q : List Pl.Item) (nK : Nat) (κ : Nat → Nat → Pl.Mem) (vL : Value) (wr : World) : Prop :=
  EvIn wr B s r gv b A n c l (.slice AO n cO) V ms Af nf cf fs vL (Pl.qOf Q) nK κ ∧ Fr (fun i => i = gv ∨ i = b) w wr ∧ (∀ g, vL.ownBlock = some g → w.heap.size ≤ g) ∧ nK + 66 * Pl.loadQ Q ≤ nK0 ∧
    Pl.Inv n (exOf l) (Pl.flP (prl l) V fs) ms κ0 (Pl.κfin n tr (Pl.flP (prl l) V fs) ms κ0) κ Q ∧ Pl.Times κ
theorem κone_times {tr : Nat → Pl.RT} {F : ByteArray → Bool} {ms : Int} {κ0 : Nat → Nat → Pl.Mem} (hms : 0 ≤ ms) (h : Pl.Times κ0) (ol : List Int) : Pl.Times (Pl.κone tr F ms κ0 ol) := by
  intro k a
  unfold Pl.κone
  split
  · exact Pl.app_times (h k) (Pl.upd_times hms (h k) (tr k)) a
  · exact h k a
theorem P1.end_ (hp : Prg n l ol ND tr) (hV : V.length = n) (hvs : vs.length = n) (hT : Pl.Times κ0) (hms : 0 ≤ ms) (h : P1 w B s r gv b A n c l AO cO ol ms Af nf cf fs nK0 κ0 tr V n nK vs vL wr) :
    P2 w B s r gv b A n c l AO cO ms Af nf cf fs (nK0 + 64 * n + 66 * (n * 64)) κ0 tr V (Pl.firstQ tr ol) nK (Pl.κone tr (Pl.flP (prl l) V fs) ms κ0 ol) vL wr := by
  obtain ⟨hE, hF, hO, hN, hX⟩ := h
  have ht : ol.take n = ol := by rw [← hp.all, List.take_length]
  rw [ht] at hE hX
  have hall := hp.ord.all hp.all
  have ev : vs = V := by
    refine List.ext_getElem (by omega) (fun i h1 h2 => ?_)
    have := hX i (hall i (by omega))
    simpa [List.getD, h1, h2] using this
  subst ev
  refine ⟨hE, hF, hO, ?_, Pl.inv_first hp.ord hp.all (fun k hk => ?_), κone_times hms hT ol⟩
  · have h1 := Pl.loadQ_first (tr := tr) (M := 64) ol (fun i hi => by have := hp.ord.2.1 i hi; exact hp.sz (by omega))
    rw [hp.all] at h1
    have : 66 * Pl.loadQ (Pl.firstQ tr ol) ≤ 66 * (n * 64) := Nat.mul_le_mul_left _ h1
    omega
  · obtain ⟨o, ho, _, _, _, h1⟩ := hp.rule k hk
    exact ⟨_, by unfold exOf; rw [ho]; exact h1⟩
theorem Inv_rule (hp : Prg n l ol ND tr) {x : Pl.Item} (hk : x.k < n) (hx : Pl.IsT (exOf l x.k) (x.at_ + 1) (x.at_ + 1 + Pl.sz x.a) x.a) :
    ∃ o, l[x.k]? = some o ∧ o.n ≤ 1000 ∧ o.ex.length = o.n ∧ (∀ y ∈ o.ex, 0 ≤ y.op ∧ y.op ≤ 7) ∧ Pl.IsT o.ex (x.at_ + 1) (x.at_ + 1 + Pl.sz x.a) x.a ∧ x.at_ ≤ 64 ∧ Pl.sz x.a ≤ 64 := by
  obtain ⟨o, h1, h2, h3, h4, _⟩ := hp.rule x.k hk
  have hx : Pl.IsT o.ex (x.at_ + 1) (x.at_ + 1 + Pl.sz x.a) x.a := by unfold exOf at hx; rw [h1] at hx; exact hx
  have := hx.le
  exact ⟨o, h1, by omega, h3, h4, hx, by omega, by omega⟩
theorem P2.next (hp : Prg n l ol ND tr) {Q : List Pl.Item} {x : Pl.Item} {κ : Nat → Nat → Pl.Mem} {wb : World} {v' : Value} (hms : 0 ≤ ms) (hs : s = w.heap.size) (hbg : b < w.heap.size) (h : P2 w B s r gv b A n c l AO cO ms Af nf cf fs nK0 κ0 tr V (x :: Q) nK κ vL wr)
    (hv : ∀ g, v'.ownBlock = some g → vL.ownBlock = some g) (hFb : Fr (fun i => i = s) wr wb) {e : Ending} (he : EvSaid wb B s r gv b A n c l (.slice AO n cO) V ms Af nf cf fs v' (Pl.qOf Q) nK κ x.k x.a e w1) :
    e = .returned (.bool (Pl.val (Pl.flP (prl l) V fs) ms (κ x.k) x.a)) ∧ ∃ vL1 nK1 q1 κ1, EvIn w1 B s r gv b A n c l (.slice AO n cO) V ms Af nf cf fs vL1 q1 nK1 κ1 ∧ nK1 ≤ nK0 ∧ Fr (evS s b v') wb w1 ∧
      ∀ w2 w3, Below w1.heap.size w1 w2 → w2.grownBy w3 (some b) → KMap w3 b (nK1 + 1) (kput κ1 x.k x.at_ (Pl.val (Pl.flP (prl l) V fs) ms (κ x.k) x.a, (κ1 x.k x.at_).2)) →
        ∃ κ2, P2 w B s r gv b A n c l AO cO ms Af nf cf fs nK0 κ0 tr V (Q ++ Pl.kidsI x.k x.a) (nK1 + 1) κ2 vL1 w3 := by
  obtain ⟨hE, hF, hO, hN, hI, hT⟩ := h
  obtain ⟨e1, vL1, nK1, hR, hf, ho, hnk⟩ := he
  have hx := hI.tree x (by simp)
  obtain ⟨o, _, _, _, _, _, _, hsz⟩ := Inv_rule hp hx.1 hx.2
  have hload : Pl.loadQ (x :: Q) = Pl.sz x.a + 1 + Pl.loadQ Q := by
    show Pl.loadQ ([x] ++ Q) = _
    rw [Pl.loadQ_append]; simp [Pl.loadQ]
  have hk := Pl.loadQ_kids x.k x.a
  have hF1 : Fr (fun i => i = gv ∨ i = b) w w1 := by
    refine (hF.trans hFb (fun i hi e => by omega)).trans hf ?_
    rintro i hi (rfl | rfl | e)
    · omega
    · exact .inr rfl
    · have := hO i (hv i e); omega
  refine ⟨e1, vL1, nK1, _, _, hR, by omega, hf, fun w2 w3 D2 hg hm => ⟨_, ?_, ?_, ?_, ?_, Pl.Inv.pop hI, ?_⟩⟩
  · rw [kput_kapp, ← Pl.kapp_append] at hm
    have := (hR.go D2).put hg hm
    rw [← Pl.qOf_kids] at this
    have e : Pl.qOf (Q ++ Pl.kidsI x.k x.a) = Pl.qOf Q ++ Pl.qOf (Pl.kidsI x.k x.a) := by unfold Pl.qOf; rw [List.map_append]
    rw [e]
    exact this
  · exact (hF1.trans (T := fun _ => False) (Fr.of_below D2) (fun _ _ h => h.elim)).trans (T := fun i => i = b) (Fr.of_grown hg rfl) (fun i _ e => .inr e)
  · intro g hg
    rcases ho g hg with e | e
    · exact hO g (hv g e)
    · have := hF.size; have := hFb.size; omega
  · rw [Pl.loadQ_append]
    rw [hload] at hN
    omega
  · refine Pl.Times.kapp (Pl.Times.upd hT hms x.k x.a) (fun u hu => ?_)
    simp at hu
    subst hu
    exact Pl.Times.upd hT hms x.k x.a x.k x.at_
theorem RIn.keep {H : Nat} {w' : World} {κ : Nat → Nat → Pl.Mem} (h : RIn w B r gv b A n c l AO cO ol vs nK κ) (hr : r < H) (hg : gv < H) (hbm : b < H) (hB : B ≤ H) (hb : Below H w w') : RIn w' B r gv b A n c l AO cO ol vs nK κ :=
  ⟨h.rel.below hb hr, ⟨h.val.1, h.val.2.below hb hg⟩, h.rules.below (hb.mono hB), h.ord.below (hb.mono hB), h.map.of_block (hb.block b hbm), ⟨h.low.1, h.low.2.1, Nat.le_trans h.low.2.2 hb.size⟩, h.small⟩
end
end Go.Proofs.Ytpamgeemmbbkkaa
