/- The fixed example of package relay holds: relayWorks returns true. And what a checked program shows. No condition. The fixed example of package relay holds: relayWorks returns true. No condition. -/
import Derived.Test.YtpamgeemmbbkkaaBlk15
import Derived.Test.YtpamgeemmbbkkaaMacL
namespace Go.Proofs.Ytpamgeemmbbkkaa
open Go.RowKit
set_option maxRecDepth 100000
theorem Pl.nodesE_all : ∀ {l : List Pl.RN}, Pl.nodesE l = 0 → ∀ x ∈ l, Pl.nodeE x = 0
  | [], _, _, h => by cases h
  | y :: l, h, x, hx => by
    unfold Pl.nodesE at h
    split at h
    · rename_i h0; exact absurd h h0
    · rename_i h0
      rcases List.mem_cons.1 hx with rfl | hx
      · exact Classical.not_not.1 h0
      · exact Pl.nodesE_all h x hx
theorem Pl.nodeE_val {x : Pl.RN} (h : Pl.nodeE x = 0) (h1 : x.op = 1) : 0 ≤ x.value := by
  unfold Pl.nodeE at h
  rw [h1] at h
  split at h
  · omega
  · split at h
    · omega
    · split at h
      · omega
      · rename_i h3
        simp at h3
        omega
theorem relE_vals {l : List MRul} {n : Nat} (hl : l.length = n) (h : Pl.relE (prl l) = 0) : ∀ o ∈ l, ∀ x ∈ o.ex, x.op = 1 → 0 ≤ x.value := by
  unfold Pl.relE at h
  rw [prl_len, hl] at h
  split at h
  · omega
  · rename_i h16
    split at h
    · rename_i h2; exact absurd h h2
    · rename_i h2
      intro o ho x hx h1
      have h2 : Pl.rulesE (prl l) n 0 = 0 := by simpa using h2
      obtain ⟨i, hi, e⟩ := List.mem_iff_getElem.1 ho
      have h5 := Pl.rulesE_ok h2 (by rw [prl_len]; omega) i (by rw [prl_len]; exact hi) (Nat.zero_le _)
      have e2 : (prl l)[i]'(by rw [prl_len]; exact hi) = ⟨o.nm, o.ex⟩ := by unfold prl; rw [List.getElem_map, e]
      rw [e2] at h5
      obtain ⟨_, a2, _⟩ := Pl.ruleE_ok h5
      exact Pl.nodeE_val (Pl.nodesE_all a2 x hx) h1
/-- the trees of a checked program -/
theorem trees_of {n : Nat} {l : List MRul} (hl : l.length = n) (hE : Pl.relE (prl l) = 0) : ∃ tr : Nat → Pl.RT, ∀ (k : Nat) (o : MRul), l[k]? = some o → Pl.IsT o.ex 0 o.ex.length (tr k) := by
  obtain ⟨h16, hok, _⟩ := relE_zero hl hE
  have htree : ∀ k : Nat, ∃ t, ∀ o : MRul, l[k]? = some o → Pl.IsT o.ex 0 o.ex.length t := fun k => by
    cases e : l[k]? with
    | none => exact ⟨.leaf 0 ⟨0, ⟨#[]⟩, 0⟩, fun o h => by simp at h⟩
    | some o =>
      have := (hok o (List.mem_of_getElem? e)).2.2
      obtain ⟨t, ht⟩ := Pl.tree_of o.ex o.ex.length 0 o.ex.length (by omega) (by simpa using this)
      rw [Nat.zero_add] at ht
      exact ⟨t, fun o' h => by have h := Option.some.inj h; subst h; exact ht⟩
  exact ⟨fun k => (htree k).choose, fun k o ho => (htree k).choose_spec o ho⟩
theorem prg_tr {n : Nat} {l l1 : List MRul} {ol : List Int} {tr : Nat → Pl.RT} (hl : l.length = n) (hE : Pl.relE (prl l) = 0) (hlen : ∀ o ∈ l, o.ex.length = o.n) (htr : ∀ (k : Nat) (o : MRul), l[k]? = some o → Pl.IsT o.ex 0 o.ex.length (tr k)) (hs : SameR l l1) (ho : Pl.orderP (ndP l) n = some ol) :
    Prg n l1 ol (ndP l) tr := by
  obtain ⟨h16, hok, _⟩ := relE_zero hl hE
  obtain ⟨h1, h2⟩ := Pl.orderP_ok ho
  refine ⟨h1, h2, fun k hk => ?_, fun i hi nm hn hR => ?_⟩
  · have e : l[k]? = some l[k] := List.getElem?_eq_getElem (by omega)
    obtain ⟨o1, e1, e2, e3, e4⟩ := hs.2 k _ e
    have hm := List.mem_of_getElem? e
    have := hok _ hm
    have h5 := hlen _ hm
    refine ⟨o1, e1, by omega, by rw [e4, e3]; exact h5, by rw [e4]; exact this.2.1, ?_⟩
    rw [e4]
    exact htr k _ e
  · have e : l[i]? = some l[i] := List.getElem?_eq_getElem (by omega)
    have ht := htr i _ e
    rw [hs.prl] at hR ⊢
    unfold ndP
    rw [e]
    exact Pl.needs_of ht hn hR
/-- the place of a rule in an order -/
noncomputable def rkO (ol : List Int) (i : Nat) : Nat := by
  classical
  exact if h : ∃ p, ol[p]? = some (i : Int) then h.choose else 0
theorem rkO_at {ol : List Int} (h : ol.Nodup) {i p : Nat} (hp : ol[p]? = some (i : Int)) : rkO ol i = p := by
  have hx : ∃ p, ol[p]? = some (i : Int) := ⟨p, hp⟩
  unfold rkO
  rw [dif_pos hx]
  have hs := hx.choose_spec
  have hl := (List.getElem?_eq_some_iff.1 hs).1
  exact (List.getElem?_inj hl h).1 (hs.trans hp.symm)
theorem rkO_lt {ND : Nat → List Int} {n : Nat} {ol : List Int} (h : Pl.OrdOk ND n ol) (hl : ol.length = n) {i j : Nat} (hi : i < n) (hj : (j : Int) ∈ ND i) : rkO ol j < rkO ol i := by
  obtain ⟨p, hp, e⟩ := List.mem_iff_getElem.1 (h.all hl i hi)
  have hpi : ol[p]? = some (i : Int) := by rw [List.getElem?_eq_getElem hp, e]
  rw [rkO_at h.1 hpi]
  have := h.2.2 p hp (j : Int) (by rw [e]; simpa using hj)
  obtain ⟨q, hq, e2⟩ := List.mem_iff_getElem.1 this
  have hq2 : q < p := by rw [List.length_take] at hq; omega
  rw [List.getElem_take] at e2
  have hqj : ol[q]? = some (j : Int) := by rw [List.getElem?_eq_getElem (by omega), e2]
  rw [rkO_at h.1 hqj]; exact hq2
theorem ValsOk.same {n : Nat} {l l1 : List MRul} {fs : List ByteArray} {ms : Int} {κ : Nat → Nat → Pl.Mem} {tr : Nat → Pl.RT} {V : List Bool} (h : ValsOk n l1 fs ms κ tr V) (hs : SameR l l1) : ValsOk n l fs ms κ tr V := by
  unfold ValsOk at h ⊢
  rw [hs.prl] at h; exact h
section
variable {n : Nat} {l : List MRul} {ms : Int} {tr : Nat → Pl.RT}
theorem RunTo.nil_inv {Vs : List (List Bool)} {κ : Nat → Nat → Pl.Mem} (h : RunTo n l ms tr [] Vs κ) : Vs = [] ∧ κ = fun _ _ => (false, 0) := by
  generalize e1 : ([] : List (List ByteArray)) = fs at h
  cases h with
  | nil => exact ⟨rfl, rfl⟩
  | snoc _ _ => simp at e1
theorem RunTo.snoc_inv {fs : List (List ByteArray)} {f : List ByteArray} {Vs9 : List (List Bool)} {κ9 : Nat → Nat → Pl.Mem} (h : RunTo n l ms tr (fs ++ [f]) Vs9 κ9) :
    ∃ Vs V κ, Vs9 = Vs ++ [V] ∧ RunTo n l ms tr fs Vs κ ∧ ValsOk n l f ms κ tr V ∧ κ9 = Pl.κfin n tr (Pl.flP (prl l) V f) ms κ := by
  generalize e1 : fs ++ [f] = gs at h
  cases h with
  | nil => simp at e1
  | @snoc fs' Vs κ f' V h1 h2 =>
    obtain ⟨rfl, e1⟩ := List.append_inj' e1 rfl
    simp at e1
    subst e1
    exact ⟨Vs, V, κ, rfl, h1, h2, rfl⟩
end
def wT : ByteArray := ⟨#[84]⟩
def wA : ByteArray := ⟨#[65]⟩
def wEx : List Pl.RN := [⟨6, ⟨#[]⟩, 20⟩, ⟨0, wA, 0⟩]
def wR (A : Option Addr) : List MRul := [⟨wT, A, 2, 2, wEx⟩]
theorem wR_prl (A : Option Addr) : prl (wR A) = [⟨wT, wEx⟩] := rfl
theorem wR_relE : Pl.relE [⟨wT, wEx⟩] = 0 := by decide +kernel
theorem w_tree {t : Pl.RT} (h : Pl.IsT wEx 0 2 t) : t = .un 0 ⟨6, ⟨#[]⟩, 20⟩ (.leaf 1 ⟨0, wA, 0⟩) := by
  cases h with
  | un h h0 ha =>
    have h : some (⟨6, ⟨#[]⟩, 20⟩ : Pl.RN) = some _ := h
    injection h with h; subst h
    cases ha with
    | leaf h2 _ =>
      have h2 : some (⟨0, wA, 0⟩ : Pl.RN) = some _ := h2
      injection h2 with h2; subst h2; rfl
    | un h2 h3 _ =>
      have h2 : some (⟨0, wA, 0⟩ : Pl.RN) = some _ := h2
      injection h2 with h2; subst h2
      exact absurd h3 (by decide)
    | bin h2 h3 _ _ =>
      have h2 : some (⟨0, wA, 0⟩ : Pl.RN) = some _ := h2
      injection h2 with h2; subst h2
      exact absurd h3 (by decide)
  | bin h h0 _ _ =>
    have h : some (⟨6, ⟨#[]⟩, 20⟩ : Pl.RN) = some _ := h
    injection h with h; subst h
    exact absurd h0 (by decide)
def wTr : Pl.RT := .un 0 ⟨6, ⟨#[]⟩, 20⟩ (.leaf 1 ⟨0, wA, 0⟩)
theorem w_flag (V : List Bool) : Pl.flP [⟨wT, wEx⟩] V [wA] wA = true := by
  unfold Pl.flP
  have e : Pl.ruleI [⟨wT, wEx⟩] wA = -1 := by decide +kernel
  rw [e, if_neg (by decide)]
  decide +kernel
theorem w_step {κ : Nat → Nat → Pl.Mem} {V : List Bool} {tr : Nat → Pl.RT} {b : Bool} {t : Int} (ht : tr 0 = wTr) (hk : κ 0 0 = (b, t)) {l : List MRul} (hp : prl l = [⟨wT, wEx⟩]) (h : ValsOk 1 l [wA] 10 κ tr V) :
    V = [b && decide (20 ≤ Pl.tim 10 (b, t))] ∧ Pl.κfin 1 tr (Pl.flP (prl l) V [wA]) 10 κ 0 0 = (true, Pl.tim 10 (b, t)) := by
  obtain ⟨h1, h2⟩ := h
  have h3 := h2 0 (by omega)
  rw [hp, ht] at h3
  have e1 : Pl.val (Pl.flP [⟨wT, wEx⟩] V [wA]) 10 (κ 0) wTr = (b && decide (20 ≤ Pl.tim 10 (b, t))) := by
    show (if (6 : Int) = 3 then _ else (κ 0 0).1 && decide ((20 : Int) ≤ Pl.tim 10 (κ 0 0))) = _
    rw [if_neg (by decide), hk]
  rw [e1] at h3
  constructor
  · match V, h1 with
    | [x], _ => have h3 : x = _ := h3
                rw [h3]
  · unfold Pl.κfin
    rw [if_pos (by omega), ht, hp]
    have e2 : Pl.fin (Pl.flP [⟨wT, wEx⟩] V [wA]) 10 (κ 0) wTr = [(0, (true, Pl.tim 10 (b, t)))] := by
      show (if (6 : Int) = 3 then _ else (0, (Pl.val (Pl.flP [⟨wT, wEx⟩] V [wA]) 10 (κ 0) (.leaf 1 ⟨0, wA, 0⟩), Pl.tim 10 (κ 0 0))) :: []) = _
      rw [if_neg (by decide), hk]
      have : Pl.val (Pl.flP [⟨wT, wEx⟩] V [wA]) 10 (κ 0) (.leaf 1 ⟨0, wA, 0⟩) = true := by
        show (if (0 : Int) = 0 then Pl.flP [⟨wT, wEx⟩] V [wA] wA else _) = true
        rw [if_pos rfl, w_flag]
      rw [this]
    rw [e2]
    rfl
theorem w_run {l : List MRul} (hp : prl l = [⟨wT, wEx⟩]) {tr : Nat → Pl.RT} (ht : tr 0 = wTr) {Vs : List (List Bool)} {κ : Nat → Nat → Pl.Mem} (h : RunTo 1 l 10 tr [[wA], [wA], [wA]] Vs κ) : Vs = [[false], [false], [true]] := by
  obtain ⟨Vs2, V3, κ2, rfl, h, v3, _⟩ := RunTo.snoc_inv (fs := [[wA], [wA]]) h
  obtain ⟨Vs1, V2, κ1, rfl, h, v2, k2⟩ := RunTo.snoc_inv (fs := [[wA]]) h
  obtain ⟨Vs0, V1, κ0, rfl, h, v1, k1⟩ := RunTo.snoc_inv (fs := []) h
  obtain ⟨rfl, k0⟩ := h.nil_inv
  obtain ⟨e1, f1⟩ := w_step (b := false) (t := 0) ht (by rw [k0]) hp v1
  rw [← k1] at f1
  obtain ⟨e2, f2⟩ := w_step (b := true) (t := Pl.tim 10 (false, 0)) ht f1 hp v2
  rw [← k2] at f2
  obtain ⟨e3, f3⟩ := w_step (b := true) ht f2 hp v3
  rw [e1, e2, e3]
  decide
end Go.Proofs.Ytpamgeemmbbkkaa
namespace Go.Proofs.Ytpamgeemmbbkkaa
open Go.RowKit
set_option maxRecDepth 100000
theorem below_one (w : World) (o : Obj) : Below w.heap.size w (w.alloc o) := (Below.refl _ w).alloc (Nat.le_refl _) o
def wF (g : Nat) : MTx := ⟨some ⟨g, 0, none⟩, 1, 1, [wA]⟩
theorem w_mem (w w1 w2 w3 w4 w5 w6 : World) (g : Nat) (hg : g = w.heap.size)
    (h1 : w1 = w.alloc (.cells #[.int .i64 6, .string ⟨#[]⟩, .int .i64 20, .int .i64 0, .string ⟨#[65]⟩, .int .i64 0] 93))
    (h2 : w2 = w1.alloc (.cells #[.string ⟨#[84]⟩, .slice (some ⟨g, 0, none⟩) 2 2] 96))
    (h3 : w3 = w2.alloc (.cells #[.string ⟨#[65]⟩] 9))
    (h4 : w4 = w3.alloc (.cells #[.string ⟨#[65]⟩] 9))
    (h5 : w5 = w4.alloc (.cells #[.string ⟨#[65]⟩] 9))
    (h6 : w6 = w5.alloc (.cells #[.slice (some ⟨g + 1 + 1, 0, none⟩) 1 1, .slice (some ⟨g + 1 + 1 + 1, 0, none⟩) 1 1, .slice (some ⟨g + 1 + 1 + 1 + 1, 0, none⟩) 1 1] 22)) :
    Below w.heap.size w w6 ∧ Ruls w6 w6.heap.size (some ⟨g + 1, 0, none⟩) 1 (wR (some ⟨g, 0, none⟩)) ∧ TGrid w6 w6.heap.size (some ⟨g + 1 + 1 + 1 + 1 + 1, 0, none⟩) 3 [wF (g + 1 + 1), wF (g + 1 + 1 + 1), wF (g + 1 + 1 + 1 + 1)] := by
  have s1 : w1.heap.size = g + 1 := by rw [h1, hg]; simp
  have s2 : w2.heap.size = g + 1 + 1 := by rw [h2, ← s1]; simp
  have s3 : w3.heap.size = g + 1 + 1 + 1 := by rw [h3, ← s2]; simp
  have s4 : w4.heap.size = g + 1 + 1 + 1 + 1 := by rw [h4, ← s3]; simp
  have s5 : w5.heap.size = g + 1 + 1 + 1 + 1 + 1 := by rw [h5, ← s4]; simp
  have b1 : Below w.heap.size w w1 := by rw [h1]; exact below_one _ _
  have b2 : Below w1.heap.size w1 w2 := by rw [h2]; exact below_one _ _
  have b3 : Below w2.heap.size w2 w3 := by rw [h3]; exact below_one _ _
  have b4 : Below w3.heap.size w3 w4 := by rw [h4]; exact below_one _ _
  have b5 : Below w4.heap.size w4 w5 := by rw [h5]; exact below_one _ _
  have b6 : Below w5.heap.size w5 w6 := by rw [h6]; exact below_one _ _
  have r1 : Reads w1 w1.heap.size 3 (some ⟨g, 0, none⟩) 2 (wEx.flatMap rnC) := by rw [h1]; exact Reads.lit w _ _ 2 3 g hg rfl
  have r2 : Reads w2 w2.heap.size 2 (some ⟨g + 1, 0, none⟩) 1 ((wR (some ⟨g, 0, none⟩)).flatMap rulC) := by rw [h2]; exact Reads.lit w1 _ _ 1 2 (g + 1) s1.symm rfl
  have r3 : Reads w3 w3.heap.size 1 (some ⟨g + 1 + 1, 0, none⟩) 1 (txts [wA]) := by rw [h3]; exact Reads.lit w2 _ _ 1 1 _ s2.symm rfl
  have r4 : Reads w4 w4.heap.size 1 (some ⟨g + 1 + 1 + 1, 0, none⟩) 1 (txts [wA]) := by rw [h4]; exact Reads.lit w3 _ _ 1 1 _ s3.symm rfl
  have r5 : Reads w5 w5.heap.size 1 (some ⟨g + 1 + 1 + 1 + 1, 0, none⟩) 1 (txts [wA]) := by rw [h5]; exact Reads.lit w4 _ _ 1 1 _ s4.symm rfl
  have r6 : Reads w6 w6.heap.size 1 (some ⟨g + 1 + 1 + 1 + 1 + 1, 0, none⟩) 3 ([wF (g + 1 + 1), wF (g + 1 + 1 + 1), wF (g + 1 + 1 + 1 + 1)].flatMap txC) := by rw [h6]; exact Reads.lit w5 _ _ 3 1 _ s5.symm rfl
  have r1 := ((((r1.go b2).go b3).go b4).go b5).go b6
  have r2 := (((r2.go b3).go b4).go b5).go b6
  have r3 := ((r3.go b4).go b5).go b6
  have r4 := (r4.go b5).go b6
  have r5 := r5.go b6
  refine ⟨b1.trans ((b2.trans ((b3.trans ((b4.trans ((b5.trans (b6.mono b5.size)).mono b4.size)).mono b3.size)).mono b2.size)).mono b1.size), ⟨⟨r2, rfl⟩, fun o ho => ?_⟩, ⟨r6, rfl⟩, fun x hx => ?_⟩
  · rw [List.mem_singleton.1 ho]
    refine ⟨by show 2 ≤ _; omega, Nat.le_refl _, ⟨r1, rfl⟩, by show wT.size ≤ _; decide, fun x hx => ?_⟩
    have hx : x ∈ wEx := hx
    unfold wEx at hx
    simp only [List.mem_cons, List.not_mem_nil, or_false] at hx
    rcases hx with rfl | rfl <;> decide
  · simp only [List.mem_cons, List.not_mem_nil, or_false] at hx
    rcases hx with rfl | rfl | rfl
    · exact ⟨by show 1 ≤ _; omega, Nat.le_refl _, r3⟩
    · exact ⟨by show 1 ≤ _; omega, Nat.le_refl _, r4⟩
    · exact ⟨by show 1 ≤ _; omega, Nat.le_refl _, r5⟩
theorem w_outs {A : Option Addr} {outs : List MTx} (h : outs.map MTx.ts = [[false], [false], [true]].map (outsP (wR A))) : ∃ x y z, outs = [x, y, z] ∧ x.ts = [] ∧ y.ts = [] ∧ z.ts = [wT] := by
  have hl : outs.length = 3 := by have := congrArg List.length h; simpa using this
  match outs, hl with
  | [x, y, z], _ =>
    injection h with h1 h
    injection h with h2 h
    injection h with h3 h
    exact ⟨x, y, z, rfl, h1, h2, h3⟩
theorem w_cells {w : World} {A : Option Addr} {x y z : MTx} (h : TGrid w w.heap.size A 3 [x, y, z]) (hx : x.ts = []) (hy : y.ts = []) (hz : z.ts = [wT]) :
    ∃ b o xA xc yA yc zA zc, A = some ⟨b, o, none⟩ ∧ b < w.heap.size ∧ w.cell? ⟨b, o, none⟩ = some (.slice xA 0 xc) ∧ w.cell? ⟨b, o + 1, none⟩ = some (.slice yA 0 yc) ∧ w.cell? ⟨b, o + 2, none⟩ = some (.slice zA 1 zc) ∧ Reads w w.heap.size 1 zA 1 (txts [wT]) := by
  obtain ⟨b, o, rfl, hbl, _, c0, _, _, p0⟩ := tgrid_at h (k := 0) (by omega)
  obtain ⟨b1, o1, e1, _, _, c1, _, _, p1⟩ := tgrid_at h (k := 1) (by omega)
  obtain ⟨b2, o2, e2, _, _, c2, _, _, p2⟩ := tgrid_at h (k := 2) (by omega)
  injection e1 with e1; injection e1 with e11 e12; subst e11 e12
  injection e2 with e2; injection e2 with e21 e22; subst e21 e22
  have c0 : w.cell? ⟨b, o, none⟩ = some (.slice x.A x.n x.c) := c0
  have c1 : w.cell? ⟨b, o + 1, none⟩ = some (.slice y.A y.n y.c) := c1
  have c2 : w.cell? ⟨b, o + 2, none⟩ = some (.slice z.A z.n z.c) := c2
  have p0 : Reads w w.heap.size 1 x.A x.n (txts x.ts) := p0
  have p1 : Reads w w.heap.size 1 y.A y.n (txts y.ts) := p1
  have p2 : Reads w w.heap.size 1 z.A z.n (txts z.ts) := p2
  have n0 := txts_len p0
  have n1 := txts_len p1
  have n2 := txts_len p2
  rw [hx] at n0; rw [hy] at n1; rw [hz] at n2 p2
  have n0 : 0 = x.n := n0
  have n1 : 0 = y.n := n1
  have n2 : 1 = z.n := n2
  rw [← n0] at c0; rw [← n1] at c1; rw [← n2] at c2 p2
  exact ⟨b, o, _, _, _, _, _, _, rfl, hbl, c0, c1, c2, p2⟩
set_option maxHeartbeats 1600000 in
theorem relayWorks_any (w : World) : Calls Try.prog 21 #[] w fun e w' => e = .returned (.bool true) ∧ Below w.heap.size w w' := by
  go_enter Try.func21, Try.ntmps21
  go_wp2_with fail
  obtain ⟨hb0, hru, htg⟩ := w_mem w _ _ _ _ _ _ w.heap.size rfl rfl rfl rfl rfl rfl rfl
  generalize ((((((w.alloc (.cells #[.int .i64 6, .string ⟨#[]⟩, .int .i64 20, .int .i64 0, .string ⟨#[65]⟩, .int .i64 0] 93)).alloc (.cells #[.string ⟨#[84]⟩, .slice (some ⟨w.heap.size, 0, none⟩) 2 2] 96)).alloc (.cells #[.string ⟨#[65]⟩] 9)).alloc (.cells #[.string ⟨#[65]⟩] 9)).alloc (.cells #[.string ⟨#[65]⟩] 9)).alloc (.cells #[.slice (some ⟨w.heap.size + 1 + 1, 0, none⟩) 1 1, .slice (some ⟨w.heap.size + 1 + 1 + 1, 0, none⟩) 1 1, .slice (some ⟨w.heap.size + 1 + 1 + 1 + 1, 0, none⟩) 1 1] 22)) = w6 at *
  obtain ⟨tr, htr⟩ := trees_of (l := wR (some ⟨w.heap.size, 0, none⟩)) (n := 1) rfl wR_relE
  have ht0 : tr 0 = wTr := w_tree (htr 0 _ rfl)
  have HX := Lib.hid hb0
  have HC := Lib.hid (rrun_ok (some ⟨w.heap.size + 1, 0, none⟩) 1 1 (wR (some ⟨w.heap.size, 0, none⟩)) 10 (some ⟨w.heap.size + 1 + 1 + 1 + 1 + 1, 0, none⟩) 3 3 [wF (w.heap.size + 1 + 1), wF (w.heap.size + 1 + 1 + 1), wF (w.heap.size + 1 + 1 + 1 + 1)] w6 (by omega) (by omega) hru wR_relE (by omega) (by omega) htg tr (fun l1 ol hs ho => prg_tr rfl wR_relE (fun o ho => by rw [List.mem_singleton.1 ho]; rfl) htr hs ho))
  have HT := Lib.hid ht0
  clear hb0 hru htg htr ht0
  refine HC.out.mono ?_
  rintro e w7 hs
  unfold RRunSaid at hs
  rcases hs with ⟨_, _, x, hx, h256⟩ | ⟨A', c', Vs, κ, l1, outs, he, hrt, hsr, hgr, hot, hb, _⟩
  · exfalso
    simp only [List.mem_cons, List.not_mem_nil, or_false] at hx
    rcases hx with rfl | rfl | rfl <;> exact absurd h256 (by show ¬ 256 < 1; omega)
  have hVs := w_run (l := l1) (by rw [hsr.prl]; rfl) HT.out hrt
  rw [hVs] at hot
  obtain ⟨x, y, z, rfl, hx, hy, hz⟩ := w_outs hot
  have F2 := Lib.hid (HX.out.trans (hb.mono HX.out.size))
  have he : e = .returned (.tuple #[.slice A' 3 c', .int .i64 0]) := he
  subst he
  obtain ⟨b, o, xA, xc, yA, yc, zA, zc, rfl, hbl, c0, c1, c2, p2⟩ := w_cells hgr hx hy hz
  have P2 := Lib.hid p2
  clear hrt hsr hot hVs HC HT HX hb p2 hx hy hz hgr
  go_wp2_with fail
  have d1 := below_one w7 (.cells #[.string ⟨#[84]⟩] 9)
  have HS := Lib.hid (sameTexts_any zA (some ⟨w7.heap.size, 0, none⟩) 1 zc 1 1 [wT] [wT] (w7.alloc (.cells #[.string ⟨#[84]⟩] 9)) (by omega) (P2.out.go d1) (Reads.lit w7 _ _ 1 1 _ rfl rfl))
  rw [Pl.sameT_iff.2 rfl] at HS
  refine HS.out.mono ?_
  rintro e w8 ⟨rfl, hb8⟩
  have F3 := Lib.hid (F2.out.trans ((d1.trans (hb8.mono d1.size)).mono F2.out.size))
  clear d1 hb8 HS
  go_wp2_with fail
  go_ret
  exact ⟨rfl, F3.out⟩
end Go.Proofs.Ytpamgeemmbbkkaa
