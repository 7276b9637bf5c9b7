/- Shortest ways, plain: what zone's reach and the reference's Ways compute, and that both say the same. No program. -/
import Derived.Test.YtpamgeemmbbkkaaPField
namespace Go.Proofs.Ytpamgeemmbbkkaa.Pl
def farAt (far : List Int) (i : Int) : Int := far.getD i.toNat 0
def halfZ (s : List Int × Bool) (i k l : Int) : List Int × Bool :=
  if 0 ≤ farAt s.1 i ∧ (farAt s.1 k < 0 ∨ farAt s.1 i + l < farAt s.1 k) then (s.1.set k.toNat (farAt s.1 i + l), true) else s
def stepZ (s : List Int × Bool) (i k l : Int) : List Int × Bool := halfZ (halfZ s i k l) k i l
def swiZ (N : Net) (s : List Int × Bool) (x : Swi) : List Int × Bool := if x.opened = true then s else stepZ s (idxT N.nodes x.a) (idxT N.nodes x.b) 0
def braZ (N : Net) (wo : List ByteArray) (s : List Int × Bool) (x : Bra) : List Int × Bool := if inB wo x.name = true then s else stepZ s (idxT N.nodes x.from_) (idxT N.nodes x.to_) (1000 * x.x)
def roundS (N : Net) (far : List Int) : List Int × Bool := N.switches.foldl (swiZ N) (far, false)
def roundZ (N : Net) (wo : List ByteArray) (far : List Int) : List Int × Bool := N.branches.foldl (braZ N wo) (roundS N far)
def Adj (E : Int → Int → Int → Prop) (u v l : Int) : Prop := E u v l ∨ E v u l
inductive WalkZ (E : Int → Int → Int → Prop) (s : Int) : Int → Int → Prop where
  | nil : WalkZ E s s 0
  | step {u v d l : Int} : WalkZ E s u d → Adj E u v l → WalkZ E s v (d + l)
/-- the edges without some branches -/
def ZE (N : Net) (wo : List ByteArray) (i k l : Int) : Prop :=
  (∃ x ∈ N.switches, x.opened = false ∧ i = idxT N.nodes x.a ∧ k = idxT N.nodes x.b ∧ l = 0) ∨ (∃ x ∈ N.branches, inB wo x.name = false ∧ i = idxT N.nodes x.from_ ∧ k = idxT N.nodes x.to_ ∧ l = 1000 * x.x)
structure EOk (E : Int → Int → Int → Prop) (n : Nat) : Prop where
  inn : ∀ i k l, E i k l → 0 ≤ i ∧ i < n ∧ 0 ≤ k ∧ k < n ∧ i ≠ k ∧ 0 ≤ l ∧ l ≤ 10000000
def cntN (far : List Int) : Nat := far.countP (fun x => decide (0 ≤ x))
def msr1 (x : Int) : Nat := if x < 0 then 300000001 else x.toNat
def msr : List Int → Nat
  | [] => 0
  | x :: l => msr1 x + msr l
structure ZInv (E : Int → Int → Int → Prop) (s : Int) (n : Nat) (far : List Int) : Prop where
  len : far.length = n
  val : ∀ v : Int, 0 ≤ v → v < n → farAt far v = -1 ∨ (0 ≤ farAt far v ∧ WalkZ E s v (farAt far v))
  bnd : ∀ v : Int, farAt far v ≤ cntN far * 10000000
  src : farAt far s = 0
theorem farAt_set (far : List Int) (k i x : Int) (hk : 0 ≤ k ∧ k < far.length) (hi : 0 ≤ i) : farAt (far.set k.toNat x) i = if i = k then x else farAt far i := by
  unfold farAt
  rw [List.getD_eq_getElem?_getD, List.getD_eq_getElem?_getD, List.getElem?_set]
  by_cases h : i = k
  · subst h
    rw [if_pos rfl, if_pos rfl, if_pos (by omega)]; rfl
  · rw [if_neg (by omega), if_neg h]
theorem farAt_far {far : List Int} {v : Int} (h : (far.length : Int) ≤ v) : farAt far v = 0 := by
  unfold farAt
  rw [List.getD_eq_getElem?_getD, List.getElem?_eq_none (by omega)]; rfl
theorem cntN_le (far : List Int) : cntN far ≤ far.length := List.countP_le_length
theorem farAt_get {far : List Int} {k : Int} (hk : 0 ≤ k ∧ k < far.length) : farAt far k = far[k.toNat]'(by omega) := by
  unfold farAt
  rw [List.getD_eq_getElem?_getD, List.getElem?_eq_getElem (by omega)]; rfl
theorem msr_set : ∀ (far : List Int) (k : Nat) (x : Int) (hk : k < far.length), msr (far.set k x) + msr1 far[k] = msr far + msr1 x
  | y :: l, 0, x, _ => by simp [msr]; omega
  | y :: l, k + 1, x, hk => by
    have := msr_set l k x (by simpa using hk)
    simp [msr]; omega
theorem half_ok {E : Int → Int → Int → Prop} {s : Int} {n : Nat} {far : List Int} {b : Bool} {i k l : Int} (hE : EOk E n) (hn : n ≤ 24) (hs : 0 ≤ s ∧ s < n) (h : ZInv E s n far) (he : Adj E i k l) :
    ZInv E s n (halfZ (far, b) i k l).1 ∧ msr (halfZ (far, b) i k l).1 ≤ msr far ∧ ((halfZ (far, b) i k l) = (far, b) ∨ ((halfZ (far, b) i k l).2 = true ∧ msr (halfZ (far, b) i k l).1 < msr far)) := by
  have hin : 0 ≤ i ∧ i < n ∧ 0 ≤ k ∧ k < n ∧ i ≠ k ∧ 0 ≤ l ∧ l ≤ 10000000 := by
    rcases he with he | he
    · exact hE.inn _ _ _ he
    · obtain ⟨a, b, c, d, e, f, g⟩ := hE.inn _ _ _ he
      exact ⟨c, d, a, b, fun h => e h.symm, f, g⟩
  obtain ⟨hi0, hi1, hk0, hk1, hik, hl0, hl1⟩ := hin
  have hlen := h.len
  unfold halfZ
  by_cases hc : 0 ≤ farAt far i ∧ (farAt far k < 0 ∨ farAt far i + l < farAt far k)
  · rw [if_pos hc]
    simp only
    have hkk : 0 ≤ k ∧ k < far.length := ⟨hk0, by omega⟩
    have hbi := h.bnd i
    have hbk := h.bnd k
    have hcl := cntN_le far
    have hgk := farAt_get hkk
    have hcnt : cntN (far.set k.toNat (farAt far i + l)) = (if farAt far k < 0 then cntN far + 1 else cntN far) := by
      have hcs := List.countP_set (p := fun x : Int => decide (0 ≤ x)) (l := far) (i := k.toNat) (a := farAt far i + l) (by omega)
      unfold cntN
      rw [hcs, ← hgk]
      have e1 : (if decide (0 ≤ farAt far i + l) = true then 1 else 0) = 1 := if_pos (by simp; omega)
      rw [e1]
      by_cases h0 : farAt far k < 0
      · have e2 : (if decide (0 ≤ farAt far k) = true then 1 else 0) = 0 := if_neg (by simp; omega)
        rw [if_pos h0, e2]; rfl
      · have e2 : (if decide (0 ≤ farAt far k) = true then 1 else 0) = 1 := if_pos (by simp; omega)
        rw [if_neg h0, e2]
        have hpos : 0 < List.countP (fun x : Int => decide (0 ≤ x)) far := by
          rw [List.countP_pos_iff]
          exact ⟨far[k.toNat]'(by omega), List.getElem_mem _, by rw [← hgk]; simp; omega⟩
        show List.countP _ far - 1 + 1 = List.countP _ far
        omega
    have hms := msr_set far k.toNat (farAt far i + l) (by omega)
    rw [← hgk] at hms
    have hlt : msr1 (farAt far i + l) < msr1 (farAt far k) := by
      unfold msr1
      by_cases h0 : farAt far k < 0
      · rw [if_pos h0, if_neg (by omega)]
        have : (cntN far : Int) ≤ 24 := by omega
        omega
      · rw [if_neg h0, if_neg (by omega)]; omega
    refine ⟨⟨by rw [List.length_set]; exact hlen, fun v hv0 hv1 => ?_, fun v => ?_, ?_⟩, by omega, .inr ⟨by simp, by omega⟩⟩
    · rw [farAt_set _ _ _ _ hkk hv0]
      by_cases hvk : v = k
      · subst hvk
        rw [if_pos rfl]
        right
        refine ⟨by omega, ?_⟩
        rcases h.val i hi0 hi1 with h1 | ⟨_, h1⟩
        · omega
        · exact .step h1 he
      · rw [if_neg hvk]
        exact h.val v hv0 hv1
    · rw [hcnt]
      rcases Int.lt_or_le v 0 with hv | hv
      · have e : farAt (far.set k.toNat (farAt far i + l)) v = farAt (far.set k.toNat (farAt far i + l)) 0 := by unfold farAt; rw [show v.toNat = (0 : Int).toNat by omega]
        rw [e, farAt_set _ _ _ _ hkk (by omega)]
        have hb0 := h.bnd 0
        split <;> split <;> omega
      · rw [farAt_set _ _ _ _ hkk hv]
        have hb0 := h.bnd v
        split <;> split <;> omega
    · rw [farAt_set _ _ _ _ hkk hs.1]
      by_cases hsk : s = k
      · exfalso
        subst hsk
        have := h.src
        omega
      · rw [if_neg hsk]; exact h.src
  · rw [if_neg hc]
    exact ⟨h, Nat.le_refl _, .inl rfl⟩
theorem half_closed {far : List Int} {i k l : Int} (h : halfZ (far, false) i k l = (far, false)) (h0 : 0 ≤ farAt far i) : 0 ≤ farAt far k ∧ farAt far k ≤ farAt far i + l := by
  unfold halfZ at h
  split at h
  · have := congrArg Prod.snd h
    cases this
  · rename_i hc
    simp only at hc
    omega
/-- what holds behind a part of a round that began with f0 -/
structure ZS (E : Int → Int → Int → Prop) (s : Int) (n : Nat) (f0 : List Int) (st : List Int × Bool) : Prop where
  inv : ZInv E s n st.1
  le : msr st.1 ≤ msr f0
  lt : st.2 = true → msr st.1 < msr f0
  eq : st.2 = false → st.1 = f0
theorem half_zs {E : Int → Int → Int → Prop} {s : Int} {n : Nat} {f0 : List Int} {st : List Int × Bool} {i k l : Int} (hE : EOk E n) (hn : n ≤ 24) (hs : 0 ≤ s ∧ s < n) (h : ZS E s n f0 st) (he : Adj E i k l) :
    ZS E s n f0 (halfZ st i k l) ∧ ((halfZ st i k l).2 = false → st.2 = false ∧ (0 ≤ farAt f0 i → 0 ≤ farAt f0 k ∧ farAt f0 k ≤ farAt f0 i + l)) := by
  obtain ⟨far, b⟩ := st
  obtain ⟨h1, h2, h3⟩ := half_ok (b := b) hE hn hs h.inv he
  have hle := h.le
  simp only at hle h2 h3 h1
  refine ⟨⟨h1, by omega, fun hb => ?_, fun hb => ?_⟩, fun hb => ?_⟩
  · rcases h3 with h3 | h3
    · rw [h3] at hb ⊢
      exact h.lt hb
    · omega
  · rcases h3 with h3 | h3
    · rw [h3] at hb ⊢
      exact h.eq hb
    · rw [h3.1] at hb; cases hb
  · rcases h3 with h3 | h3
    · have hb' : b = false := by rw [h3] at hb; exact hb
      subst hb'
      have e : far = f0 := h.eq rfl
      subst e
      exact ⟨rfl, fun h0 => half_closed h3 h0⟩
    · rw [h3.1] at hb; cases hb
def ClosedE (f0 : List Int) (i k l : Int) : Prop := (0 ≤ farAt f0 i → 0 ≤ farAt f0 k ∧ farAt f0 k ≤ farAt f0 i + l) ∧ (0 ≤ farAt f0 k → 0 ≤ farAt f0 i ∧ farAt f0 i ≤ farAt f0 k + l)
theorem step_zs {E : Int → Int → Int → Prop} {s : Int} {n : Nat} {f0 : List Int} {st : List Int × Bool} {i k l : Int} (hE : EOk E n) (hn : n ≤ 24) (hs : 0 ≤ s ∧ s < n) (h : ZS E s n f0 st) (he : E i k l) :
    ZS E s n f0 (stepZ st i k l) ∧ ((stepZ st i k l).2 = false → st.2 = false ∧ ClosedE f0 i k l) := by
  obtain ⟨h1, h2⟩ := half_zs hE hn hs h (.inl he)
  obtain ⟨h3, h4⟩ := half_zs hE hn hs h1 (.inr he : Adj E k i l)
  refine ⟨h3, fun hb => ?_⟩
  obtain ⟨h5, h6⟩ := h4 hb
  obtain ⟨h7, h8⟩ := h2 h5
  exact ⟨h7, h8, h6⟩
theorem swi_zs {N : Net} {wo : List ByteArray} {s : Int} {n : Nat} {f0 : List Int} (hE : EOk (ZE N wo) n) (hn : n ≤ 24) (hs : 0 ≤ s ∧ s < n) : ∀ (l : List Swi) (st : List Int × Bool), (∀ x ∈ l, x ∈ N.switches) → ZS (ZE N wo) s n f0 st →
    ZS (ZE N wo) s n f0 (l.foldl (swiZ N) st) ∧ ((l.foldl (swiZ N) st).2 = false → st.2 = false ∧ ∀ x ∈ l, x.opened = false → ClosedE f0 (idxT N.nodes x.a) (idxT N.nodes x.b) 0)
  | [], st, _, h => ⟨h, fun hb => ⟨hb, by simp⟩⟩
  | x :: l, st, hm, h => by
    have hx := hm x (by simp)
    cases ho : x.opened with
    | true =>
      have e : swiZ N st x = st := by unfold swiZ; rw [if_pos ho]
      obtain ⟨h1, h2⟩ := swi_zs hE hn hs l st (fun y hy => hm y (by simp [hy])) h
      rw [List.foldl_cons, e]
      refine ⟨h1, fun hb => ⟨(h2 hb).1, fun y hy hyo => ?_⟩⟩
      rcases List.mem_cons.1 hy with rfl | hy
      · rw [ho] at hyo; cases hyo
      · exact (h2 hb).2 y hy hyo
    | false =>
      have e : swiZ N st x = stepZ st (idxT N.nodes x.a) (idxT N.nodes x.b) 0 := by unfold swiZ; rw [if_neg (by simp [ho])]
      obtain ⟨h3, h4⟩ := step_zs hE hn hs h (i := idxT N.nodes x.a) (k := idxT N.nodes x.b) (l := 0) (.inl ⟨x, hx, ho, rfl, rfl, rfl⟩)
      rw [List.foldl_cons, e]
      obtain ⟨h1, h2⟩ := swi_zs hE hn hs l _ (fun y hy => hm y (by simp [hy])) h3
      refine ⟨h1, fun hb => ?_⟩
      obtain ⟨h5, h6⟩ := h2 hb
      obtain ⟨h7, h8⟩ := h4 h5
      refine ⟨h7, fun y hy hyo => ?_⟩
      rcases List.mem_cons.1 hy with rfl | hy
      · exact h8
      · exact h6 y hy hyo
theorem bra_zs {N : Net} {wo : List ByteArray} {s : Int} {n : Nat} {f0 : List Int} (hE : EOk (ZE N wo) n) (hn : n ≤ 24) (hs : 0 ≤ s ∧ s < n) : ∀ (l : List Bra) (st : List Int × Bool), (∀ x ∈ l, x ∈ N.branches) → ZS (ZE N wo) s n f0 st →
    ZS (ZE N wo) s n f0 (l.foldl (braZ N wo) st) ∧ ((l.foldl (braZ N wo) st).2 = false → st.2 = false ∧ ∀ x ∈ l, inB wo x.name = false → ClosedE f0 (idxT N.nodes x.from_) (idxT N.nodes x.to_) (1000 * x.x))
  | [], st, _, h => ⟨h, fun hb => ⟨hb, by simp⟩⟩
  | x :: l, st, hm, h => by
    have hx := hm x (by simp)
    cases ho : inB wo x.name with
    | true =>
      have e : braZ N wo st x = st := by unfold braZ; rw [if_pos ho]
      obtain ⟨h1, h2⟩ := bra_zs hE hn hs l st (fun y hy => hm y (by simp [hy])) h
      rw [List.foldl_cons, e]
      refine ⟨h1, fun hb => ⟨(h2 hb).1, fun y hy hyo => ?_⟩⟩
      rcases List.mem_cons.1 hy with rfl | hy
      · rw [ho] at hyo; cases hyo
      · exact (h2 hb).2 y hy hyo
    | false =>
      have e : braZ N wo st x = stepZ st (idxT N.nodes x.from_) (idxT N.nodes x.to_) (1000 * x.x) := by unfold braZ; rw [if_neg (by simp [ho])]
      obtain ⟨h3, h4⟩ := step_zs hE hn hs h (i := idxT N.nodes x.from_) (k := idxT N.nodes x.to_) (l := 1000 * x.x) (.inr ⟨x, hx, ho, rfl, rfl, rfl⟩)
      rw [List.foldl_cons, e]
      obtain ⟨h1, h2⟩ := bra_zs hE hn hs l _ (fun y hy => hm y (by simp [hy])) h3
      refine ⟨h1, fun hb => ?_⟩
      obtain ⟨h5, h6⟩ := h2 hb
      obtain ⟨h7, h8⟩ := h4 h5
      refine ⟨h7, fun y hy hyo => ?_⟩
      rcases List.mem_cons.1 hy with rfl | hy
      · exact h8
      · exact h6 y hy hyo
theorem ze_ok {N : Net} (hok : NetOk N) (wo : List ByteArray) : EOk (ZE N wo) N.nodes.length := by
  refine ⟨fun i k l h => ?_⟩
  rcases h with ⟨x, hx, _, rfl, rfl, rfl⟩ | ⟨x, hx, _, rfl, rfl, rfl⟩
  · obtain ⟨h1, h2, h3⟩ := hok.swi x hx
    have a := idxT_mem h1
    have b := idxT_mem h2
    exact ⟨a.1, a.2.1, b.1, b.2.1, fun e => h3 (idxT_inj h1 h2 e), by omega, by omega⟩
  · obtain ⟨h1, h2, h3, h4⟩ := hok.bra x hx
    have a := idxT_mem h1
    have b := idxT_mem h2
    have hx : 1 ≤ x.x ∧ x.x ≤ 10000 := by
      unfold braOut outN at h4
      simp only [Bool.or_eq_false_iff, decide_eq_false_iff_not] at h4
      omega
    exact ⟨a.1, a.2.1, b.1, b.2.1, fun e => h3 (idxT_inj h1 h2 e), by omega, by omega⟩
theorem zs_start {E : Int → Int → Int → Prop} {s : Int} {n : Nat} {far : List Int} (h : ZInv E s n far) : ZS E s n far (far, false) := ⟨h, Nat.le_refl _, fun h => (by cases h), fun _ => rfl⟩
/-- what a whole round brings -/
theorem round_zs {N : Net} {wo : List ByteArray} {s : Int} {far : List Int} (hok : NetOk N) (hs : 0 ≤ s ∧ s < N.nodes.length) (h : ZInv (ZE N wo) s N.nodes.length far) :
    ZS (ZE N wo) s N.nodes.length far (roundZ N wo far) ∧ ((roundZ N wo far).2 = false → ∀ i k l, ZE N wo i k l → ClosedE far i k l) := by
  obtain ⟨h1, h2⟩ := swi_zs (ze_ok hok wo) hok.nn hs N.switches (far, false) (fun _ h => h) (zs_start h)
  obtain ⟨h3, h4⟩ := bra_zs (ze_ok hok wo) hok.nn hs N.branches _ (fun _ h => h) h1
  refine ⟨h3, fun hb i k l he => ?_⟩
  obtain ⟨h5, h6⟩ := h4 hb
  obtain ⟨_, h8⟩ := h2 h5
  rcases he with ⟨x, hx, ho, rfl, rfl, rfl⟩ | ⟨x, hx, ho, rfl, rfl, rfl⟩
  · exact h8 x hx ho
  · exact h6 x hx ho
def MinOf (S : Int → Prop) (m : Int) : Prop := (m = -1 ∧ ∀ d, ¬ S d) ∨ (0 ≤ m ∧ S m ∧ ∀ d, S d → m ≤ d)
theorem MinOf.uniq {S : Int → Prop} {a b : Int} (ha : MinOf S a) (hb : MinOf S b) : a = b := by
  rcases ha with ⟨h1, h2⟩ | ⟨h1, h2, h3⟩ <;> rcases hb with ⟨h4, h5⟩ | ⟨h4, h5, h6⟩
  · omega
  · exact absurd h5 (h2 _)
  · exact absurd h2 (h5 _)
  · have := h3 _ h5; have := h6 _ h2; omega
theorem MinOf.iff {S T : Int → Prop} {a : Int} (h : ∀ d, S d ↔ T d) (ha : MinOf S a) : MinOf T a := by
  have : S = T := funext fun d => propext (h d)
  rw [← this]; exact ha
/-- two sets where each bounds the other have the same least number -/
theorem MinOf.near {S T : Int → Prop} {a : Int} (h1 : ∀ d, S d → T d) (h2 : ∀ d, T d → ∃ e, e ≤ d ∧ S e) (ha : MinOf S a) : MinOf T a := by
  rcases ha with ⟨h3, h4⟩ | ⟨h3, h4, h5⟩
  · exact .inl ⟨h3, fun d hd => by obtain ⟨e, _, h⟩ := h2 d hd; exact h4 e h⟩
  · exact .inr ⟨h3, h1 _ h4, fun d hd => by obtain ⟨e, h6, h⟩ := h2 d hd; have := h5 e h; omega⟩
theorem min_empty : MinOf (fun _ => False) (-1) := .inl ⟨rfl, fun _ h => h⟩
def better (best d : Int) : Int := if 0 ≤ d ∧ (best < 0 ∨ d < best) then d else best
theorem MinOf.better {S T : Int → Prop} {a b : Int} (ha : MinOf S a) (hb : MinOf T b) : MinOf (fun d => S d ∨ T d) (better a b) := by
  unfold Pl.better
  rcases ha with ⟨h1, h2⟩ | ⟨h1, h2, h3⟩ <;> rcases hb with ⟨h4, h5⟩ | ⟨h4, h5, h6⟩
  · rw [if_neg (by omega)]
    exact .inl ⟨h1, fun d h => h.elim (h2 d) (h5 d)⟩
  · rw [if_pos (by omega)]
    exact .inr ⟨h4, .inr h5, fun d h => h.elim (fun h => absurd h (h2 d)) (h6 d)⟩
  · rw [if_neg (by omega)]
    exact .inr ⟨h1, .inl h2, fun d h => h.elim (h3 d) (fun h => absurd h (h5 d))⟩
  · split
    · exact .inr ⟨h4, .inr h5, fun d h => h.elim (fun h => by have := h3 d h; omega) (h6 d)⟩
    · exact .inr ⟨h1, .inl h2, fun d h => h.elim (h3 d) (fun h => by have := h6 d h; omega)⟩
/-- the last far: the lengths of the shortest walks -/
theorem far_min {E : Int → Int → Int → Prop} {s : Int} {n : Nat} {far : List Int} (h : ZInv E s n far) (hc : ∀ i k l, E i k l → ClosedE far i k l) {v : Int} (hv : 0 ≤ v ∧ v < n) :
    MinOf (WalkZ E s v) (farAt far v) := by
  have hall : ∀ {u d}, WalkZ E s u d → 0 ≤ farAt far u ∧ farAt far u ≤ d := by
    intro u d hw
    induction hw with
    | nil => have := h.src; omega
    | @step u v d l _ ha ih =>
      rcases ha with ha | ha
      · have := (hc _ _ _ ha).1 ih.1; omega
      · have := (hc _ _ _ ha).2 ih.1; omega
  rcases h.val v hv.1 hv.2 with h1 | ⟨h1, h2⟩
  · exact .inl ⟨h1, fun d hd => by have := (hall hd).1; omega⟩
  · exact .inr ⟨h1, h2, fun d hd => (hall hd).2⟩
theorem zinv_start {E : Int → Int → Int → Prop} {s : Int} {n : Nat} (hs : 0 ≤ s ∧ s < n) : ZInv E s n ((List.replicate n (-1)).set s.toNat 0) := by
  have hl : (List.replicate n (-1 : Int)).length = n := by simp
  have hat : ∀ v : Int, 0 ≤ v → v < n → farAt ((List.replicate n (-1)).set s.toNat 0) v = if v = s then 0 else -1 := by
    intro v h0 h1
    rw [farAt_set _ _ _ _ ⟨hs.1, by rw [hl]; exact hs.2⟩ h0]
    split
    · rfl
    · rw [farAt_get ⟨h0, by rw [hl]; exact h1⟩]
      simp
  have hle : ∀ v : Int, farAt ((List.replicate n (-1)).set s.toNat 0) v ≤ 0 := by
    intro v
    rcases Int.lt_or_le v n with h1 | h1
    · rcases Int.lt_or_le v 0 with h0 | h0
      · have e : farAt ((List.replicate n (-1)).set s.toNat 0) v = farAt ((List.replicate n (-1)).set s.toNat 0) 0 := by unfold farAt; rw [show v.toNat = (0 : Int).toNat by omega]
        rw [e, hat 0 (by omega) (by omega)]
        split <;> omega
      · rw [hat v h0 h1]
        split <;> omega
    · rw [farAt_far (by simpa using h1)]; omega
  refine ⟨by simp, fun v h0 h1 => ?_, fun v => ?_, by rw [hat s hs.1 hs.2, if_pos rfl]⟩
  · rw [hat v h0 h1]
    by_cases h : v = s
    · subst h
      rw [if_pos rfl]
      exact .inr ⟨by omega, .nil⟩
    · rw [if_neg h]; exact .inl rfl
  · have := hle v; omega
end Go.Proofs.Ytpamgeemmbbkkaa.Pl
