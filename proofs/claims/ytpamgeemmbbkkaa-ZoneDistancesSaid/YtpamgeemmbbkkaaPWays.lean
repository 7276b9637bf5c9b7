/- The reference's Ways, plain: the shortest simple way is as long as the shortest walk. No program. -/
import Derived.Test.YtpamgeemmbbkkaaPZone
namespace Go.Proofs.Ytpamgeemmbbkkaa.Pl
/-- a way from a node that repeats none of the nodes seen -/
inductive SpZ (E : Int → Int → Int → Prop) (P : Int → Int → Prop) : List Int → Int → Int → Prop where
  | stop {seen : List Int} {u d : Int} : P u d → SpZ E P seen u d
  | step {seen : List Int} {u v l d : Int} : Adj E u v l → v ∉ seen → SpZ E P (seen ++ [v]) v d → SpZ E P seen u (l + d)
inductive WalkF (E : Int → Int → Int → Prop) (P : Int → Int → Prop) : Int → Int → Prop where
  | stop {u d : Int} : P u d → WalkF E P u d
  | step {u v l d : Int} : Adj E u v l → WalkF E P v d → WalkF E P u (l + d)
inductive PathZ (E : Int → Int → Int → Prop) (P : Int → Int → Prop) : List Int → Int → Prop where
  | stop {u d : Int} : P u d → PathZ E P [u] d
  | step {u v l d : Int} {vs : List Int} : Adj E u v l → PathZ E P (v :: vs) d → PathZ E P (u :: v :: vs) (l + d)
theorem walkF_of {E : Int → Int → Int → Prop} {P : Int → Int → Prop} {s v d : Int} (h : WalkZ E s v d) : ∀ {r}, WalkF E P v r → WalkF E P s (d + r) := by
  induction h with
  | nil => intro r hr; rw [show 0 + r = r by omega]; exact hr
  | step _ ha ih => intro r hr; have := ih (.step ha hr); rw [Int.add_assoc]; exact this
theorem walkF_split {E : Int → Int → Int → Prop} {P : Int → Int → Prop} {u d : Int} (h : WalkF E P u d) : ∀ {s d0}, WalkZ E s u d0 → ∃ v d1 r, WalkZ E s v d1 ∧ P v r ∧ d0 + d = d1 + r := by
  induction h with
  | stop hp => intro s d0 h0; exact ⟨_, _, _, h0, hp, rfl⟩
  | step ha _ ih =>
    intro s d0 h0
    obtain ⟨v, d1, r, h1, h2, h3⟩ := ih (.step h0 ha)
    exact ⟨v, d1, r, h1, h2, by omega⟩
theorem path_from {E : Int → Int → Int → Prop} {P : Int → Int → Prop} (hE : ∀ u v l, Adj E u v l → 0 ≤ l) {l : List Int} {d : Int} (h : PathZ E P l d) : ∀ {u}, u ∈ l → ∃ vs d', PathZ E P (u :: vs) d' ∧ d' ≤ d ∧ (l.Nodup → (u :: vs).Nodup) := by
  induction h with
  | stop hp => intro u hu; simp at hu; subst hu; exact ⟨[], _, .stop hp, by omega, fun h => h⟩
  | @step u v l d vs ha hp ih =>
    intro x hx
    rcases List.mem_cons.1 hx with rfl | hx
    · exact ⟨_, _, .step ha hp, by omega, fun h => h⟩
    · obtain ⟨vs', d', h1, h2, h3⟩ := ih hx
      exact ⟨vs', d', h1, by have := hE _ _ _ ha; omega, fun h => h3 (List.nodup_cons.1 h).2⟩
theorem path_of_walk {E : Int → Int → Int → Prop} {P : Int → Int → Prop} (hE : ∀ u v l, Adj E u v l → 0 ≤ l) {u d : Int} (h : WalkF E P u d) : ∃ vs d', PathZ E P (u :: vs) d' ∧ d' ≤ d ∧ (u :: vs).Nodup := by
  induction h with
  | stop hp => exact ⟨[], _, .stop hp, by omega, by simp⟩
  | @step u v l d ha _ ih =>
    obtain ⟨vs, d', h1, h2, h3⟩ := ih
    have := hE _ _ _ ha
    rcases Classical.em (u ∈ v :: vs) with hu | hu
    · obtain ⟨vs', d'', h4, h5, h6⟩ := path_from hE h1 hu
      exact ⟨vs', d'', h4, by omega, h6 h3⟩
    · exact ⟨v :: vs, _, .step ha h1, by omega, List.nodup_cons.2 ⟨hu, h3⟩⟩
theorem sp_of_path {E : Int → Int → Int → Prop} {P : Int → Int → Prop} {l : List Int} {d : Int} (h : PathZ E P l d) : ∀ {u vs seen}, l = u :: vs → (∀ x ∈ vs, x ∉ seen) → l.Nodup → SpZ E P seen u d := by
  induction h with
  | stop hp => intro u vs seen e _ _; injection e with e1 e2; subst e1; exact .stop hp
  | @step u v l d vs ha _ ih =>
    intro u' vs' seen e h0 hn
    injection e with e1 e2
    subst e1; subst e2
    rw [List.nodup_cons] at hn
    refine .step ha (h0 v (by simp)) (ih rfl (fun x hx => ?_) hn.2)
    rw [List.mem_append, not_or]
    refine ⟨h0 x (by simp [hx]), fun e => ?_⟩
    simp at e
    subst e
    exact (List.nodup_cons.1 hn.2).1 hx
theorem walkF_of_sp {E : Int → Int → Int → Prop} {P : Int → Int → Prop} {seen : List Int} {u d : Int} (h : SpZ E P seen u d) : WalkF E P u d := by
  induction h with
  | stop hp => exact .stop hp
  | step ha _ _ ih => exact .step ha ih
/-- the least simple way is the least walk with what remains -/
theorem sp_min {E : Int → Int → Int → Prop} {P : Int → Int → Prop} (hE : ∀ u v l, Adj E u v l → 0 ≤ l) {s m : Int} (h : MinOf (SpZ E P [s] s) m) : MinOf (fun d => ∃ v d1 r, WalkZ E s v d1 ∧ P v r ∧ d = d1 + r) m := by
  refine h.near (fun d hd => ?_) (fun d hd => ?_)
  · obtain ⟨v, d1, r, h1, h2, h3⟩ := walkF_split (walkF_of_sp hd) .nil
    exact ⟨v, d1, r, h1, h2, by omega⟩
  · obtain ⟨v, d1, r, h1, h2, rfl⟩ := hd
    obtain ⟨vs, d', h3, h4, h5⟩ := path_of_walk hE (walkF_of h1 (.stop h2))
    refine ⟨d', h4, sp_of_path h3 rfl (fun x hx => ?_) h5⟩
    rw [List.nodup_cons] at h5
    simp
    exact fun e => h5.1 (e ▸ hx)
/-- one way through a switch -/
def hopS (o : Bool) (u : Int) (seen : List Int) (rec : Int → Int) (a b : Int) : Int := if o = false ∧ a = u ∧ b ∉ seen then rec b else -1
def swiW (N : Net) (u : Int) (seen : List Int) (rec : Int → Int) (best : Int) (x : Swi) : Int :=
  better (better best (hopS x.opened u seen rec (idxT N.nodes x.b) (idxT N.nodes x.a))) (hopS x.opened u seen rec (idxT N.nodes x.a) (idxT N.nodes x.b))
def endW (br : ByteArray) (u : Int) (x : Bra) (a part : Int) : Int := if lst x.name = lst br ∧ a = u then x.x * part else -1
def hopB (wo br : ByteArray) (u : Int) (seen : List Int) (rec : Int → Int) (x : Bra) (a b : Int) : Int := if lst x.name ≠ lst wo ∧ lst x.name ≠ lst br ∧ a = u ∧ b ∉ seen ∧ 0 ≤ rec b then 1000 * x.x + rec b else -1
def halfB (wo br : ByteArray) (u : Int) (seen : List Int) (rec : Int → Int) (x : Bra) (best a b part : Int) : Int := better (better best (endW br u x a part)) (hopB wo br u seen rec x a b)
def braW (N : Net) (wo br : ByteArray) (part : Int) (u : Int) (seen : List Int) (rec : Int → Int) (best : Int) (x : Bra) : Int :=
  halfB wo br u seen rec x (halfB wo br u seen rec x best (idxT N.nodes x.from_) (idxT N.nodes x.to_) part) (idxT N.nodes x.to_) (idxT N.nodes x.from_) (1000 - part)
/-- the reference's Ways, with fuel -/
def waysP (N : Net) (wo br : ByteArray) (part : Int) : Nat → Int → List Int → Int
  | 0, _, _ => -1
  | f + 1, u, seen => N.branches.foldl (braW N wo br part u seen (fun v => waysP N wo br part f v (seen ++ [v]))) (N.switches.foldl (swiW N u seen (fun v => waysP N wo br part f v (seen ++ [v]))) (-1))
/-- the place: an end of its branch, and what remains from there -/
def PlaceP (N : Net) (br : ByteArray) (part u d : Int) : Prop := ∃ x ∈ N.branches, lst x.name = lst br ∧ ((u = idxT N.nodes x.from_ ∧ d = x.x * part) ∨ (u = idxT N.nodes x.to_ ∧ d = x.x * (1000 - part)))
def BoundW (f : Nat) (r : Int) : Prop := -1 ≤ r ∧ r ≤ f * 10000000
theorem better_bound {K a b : Int} (ha : -1 ≤ a ∧ a ≤ K) (hb : -1 ≤ b ∧ b ≤ K) : -1 ≤ better a b ∧ better a b ≤ K := by
  unfold better
  split
  · exact hb
  · exact ha
theorem foldl_keep {α β : Type} (P : β → Prop) (f : β → α → β) : ∀ (l : List α) (b : β), P b → (∀ b x, x ∈ l → P b → P (f b x)) → P (l.foldl f b)
  | [], _, h, _ => h
  | x :: l, b, h, hs => foldl_keep P f l _ (hs b x (by simp) h) (fun b y hy => hs b y (by simp [hy]))
theorem hopS_bound {o : Bool} {u : Int} {seen : List Int} {rec : Int → Int} {a b K : Int} (hK : 0 ≤ K) (hr : ∀ v, v ∉ seen → -1 ≤ rec v ∧ rec v ≤ K) : -1 ≤ hopS o u seen rec a b ∧ hopS o u seen rec a b ≤ K := by
  unfold hopS
  split
  · rename_i h; exact hr _ h.2.2
  · omega
theorem x_range {N : Net} (hok : NetOk N) {x : Bra} (hx : x ∈ N.branches) : 1 ≤ x.x ∧ x.x ≤ 10000 := by
  obtain ⟨_, _, _, h4⟩ := hok.bra x hx
  unfold braOut outN at h4
  simp only [Bool.or_eq_false_iff, decide_eq_false_iff_not] at h4
  omega
theorem xpart_range {x part : Int} (hx : 1 ≤ x ∧ x ≤ 10000) (hp : 0 ≤ part ∧ part ≤ 1000) : 0 ≤ x * part ∧ x * part ≤ 10000000 := by
  refine ⟨Int.mul_nonneg (by omega) hp.1, ?_⟩
  have := Int.mul_le_mul hx.2 hp.2 hp.1 (by omega)
  omega
theorem endW_bound {br : ByteArray} {u : Int} {x : Bra} {a part K : Int} (hx : 1 ≤ x.x ∧ x.x ≤ 10000) (hp : 0 ≤ part ∧ part ≤ 1000) (hK : 10000000 ≤ K) : -1 ≤ endW br u x a part ∧ endW br u x a part ≤ K := by
  unfold endW
  have := xpart_range hx hp
  split <;> omega
theorem hopB_bound {wo br : ByteArray} {u : Int} {seen : List Int} {rec : Int → Int} {x : Bra} {a b K : Int} (hx : 1 ≤ x.x ∧ x.x ≤ 10000) (hK : 0 ≤ K) (hr : ∀ v, v ∉ seen → -1 ≤ rec v ∧ rec v ≤ K) : -1 ≤ hopB wo br u seen rec x a b ∧ hopB wo br u seen rec x a b ≤ K + 10000000 := by
  unfold hopB
  split
  · rename_i h; have := hr _ h.2.2.2.1; omega
  · omega
theorem waysP_bound {N : Net} (hok : NetOk N) {wo br : ByteArray} {part : Int} (hp : 0 ≤ part ∧ part ≤ 1000) : ∀ (f : Nat) (u : Int) (seen : List Int), -1 ≤ waysP N wo br part f u seen ∧ waysP N wo br part f u seen ≤ f * 10000000
  | 0, _, _ => by simp [waysP]
  | f + 1, u, seen => by
    have ih := waysP_bound hok (wo := wo) (br := br) hp f
    have hr : ∀ v, v ∉ seen → -1 ≤ waysP N wo br part f v (seen ++ [v]) ∧ waysP N wo br part f v (seen ++ [v]) ≤ f * 10000000 := fun v _ => ih v _
    unfold waysP
    refine foldl_keep (fun r => -1 ≤ r ∧ r ≤ ((f + 1 : Nat) : Int) * 10000000) _ _ _ (foldl_keep (fun r => -1 ≤ r ∧ r ≤ ((f + 1 : Nat) : Int) * 10000000) _ _ _ (by omega) (fun b x _ hb => ?_)) (fun b x hxm hb => ?_)
    · have hS : ∀ a b, -1 ≤ hopS x.opened u seen (fun v => waysP N wo br part f v (seen ++ [v])) a b ∧ hopS x.opened u seen (fun v => waysP N wo br part f v (seen ++ [v])) a b ≤ ((f + 1 : Nat) : Int) * 10000000 := fun a b => by have := hopS_bound (o := x.opened) (u := u) (a := a) (b := b) (by omega) hr; omega
      exact better_bound (better_bound hb (hS _ _)) (hS _ _)
    · have hx := x_range hok hxm
      have hh : ∀ best a b prt, (-1 ≤ best ∧ best ≤ ((f + 1 : Nat) : Int) * 10000000) → (0 ≤ prt ∧ prt ≤ 1000) → -1 ≤ halfB wo br u seen (fun v => waysP N wo br part f v (seen ++ [v])) x best a b prt ∧ halfB wo br u seen (fun v => waysP N wo br part f v (seen ++ [v])) x best a b prt ≤ ((f + 1 : Nat) : Int) * 10000000 := by
        intro best a b prt h1 h2
        refine better_bound (better_bound h1 (endW_bound hx h2 (by omega))) ?_
        have := hopB_bound (wo := wo) (br := br) (u := u) (a := a) (b := b) hx (by omega) hr
        omega
      exact hh _ _ _ _ (hh _ _ _ _ hb hp) (by omega)
theorem MinOf.fold {α : Type} (S : α → Int → Prop) (f : Int → α → Int) : ∀ (l : List α) (S0 : Int → Prop) (b : Int), MinOf S0 b → (∀ T b x, x ∈ l → MinOf T b → MinOf (fun d => T d ∨ S x d) (f b x)) → MinOf (fun d => S0 d ∨ ∃ x ∈ l, S x d) (l.foldl f b)
  | [], S0, b, h, _ => h.iff (fun d => by simp)
  | x :: l, S0, b, h, hs => by
    have h1 := MinOf.fold S f l _ _ (hs S0 b x (by simp) h) (fun T b y hy => hs T b y (by simp [hy]))
    refine h1.iff (fun d => ?_)
    constructor
    · rintro ((h | h) | ⟨y, hy, h⟩)
      · exact .inl h
      · exact .inr ⟨x, by simp, h⟩
      · exact .inr ⟨y, by simp [hy], h⟩
    · rintro (h | ⟨y, hy, h⟩)
      · exact .inl (.inl h)
      · rcases List.mem_cons.1 hy with rfl | hy
        · exact .inl (.inr h)
        · exact .inr ⟨y, hy, h⟩
theorem hopS_min {E : Int → Int → Int → Prop} {P : Int → Int → Prop} {o : Bool} {u : Int} {seen : List Int} {rec : Int → Int} {a b : Int} (hr : b ∉ seen → MinOf (SpZ E P (seen ++ [b]) b) (rec b)) :
    MinOf (fun d => o = false ∧ a = u ∧ b ∉ seen ∧ SpZ E P (seen ++ [b]) b d) (hopS o u seen rec a b) := by
  unfold hopS
  split
  · rename_i h
    exact (hr h.2.2).iff (fun d => ⟨fun hd => ⟨h.1, h.2.1, h.2.2, hd⟩, fun hd => hd.2.2.2⟩)
  · rename_i h
    exact .inl ⟨rfl, fun d hd => h ⟨hd.1, hd.2.1, hd.2.2.1⟩⟩
theorem hopB_min {E : Int → Int → Int → Prop} {P : Int → Int → Prop} {wo br : ByteArray} {u : Int} {seen : List Int} {rec : Int → Int} {x : Bra} {a b : Int} (hx : 1 ≤ x.x) (hr : b ∉ seen → MinOf (SpZ E P (seen ++ [b]) b) (rec b)) :
    MinOf (fun d => lst x.name ≠ lst wo ∧ lst x.name ≠ lst br ∧ a = u ∧ b ∉ seen ∧ ∃ e, SpZ E P (seen ++ [b]) b e ∧ d = 1000 * x.x + e) (hopB wo br u seen rec x a b) := by
  unfold hopB
  split
  · rename_i h
    obtain ⟨h1, h2, h3, h4, h5⟩ := h
    rcases hr h4 with ⟨h6, h7⟩ | ⟨h6, h7, h8⟩
    · omega
    · refine .inr ⟨by omega, ⟨h1, h2, h3, h4, _, h7, rfl⟩, ?_⟩
      rintro d ⟨_, _, _, _, e, he, rfl⟩
      have := h8 e he
      omega
  · rename_i h
    refine .inl ⟨rfl, ?_⟩
    rintro d ⟨h1, h2, h3, h4, e, he, rfl⟩
    rcases hr h4 with ⟨h6, h7⟩ | ⟨h6, h7, h8⟩
    · exact h7 e he
    · exact h ⟨h1, h2, h3, h4, h6⟩
theorem endW_min {br : ByteArray} {u : Int} {x : Bra} {a part : Int} (hx : 1 ≤ x.x ∧ x.x ≤ 10000) (hp : 0 ≤ part ∧ part ≤ 1000) : MinOf (fun d => lst x.name = lst br ∧ a = u ∧ d = x.x * part) (endW br u x a part) := by
  unfold endW
  split
  · rename_i h
    exact .inr ⟨(xpart_range hx hp).1, ⟨h.1, h.2, rfl⟩, fun d hd => by omega⟩
  · rename_i h
    exact .inl ⟨rfl, fun d hd => h ⟨hd.1, hd.2.1⟩⟩
theorem waysP_min {N : Net} (hok : NetOk N) {wo br : ByteArray} {part : Int} (hp : 0 ≤ part ∧ part ≤ 1000) : ∀ (f : Nat) (u : Int) (seen : List Int), seen.Nodup → (∀ v ∈ seen, 0 ≤ v ∧ v < N.nodes.length) → N.nodes.length < seen.length + f →
    MinOf (SpZ (ZE N [wo, br]) (PlaceP N br part) seen u) (waysP N wo br part f u seen)
  | 0, u, seen, hn, hi, hf => by
    exfalso
    have hnd : (seen.map Int.toNat).Nodup := by
      have : ∀ l : List Int, (∀ v ∈ l, 0 ≤ v) → l.Nodup → (l.map Int.toNat).Nodup := by
        intro l
        induction l with
        | nil => simp
        | cons a l ih =>
          intro h0 hn
          rw [List.nodup_cons] at hn
          rw [List.map_cons, List.nodup_cons]
          refine ⟨fun hm => ?_, ih (fun v hv => h0 v (by simp [hv])) hn.2⟩
          obtain ⟨b, hb, e⟩ := List.mem_map.1 hm
          have h1 := h0 a (by simp)
          have h2 := h0 b (by simp [hb])
          exact hn.1 (by rw [show a = b by omega]; exact hb)
      exact this seen (fun v hv => (hi v hv).1) hn
    have hs : (seen.map Int.toNat) ⊆ List.range N.nodes.length := by
      intro x hx
      obtain ⟨v, hv, rfl⟩ := List.mem_map.1 hx
      have := hi v hv
      simp; omega
    have := hnd.length_le_of_subset hs
    simp at this
    omega
  | f + 1, u, seen, hn, hi, hf => by
    have ih : ∀ v : Int, 0 ≤ v → v < N.nodes.length → v ∉ seen → MinOf (SpZ (ZE N [wo, br]) (PlaceP N br part) (seen ++ [v]) v) (waysP N wo br part f v (seen ++ [v])) := by
      intro v h0 h1 hv
      refine waysP_min hok hp f v (seen ++ [v]) ?_ ?_ (by simp; omega)
      · rw [List.nodup_append]
        exact ⟨hn, by simp, fun a ha b hb => by simp at hb; subst hb; exact fun e => hv (e ▸ ha)⟩
      · intro x hx
        rcases List.mem_append.1 hx with hx | hx
        · exact hi x hx
        · simp at hx; subst hx; exact ⟨h0, h1⟩
    unfold waysP
    let rec' := fun v => waysP N wo br part f v (seen ++ [v])
    let HS : Bool → Int → Int → Int → Prop := fun o a b d => o = false ∧ a = u ∧ b ∉ seen ∧ SpZ (ZE N [wo, br]) (PlaceP N br part) (seen ++ [b]) b d
    let HE : Bra → Int → Int → Int → Prop := fun x a prt d => lst x.name = lst br ∧ a = u ∧ d = x.x * prt
    let HB : Bra → Int → Int → Int → Prop := fun x a b d => lst x.name ≠ lst wo ∧ lst x.name ≠ lst br ∧ a = u ∧ b ∉ seen ∧ ∃ e, SpZ (ZE N [wo, br]) (PlaceP N br part) (seen ++ [b]) b e ∧ d = 1000 * x.x + e
    have h1 := MinOf.fold (fun (x : Swi) d => HS x.opened (idxT N.nodes x.b) (idxT N.nodes x.a) d ∨ HS x.opened (idxT N.nodes x.a) (idxT N.nodes x.b) d) (swiW N u seen rec') N.switches (fun _ => False) (-1) min_empty (fun T b x hx hT => by
      obtain ⟨ha, hb, _⟩ := hok.swi x hx
      have ia := idxT_mem ha
      have ib := idxT_mem hb
      refine ((hT.better (hopS_min (fun h => ih _ ia.1 ia.2.1 h))).better (hopS_min (fun h => ih _ ib.1 ib.2.1 h))).iff (fun d => ?_)
      exact or_assoc)
    have h2 := MinOf.fold (fun (x : Bra) d => (HE x (idxT N.nodes x.from_) part d ∨ HB x (idxT N.nodes x.from_) (idxT N.nodes x.to_) d) ∨ (HE x (idxT N.nodes x.to_) (1000 - part) d ∨ HB x (idxT N.nodes x.to_) (idxT N.nodes x.from_) d)) (braW N wo br part u seen rec') N.branches _ _ h1 (fun T b x hx hT => by
      obtain ⟨ha, hb, _⟩ := hok.bra x hx
      have ia := idxT_mem ha
      have ib := idxT_mem hb
      have hxr := x_range hok hx
      refine ((((hT.better (endW_min hxr hp)).better (hopB_min hxr.1 (fun h => ih _ ib.1 ib.2.1 h))).better (endW_min hxr (by omega : 0 ≤ 1000 - part ∧ 1000 - part ≤ 1000))).better (hopB_min hxr.1 (fun h => ih _ ia.1 ia.2.1 h))).iff (fun d => ?_)
      exact ⟨fun h => h.elim (fun h => h.elim (fun h => h.elim (fun h => h.elim .inl (fun h => .inr (.inl (.inl h)))) (fun h => .inr (.inl (.inr h)))) (fun h => .inr (.inr (.inl h)))) (fun h => .inr (.inr (.inr h))),
        fun h => h.elim (fun h => .inl (.inl (.inl (.inl h)))) (fun h => h.elim (fun h => h.elim (fun h => .inl (.inl (.inl (.inr h)))) (fun h => .inl (.inl (.inr h)))) (fun h => h.elim (fun h => .inl (.inr h)) .inr))⟩)
    have hname : ∀ x : Bra, inB [wo, br] x.name = false ↔ lst x.name ≠ lst wo ∧ lst x.name ≠ lst br := by
      intro x
      unfold inB
      simp only [List.any_cons, List.any_nil, Bool.or_false, Bool.or_eq_false_iff, decide_eq_false_iff_not]
      exact ⟨fun h => ⟨fun e => h.1 e.symm, fun e => h.2 e.symm⟩, fun h => ⟨fun e => h.1 e.symm, fun e => h.2 e.symm⟩⟩
    refine h2.iff (fun d => ?_)
    constructor
    · rintro ((h | ⟨x, hx, ⟨h3, h4, h5, h6⟩ | ⟨h3, h4, h5, h6⟩⟩) | ⟨x, hx, (⟨h3, h4, h5⟩ | ⟨h3, h4, h5, h6, e, h7, h8⟩) | (⟨h3, h4, h5⟩ | ⟨h3, h4, h5, h6, e, h7, h8⟩)⟩)
      · exact h.elim
      · have := SpZ.step (l := 0) (u := u) (.inr (.inl ⟨x, hx, h3, rfl, h4.symm, rfl⟩)) h5 h6
        rw [show 0 + d = d by omega] at this; exact this
      · have := SpZ.step (l := 0) (u := u) (.inl (.inl ⟨x, hx, h3, h4.symm, rfl, rfl⟩)) h5 h6
        rw [show 0 + d = d by omega] at this; exact this
      · exact .stop ⟨x, hx, h3, .inl ⟨h4.symm, h5⟩⟩
      · rw [h8]
        exact .step (.inl (.inr ⟨x, hx, (hname x).2 ⟨h3, h4⟩, h5.symm, rfl, rfl⟩)) h6 h7
      · exact .stop ⟨x, hx, h3, .inr ⟨h4.symm, h5⟩⟩
      · rw [h8]
        exact .step (.inr (.inr ⟨x, hx, (hname x).2 ⟨h3, h4⟩, rfl, h5.symm, rfl⟩)) h6 h7
    · intro h
      cases h with
      | stop hP =>
        obtain ⟨x, hx, h3, ⟨h4, h5⟩ | ⟨h4, h5⟩⟩ := hP
        · exact .inr ⟨x, hx, .inl (.inl ⟨h3, h4.symm, h5⟩)⟩
        · exact .inr ⟨x, hx, .inr (.inl ⟨h3, h4.symm, h5⟩)⟩
      | @step _ _ v l e ha hv hs =>
        rcases ha with (⟨x, hx, h3, h4, h5, h6⟩ | ⟨x, hx, h3, h4, h5, h6⟩) | (⟨x, hx, h3, h4, h5, h6⟩ | ⟨x, hx, h3, h4, h5, h6⟩)
        · subst h5; subst h6
          rw [show 0 + e = e by omega]
          exact .inl (.inr ⟨x, hx, .inr ⟨h3, h4.symm, hv, hs⟩⟩)
        · subst h5; subst h6
          exact .inr ⟨x, hx, .inl (.inr ⟨((hname x).1 h3).1, ((hname x).1 h3).2, h4.symm, hv, e, hs, rfl⟩)⟩
        · subst h4; subst h6
          rw [show 0 + e = e by omega]
          exact .inl (.inr ⟨x, hx, .inl ⟨h3, h5.symm, hv, hs⟩⟩)
        · subst h4; subst h6
          exact .inr ⟨x, hx, .inr (.inr ⟨((hname x).1 h3).1, ((hname x).1 h3).2, h5.symm, hv, e, hs, rfl⟩)⟩
end Go.Proofs.Ytpamgeemmbbkkaa.Pl
