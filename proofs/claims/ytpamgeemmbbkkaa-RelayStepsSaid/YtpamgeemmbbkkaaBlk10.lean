/- What an evaluation of a relay's operation leaves behind: words for the walks. No condition. A step of a relay, plain: what an evaluation leaves for later. No program. -/
import Derived.Test.YtpamgeemmbbkkaaBlk09
namespace Go.Proofs.Ytpamgeemmbbkkaa
open Go.RowKit
namespace Pl
theorem dls_sz : ∀ t, (dls t).length ≤ sz t
  | .leaf _ _ => by unfold dls; simp
  | .un _ _ a => by
    have := dls_sz a
    unfold dls sz
    split <;> simp <;> omega
  | .bin _ _ a b => by
    have := dls_sz a
    have := dls_sz b
    unfold dls sz
    simp; omega
end Pl
theorem kput_kapp (κ : Nat → Nat → Pl.Mem) (k a : Nat) (us : List (Nat × Pl.Mem)) (v : Pl.Mem) : kput (Pl.kapp κ k us) k a v = Pl.kapp κ k (us ++ [(a, v)]) := by
  funext l b
  unfold kput
  by_cases h : l = k
  · subst h
    rw [Pl.kapp_self, Pl.kapp_self, Pl.app_append]
    show _ = Pl.put1 (Pl.app (κ l) us) (a, v) b
    unfold Pl.put1
    simp
  · unfold Pl.kapp; simp [h]
section
variable {w w1 w2 : World} {B s r gv b : Nat} {A : Option Addr} {n c : Nat} {l : List MRul} {O : Value} {vs : List Bool} {ms : Int} {Af : Option Addr} {nf cf : Nat} {fs : List ByteArray} {vL vL1 : Value} {q : List (Nat × Nat)} {nK nK1 : Nat} {κ : Nat → Nat → Pl.Mem} {k : Nat} {us us' : List (Nat × Pl.Mem)} {ds ds' : List (Nat × Nat)} {m m' : Nat}
/-- memory behind an evaluation: the writes us, the delays ds met, at most m writes -/
def EvRest (w : World) (B s r gv b : Nat) (A : Option Addr) (n c : Nat) (l : List MRul) (O : Value) (vs : List Bool) (ms : Int) (Af : Option Addr) (nf cf : Nat) (fs : List ByteArray) (vL : Value) (q : List (Nat × Nat)) (nK : Nat) (κ : Nat → Nat → Pl.Mem) (k : Nat) (us : List (Nat × Pl.Mem)) (ds : List (Nat × Nat)) (m : Nat) (vL' : Value) (nK' : Nat) (w' : World) : Prop :=
  EvIn w' B s r gv b A n c l O vs ms Af nf cf fs vL' (q ++ ds) nK' (Pl.kapp κ k us) ∧ Fr (evS s b vL) w w' ∧ (∀ g, vL'.ownBlock = some g → vL.ownBlock = some g ∨ w.heap.size ≤ g) ∧ nK' ≤ nK + m
theorem EvRest.none_ (h : EvIn w1 B s r gv b A n c l O vs ms Af nf cf fs vL q nK κ) (hb : Below w.heap.size w w1) : EvRest w B s r gv b A n c l O vs ms Af nf cf fs vL q nK κ k [] [] m vL nK w1 :=
  ⟨by rw [List.append_nil, Pl.kapp_nil]; exact h, Fr.of_below hb, fun g h => .inl h, by omega⟩
theorem EvRest.from_ (h : EvRest w1 B s r gv b A n c l O vs ms Af nf cf fs vL q nK κ k us ds m vL1 nK1 w2) (hb : Below w.heap.size w w1) : EvRest w B s r gv b A n c l O vs ms Af nf cf fs vL q nK κ k us ds m vL1 nK1 w2 :=
  ⟨h.1, (Fr.of_below (S := evS s b vL) hb).trans h.2.1 (fun _ _ h => h), fun g hg => (h.2.2.1 g hg).imp id (fun h => Nat.le_trans hb.size h), h.2.2.2⟩
theorem EvRest.to_ (h : EvRest w B s r gv b A n c l O vs ms Af nf cf fs vL q nK κ k us ds m vL1 nK1 w1) (hb : Below w1.heap.size w1 w2) : EvRest w B s r gv b A n c l O vs ms Af nf cf fs vL q nK κ k us ds m vL1 nK1 w2 :=
  ⟨h.1.go hb, h.2.1.trans (T := fun _ => False) (Fr.of_below hb) (fun _ _ h => h.elim), h.2.2.1, h.2.2.2⟩
theorem EvRest.more_ (h : EvRest w B s r gv b A n c l O vs ms Af nf cf fs vL q nK κ k us ds m vL1 nK1 w1) (hm : m ≤ m') : EvRest w B s r gv b A n c l O vs ms Af nf cf fs vL q nK κ k us ds m' vL1 nK1 w1 := ⟨h.1, h.2.1, h.2.2.1, by have := h.2.2.2; omega⟩
theorem EvRest.trans {vL2 : Value} {nK2 : Nat} (h : EvRest w B s r gv b A n c l O vs ms Af nf cf fs vL q nK κ k us ds m vL1 nK1 w1)
    (h2 : EvRest w1 B s r gv b A n c l O vs ms Af nf cf fs vL1 (q ++ ds) nK1 (Pl.kapp κ k us) k us' ds' m' vL2 nK2 w2) :
    EvRest w B s r gv b A n c l O vs ms Af nf cf fs vL q nK κ k (us ++ us') (ds ++ ds') (m + m') vL2 nK2 w2 := by
  refine ⟨?_, h.2.1.trans h2.2.1 ?_, fun g hg => ?_, by have := h.2.2.2; have := h2.2.2.2; omega⟩
  · rw [← List.append_assoc, ← Pl.kapp_append]; exact h2.1
  · rintro i hi (rfl | rfl | e)
    · exact .inl rfl
    · exact .inr (.inl rfl)
    · rcases h.2.2.1 i e with e | e
      · exact .inr (.inr e)
      · omega
  · rcases h2.2.2.1 g hg with e | e
    · exact h.2.2.1 g e
    · exact .inr (Nat.le_trans h.2.1.size e)
/-- blocks of the call's own behind an evaluation: boxes lie above -/
theorem EvRest.blk (h : EvRest w B s r gv b A n c l O vs ms Af nf cf fs vL q nK κ k us ds m vL1 nK1 w1) {g : Nat} {t : TypeId} {cs : Array Value} (hg : Blk w g t cs) (hn : ¬ evS s b vL g) : Blk w1 g t cs := h.2.1.blk hg hn
/-- the map written at a rule's place -/
theorem EvRest.put {w0 : World} {a : Nat} {y : Pl.Mem} (h : EvRest w B s r gv b A n c l O vs ms Af nf cf fs vL q nK κ k us ds m vL1 nK1 w0) (hg : w0.grownBy w1 (some b)) (hm : KMap w1 b (nK1 + 1) (kput (Pl.kapp κ k us) k a y)) :
    EvRest w B s r gv b A n c l O vs ms Af nf cf fs vL q nK κ k (us ++ [(a, y)]) ds (m + 1) vL1 (nK1 + 1) w1 := by
  refine ⟨?_, h.2.1.trans (T := fun i => i = b) (Fr.of_grown hg rfl) (fun i _ e => .inr (.inl e)), h.2.2.1, by have := h.2.2.2; omega⟩
  rw [kput_kapp] at hm
  exact h.1.put hg hm
theorem EvRest.push {w0 : World} {v' : Value} {p : Nat × Nat} (h : EvRest w B s r gv b A n c l O vs ms Af nf cf fs vL q nK κ k us ds m vL1 nK1 w0) (hg : w0.grownBy w1 vL1.ownBlock) (hq : PQ w1 B v' (q ++ ds ++ [p])) (hv : v'.ownBlock = vL1.ownBlock ∨ v'.ownBlock = some w0.heap.size) :
    EvRest w B s r gv b A n c l O vs ms Af nf cf fs vL q nK κ k us (ds ++ [p]) m v' nK1 (w1.setCell ⟨s, 4, none⟩ v') := by
  obtain ⟨e, f⟩ := h.1.pushed hg hq hv
  refine ⟨by rw [← List.append_assoc]; exact e, h.2.1.trans f ?_, fun g hgg => ?_, h.2.2.2⟩
  · rintro i hi (rfl | rfl | e)
    · exact .inl rfl
    · exact .inr (.inl rfl)
    · rcases h.2.2.1 i e with e | e
      · exact .inr (.inr e)
      · omega
  · rcases hv with e | e
    · rw [e] at hgg; exact h.2.2.1 g hgg
    · rw [e] at hgg
      injection hgg with hgg
      subst hgg
      exact .inr h.2.1.size
/-- what an evaluation of the tree t at a rule k says -/
def EvSaid (w : World) (B s r gv b : Nat) (A : Option Addr) (n c : Nat) (l : List MRul) (O : Value) (vs : List Bool) (ms : Int) (Af : Option Addr) (nf cf : Nat) (fs : List ByteArray) (vL : Value) (q : List (Nat × Nat)) (nK : Nat) (κ : Nat → Nat → Pl.Mem) (k : Nat) (t : Pl.RT) (e : Ending) (w' : World) : Prop :=
  e = .returned (.bool (Pl.val (Pl.flP (prl l) vs fs) ms (κ k) t)) ∧ ∃ vL' nK', EvRest w B s r gv b A n c l O vs ms Af nf cf fs vL q nK κ k (Pl.upd (Pl.flP (prl l) vs fs) ms (κ k) t) ((Pl.dls t).map fun d => (k, d.1)) (Pl.sz t) vL' nK' w'
end
/-- the contract of an evaluation -/
def EvOk (B s r gv b : Nat) (A : Option Addr) (n c : Nat) (l : List MRul) (O : Value) (vs : List Bool) (ms : Int) (Af : Option Addr) (nf cf : Nat) (fs : List ByteArray) (k at_ : Nat) (t : Pl.RT) : Prop :=
  ∀ (w : World) (vL : Value) (q : List (Nat × Nat)) (nK : Nat) (κ : Nat → Nat → Pl.Mem), EvIn w B s r gv b A n c l O vs ms Af nf cf fs vL q nK κ → Pl.Times κ → nK + Pl.sz t ≤ 1000000000 → q.length + Pl.sz t ≤ 1000000 →
    Calls Try.prog 77 #[.pointer (some ⟨s, 0, none⟩), .agg #[.int .i64 (k : Int), .int .i64 (at_ : Int)]] w (EvSaid w B s r gv b A n c l O vs ms Af nf cf fs vL q nK κ k t)
end Go.Proofs.Ytpamgeemmbbkkaa
namespace Go.Proofs.Ytpamgeemmbbkkaa.Pl
theorem app_at {p : Nat} : ∀ (us : List (Nat × Mem)) (m m' : Nat → Mem), m p = m' p → app m us p = app m' us p
  | [], _, _, h => h
  | u :: us, m, m', h => by
    show app (put1 m u) us p = app (put1 m' u) us p
    refine app_at us _ _ ?_
    unfold put1
    split
    · rfl
    · exact h
theorem app_a {ua ub L : List (Nat × Mem)} {m : Nat → Mem} {p : Nat} (hb : ∀ u ∈ ub, u.1 ≠ p) (hl : ∀ u ∈ L, u.1 ≠ p) : app m (ua ++ ub ++ L) p = app m ua p := by
  rw [app_append, app_append, app_out L _ hl, app_out ub _ hb]
theorem app_b {ua ub L : List (Nat × Mem)} {m : Nat → Mem} {p : Nat} (ha : ∀ u ∈ ua, u.1 ≠ p) (hl : ∀ u ∈ L, u.1 ≠ p) : app m (ua ++ ub ++ L) p = app m ub p := by
  rw [app_append, app_append, app_out L _ hl]
  exact app_at ub _ _ (app_out ua _ ha)
theorem fin_pos {fl : ByteArray → Bool} {ms : Int} {m : Nat → Mem} : ∀ (t : RT), ∀ u ∈ fin fl ms m t, u.1 ∈ plc t
  | .leaf _ _, u, h => by cases h
  | .un at_ x a, u, h => by
    unfold fin at h
    unfold plc
    split at h
    · rename_i h3; rw [if_pos h3]; exact fin_pos a u h
    · rename_i h3; rw [if_neg h3]
      rcases List.mem_cons.1 h with rfl | h
      · simp
      · exact List.mem_cons_of_mem _ (fin_pos a u h)
  | .bin at_ x a b, u, h => by
    unfold fin at h
    unfold plc
    have key : u ∈ fin fl ms m a ++ fin fl ms m b → u.1 ∈ plc a ++ plc b := fun h => by
      rcases List.mem_append.1 h with h | h
      · exact List.mem_append_left _ (fin_pos a u h)
      · exact List.mem_append_right _ (fin_pos b u h)
    split at h
    · rename_i h3; rw [if_pos h3]; exact key h
    · rename_i h3
      rw [if_neg h3]
      rcases List.mem_append.1 h with h | h
      · exact List.mem_append_left _ (key h)
      · simp at h; subst h; simp
/-- what is said of a tree's delays -/
structure Kids (ex : List RN) (lo hi : Nat) (fl : ByteArray → Bool) (ms : Int) (m : Nat → Mem) (t : RT) : Prop where
  tree : ∀ d ∈ dls t, IsT ex (d.1 + 1) (d.1 + 1 + sz d.2) d.2 ∧ lo ≤ d.1 ∧ d.1 + 1 + sz d.2 ≤ hi
  upd_at : ∀ d ∈ dls t, app m (upd fl ms m t) d.1 = ((m d.1).1, tim ms (m d.1))
  upd_in : ∀ d ∈ dls t, ∀ p ∈ plc d.2, app m (upd fl ms m t) p = m p
  fin_at : ∀ d ∈ dls t, app m (fin fl ms m t) d.1 = (val fl ms m d.2, tim ms (m d.1))
  fin_in : ∀ d ∈ dls t, ∀ p ∈ plc d.2, app m (fin fl ms m t) p = app m (fin fl ms m d.2) p
  rest : ∀ p ∈ plc t, (∀ d ∈ dls t, p ≠ d.1 ∧ p ∉ plc d.2) → app m (upd fl ms m t) p = app m (fin fl ms m t) p
  pair : (dls t).Pairwise fun x y => x.1 + 1 + sz x.2 ≤ y.1
  low : ∀ d ∈ dls t, d.1 ∈ plc t ∧ ∀ p ∈ plc d.2, p ∈ plc t
theorem kids {ex : List RN} {lo hi : Nat} {t : RT} (h : IsT ex lo hi t) (fl : ByteArray → Bool) (ms : Int) (m : Nat → Mem) : Kids ex lo hi fl ms m t := by
  induction h with
  | @leaf at_ x h h0 =>
    refine ⟨?_, ?_, ?_, ?_, ?_, ?_, ?_, ?_⟩ <;> simp [dls, plc]
  | @un at_ e x a h h0 ha ih =>
    by_cases h3 : x.op = 3
    · have e1 : dls (.un at_ x a) = dls a := by simp [dls, h3]
      have e2 : upd fl ms m (.un at_ x a) = upd fl ms m a := by simp [upd, h3]
      have e3 : fin fl ms m (.un at_ x a) = fin fl ms m a := by simp [fin, h3]
      have e4 : plc (.un at_ x a) = plc a := by simp [plc, h3]
      refine ⟨?_, ?_, ?_, ?_, ?_, ?_, ?_, ?_⟩
      · rw [e1]; intro d hd; have := ih.tree d hd; exact ⟨this.1, by omega, this.2.2⟩
      · rw [e1, e2]; exact ih.upd_at
      · rw [e1, e2]; exact ih.upd_in
      · rw [e1, e3]; exact ih.fin_at
      · rw [e1, e3]; exact ih.fin_in
      · rw [e1, e2, e3, e4]; exact ih.rest
      · rw [e1]; exact ih.pair
      · rw [e1, e4]; exact ih.low
    · have e1 : dls (.un at_ x a) = [(at_, a)] := by simp [dls, h3]
      have e2 : upd fl ms m (.un at_ x a) = [(at_, ((m at_).1, tim ms (m at_)))] := by simp [upd, h3]
      have e3 : fin fl ms m (.un at_ x a) = (at_, (val fl ms m a, tim ms (m at_))) :: fin fl ms m a := by simp [fin, h3]
      have e4 : plc (.un at_ x a) = at_ :: plc a := by simp [plc, h3]
      have hsz := ha.sz
      have hin := plc_in ha
      refine ⟨?_, ?_, ?_, ?_, ?_, ?_, ?_, ?_⟩
      · rw [e1]; intro d hd; simp at hd; subst hd; exact ⟨by rw [← hsz]; exact ha, Nat.le_refl _, by show at_ + 1 + sz a ≤ e; omega⟩
      · rw [e1, e2]; intro d hd; simp at hd; subst hd; simp [app, put1]
      · rw [e1, e2]; intro d hd p hp; simp at hd; subst hd
        have := hin p hp
        simp [app, put1]; omega
      · rw [e1, e3]; intro d hd; simp at hd; subst hd
        show app (put1 m _) (fin fl ms m a) at_ = _
        rw [app_out _ _ (fun u hu e => by have := hin _ (fin_pos a u hu); omega)]
        simp [put1]
      · rw [e1, e3]; intro d hd p hp; simp at hd; subst hd
        show app (put1 m _) (fin fl ms m a) p = _
        refine app_at _ _ _ ?_
        have := hin p hp
        simp [put1]; omega
      · rw [e1, e4]; intro p hp hno
        have := hno (at_, a) (by simp)
        rcases List.mem_cons.1 hp with rfl | hp
        · exact absurd rfl this.1
        · exact absurd hp this.2
      · rw [e1]; simp
      · rw [e1, e4]; intro d hd; simp at hd; subst hd; exact ⟨by simp, fun p hp => by simp [hp]⟩
  | @bin at_ q e x a b h h0 ha hb ih1 ih2 =>
    have h1 := ha.lt
    have h2 := hb.lt
    have ia := plc_in ha
    have ib := plc_in hb
    obtain ⟨L, hL⟩ : ∃ L, L = (if x.op = 4 ∨ x.op = 5 then [] else [(at_, (val fl ms m (.bin at_ x a b), (0 : Int)))]) := ⟨_, rfl⟩
    have e1 : dls (.bin at_ x a b) = dls a ++ dls b := rfl
    have e2 : upd fl ms m (.bin at_ x a b) = upd fl ms m a ++ upd fl ms m b ++ L := by
      rw [hL]
      by_cases h9 : x.op = 4 ∨ x.op = 5
      · rw [if_pos h9]; show (if x.op = 4 ∨ x.op = 5 then _ else _) = _; rw [if_pos h9, List.append_nil]
      · rw [if_neg h9]; show (if x.op = 4 ∨ x.op = 5 then _ else _) = _; rw [if_neg h9]
    have e3 : fin fl ms m (.bin at_ x a b) = fin fl ms m a ++ fin fl ms m b ++ L := by
      rw [hL]
      by_cases h9 : x.op = 4 ∨ x.op = 5
      · rw [if_pos h9]; show (if x.op = 4 ∨ x.op = 5 then _ else _) = _; rw [if_pos h9, List.append_nil]
      · rw [if_neg h9]; show (if x.op = 4 ∨ x.op = 5 then _ else _) = _; rw [if_neg h9]
    have hLp : ∀ u ∈ L, u.1 = at_ := by
      rw [hL]; intro u hu
      split at hu
      · cases hu
      · simp at hu; rw [hu]
    have e4 : ∀ p, p ∈ plc (.bin at_ x a b) → p ∈ plc a ∨ p ∈ plc b ∨ p = at_ := by
      intro p hp
      unfold plc at hp
      split at hp
      · rcases List.mem_append.1 hp with hp | hp
        · exact .inl hp
        · exact .inr (.inl hp)
      · rcases List.mem_append.1 hp with hp | hp
        · rcases List.mem_append.1 hp with hp | hp
          · exact .inl hp
          · exact .inr (.inl hp)
        · simp at hp; exact .inr (.inr hp)
    have e5 : ∀ p, p ∈ plc a ∨ p ∈ plc b → p ∈ plc (.bin at_ x a b) := by
      intro p hp
      unfold plc
      split <;> rcases hp with hp | hp <;> simp [hp]
    have oLa : ∀ p, at_ < p → ∀ u ∈ L, u.1 ≠ p := fun p hp u hu e => by have := hLp u hu; omega
    have oua : ∀ p, q ≤ p → ∀ u ∈ upd fl ms m a, u.1 ≠ p := fun p hp u hu e => by have := ia _ (upd_pos a u hu); omega
    have oub : ∀ p, p < q → ∀ u ∈ upd fl ms m b, u.1 ≠ p := fun p hp u hu e => by have := ib _ (upd_pos b u hu); omega
    have ofa : ∀ p, q ≤ p → ∀ u ∈ fin fl ms m a, u.1 ≠ p := fun p hp u hu e => by have := ia _ (fin_pos a u hu); omega
    have ofb : ∀ p, p < q → ∀ u ∈ fin fl ms m b, u.1 ≠ p := fun p hp u hu e => by have := ib _ (fin_pos b u hu); omega
    refine ⟨?_, ?_, ?_, ?_, ?_, ?_, ?_, ?_⟩
    · rw [e1]; intro d hd
      rcases List.mem_append.1 hd with hd | hd
      · have := ih1.tree d hd; exact ⟨this.1, by omega, by omega⟩
      · have := ih2.tree d hd; exact ⟨this.1, by omega, this.2.2⟩
    · rw [e1, e2]; intro d hd
      rcases List.mem_append.1 hd with hd | hd
      · have := ih1.tree d hd
        have := sz_pos d.2
        rw [app_a (oub _ (by omega)) (oLa _ (by omega))]; exact ih1.upd_at d hd
      · have := ih2.tree d hd
        rw [app_b (oua _ (by omega)) (oLa _ (by omega))]; exact ih2.upd_at d hd
    · rw [e1, e2]; intro d hd p hp
      rcases List.mem_append.1 hd with hd | hd
      · have t1 := ih1.tree d hd
        have := plc_in t1.1 p hp
        rw [app_a (oub _ (by omega)) (oLa _ (by omega))]; exact ih1.upd_in d hd p hp
      · have t1 := ih2.tree d hd
        have := plc_in t1.1 p hp
        rw [app_b (oua _ (by omega)) (oLa _ (by omega))]; exact ih2.upd_in d hd p hp
    · rw [e1, e3]; intro d hd
      rcases List.mem_append.1 hd with hd | hd
      · have := ih1.tree d hd
        have := sz_pos d.2
        rw [app_a (ofb _ (by omega)) (oLa _ (by omega))]; exact ih1.fin_at d hd
      · have := ih2.tree d hd
        rw [app_b (ofa _ (by omega)) (oLa _ (by omega))]; exact ih2.fin_at d hd
    · rw [e1, e3]; intro d hd p hp
      rcases List.mem_append.1 hd with hd | hd
      · have t1 := ih1.tree d hd
        have := plc_in t1.1 p hp
        rw [app_a (ofb _ (by omega)) (oLa _ (by omega))]; exact ih1.fin_in d hd p hp
      · have t1 := ih2.tree d hd
        have := plc_in t1.1 p hp
        rw [app_b (ofa _ (by omega)) (oLa _ (by omega))]; exact ih2.fin_in d hd p hp
    · rw [e1, e2, e3]; intro p hp hno
      rcases e4 p hp with hp | hp | rfl
      · have := ia p hp
        rw [app_a (oub _ (by omega)) (oLa _ (by omega)), app_a (ofb _ (by omega)) (oLa _ (by omega))]
        exact ih1.rest p hp (fun d hd => hno d (List.mem_append_left _ hd))
      · have := ib p hp
        rw [app_b (oua _ (by omega)) (oLa _ (by omega)), app_b (ofa _ (by omega)) (oLa _ (by omega))]
        exact ih2.rest p hp (fun d hd => hno d (List.mem_append_right _ hd))
      · rw [app_append m (upd fl ms m a ++ upd fl ms m b) L, app_append m (fin fl ms m a ++ fin fl ms m b) L]
        refine app_at L _ _ ?_
        rw [app_out (upd fl ms m a ++ upd fl ms m b) _ (fun u hu e => ?_), app_out (fin fl ms m a ++ fin fl ms m b) _ (fun u hu e => ?_)]
        · rcases List.mem_append.1 hu with hu | hu
          · have := ia _ (fin_pos a u hu); omega
          · have := ib _ (fin_pos b u hu); omega
        · rcases List.mem_append.1 hu with hu | hu
          · have := ia _ (upd_pos a u hu); omega
          · have := ib _ (upd_pos b u hu); omega
    · rw [e1, List.pairwise_append]
      refine ⟨ih1.pair, ih2.pair, fun c hc d hd => ?_⟩
      have := ih1.tree c hc
      have := ih2.tree d hd
      omega
    · rw [e1]; intro d hd
      rcases List.mem_append.1 hd with hd | hd
      · have := ih1.low d hd; exact ⟨e5 _ (.inl this.1), fun p hp => e5 _ (.inl (this.2 p hp))⟩
      · have := ih2.low d hd; exact ⟨e5 _ (.inr this.1), fun p hp => e5 _ (.inr (this.2 p hp))⟩
/-- the sizes of what waits -/
def load (l : List (Nat × RT)) : Nat := (l.map fun d => sz d.2 + 1).sum
theorem load_append (a b : List (Nat × RT)) : load (a ++ b) = load a + load b := by unfold load; simp
theorem load_dls : ∀ t, load (dls t) ≤ sz t
  | .leaf _ _ => by simp [dls, load]
  | .un _ x a => by
    have := load_dls a
    unfold dls sz
    split
    · omega
    · simp [load]
  | .bin _ _ a b => by
    have h1 := load_dls a
    have h2 := load_dls b
    show load (dls a ++ dls b) ≤ sz a + sz b + 1
    rw [load_append]; omega
end Go.Proofs.Ytpamgeemmbbkkaa.Pl
