/- Settling the delays of an expression from left to right, plain. No program. The reference's machine settles its delays. Condition: the machine reads. -/
import Derived.Test.YtpamgeemmbbkkaaBlk11
import Derived.Test.YtpamgeemmbbkkaaBlk18
namespace Go.Proofs.Ytpamgeemmbbkkaa.Pl
theorem load_mem : ∀ (l : List (Nat × RT)) (d : Nat × RT), d ∈ l → sz d.2 + 1 ≤ load l
  | [], _, h => by cases h
  | x :: l, d, h => by
    have e : load (x :: l) = sz x.2 + 1 + load l := by unfold load; simp
    rcases List.mem_cons.1 h with rfl | h
    · omega
    · have := load_mem l d h; omega
/-- no delay's operand reaches over p -/
def Bd (t : RT) (p : Nat) : Prop := ∀ d ∈ dls t, p ≤ d.1 ∨ d.1 + 1 + sz d.2 ≤ p
theorem opn_six {op : Int} (h : opn op = 1) (h3 : op ≠ 3) : op = 6 := by
  unfold opn at h
  split at h
  · omega
  · split at h <;> omega
theorem trav {ex : List RN} {lo hi : Nat} {t : RT} (h : IsT ex lo hi t) : ∀ p, lo ≤ p → p < hi → Bd t p → ∃ x, ex[p]? = some x ∧ ((x.op = 6 ∧ ∃ a, (p, a) ∈ dls t) ∨ (x.op ≠ 6 ∧ ∀ d ∈ dls t, p ≠ d.1)) := by
  induction h with
  | @leaf at_ x h h0 =>
    intro p h1 h2 hb
    have : p = at_ := by omega
    subst this
    exact ⟨x, h, .inr ⟨fun e => by unfold opn at h0; rw [e] at h0; simp at h0, fun d hd => by simp [dls] at hd⟩⟩
  | @un at_ e x a h h0 ha ih =>
    intro p h1 h2 hb
    have hs := ha.sz
    by_cases h3 : x.op = 3
    · have e1 : dls (.un at_ x a) = dls a := by simp [dls, h3]
      unfold Bd at hb
      rw [e1] at hb ⊢
      by_cases hp : p = at_
      · subst hp
        exact ⟨x, h, .inr ⟨by omega, fun d hd => by have := (kids ha (fun _ => false) 0 (fun _ => (false, 0))).tree d hd; omega⟩⟩
      · exact ih p (by omega) h2 hb
    · have h6 := opn_six h0 h3
      have e1 : dls (.un at_ x a) = [(at_, a)] := by simp [dls, h3]
      unfold Bd at hb
      rw [e1] at hb ⊢
      have := hb (at_, a) (by simp)
      by_cases hp : p = at_
      · subst hp
        exact ⟨x, h, .inl ⟨h6, a, by simp⟩⟩
      · simp only at this; omega
  | @bin at_ m e x a b h h0 ha hb' ih1 ih2 =>
    intro p h1 h2 hb
    have hl1 := ha.lt
    have hl2 := hb'.lt
    have K1 := kids ha (fun _ => false) 0 (fun _ => (false, 0))
    have K2 := kids hb' (fun _ => false) 0 (fun _ => (false, 0))
    have e1 : dls (.bin at_ x a b) = dls a ++ dls b := rfl
    unfold Bd at hb
    rw [e1] at hb ⊢
    by_cases hp : p = at_
    · subst hp
      refine ⟨x, h, .inr ⟨fun e => by unfold opn at h0; rw [e] at h0; simp at h0, fun d hd => ?_⟩⟩
      rcases List.mem_append.1 hd with hd | hd
      · have := K1.tree d hd; omega
      · have := K2.tree d hd; omega
    · by_cases hpm : p < m
      · obtain ⟨y, hy, hc⟩ := ih1 p (by omega) hpm (fun d hd => hb d (List.mem_append_left _ hd))
        refine ⟨y, hy, hc.imp (fun ⟨a1, q, a2⟩ => ⟨a1, q, List.mem_append_left _ a2⟩) (fun ⟨a1, a2⟩ => ⟨a1, fun d hd => ?_⟩)⟩
        rcases List.mem_append.1 hd with hd | hd
        · exact a2 d hd
        · have := K2.tree d hd; omega
      · obtain ⟨y, hy, hc⟩ := ih2 p (by omega) h2 (fun d hd => hb d (List.mem_append_right _ hd))
        refine ⟨y, hy, hc.imp (fun ⟨a1, q, a2⟩ => ⟨a1, q, List.mem_append_right _ a2⟩) (fun ⟨a1, a2⟩ => ⟨a1, fun d hd => ?_⟩)⟩
        rcases List.mem_append.1 hd with hd | hd
        · have := K1.tree d hd; omega
        · exact a2 d hd
theorem Bd.start {ex : List RN} {lo hi : Nat} {t : RT} (h : IsT ex lo hi t) : Bd t lo := fun d hd => by
  have := (kids h (fun _ => false) 0 (fun _ => (false, 0))).tree d hd
  exact .inl this.2.1
/-- the state at position p: what is before it is settled -/
def Half (fl : ByteArray → Bool) (ms : Int) (m : Nat → Mem) (t : RT) (p : Nat) (κ : Nat → Mem) : Prop := ∀ q ∈ plc t, κ q = if q < p then app m (fin fl ms m t) q else app m (upd fl ms m t) q
section
variable {ex : List RN} {lo hi : Nat} {t : RT} {fl : ByteArray → Bool} {ms : Int} {m : Nat → Mem} {p : Nat} {κ : Nat → Mem}
theorem Half.start (h : IsT ex lo hi t) (hk : ∀ q ∈ plc t, κ q = app m (upd fl ms m t) q) : Half fl ms m t lo κ := fun q hq => by
  have := plc_in h q hq
  rw [if_neg (by omega)]; exact hk q hq
theorem Half.end_ (h : IsT ex lo hi t) (hk : Half fl ms m t hi κ) : ∀ q ∈ plc t, κ q = app m (fin fl ms m t) q := fun q hq => by
  have := plc_in h q hq
  rw [hk q hq, if_pos (by omega)]
theorem Half.pass (h : IsT ex lo hi t) (hb : Bd t p) (hp : ∀ d ∈ dls t, p ≠ d.1) (hk : Half fl ms m t p κ) : Bd t (p + 1) ∧ Half fl ms m t (p + 1) κ := by
  refine ⟨fun d hd => ?_, fun q hq => ?_⟩
  · have := hb d hd; have := hp d hd; omega
  · rw [hk q hq]
    by_cases h1 : q < p
    · rw [if_pos h1, if_pos (by omega)]
    · rw [if_neg h1]
      by_cases h2 : q = p
      · subst h2
        rw [if_pos (by omega)]
        refine (kids h fl ms m).rest q hq (fun d hd => ⟨hp d hd, fun hin => ?_⟩)
        have := hb d hd
        have := plc_in ((kids h fl ms m).tree d hd).1 q hin
        omega
      · rw [if_neg (by omega)]
/-- a delay at p is settled: its operand first -/
theorem Half.take (h : IsT ex lo hi t) {a : RT} (hd : (p, a) ∈ dls t) (hb : Bd t p) (hk : Half fl ms m t p κ) :
    IsT ex (p + 1) (p + 1 + sz a) a ∧ p + 1 + sz a ≤ hi ∧ (∀ q ∈ plc a, κ q = m q) ∧ κ p = ((m p).1, tim ms (m p)) ∧ Bd t (p + 1 + sz a) ∧
      ∀ κ' : Nat → Mem, (∀ q ∈ plc a, κ' q = app m (fin fl ms m a) q) → κ' p = (val fl ms m a, tim ms (m p)) → (∀ q, q ≠ p → q ∉ plc a → κ' q = κ q) → Half fl ms m t (p + 1 + sz a) κ' := by
  have K := kids h fl ms m
  have ht := K.tree _ hd
  have hin := plc_in ht.1
  have hpp := K.low _ hd
  refine ⟨ht.1, ht.2.2, fun q hq => ?_, ?_, fun d hd2 => ?_, fun κ' h1 h2 h3 q hq => ?_⟩
  · rw [hk q (hpp.2 q hq), if_neg (by have := hin q hq; simp only at this; omega)]
    exact K.upd_in _ hd q hq
  · rw [hk p hpp.1, if_neg (by omega)]
    exact K.upd_at _ hd
  · have hpr := K.pair
    by_cases e : d = (p, a)
    · subst e; exact .inr (Nat.le_refl _)
    · have := hb d hd2
      obtain ⟨i, hi1, e1⟩ := List.mem_iff_getElem.1 hd
      obtain ⟨j, hj1, e2⟩ := List.mem_iff_getElem.1 hd2
      have hij : i ≠ j := fun e3 => by subst e3; exact e (e2.symm.trans e1)
      rw [List.pairwise_iff_getElem] at hpr
      rcases Nat.lt_or_gt_of_ne hij with hlt | hlt
      · have := hpr i j hi1 hj1 hlt
        rw [e1, e2] at this
        exact .inl this
      · have := hpr j i hj1 hi1 hlt
        rw [e1, e2] at this
        simp only at this
        right; omega
  · by_cases e1 : q = p
    · subst e1
      rw [h2, if_pos (by omega)]
      exact (K.fin_at _ hd).symm
    · by_cases e2 : q ∈ plc a
      · rw [h1 q e2, if_pos (by have := hin q e2; simp only at this; omega)]
        exact (K.fin_in _ hd q e2).symm
      · rw [h3 q e1 e2, hk q hq]
        by_cases h4 : q < p
        · rw [if_pos h4, if_pos (by omega)]
        · rw [if_neg h4]
          by_cases h5 : q < p + 1 + sz a
          · rw [if_pos h5]
            refine K.rest q hq (fun d hd2 => ?_)
            by_cases e : d = (p, a)
            · subst e; exact ⟨e1, e2⟩
            · have hd9 : d.1 + 1 + sz d.2 ≤ p ∨ p + 1 + sz a ≤ d.1 := by
                have hpr := K.pair
                obtain ⟨i, hi1, f1⟩ := List.mem_iff_getElem.1 hd
                obtain ⟨j, hj1, f2⟩ := List.mem_iff_getElem.1 hd2
                have hij : i ≠ j := fun e3 => by subst e3; exact e (f2.symm.trans f1)
                rw [List.pairwise_iff_getElem] at hpr
                rcases Nat.lt_or_gt_of_ne hij with hlt | hlt
                · have := hpr i j hi1 hj1 hlt
                  rw [f1, f2] at this
                  exact .inr this
                · have := hpr j i hj1 hi1 hlt
                  rw [f1, f2] at this
                  exact .inl this
              have hz := sz_pos d.2
              refine ⟨by omega, fun hq2 => ?_⟩
              have := plc_in (K.tree d hd2).1 q hq2
              omega
          · rw [if_neg h5]
end
end Go.Proofs.Ytpamgeemmbbkkaa.Pl
namespace Go.Proofs.Ytpamgeemmbbkkaa
open Go.RowKit
set_option maxRecDepth 100000
def AllDone (M : MC) (V : List Bool) (vs ds : List Bool) : Prop := (∀ j, j < M.n → ds.getD j false = true) ∧ ∀ j, j < M.n → vs.getD j false = V.getD j false
def SetSaid (M : MC) (V : List Bool) (F : ByteArray → Bool) (ms : Int) (k : Nat) (t : Pl.RT) (m : Nat → Pl.Mem) (w : World) (κ : Nat → Nat → Pl.Mem) (e : Ending) (w' : World) : Prop :=
  e = .returned (.tuple #[]) ∧ ∃ κ' vs' ds', MSt M w' κ' vs' ds' ∧ TmL M κ' ∧ AllDone M V vs' ds' ∧ (∀ p ∈ Pl.plc t, κ' k p = Pl.app m (Pl.fin F ms m t) p) ∧ (∀ p, p ∉ Pl.plc t → κ' k p = κ k p) ∧ (∀ j, j ≠ k → κ' j = κ j) ∧ Fr M.S w w'
def SetOk (M : MC) (V : List Bool) (F : ByteArray → Bool) (ms : Int) (Af : Option Addr) (nf cf : Nat) (fs : List ByteArray) (k lo hi : Nat) (t : Pl.RT) : Prop :=
  ∀ w κ vs ds m, MSt M w κ vs ds → Reads w M.H 1 Af nf (txts fs) → TmL M κ → AllDone M V vs ds → (∀ p ∈ Pl.plc t, κ k p = Pl.app m (Pl.upd F ms m t) p) →
    Calls Try.prog 49 #[.pointer (some ⟨M.mm, 0, none⟩), .int .i64 (k : Int), .int .i64 (lo : Int), .int .i64 (hi : Int), .int .i64 ms, .slice Af nf cf] w (SetSaid M V F ms k t m w κ)
/-- the state of settle's loop at position p -/
def SetAt (M : MC) (V : List Bool) (F : ByteArray → Bool) (ms : Int) (k : Nat) (t : Pl.RT) (m : Nat → Pl.Mem) (w : World) (κ : Nat → Nat → Pl.Mem) (p : Nat) (wr : World) : Prop :=
  ∃ κ' vs' ds', MSt M wr κ' vs' ds' ∧ TmL M κ' ∧ AllDone M V vs' ds' ∧ Pl.Half F ms m t p (κ' k) ∧ (∀ q, q ∉ Pl.plc t → κ' k q = κ k q) ∧ (∀ j, j ≠ k → κ' j = κ j) ∧ Fr M.S w wr
set_option maxHeartbeats 3200000 in
theorem settle_any {M : MC} {tr : Nat → Pl.RT} {rk : Nat → Nat} {κ0 : Nat → Nat → Pl.Mem} {V : List Bool} {ms : Int} {fs : List ByteArray} (hp : Ph M tr rk κ0 V ms fs) (Af : Option Addr) (nf cf : Nat) (hnf : nf ≤ 256) {k : Nat} {o : MRul} (hk : M.l[k]? = some o) (hkn : k < M.n) (ho64 : o.n ≤ 64) (hlen : o.ex.length = o.n)
    (hop : ∀ x ∈ o.ex, 0 ≤ x.op ∧ x.op ≤ 7 ∧ (x.op = 1 → 0 ≤ x.value)) : ∀ (s : Nat) (t : Pl.RT) (lo hi : Nat), Pl.sz t ≤ s → Pl.IsT o.ex lo hi t → SetOk M V (Pl.flP (prl M.l) V fs) ms Af nf cf fs k lo hi t := by
  intro s
  induction s with
  | zero => intro t lo hi hs; have := Pl.sz_pos t; omega
  | succ s ih =>
    intro t lo hi hs ht w κ vs ds m h hf hT hA hst
    have hle := ht.le
    have hltl := ht.lt
    have HT := Lib.hid ht
    have HP := Lib.hid hp
    have HIH := Lib.hid ih
    have HM0 := Lib.hid h
    have HFL := Lib.hid hf
    have HK := Lib.hid (And.intro hk hop)
    have H0 : Hid (SetAt M V (Pl.flP (prl M.l) V fs) ms k t m w κ lo w) := ⟨κ, vs, ds, h, hT, hA, Pl.Half.start ht hst, fun q _ => rfl, fun j _ => rfl, Fr.refl _ _⟩
    have hml := h.mach.lt
    have hms := hp.ms
    clear h hf hT hA hst ht hp ih hk hop hms
    go_enter Try.func49, Try.ntmps49
    go_wp2_with fail
    go_loopw [12] (fun i wr => ∃ p : Nat, lo ≤ p ∧ p ≤ hi ∧ i = .int .i64 p ∧ Hid (Pl.Bd t p) ∧ Hid (SetAt M V (Pl.flP (prl M.l) V fs) ms k t m w κ p wr)) (fun i _ => hi - (intOf i).toNat)
    case atStart => exact ⟨lo, Nat.le_refl _, by omega, rfl, Lib.hid (Pl.Bd.start HT.out), H0.out⟩
    case round =>
      obtain ⟨p, hp1, hp2, rfl, HB, HS⟩ := hrel
      by_cases hlt : p < hi
      · obtain ⟨κ1', vs1, ds1, h1, hT1, hA1, hH1, hq1, hj1, hF1⟩ := HS.out
        obtain ⟨x, hx, hc⟩ := Pl.trav HT.out p hp1 hlt HB.out
        obtain ⟨_, han, hlnk, b0, o0, b1, o1, hAA, hoA, hb0, hb1, p0, p1, r0, r1, r2⟩ := mrul_at h1 HK.out.1 hx
        have q0 := h1.mach.cell 0
        rw [hAA] at q0
        have hml1 := h1.mach.lt
        have k0 : (0 : Int) ≤ (k : Int) := by omega
        have k1 : (k : Int) < (M.n : Int) := by omega
        have a0 : (0 : Int) ≤ (p : Int) := by omega
        have a1 : (p : Int) < (o.n : Int) := by omega
        have hlt2 : (p : Int) < (hi : Int) := by omega
        rcases hc with ⟨h6, a, ha⟩ | ⟨h6, hnd⟩
        · obtain ⟨g1, g2, g3, g4, g5, g6⟩ := hH1.take HT.out ha HB.out
          rw [h6] at r0
          have hsz : Pl.sz a ≤ s := by
            have l1 := Pl.load_dls t
            have l2 := Pl.load_mem (Pl.dls t) _ ha
            simp only at l2
            omega
          have hev := mev_any (e := p + 1 + Pl.sz a) (t := a) (Inv := InvB M V k κ1') (NS := Pl.nds a) (F := Pl.flP (prl M.l) V fs) (ms := ms) (Af := Af) (nf := nf) (cf := cf) (fs := fs) HK.out.1 ho64 hlen HP.out.small hnf HP.out.ms HK.out.2 (env_two Af nf cf k κ1') g1 (fun _ h => h)
          have HB1 : Hid (Below M.H w wr) := hF1.to_below HM0.out.low.2 HM0.out.low.1
          have HEV := Lib.hid (hev wr κ1' vs1 ds1 h1 (HFL.out.below HB1.out) ⟨hA1.1, hA1.2, fun j _ => rfl⟩ hT1)
          have HVA : Hid (Pl.val (Pl.flP (prl M.l) V fs) ms (κ1' k) a = Pl.val (Pl.flP (prl M.l) V fs) ms m a) := Pl.val_congr a g3
          have HUA : Hid (Pl.upd (Pl.flP (prl M.l) V fs) ms (κ1' k) a = Pl.upd (Pl.flP (prl M.l) V fs) ms m a) := Pl.upd_congr a g3
          have HG := Lib.hid (And.intro g1 (And.intro g3 (And.intro g4 (And.intro g5 g6))))
          have HX1 := Lib.hid (And.intro hq1 (And.intro hj1 hF1))
          have hphi : p + 1 + Pl.sz a ≤ 64 := by omega
          have HPL : Hid (p ∈ Pl.plc t ∧ ∀ q ∈ Pl.plc a, q ∈ Pl.plc t) := (Pl.kids HT.out (fun _ => false) 0 (fun _ => (false, 0))).low _ ha
          have HPA : Hid (p ∉ Pl.plc a) := fun e => by have := Pl.plc_in g1 p e; omega
          clear hev h1 hT1 hA1 hH1 hq1 hj1 hF1 hx h6 g1 g3 g4 g5 g6 hAA hoA r1 r2 p0 hlnk
          go_wp2_with fail
          refine HEV.out.mono ?_
          rintro e w2 ⟨rfl, κ2, vs2, ds2, b1', b2, b3, b4, b5⟩
          have HS2 := Lib.hid (And.intro b1' (And.intro b2 (And.intro b3 (And.intro b4 b5))))
          rw [HVA.out]
          have HST := Lib.hid (HIH.out a (p + 1) (p + 1 + Pl.sz a) hsz HG.out.1 w2 κ2 vs2 ds2 m b1' (HFL.out.below ((HX1.out.2.2.trans b5 (fun _ _ h => h)).to_below HM0.out.low.2 HM0.out.low.1)) b4 ⟨b2.1, b2.2.1⟩ (fun q hq => by
            rw [b3, HUA.out]
            exact Pl.app_at _ _ _ (HG.out.2.1 q hq)))
          clear b1' b2 b3 b4 b5 HEV
          go_wp2_with fail
          refine HST.out.mono ?_
          rintro e w3 ⟨rfl, κ3, vs3, ds3, c1, c2, c3, c4, c5, c6, c7⟩
          have hn0 : 0 < M.n := by omega
          have y1 := (c1.full hn0).cell 1
          obtain ⟨cs, hcs, hck⟩ := c1.outO hn0
          have y2 : w3.cell? ⟨M.gO, k, none⟩ = some (.slice (some ⟨M.rO k, 0, none⟩) (M.len k) (M.len k)) := by rw [hcs.cell k]; exact hck k hkn
          have hlk : M.len k = o.n := by unfold MC.len; rw [HK.out.1]; exact hlen
          have y3 : w3.cell? ⟨M.rO k, p, none⟩ = some (.bool (κ3 k p).1) := by rw [(c1.rowO k hkn).cell, rowB_at (by omega)]
          have y3f : w3.frozen? ⟨M.rO k, p, none⟩ = false := (c1.rowO k hkn).frozen p
          have hbd := c1.bd
          have z1 := hbd.mm
          have z2 := (hbd.out hn0).1
          have z3 := hbd.sub (M.rO k) (.inr (.inr ⟨k, hkn, .inl rfl⟩))
          have a2 : (p : Int) < (M.len k : Int) := by omega
          have HK3 : Hid (κ3 k p = ((m p).1, Pl.tim ms (m p))) := by
            show _ = _
            rw [c5 p HPA.out, HS2.out.2.2.1, HUA.out, Pl.app_out _ _ (fun u hu e => HPA.out (by rw [← e]; exact Pl.upd_pos a u hu))]
            exact HG.out.2.2.1
          have HSN : Hid (∀ x : Bool, x = Pl.val (Pl.flP (prl M.l) V fs) ms m a → SetAt M V (Pl.flP (prl M.l) V fs) ms k t m w κ (p + 1 + Pl.sz a) (w3.setCell ⟨M.rO k, p, none⟩ (.bool x))) := fun x ex => by
            subst ex
            have hs3 := c1.setOn hkn p (Pl.val (Pl.flP (prl M.l) V fs) ms m a)
            have hkk : ∀ q, q ≠ p → Pl.kapp κ3 k [(p, (Pl.val (Pl.flP (prl M.l) V fs) ms m a, (κ3 k p).2))] k q = κ3 k q := fun q hq => by
              rw [Pl.kapp_self]; simp [Pl.app, Pl.put1, hq]
            have hkp : Pl.kapp κ3 k [(p, (Pl.val (Pl.flP (prl M.l) V fs) ms m a, (κ3 k p).2))] k p = (Pl.val (Pl.flP (prl M.l) V fs) ms m a, Pl.tim ms (m p)) := by
              rw [Pl.kapp_self, HK3.out]; simp [Pl.app, Pl.put1]
            have hκ2 : ∀ q, q ∉ Pl.plc a → κ2 k q = κ1' k q := fun q hq => by
              rw [HS2.out.2.2.1, HUA.out, Pl.app_out _ _ (fun u hu e => hq (by rw [← e]; exact Pl.upd_pos a u hu))]
            refine ⟨_, vs3, ds3, hs3, c2.put (c2.1 k p) (fun o2 x2 ho2 hx2 h7 => c2.2 k o2 p x2 ho2 hx2 h7), c3, HG.out.2.2.2.2 _ (fun q hq => ?_) hkp (fun q hq1 hq2 => ?_), fun q hq => ?_, fun j hj => ?_, ((HX1.out.2.2.trans HS2.out.2.2.2.2 (fun _ _ h => h)).trans c7 (fun _ _ h => h)).set_ _ _ (.inr (.inr (.inr ⟨k, hkn, .inl rfl⟩)))⟩
            · rw [hkk q (fun e => HPA.out (by rw [← e]; exact hq))]; exact c4 q hq
            · rw [hkk q hq1, c5 q hq2, hκ2 q hq2]
            · have hqp : q ≠ p := fun e => hq (by rw [e]; exact HPL.out.1)
              have hqa : q ∉ Pl.plc a := fun e => hq (HPL.out.2 q e)
              rw [hkk q hqp, c5 q hqa, hκ2 q hqa]; exact HX1.out.1 q hq
            · funext a9
              rw [Pl.kapp_other hj, c6 j hj, HS2.out.2.1.2.2 j hj, HX1.out.2.1 j hj]
          have HCR : Hid (Pl.Bd t (p + 1 + Pl.sz a)) := HG.out.2.2.2.1
          clear c1 c2 c3 c4 c5 c6 c7 hcs hck hbd HK3 HST HG HX1 HS2 HVA HUA hlk
          generalize hva : Pl.val (Pl.flP (prl M.l) V fs) ms m a = va at *
          clear hva
          have HSZ := Lib.hid (HSN.out va rfl)
          clear HSN
          go_wp2_with fail
          go_roundw
          case rel => exact ⟨p + 1 + Pl.sz a, by omega, g2, by go_num, HCR.out, HSZ.out⟩
          case measure => simp [intOf]; omega
        · have hne : (x.op == 6) = false := by simp [h6]
          have hne2 : (x.op != 6) = true := by simp [h6]
          obtain ⟨g1, g2⟩ := hH1.pass HT.out HB.out hnd
          have HS2 : Hid (SetAt M V (Pl.flP (prl M.l) V fs) ms k t m w κ (p + 1) wr) := ⟨κ1', vs1, ds1, h1, hT1, hA1, g2, hq1, hj1, hF1⟩
          have HB2 := Lib.hid g1
          clear h1 hT1 hA1 hH1 hq1 hj1 hF1 hx hnd g1 g2 hAA hoA r1 r2 p0 HS HB hlnk h6
          generalize x.op = op at *
          go_wp2_with fail
          go_roundw
          case rel => exact ⟨p + 1, by omega, by omega, by go_num, HB2.out, HS2.out⟩
          case measure => simp [intOf]; omega
      · have hpp : p = hi := by omega
        subst hpp
        have hj1 : ¬ ((p : Int) < (p : Int)) := by omega
        have HFN : Hid (SetSaid M V (Pl.flP (prl M.l) V fs) ms k t m w κ (.returned (.tuple #[])) wr) := by
          obtain ⟨κ1', vs1, ds1, h1, hT1, hA1, hH1, hq1, hj1, hF1⟩ := HS.out
          exact ⟨rfl, κ1', vs1, ds1, h1, hT1, hA1, hH1.end_ HT.out, hq1, hj1, hF1⟩
        clear HS HB
        go_wp2_with fail
        go_end0
        exact HFN.out
end Go.Proofs.Ytpamgeemmbbkkaa
