/- The reference's machine evaluates operations without operands. Conditions: the machine reads; what flags ask is known. -/
import Derived.Test.YtpamgeemmbbkkaaBlk16
import Derived.Test.YtpamgeemmbbkkaaBlk12
namespace Go.Proofs.Ytpamgeemmbbkkaa
open Go.RowKit
set_option maxRecDepth 100000
/-- all of a machine lies below K -/
structure MC.Lt (M : MC) (K : Nat) : Prop where
  mm : M.mm < K
  out : 0 < M.n → M.gO < K ∧ M.gT < K
  sub : ∀ i, M.S i → i < K
  low : M.H ≤ K
section
variable {M : MC} {w w' : World} {κ κ' : Nat → Nat → Pl.Mem} {vs ds : List Bool}
theorem MSt.bd (h : MSt M w κ vs ds) : MC.Lt M w.heap.size :=
  ⟨h.mach.lt, fun hn => ⟨by obtain ⟨cs, h1, _⟩ := h.outO hn; exact h1.lt, by obtain ⟨cs, h1, _⟩ := h.outT hn; exact h1.lt⟩, h.sub, h.low.1⟩
theorem MSt.keep {K : Nat} (h : MSt M w κ vs ds) (hK : MC.Lt M K) (hb : Below K w w') : MSt M w' κ vs ds :=
  ⟨h.mach.below hb hK.mm, h.hO, h.hT, h.rules.below (hb.mono hK.low), fun hn => let ⟨cs, h1, h2⟩ := h.outO hn; ⟨cs, h1.below hb (hK.out hn).1, h2⟩, fun hn => let ⟨cs, h1, h2⟩ := h.outT hn; ⟨cs, h1.below hb (hK.out hn).2, h2⟩, fun k hk => (h.rowO k hk).below hb (hK.sub _ (.inr (.inr ⟨k, hk, .inl rfl⟩))), fun k hk => (h.rowT k hk).below hb (hK.sub _ (.inr (.inr ⟨k, hk, .inr rfl⟩))), ⟨h.vals.1, h.vals.2.below hb (hK.sub _ (.inl rfl))⟩, ⟨h.done.1, h.done.2.below hb (hK.sub _ (.inr (.inl rfl)))⟩, ⟨Nat.le_trans h.low.1 hb.size, h.low.2⟩, h.apart⟩
theorem MC.Lt.more {K K' : Nat} (h : MC.Lt M K) (hk : K ≤ K') : MC.Lt M K' := ⟨Nat.lt_of_lt_of_le h.mm hk, fun hn => ⟨Nat.lt_of_lt_of_le (h.out hn).1 hk, Nat.lt_of_lt_of_le (h.out hn).2 hk⟩, fun i hi => Nat.lt_of_lt_of_le (h.sub i hi) hk, Nat.le_trans h.low hk⟩
end
set_option maxHeartbeats 1600000 in
theorem mev_above {M : MC} {F : ByteArray → Bool} {Inv : (Nat → Nat → Pl.Mem) → List Bool → List Bool → Prop} {ms : Int} {Af : Option Addr} {nf cf : Nat} {fs : List ByteArray}
    {k at_ : Nat} {o : MRul} {nm : ByteArray} {v : Int} (hk : M.l[k]? = some o) (hx : o.ex[at_]? = some ⟨1, nm, v⟩) (hsm : o.n ≤ 64) (hv : 0 ≤ v) :
    EvR M F Inv ms Af nf cf fs k at_ (at_ + 1) (.leaf at_ ⟨1, nm, v⟩) := by
  intro w κ vs ds h hf hI hT
  obtain ⟨hkn, han, hlen, b0, o0, b1, o1, hA, hA1, hb0, hb1, p0, p1, r0, r1, r2⟩ := mrul_at h hk hx
  have HM := Lib.hid h
  have HF := Lib.hid hf
  have HI := Lib.hid (And.intro hI hT)
  have HA := Lib.hid hA
  have HLN := Lib.hid hlen
  clear hlen
  have q0 := h.mach.cell 0
  rw [hA] at q0
  have hml := h.mach.lt
  have k0 : (0 : Int) ≤ (k : Int) := by omega
  have k1 : (k : Int) < (M.n : Int) := by omega
  have a0 : (0 : Int) ≤ (at_ : Int) := by omega
  have a1 : (at_ : Int) < (o.n : Int) := by omega
  have N5 := Lib.hid (Blk.new_ w w.heap.size 93 #[.int .i64 1, .string nm, .int .i64 v] rfl)
  have D5 := Lib.hid ((Below.refl w.heap.size w).alloc (Nat.le_refl _) (.cells #[.int .i64 1, .string nm, .int .i64 v] 93))
  have HQR := Lib.hid (fun W => opq_any 1 W)
  have hc : Pl.opn 1 = 0 := rfl
  rw [hc] at HQR
  clear hc
  have HFN : Hid (∀ W, Below w.heap.size w W → MPost M Inv w κ k (Pl.upd F ms (κ k) (.leaf at_ ⟨1, nm, v⟩)) W) := fun W hb => ⟨κ, vs, ds, HM.out.go hb, HI.out.1, rfl, HI.out.2, Fr.of_below hb⟩
  clear h hf hI hT hk hx hA hA1 p0
  go_enter Try.func87, Try.ntmps87
  go_wp2_with fail
  refine (HQR.out _).mono ?_
  rintro e w1 ⟨rfl, rfl⟩
  generalize (w.alloc (.cells #[.int .i64 1, .string nm, .int .i64 v] 93)) = w5 at *
  have x0 := N5.out.cell 0
  have x1 := N5.out.cell 2
  have hnl := N5.out.lt
  go_wp2_with fail
  go_loopw [13, 14, 108] (fun lv nx i wr => lv = .slice none 0 0 ∧ nx = .int .i64 ((at_ : Int) + 1) ∧ i = .int .i64 0 ∧ w5 = wr) (fun _ _ _ _ => 0)
  case atStart => exact ⟨rfl, rfl, rfl, rfl⟩
  case round =>
    obtain ⟨rfl, rfl, rfl, rfl⟩ := hrel
    go_wp2_with fail
    go_ret2
    exact ⟨by simp [Pl.val, hv], HFN.out _ D5.out⟩
set_option maxHeartbeats 1600000 in
theorem mev_below {M : MC} {F : ByteArray → Bool} {Inv : (Nat → Nat → Pl.Mem) → List Bool → List Bool → Prop} {ms : Int} {Af : Option Addr} {nf cf : Nat} {fs : List ByteArray}
    {k at_ : Nat} {o : MRul} {nm : ByteArray} {v : Int} (hk : M.l[k]? = some o) (hx : o.ex[at_]? = some ⟨2, nm, v⟩) (hsm : o.n ≤ 64) :
    EvR M F Inv ms Af nf cf fs k at_ (at_ + 1) (.leaf at_ ⟨2, nm, v⟩) := by
  intro w κ vs ds h hf hI hT
  obtain ⟨hkn, han, hlen, b0, o0, b1, o1, hA, hA1, hb0, hb1, p0, p1, r0, r1, r2⟩ := mrul_at h hk hx
  have HM := Lib.hid h
  have HF := Lib.hid hf
  have HI := Lib.hid (And.intro hI hT)
  have HA := Lib.hid hA
  have HLN := Lib.hid hlen
  clear hlen
  have q0 := h.mach.cell 0
  rw [hA] at q0
  have hml := h.mach.lt
  have k0 : (0 : Int) ≤ (k : Int) := by omega
  have k1 : (k : Int) < (M.n : Int) := by omega
  have a0 : (0 : Int) ≤ (at_ : Int) := by omega
  have a1 : (at_ : Int) < (o.n : Int) := by omega
  have N5 := Lib.hid (Blk.new_ w w.heap.size 93 #[.int .i64 2, .string nm, .int .i64 v] rfl)
  have D5 := Lib.hid ((Below.refl w.heap.size w).alloc (Nat.le_refl _) (.cells #[.int .i64 2, .string nm, .int .i64 v] 93))
  have HQR := Lib.hid (fun W => opq_any 2 W)
  have hc : Pl.opn 2 = 0 := rfl
  rw [hc] at HQR
  clear hc
  have HFN : Hid (∀ W, Below w.heap.size w W → MPost M Inv w κ k (Pl.upd F ms (κ k) (.leaf at_ ⟨2, nm, v⟩)) W) := fun W hb => ⟨κ, vs, ds, HM.out.go hb, HI.out.1, rfl, HI.out.2, Fr.of_below hb⟩
  clear h hf hI hT hk hx hA hA1 p0
  go_enter Try.func87, Try.ntmps87
  go_wp2_with fail
  refine (HQR.out _).mono ?_
  rintro e w1 ⟨rfl, rfl⟩
  generalize (w.alloc (.cells #[.int .i64 2, .string nm, .int .i64 v] 93)) = w5 at *
  have x0 := N5.out.cell 0
  have x1 := N5.out.cell 2
  have hnl := N5.out.lt
  go_wp2_with fail
  go_loopw [13, 14, 108] (fun lv nx i wr => lv = .slice none 0 0 ∧ nx = .int .i64 ((at_ : Int) + 1) ∧ i = .int .i64 0 ∧ w5 = wr) (fun _ _ _ _ => 0)
  case atStart => exact ⟨rfl, rfl, rfl, rfl⟩
  case round =>
    obtain ⟨rfl, rfl, rfl, rfl⟩ := hrel
    go_wp2_with fail
    go_ret2
    exact ⟨rfl, HFN.out _ D5.out⟩
theorem MPost.from_ {M : MC} {Inv : (Nat → Nat → Pl.Mem) → List Bool → List Bool → Prop} {w w1 w2 : World} {κ : Nat → Nat → Pl.Mem} {k : Nat} {us : List (Nat × Pl.Mem)} (h : MPost M Inv w1 κ k us w2) (hb : Below w.heap.size w w1) : MPost M Inv w κ k us w2 := by
  obtain ⟨κ', vs', ds', h1, h2, h3, h4, h5⟩ := h
  exact ⟨κ', vs', ds', h1, h2, h3, h4, (Fr.of_below (S := M.S) hb).trans h5 (fun _ _ h => h)⟩
theorem ruleI_is {l : List MRul} {nm : ByteArray} {j : Nat} (hj : j < l.length) (h : (l[j].nm.toList == nm.toList) = true) (h0 : ∀ q (hq : q < l.length), q < j → (l[q].nm.toList == nm.toList) = false) : Pl.ruleI (prl l) nm = (j : Int) := by
  rw [← ruleI_prl]
  exact Pl.idxOf_hit _ l j hj h (fun q hq hqj => h0 q hq hqj)
theorem ruleI_no {l : List MRul} {nm : ByteArray} (h0 : ∀ q (hq : q < l.length), (l[q].nm.toList == nm.toList) = false) : Pl.ruleI (prl l) nm < 0 := by
  rw [← ruleI_prl, Pl.idxOf_miss _ l (fun q hq => h0 q hq)]
  omega
set_option maxHeartbeats 3200000 in
theorem mev_flag {M : MC} {F : ByteArray → Bool} {Inv : (Nat → Nat → Pl.Mem) → List Bool → List Bool → Prop} {ms : Int} {Af : Option Addr} {nf cf : Nat} {fs : List ByteArray}
    {k at_ : Nat} {o : MRul} {nm : ByteArray} {v : Int} (hk : M.l[k]? = some o) (hx : o.ex[at_]? = some ⟨0, nm, v⟩) (hsm : o.n ≤ 64) (hns : M.n ≤ 16) (hnf : nf ≤ 256) {NS : List ByteArray} (hE : Env M F Inv ms Af nf cf fs NS k) (hnm : nm ∈ NS) :
    EvR M F Inv ms Af nf cf fs k at_ (at_ + 1) (.leaf at_ ⟨0, nm, v⟩) := by
  intro w κ vs ds h hf hI hT
  obtain ⟨hkn, han, hlen, b0, o0, b1, o1, hA, hA1, hb0, hb1, p0, p1, r0, r1, r2⟩ := mrul_at h hk hx
  have HM := Lib.hid h
  have HF := Lib.hid hf
  have HI := Lib.hid (And.intro hI hT)
  have HA := Lib.hid hA
  have HLN := Lib.hid hlen
  clear hlen
  have q0 := h.mach.cell 0
  rw [hA] at q0
  have hml := h.mach.lt
  have k0 : (0 : Int) ≤ (k : Int) := by omega
  have k1 : (k : Int) < (M.n : Int) := by omega
  have a0 : (0 : Int) ≤ (at_ : Int) := by omega
  have a1 : (at_ : Int) < (o.n : Int) := by omega
  have N5 := Lib.hid (Blk.new_ w w.heap.size 93 #[.int .i64 0, .string nm, .int .i64 v] rfl)
  have D5 := Lib.hid ((Below.refl w.heap.size w).alloc (Nat.le_refl _) (.cells #[.int .i64 0, .string nm, .int .i64 v] 93))
  have HQR := Lib.hid (fun W => opq_any 0 W)
  have hc : Pl.opn 0 = 0 := rfl
  rw [hc] at HQR
  clear hc
  have HE := Lib.hid hE
  have HNM := Lib.hid hnm
  have HBD := Lib.hid h.bd
  clear hE hnm
  clear h hf hI hT hk hx hA hA1 p0
  go_enter Try.func87, Try.ntmps87
  go_wp2_with fail
  refine (HQR.out _).mono ?_
  rintro e w1 ⟨rfl, rfl⟩
  have HM5 := Lib.hid (HM.out.go D5.out)
  have q0 := HM5.out.mach.cell 0
  rw [HA.out] at q0
  generalize (w.alloc (.cells #[.int .i64 0, .string nm, .int .i64 v] 93)) = w5 at *
  have x0 := N5.out.cell 0
  have hnl := N5.out.lt
  have hml5 := HM5.out.mach.lt
  go_wp2_with fail
  go_loopw [13, 14, 108] (fun lv nx i wr => lv = .slice none 0 0 ∧ nx = .int .i64 ((at_ : Int) + 1) ∧ i = .int .i64 0 ∧ w5 = wr) (fun _ _ _ _ => 0)
  case atStart => exact ⟨rfl, rfl, rfl, rfl⟩
  case round =>
    obtain ⟨rfl, rfl, rfl, rfl⟩ := hrel
    go_wp2_with fail
    clear x0 q0
    go_loopw [134] (fun i wr => ∃ j : Nat, j ≤ M.n ∧ i = .int .i64 j ∧ Hid (∀ q (hq : q < M.l.length), q < j → (M.l[q].nm.toList == nm.toList) = false) ∧ Hid (Below w5.heap.size w5 wr)) (fun i _ => M.n - (intOf i).toNat)
    case atStart => exact ⟨0, Nat.zero_le _, rfl, Lib.hid (fun q _ h => absurd h (by omega)), Below.refl _ _⟩
    case round =>
      obtain ⟨j, hj, rfl, HNO, HB⟩ := hrel
      have HMr := Lib.hid (HM5.out.go HB.out)
      have HBw := Lib.hid (D5.out.trans (HB.out.mono D5.out.size))
      have x1 := (N5.out.go HB.out).cell 1
      have hnr := (N5.out.go HB.out).lt
      by_cases hlt : j < M.n
      · obtain ⟨b2, o2, hA2, hb2, hl2, p0, p1, _⟩ := rul_at HMr.out.rules hlt
        rw [HA.out] at hA2
        injection hA2 with hA2
        injection hA2 with e1 e2
        subst e1 e2
        have hj0 : (0 : Int) ≤ (j : Int) := by omega
        have hj1 : (j : Int) < (M.n : Int) := by omega
        have HEQ : Hid (∀ y : Bool, (M.l[j].nm.toList == nm.toList) = y → ((M.l[j]).nm.toList == nm.toList) = y) := fun _ h => h
        have D6 := Lib.hid ((Below.refl wr.heap.size wr).alloc (Nat.le_refl _) (.cells #[.string M.l[j].nm, .slice M.l[j].A M.l[j].n M.l[j].c] 96))
        have hb22 := cell_lt p0
        cases hq : (M.l[j].nm.toList == nm.toList) with
        | true =>
          have HRI := Lib.hid (ruleI_is hl2 hq HNO.out)
          have HCL := Lib.hid (HE.out.flag nm HNM.out j hlt HRI.out _ κ vs ds (HMr.out.go D6.out) (HF.out.below ((HBw.out.trans (D6.out.mono HBw.out.size)).mono HM.out.low.1)) HI.out.1 HI.out.2)
          have hq2 : (M.l[j].nm.toList == nm.toList) = true := hq
          clear hq
          generalize M.l[j].nm = jn at *
          generalize M.l[j].A = jA at *
          generalize M.l[j].n = jm at *
          generalize M.l[j].c = jc at *
          go_wp2_with fail
          refine HCL.out.mono ?_
          rintro e w9 ⟨rfl, hp⟩
          have HP9 := Lib.hid (hp.from_ (HBw.out.trans (D6.out.mono HBw.out.size)))
          clear hp HCL
          go_wp2_with fail
          go_ret2
          exact ⟨rfl, HP9.out⟩
        | false =>
          have HNO2 : Hid (∀ q (hq : q < M.l.length), q < j + 1 → (M.l[q].nm.toList == nm.toList) = false) := fun q hq9 hqj => by
            by_cases e : q = j
            · subst e; exact hq
            · exact HNO.out q hq9 (by omega)
          have HB2 := Lib.hid (HB.out.trans (D6.out.mono HB.out.size))
          clear HNO HB
          generalize M.l[j].nm = jn at *
          generalize M.l[j].A = jA at *
          generalize M.l[j].n = jm at *
          generalize M.l[j].c = jc at *
          go_wp2_with fail
          go_roundw
          case rel => exact ⟨j + 1, by omega, by go_num, HNO2.out, HB2.out⟩
          case measure => simp [intOf]; omega
      · have hjj : ¬ ((j : Int) < (M.n : Int)) := by omega
        have HMS : Hid (Pl.ruleI (prl M.l) nm < 0) := ruleI_no (fun q hq => HNO.out q hq (by have := HMr.out.rules.len; omega))
        have HFN : Hid (F nm = Pl.inB fs nm) := HE.out.miss nm HNM.out HMS.out
        have HT := Lib.hid (hasText_any Af nf cf fs nm wr (by omega) ((HF.out.below (HBw.out.mono HM.out.low.1)).more HMr.out.low.1))
        have HPO : Hid (MPost M Inv w κ k (Pl.upd F ms (κ k) (.leaf at_ ⟨0, nm, v⟩)) wr) := ⟨κ, vs, ds, HMr.out, HI.out.1, rfl, HI.out.2, Fr.of_below HBw.out⟩
        go_wp2_with fail
        refine HT.out.mono ?_
        rintro e w9 ⟨rfl, rfl⟩
        go_wp2_with fail
        go_ret2
        exact ⟨by simp [Pl.val, HFN.out], HPO.out⟩
end Go.Proofs.Ytpamgeemmbbkkaa
