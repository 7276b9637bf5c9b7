/- The reference's machine: a rule's value, known or reckoned. Condition: the machine reads. The reference's machine: in a step's first phase each rule has its value; in the second all are known. Condition: the machine reads. -/
import Derived.Test.YtpamgeemmbbkkaaMacF
namespace Go.Proofs.Ytpamgeemmbbkkaa
open Go.RowKit
set_option maxRecDepth 100000
theorem rule_done {M : MC} {w : World} {κ : Nat → Nat → Pl.Mem} {vs ds : List Bool} (h : MSt M w κ vs ds) {k : Nat} (hk : k < M.n) (hd : ds.getD k false = true) (ms : Int) (V : Value) :
    Calls Try.prog 48 #[.pointer (some ⟨M.mm, 0, none⟩), .int .i64 (k : Int), .int .i64 ms, V] w fun e w' => e = .returned (.bool (vs.getD k false)) ∧ w' = w := by
  have hf := h.full (by omega)
  have q3 := hf.cell 3
  have q4 := hf.cell 4
  have v := bools_at h.vals hk
  have d := bools_at h.done hk
  rw [hd] at d
  have hml := h.mach.lt
  have z1 := h.vals.2.lt
  have z2 := h.done.2.lt
  have k0 : (0 : Int) ≤ (k : Int) := by omega
  have k1 : (k : Int) < (M.n : Int) := by omega
  generalize vs.getD k false = x at *
  clear h hf hd
  go_enter Try.func48, Try.ntmps48
  go_wp2_with fail
  go_ret
  exact ⟨rfl, rfl⟩
set_option maxHeartbeats 3200000 in
theorem rule_new {M : MC} {w : World} {κ : Nat → Nat → Pl.Mem} {vs ds : List Bool} (h : MSt M w κ vs ds) {k : Nat} (hk : k < M.n) (hd : ds.getD k false = false) (ms : Int) (Af : Option Addr) (nf cf : Nat) (x : Bool) (e9 : Int) (P : World → (Nat → Nat → Pl.Mem) → List Bool → List Bool → Prop)
    (hev : Calls Try.prog 87 #[.pointer (some ⟨M.mm, 0, none⟩), .int .i64 (k : Int), .int .i64 0, .int .i64 ms, .slice Af nf cf] (w.setCell ⟨M.gD, k, none⟩ (.bool true)).drew fun e w' => e = .returned (.tuple #[.bool x, .int .i64 e9]) ∧ ∃ κ' vs' ds', MSt M w' κ' vs' ds' ∧ P w' κ' vs' ds') :
    Calls Try.prog 48 #[.pointer (some ⟨M.mm, 0, none⟩), .int .i64 (k : Int), .int .i64 ms, .slice Af nf cf] w fun e w' => e = .returned (.bool x) ∧ ∃ w9 κ' vs' ds', MSt M w9 κ' vs' ds' ∧ P w9 κ' vs' ds' ∧ w' = w9.setCell ⟨M.gV, k, none⟩ (.bool x) := by
  have hn0 : 0 < M.n := by omega
  have hf := h.full hn0
  have q4 := hf.cell 4
  have d := bools_at h.done hk
  rw [hd] at d
  have df := h.done.2.frozen k
  have hml := h.mach.lt
  have z2 := h.done.2.lt
  have k0 : (0 : Int) ≤ (k : Int) := by omega
  have k1 : (k : Int) < (M.n : Int) := by omega
  have H1 := Lib.hid (h.setDone k true)
  have ne : ¬ M.mm = M.gD := h.mach.ne_ h.done.2 (by decide)
  have HE := Lib.hid hev
  have HK := Lib.hid hk
  clear h hf hd hev
  go_enter Try.func48, Try.ntmps48
  go_wp2_with fail
  have y3 : (w.setCell ⟨M.gD, k, none⟩ (.bool true)).cell? ⟨M.mm, 3, none⟩ = some (.slice (some ⟨M.gV, 0, none⟩) M.n M.n) := (H1.out.full hn0).cell 3
  generalize w.setCell ⟨M.gD, k, none⟩ (.bool true) = w1 at *
  clear q4 d df z2 ne
  have hSw : (fun w' : World => w'.cell? ⟨M.mm, 3, none⟩ = some (.slice (some ⟨M.gV, 0, none⟩) M.n M.n)) w1.drew := y3
  clear y3
  refine wp_region_mid (fun w' : World => w'.cell? ⟨M.mm, 3, none⟩ = some (.slice (some ⟨M.gV, 0, none⟩) M.n M.n)) 15 (by kernel_rfl) ?_
  refine wpAnyM_take 0 rfl (by kernel_rfl) (by kernel_rfl) (by kernel_rfl) (by kernel_rfl) (by kernel_rfl) (fun _ _ _ h => h) hSw (by rfl) (fun w' hSx => by (try dsimp only at hSx); go_simp; first | done | with_reducible rfl) ?_
  simp only [Act.put, List.setIfInBounds_toArray]
  refine wpAnyM_take 1 rfl (by kernel_rfl) (by kernel_rfl) (by kernel_rfl) (by kernel_rfl) (by kernel_rfl) (fun _ _ _ h => h) hSw (by rfl) (fun w' hSx => by (try dsimp only at hSx); go_simp; first | done | with_reducible rfl) ?_
  simp only [Act.put]
  refine wpAnyM_take 2 rfl (by kernel_rfl) (by kernel_rfl) (by kernel_rfl) (by kernel_rfl) (by kernel_rfl) (fun _ _ _ h => h) hSw (by rfl) (fun w' hSx => by (try dsimp only at hSx); go_simp; first | done | with_reducible rfl) ?_
  simp only [Act.put]
  refine wpAnyM_take 3 rfl (by kernel_rfl) (by kernel_rfl) (by kernel_rfl) (by kernel_rfl) (by kernel_rfl) (fun _ _ _ h => h) hSw (by rfl) (fun w' hSx => by (try dsimp only at hSx); go_simp; first | done | with_reducible rfl) ?_
  simp only [Act.put]
  refine wpAnyM_take 4 rfl (by kernel_rfl) (by kernel_rfl) (by kernel_rfl) (by kernel_rfl) (by kernel_rfl) (fun _ _ _ h => h) hSw (by rfl) (fun w' hSx => by (try dsimp only at hSx); go_simp; first | done | with_reducible rfl) ?_
  simp only [Act.put]
  refine wpAnyM_take 5 rfl (by kernel_rfl) (by kernel_rfl) (by kernel_rfl) (by kernel_rfl) (by kernel_rfl) (fun _ _ _ h => h) hSw (by rfl) (fun w' hSx => by (try dsimp only at hSx); go_simp; first | done | with_reducible rfl) ?_
  simp only [Act.put]
  refine wpAnyM_take 6 rfl (by kernel_rfl) (by kernel_rfl) (by kernel_rfl) (by kernel_rfl) (by kernel_rfl) (fun _ _ _ h => h) hSw (by rfl) (fun w' hSx => by (try dsimp only at hSx); go_simp; first | done | with_reducible rfl) ?_
  simp only [Act.put]
  refine wpAnyM_take 7 rfl (by kernel_rfl) (by kernel_rfl) (by kernel_rfl) (by kernel_rfl) (by kernel_rfl) (fun _ _ _ h => h) hSw (by rfl) (fun w' hSx => by (try dsimp only at hSx); go_simp; first | done | with_reducible rfl) ?_
  simp only [Act.put]
  refine wpAnyM_take 8 rfl (by kernel_rfl) (by kernel_rfl) (by kernel_rfl) (by kernel_rfl) (by kernel_rfl) (fun _ _ _ h => h) hSw (by rfl) (fun w' hSx => by (try dsimp only at hSx); go_simp; first | done | with_reducible rfl) ?_
  simp only [Act.put]
  refine wpAnyM_ready [9] (by kernel_rfl) (by simp) ?_
  refine AllReadyM.cons (by rfl) (fun K hK => ?_) AllReadyM.nil
  go_simp
  refine HE.out.mono ?_
  rintro e w9 ⟨rfl, κ', vs', ds', h1, h2⟩
  have H9 := Lib.hid (And.intro h1 h2)
  clear h1 h2 HE
  have hS9 : (fun w' : World => w'.cell? ⟨M.mm, 3, none⟩ = some (.slice (some ⟨M.gV, 0, none⟩) M.n M.n)) w9 := (H9.out.1.full hn0).cell 3
  refine hK.out _ _ hS9 ?_
  clear hK K hSw
  have hSw := hS9
  clear hS9
  refine wpAnyM_take 10 rfl (by kernel_rfl) (by kernel_rfl) (by kernel_rfl) (by kernel_rfl) (by kernel_rfl) (fun _ _ _ h => h) hSw (by rfl) (fun w' hSx => by (try dsimp only at hSx); go_simp; first | done | with_reducible rfl) ?_
  simp only [Act.put]
  refine wpAnyM_take 11 rfl (by kernel_rfl) (by kernel_rfl) (by kernel_rfl) (by kernel_rfl) (by kernel_rfl) (fun _ _ _ h => h) hSw (by rfl) (fun w' hSx => by (try dsimp only at hSx); go_simp; first | done | with_reducible rfl) ?_
  simp only [Act.put]
  refine wpAnyM_take 12 rfl (by kernel_rfl) (by kernel_rfl) (by kernel_rfl) (by kernel_rfl) (by kernel_rfl) (fun _ _ _ h => h) hSw (by rfl) (fun w' hSx => by (try dsimp only at hSx); go_simp; first | done | with_reducible rfl) ?_
  simp only [Act.put]
  refine wpAnyM_take 13 rfl (by kernel_rfl) (by kernel_rfl) (by kernel_rfl) (by kernel_rfl) (by kernel_rfl) (fun _ _ _ h => h) hSw (by rfl) (fun w' hSx => by (try dsimp only at hSx); go_simp; first | done | with_reducible rfl) ?_
  simp only [Act.put]
  have v := bools_at H9.out.1.vals HK.out
  have vf := H9.out.1.vals.2.frozen k
  have z1 := H9.out.1.vals.2.lt
  have hm9 := H9.out.1.mach.lt
  refine wpAnyM_ready [14] (by kernel_rfl) (by simp) ?_
  refine AllReadyM.cons (by rfl) (fun K hK => ?_) AllReadyM.nil
  go_simp
  refine hK.out _ _ (((H9.out.1.setVal k x).full hn0).cell 3) ?_
  clear hK K v vf hSw
  refine wpAnyM_done (by kernel_rfl) ?_ _
  have H10 := Lib.hid (H9.out.1.setVal k x)
  have hlv : k < vs'.length := by rw [H9.out.1.vals.1]; exact HK.out
  have y3 := (H10.out.full hn0).cell 3
  have v := bools_at H10.out.vals HK.out
  rw [Pl.getD_set_same hlv] at v
  have HW : Hid (∃ w10, w10 = w9.setCell ⟨M.gV, k, none⟩ (.bool x)) := ⟨_, rfl⟩
  obtain ⟨w10, hw10⟩ := HW.out
  have HW2 := Lib.hid hw10
  rw [← hw10] at y3 v ⊢
  have z3 : M.gV < w10.heap.size := by rw [hw10]; simpa using z1
  have z4 : M.mm < w10.heap.size := by rw [hw10]; simpa using hm9
  clear hw10 HW hlv
  go_wp2_with fail
  go_ret
  exact ⟨rfl, w9, κ', vs', ds', H9.out.1, H9.out.2, HW2.out⟩
end Go.Proofs.Ytpamgeemmbbkkaa
namespace Go.Proofs.Ytpamgeemmbbkkaa
open Go.RowKit
/-- what a step of the reference's machine knows of its program -/
structure Ph (M : MC) (tr : Nat → Pl.RT) (rk : Nat → Nat) (κ0 : Nat → Nat → Pl.Mem) (V : List Bool) (ms : Int) (fs : List ByteArray) : Prop where
  rule : ∀ k, k < M.n → ∃ o, M.l[k]? = some o ∧ o.n ≤ 64 ∧ o.ex.length = o.n ∧ (∀ x ∈ o.ex, 0 ≤ x.op ∧ x.op ≤ 7 ∧ (x.op = 1 → 0 ≤ x.value)) ∧ Pl.IsT o.ex 0 o.ex.length (tr k)
  rank : ∀ i, i < M.n → ∀ nm ∈ Pl.nds (tr i), ∀ j : Nat, Pl.ruleI (prl M.l) nm = (j : Int) → rk j < rk i
  val : ValsOk M.n M.l fs ms κ0 tr V
  small : M.n ≤ 16
  ms : 0 ≤ ms ∧ ms ≤ 100000
section
variable {M : MC} {tr : Nat → Pl.RT} {rk : Nat → Nat} {κ0 : Nat → Nat → Pl.Mem} {V : List Bool} {ms : Int} {fs : List ByteArray}
def κ1 (M : MC) (tr : Nat → Pl.RT) (κ0 : Nat → Nat → Pl.Mem) (V : List Bool) (ms : Int) (fs : List ByteArray) (i : Nat) : Nat → Pl.Mem := Pl.app (κ0 i) (Pl.upd (Pl.flP (prl M.l) V fs) ms (κ0 i) (tr i))
/-- a rule is done, or untouched -/
def Dich (M : MC) (tr : Nat → Pl.RT) (κ0 : Nat → Nat → Pl.Mem) (V : List Bool) (ms : Int) (fs : List ByteArray) (i : Nat) (κ : Nat → Nat → Pl.Mem) (vs ds : List Bool) : Prop :=
  (ds.getD i false = true ∧ vs.getD i false = V.getD i false ∧ κ i = κ1 M tr κ0 V ms fs i) ∨ (ds.getD i false = false ∧ κ i = κ0 i)
def Good (M : MC) (tr : Nat → Pl.RT) (rk : Nat → Nat) (κ0 : Nat → Nat → Pl.Mem) (V : List Bool) (ms : Int) (fs : List ByteArray) (r : Nat) (κ : Nat → Nat → Pl.Mem) (vs ds : List Bool) : Prop := ∀ i, i < M.n → rk i < r → Dich M tr κ0 V ms fs i κ vs ds
theorem Dich.congr {i : Nat} {κ κ' : Nat → Nat → Pl.Mem} {vs vs' ds ds' : List Bool} (h : Dich M tr κ0 V ms fs i κ vs ds) (e1 : κ' i = κ i) (e2 : vs'.getD i false = vs.getD i false) (e3 : ds'.getD i false = ds.getD i false) : Dich M tr κ0 V ms fs i κ' vs' ds' := by
  unfold Dich at h ⊢
  rw [e1, e2, e3]; exact h
def Mono (ds ds' : List Bool) : Prop := ∀ j, ds.getD j false = true → ds'.getD j false = true
/-- what holds while rule i is being reckoned -/
def InvA (M : MC) (tr : Nat → Pl.RT) (rk : Nat → Nat) (κ0 : Nat → Nat → Pl.Mem) (V : List Bool) (ms : Int) (fs : List ByteArray) (i : Nat) (κa : Nat → Nat → Pl.Mem) (va da : List Bool) (κ : Nat → Nat → Pl.Mem) (vs ds : List Bool) : Prop :=
  Good M tr rk κ0 V ms fs (rk i) κ vs ds ∧ (∀ j, j < M.n → rk i ≤ rk j → j ≠ i → κ j = κa j ∧ vs.getD j false = va.getD j false ∧ ds.getD j false = da.getD j false) ∧ ds.getD i false = true ∧ Mono da ds
def RuleOk (M : MC) (tr : Nat → Pl.RT) (rk : Nat → Nat) (κ0 : Nat → Nat → Pl.Mem) (V : List Bool) (ms : Int) (fs : List ByteArray) (Af : Option Addr) (nf cf : Nat) (i : Nat) : Prop :=
  ∀ w κ vs ds, MSt M w κ vs ds → Reads w M.H 1 Af nf (txts fs) → TmL M κ → Good M tr rk κ0 V ms fs (rk i + 1) κ vs ds →
    Calls Try.prog 48 #[.pointer (some ⟨M.mm, 0, none⟩), .int .i64 (i : Int), .int .i64 ms, .slice Af nf cf] w fun e w' => e = .returned (.bool (V.getD i false)) ∧
      ∃ κ' vs' ds', MSt M w' κ' vs' ds' ∧ TmL M κ' ∧ Good M tr rk κ0 V ms fs (rk i + 1) κ' vs' ds' ∧ (∀ j, j < M.n → rk i < rk j → κ' j = κ j ∧ vs'.getD j false = vs.getD j false ∧ ds'.getD j false = ds.getD j false) ∧ ds'.getD i false = true ∧ Mono ds ds' ∧ Fr M.S w w'
theorem flP_hit {l : List Pl.RRule} {V : List Bool} {fs : List ByteArray} {nm : ByteArray} {i : Nat} (h : Pl.ruleI l nm = (i : Int)) : Pl.flP l V fs nm = V.getD i false := by
  unfold Pl.flP
  rw [h, if_pos (by omega)]; rfl
theorem flP_miss {l : List Pl.RRule} {V : List Bool} {fs : List ByteArray} {nm : ByteArray} (h : Pl.ruleI l nm < 0) : Pl.flP l V fs nm = Pl.inB fs nm := by
  unfold Pl.flP
  rw [if_neg (by omega)]
theorem rule_rank (hp : Ph M tr rk κ0 V ms fs) (Af : Option Addr) (nf cf : Nat) (hnf : nf ≤ 256) : ∀ r i, rk i = r → i < M.n → RuleOk M tr rk κ0 V ms fs Af nf cf i := by
  intro r
  induction r using Nat.strongRecOn with
  | _ r ih =>
    intro i hri hi w κ vs ds h hf hT hG
    obtain ⟨o, ho, ho64, hlen, hop, htr⟩ := hp.rule i hi
    have hdi := hG i hi (Nat.lt_succ_self _)
    rcases hdi with ⟨d1, d2, d3⟩ | ⟨d1, d2⟩
    · refine (rule_done h hi d1 ms (.slice Af nf cf)).mono ?_
      rintro e w' ⟨rfl, rfl⟩
      exact ⟨by rw [d2], κ, vs, ds, h, hT, hG, fun j _ _ => ⟨rfl, rfl, rfl⟩, d1, fun j hj => hj, Fr.refl _ _⟩
    · have hdl : i < ds.length := by rw [h.done.1]; exact hi
      have hset : ∀ j, j ≠ i → (ds.set i true).getD j false = ds.getD j false := fun j hj => Pl.getD_set_ne' (fun e => hj e.symm) _
      -- the environment of the rule's evaluation
      have hE : Env M (Pl.flP (prl M.l) V fs) (InvA M tr rk κ0 V ms fs i κ vs (ds.set i true)) ms Af nf cf fs (Pl.nds (tr i)) i := by
        refine ⟨fun κ9 vs9 ds9 us h9 => ?_, fun nm hnm j hj hR w9 κ9 vs9 ds9 h9 hf9 hI9 hT9 => ?_, fun nm hnm hR => flP_miss hR⟩
        · refine ⟨fun x hx hxr => ?_, fun j hj hr hne => ?_, h9.2.2.1, h9.2.2.2⟩
          · have hne : x ≠ i := fun e => by subst e; omega
            exact (h9.1 x hx hxr).congr (by funext a; exact Pl.kapp_other hne) rfl rfl
          · have := h9.2.1 j hj hr hne
            exact ⟨by rw [← this.1]; funext a; exact Pl.kapp_other hne, this.2.1, this.2.2⟩
        · have hlt := hp.rank i hi nm hnm j hR
          have hok := ih (rk j) (by omega) j rfl hj w9 κ9 vs9 ds9 h9 hf9 hT9 (fun x hx hxr => hI9.1 x hx (by omega))
          refine hok.mono ?_
          rintro e w' ⟨rfl, κ', vs', ds', a1, a2, a3, a4, a5, a6, a7⟩
          refine ⟨by rw [flP_hit hR], κ', vs', ds', a1, ⟨fun x hx hxr => ?_, fun x hx hr hne => ?_, ?_, fun x hx => a6 x (hI9.2.2.2 x hx)⟩, ?_, a2, a7⟩
          · by_cases hle : rk x < rk j + 1
            · exact a3 x hx hle
            · have := a4 x hx (by omega)
              exact (hI9.1 x hx hxr).congr this.1 this.2.1 this.2.2
          · have b1 := a4 x hx (by omega)
            have b2 := hI9.2.1 x hx hr hne
            exact ⟨b1.1.trans b2.1, b1.2.1.trans b2.2.1, b1.2.2.trans b2.2.2⟩
          · have b1 := a4 i hi hlt
            rw [b1.2.2]; exact hI9.2.2.1
          · exact (a4 i hi hlt).1
      have hev := mev_any (e := o.ex.length) (t := tr i) ho ho64 hlen hp.small hnf hp.ms hop hE htr (fun _ h => h)
      have h1 := (h.setDone i true).go (w' := (w.setCell ⟨M.gD, i, none⟩ (.bool true)).drew) ((Below.refl _ _).drew)
      have f1 : Fr M.S w (w.setCell ⟨M.gD, i, none⟩ (.bool true)).drew := ((Fr.refl _ w).set_ _ _ (.inr (.inr (.inl rfl)))).drew
      have hI1 : InvA M tr rk κ0 V ms fs i κ vs (ds.set i true) κ vs (ds.set i true) := by
        refine ⟨fun x hx hxr => ?_, fun _ _ _ _ => ⟨rfl, rfl, rfl⟩, Pl.getD_set_same hdl _, fun _ h => h⟩
        have hne : x ≠ i := fun e => by subst e; omega
        exact (hG x hx (by omega)).congr rfl rfl (hset x hne)
      have hc := hev (w.setCell ⟨M.gD, i, none⟩ (.bool true)).drew κ vs (ds.set i true) h1 (hf.below (f1.to_below h.low.2 h.low.1)) hI1 hT
      have hval : Pl.val (Pl.flP (prl M.l) V fs) ms (κ i) (tr i) = V.getD i false := by rw [d2]; exact (hp.val.2 i hi).symm
      have hr := rule_new h hi d1 ms Af nf cf (V.getD i false) (o.ex.length : Int) (fun W κ' vs' ds' => InvA M tr rk κ0 V ms fs i κ vs (ds.set i true) κ' vs' ds' ∧ κ' i = Pl.app (κ i) (Pl.upd (Pl.flP (prl M.l) V fs) ms (κ i) (tr i)) ∧ TmL M κ' ∧ Fr M.S (w.setCell ⟨M.gD, i, none⟩ (.bool true)).drew W) (hc.mono (by
        rintro e w' ⟨rfl, κ', vs', ds', a1, a2, a3, a4, a5⟩
        exact ⟨by rw [hval], κ', vs', ds', a1, a2, a3, a4, a5⟩))
      refine hr.mono ?_
      rintro e w' ⟨rfl, w9, κ', vs', ds', a1, ⟨b1, b2, b3, b4⟩, rfl⟩
      have hvl : i < vs'.length := by rw [a1.vals.1]; exact hi
      refine ⟨rfl, κ', vs'.set i (V.getD i false), ds', a1.setVal i _, b3, fun x hx hxr => ?_, fun j hj hr => ?_, b1.2.2.1, fun j hj => ?_, (f1.trans b4 (fun _ _ h => h)).set_ _ _ (.inr (.inl rfl))⟩
      · by_cases hxi : x = i
        · subst hxi
          refine .inl ⟨b1.2.2.1, Pl.getD_set_same hvl _, ?_⟩
          rw [b2, d2]; rfl
        · have hne : (vs'.set i (V.getD i false)).getD x false = vs'.getD x false := Pl.getD_set_ne' (fun e => hxi e.symm) _
          by_cases hlt : rk x < rk i
          · exact (b1.1 x hx hlt).congr rfl hne rfl
          · have c1 := b1.2.1 x hx (by omega) hxi
            exact (hG x hx hxr).congr c1.1 (hne.trans c1.2.1) (c1.2.2.trans (hset x hxi))
      · have hxi : j ≠ i := fun e => by subst e; omega
        have c1 := b1.2.1 j hj (by omega) hxi
        exact ⟨c1.1, (Pl.getD_set_ne' (fun e => hxi e.symm) _).trans c1.2.1, c1.2.2.trans (hset j hxi)⟩
      · refine b1.2.2.2 j ?_
        by_cases hji : j = i
        · subst hji; exact Pl.getD_set_same hdl _
        · rw [hset j hji]; exact hj
/-- the second phase: all rules are done -/
def InvB (M : MC) (V : List Bool) (k : Nat) (κa : Nat → Nat → Pl.Mem) (κ : Nat → Nat → Pl.Mem) (vs ds : List Bool) : Prop :=
  (∀ j, j < M.n → ds.getD j false = true) ∧ (∀ j, j < M.n → vs.getD j false = V.getD j false) ∧ ∀ j, j ≠ k → κ j = κa j
theorem env_two {NS : List ByteArray} (Af : Option Addr) (nf cf : Nat) (k : Nat) (κa : Nat → Nat → Pl.Mem) : Env M (Pl.flP (prl M.l) V fs) (InvB M V k κa) ms Af nf cf fs NS k := by
  refine ⟨fun κ9 vs9 ds9 us h9 => ⟨h9.1, h9.2.1, fun j hj => by rw [← h9.2.2 j hj]; funext a; exact Pl.kapp_other hj⟩, fun nm hnm j hj hR w9 κ9 vs9 ds9 h9 hf9 hI9 hT9 => ?_, fun nm hnm hR => flP_miss hR⟩
  refine (rule_done h9 hj (hI9.1 j hj) ms (.slice Af nf cf)).mono ?_
  rintro e w' ⟨rfl, rfl⟩
  exact ⟨by rw [flP_hit hR, hI9.2.1 j hj], κ9, vs9, ds9, h9, hI9, rfl, hT9, Fr.refl _ _⟩
end
end Go.Proofs.Ytpamgeemmbbkkaa
