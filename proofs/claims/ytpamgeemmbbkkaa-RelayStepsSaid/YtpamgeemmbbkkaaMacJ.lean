/- A step of the reference's machine. Condition: the machine reads. -/
import Derived.Test.YtpamgeemmbbkkaaBlk19
namespace Go.Proofs.Ytpamgeemmbbkkaa
open Go.RowKit
set_option maxRecDepth 100000
def MC.S0 (M : MC) (i : Nat) : Prop := i = M.gV ∨ ∃ k, k < M.n ∧ (i = M.rO k ∨ i = M.rT k)
/-- the machine between two steps -/
structure MS0 (M : MC) (w : World) (κ : Nat → Nat → Pl.Mem) (vs : List Bool) : Prop where
  mach : ∃ d, Blk w M.mm 114 #[.slice M.A M.n M.c, M.oV, M.tV, .slice (some ⟨M.gV, 0, none⟩) M.n M.n, d]
  hO : 0 < M.n → M.oV = .slice (some ⟨M.gO, 0, none⟩) M.n M.cO
  hT : 0 < M.n → M.tV = .slice (some ⟨M.gT, 0, none⟩) M.n M.cT
  rules : Ruls w M.H M.A M.n M.l
  outO : 0 < M.n → ∃ cs, Blk w M.gO 110 cs ∧ ∀ k, k < M.n → cs[k]? = some (.slice (some ⟨M.rO k, 0, none⟩) (M.len k) (M.len k))
  outT : 0 < M.n → ∃ cs, Blk w M.gT 45 cs ∧ ∀ k, k < M.n → cs[k]? = some (.slice (some ⟨M.rT k, 0, none⟩) (M.len k) (M.len k))
  rowO : ∀ k, k < M.n → Blk w (M.rO k) 4 (rowB κ k (M.len k))
  rowT : ∀ k, k < M.n → Blk w (M.rT k) 3 (rowI κ k (M.len k))
  vals : Bools w M.gV M.n vs
  low : M.H ≤ w.heap.size ∧ (∀ i, M.S0 i → M.H ≤ i) ∧ M.H ≤ M.mm
  apart : (∀ i j, i < M.n → j < M.n → i ≠ j → M.rO i ≠ M.rO j ∧ M.rT i ≠ M.rT j) ∧ ∀ k, k < M.n → M.rO k ≠ M.gV
def MC.at_ (M : MC) (g : Nat) : MC := ⟨M.mm, M.A, M.n, M.c, M.l, M.oV, M.tV, M.gO, M.gT, M.cO, M.cT, M.gV, g, M.rO, M.rT, M.H⟩
section
variable {M : MC} {w w' : World} {κ : Nat → Nat → Pl.Mem} {vs ds : List Bool}
theorem MS0.sub (h : MS0 M w κ vs) : ∀ i, M.S0 i → i < w.heap.size := by
  rintro i (rfl | ⟨k, hk, rfl | rfl⟩)
  · exact h.vals.2.lt
  · exact (h.rowO k hk).lt
  · exact (h.rowT k hk).lt
/-- behind 'm.done = make(..)' -/
theorem MS0.fresh (h : MS0 M w κ vs) (f : Fr (fun i => i = M.mm) w w') (hm2 : Blk w' M.mm 114 #[.slice M.A M.n M.c, M.oV, M.tV, .slice (some ⟨M.gV, 0, none⟩) M.n M.n, .slice (some ⟨w.heap.size, 0, none⟩) M.n M.n]) (hd : Bools w' w.heap.size M.n ds) :
    MSt (M.at_ w.heap.size) w' κ vs ds := by
  obtain ⟨d, hm⟩ := h.mach
  have hb : Below M.H w w' := f.to_below (fun i e => by subst e; exact h.low.2.2) h.low.1
  have nb : ∀ {g : Nat} {t : TypeId} {cs : Array Value}, Blk w g t cs → t ≠ 114 → g ≠ M.mm := fun hg ht => hg.ne_ hm ht
  refine ⟨hm2, h.hO, h.hT, h.rules.below hb, fun hn => ?_, fun hn => ?_, fun k hk => f.blk (h.rowO k hk) (nb (h.rowO k hk) (by decide)), fun k hk => f.blk (h.rowT k hk) (nb (h.rowT k hk) (by decide)), ⟨h.vals.1, f.blk h.vals.2 (nb h.vals.2 (by decide))⟩, hd, ⟨Nat.le_trans h.low.1 f.size, ?_⟩, ?_, h.apart.1, fun k hk => ⟨h.apart.2 k hk, fun e => ?_⟩⟩
  · obtain ⟨cs, h1, h2⟩ := h.outO hn; exact ⟨cs, f.blk h1 (nb h1 (by decide)), h2⟩
  · obtain ⟨cs, h1, h2⟩ := h.outT hn; exact ⟨cs, f.blk h1 (nb h1 (by decide)), h2⟩
  · rintro i (e | e | ⟨k, hk, e⟩)
    · exact h.low.2.1 i (.inl e)
    · have e : i = w.heap.size := e
      subst e; exact h.low.1
    · exact h.low.2.1 i (.inr ⟨k, hk, e⟩)
  · intro e
    have := h.vals.2.lt
    have e : M.gV = w.heap.size := e
    omega
  · have := (h.rowO k hk).lt
    have e : M.rO k = w.heap.size := e
    omega
/-- between two steps again -/
theorem MSt.rest {g : Nat} (h : MSt (M.at_ g) w κ vs ds) (hH : M.H ≤ M.mm) : MS0 M w κ vs :=
  ⟨⟨_, h.mach⟩, h.hO, h.hT, h.rules, h.outO, h.outT, h.rowO, h.rowT, h.vals, ⟨h.low.1, fun i hi => h.low.2 i (hi.imp id (fun ⟨k, hk, e⟩ => .inr ⟨k, hk, e⟩)), hH⟩, ⟨h.apart.2.1, fun k hk => (h.apart.2.2 k hk).1⟩⟩
theorem MSt.swap {κ' : Nat → Nat → Pl.Mem} (h : MSt M w κ vs ds) (he : ∀ k, k < M.n → κ' k = κ k) : MSt M w κ' vs ds :=
  ⟨h.mach, h.hO, h.hT, h.rules, h.outO, h.outT, fun k hk => by have := h.rowO k hk; rw [rowB_congr (κ' := κ') (fun a => by rw [he k hk])] at this; exact this, fun k hk => by have := h.rowT k hk; rw [rowI_congr (κ' := κ') (fun a => by rw [he k hk])] at this; exact this, h.vals, h.done, h.low, h.apart⟩
end
def MStSaid (M : MC) (tr : Nat → Pl.RT) (κ0 : Nat → Nat → Pl.Mem) (V : List Bool) (ms : Int) (fs : List ByteArray) (w : World) (e : Ending) (w' : World) : Prop :=
  ∃ A' m c' vs', e = .returned (.slice A' m c') ∧ w'.ownsRow w.heap.size 9 1 (.slice A' m c') m (txts (outsP M.l V)) ∧ MS0 M w' (Pl.κfin M.n tr (Pl.flP (prl M.l) V fs) ms κ0) vs' ∧ TmL M (Pl.κfin M.n tr (Pl.flP (prl M.l) V fs) ms κ0) ∧ Fr (fun i => i = M.mm ∨ M.S0 i) w w'
set_option maxHeartbeats 6400000 in
theorem mstep_any {M : MC} {tr : Nat → Pl.RT} {rk : Nat → Nat} {κ0 : Nat → Nat → Pl.Mem} {V : List Bool} {ms : Int} {fs : List ByteArray} (hp : Ph M tr rk κ0 V ms fs) (Af : Option Addr) (nf cf : Nat) (hnf : nf ≤ 256) {w : World} {vs : List Bool} (h : MS0 M w κ0 vs) (hT : TmL M κ0) (hf : Reads w M.H 1 Af nf (txts fs)) :
    Calls Try.prog 25 #[.pointer (some ⟨M.mm, 0, none⟩), .int .i64 ms, .slice Af nf cf] w (MStSaid M tr κ0 V ms fs w) := by
  have HP := Lib.hid hp
  have H := Lib.hid h
  have HT := Lib.hid hT
  have HFL := Lib.hid hf
  have hn16 := hp.small
  obtain ⟨d, hm⟩ := h.mach
  have q0 := hm.cell 0
  have q4 := hm.cell 4
  have q4f := hm.frozen 4
  have hml := hm.lt
  obtain ⟨j0, ji0, jz0, jz1, jz2⟩ := info_parts info_bm
  have hmk : ∀ w, (Instr.makeSlice 110 (.int .i64 (M.n : Int)) (.int .i64 (M.n : Int))).run Try.prog w = .ok (.slice (some ⟨w.heap.size, 0, none⟩) M.n M.n) (w.alloc (.cells (Array.replicate M.n (Value.bool false)) 4)) := fun w => by
    have := run_make (P := Try.prog) w 110 4 j0 (.bool false) Try.underlying110 ji0 jz0 .i64 .i64 M.n M.n (by omega) (by omega) (by rw [jz2]; omega) (by omega)
    rw [jz1, show (Value.bool false).cells = #[.bool false] from rfl] at this
    rw [show Array.replicate M.n (Value.bool false) = madeCells #[.bool false] M.n from by
      apply Array.ext'
      rw [toList_madeCells_one]
      simp]
    simpa using this
  have HD : Hid (MSt (M.at_ w.heap.size) ((w.setCell ⟨M.mm, 4, none⟩ (.slice (some ⟨w.heap.size, 0, none⟩) M.n M.n)).alloc (.cells (Array.replicate M.n (Value.bool false)) 4)) κ0 vs (List.replicate M.n false)) := by
    have e : ((List.replicate M.n false).map Value.bool).toArray = Array.replicate M.n (Value.bool false) := by simp
    refine h.fresh (((Fr.refl (fun i => i = M.mm) w).set_ ⟨M.mm, 4, none⟩ _ (.inr rfl)).alloc _) ((hm.set_ 4 _).alloc _) ⟨by simp, ?_⟩
    rw [e]
    exact Blk.new_ (w.setCell ⟨M.mm, 4, none⟩ _) w.heap.size 4 _ (by simp)
  have HB1 : Hid (Fr (fun i => i = M.mm ∨ M.S0 i) w ((w.setCell ⟨M.mm, 4, none⟩ (.slice (some ⟨w.heap.size, 0, none⟩) M.n M.n)).alloc (.cells (Array.replicate M.n (Value.bool false)) 4))) := ((Fr.refl _ w).set_ _ _ (.inr (.inl rfl))).alloc _
  have HS1 : Hid (((w.setCell ⟨M.mm, 4, none⟩ (.slice (some ⟨w.heap.size, 0, none⟩) M.n M.n)).alloc (.cells (Array.replicate M.n (Value.bool false)) 4)).heap.size = w.heap.size + 1) := by show _ = _; simp
  obtain ⟨i0, hi0, hz0, hz1, hz2⟩ := info_parts info_st
  clear h hT hf hp hm ji0 jz0 jz1 jz2
  go_enter Try.func25, Try.ntmps25
  go_wp2_with fail
  generalize hw1 : ((w.setCell ⟨M.mm, 4, none⟩ (.slice (some ⟨w.heap.size, 0, none⟩) M.n M.n)).alloc (.cells (Array.replicate M.n (Value.bool false)) 4)) = w1 at *
  clear hw1 hmk q0 q4 q4f
  have HBD : Hid (MC.Lt (M.at_ w.heap.size) w1.heap.size) := HD.out.bd
  go_loopw [7, 25] (fun lv i wr => ∃ (j m : Nat) (A' : Option Addr) (c' : Nat) (κ' : Nat → Nat → Pl.Mem) (vs' ds' : List Bool), j ≤ M.n ∧ i = .int .i64 j ∧ lv = .slice A' m c' ∧ Hid (m = (outsT M.l V j).length) ∧ Hid (wr.ownsRow w1.heap.size 9 1 (.slice A' m c') m (txts (outsT M.l V j))) ∧ Hid (MSt (M.at_ w.heap.size) wr κ' vs' ds' ∧ TmL (M.at_ w.heap.size) κ' ∧ (∀ i, i < M.n → Dich (M.at_ w.heap.size) tr κ0 V ms fs i κ' vs' ds') ∧ (∀ i, i < j → ds'.getD i false = true) ∧ Fr (M.at_ w.heap.size).S w1 wr) ∧ w1.heap.size ≤ wr.heap.size) (fun _ i _ => M.n - (intOf i).toNat)
  case atStart => exact ⟨0, 0, none, 0, κ0, vs, List.replicate M.n false, Nat.zero_le _, rfl, rfl, Lib.hid rfl, World.ownsRow_nil _ _ _ _, Lib.hid ⟨HD.out, HT.out, fun i hi => .inr ⟨by simp [List.getD, hi], rfl⟩, fun i hi => by omega, Fr.refl _ _⟩, Nat.le_refl _⟩
  case round =>
    obtain ⟨j, m, A', c', κ', vs', ds', hj, rfl, rfl, HM, HO, HMS, hsz⟩ := hrel
    by_cases hlt : j < M.n
    · have hru : Ruls wr M.H M.A M.n M.l := HMS.out.1.rules
      obtain ⟨b0, o0, hA, hb0, hlk, p0, p1, hri⟩ := rul_at hru hlt
      have hb1 := cell_lt p0
      have ho : M.l[j]? = some M.l[j] := List.getElem?_eq_getElem hlk
      have HOS : Hid (outsT M.l V (j + 1) = outsT M.l V j ++ (if V.getD j false = true then [M.l[j].nm] else [])) := by
        show _ = _
        rw [outsT_succ, ho]
      have hlenT := outsT_len M.l V j
      rw [← HM.out] at hlenT
      have D1 := Lib.hid ((Below.refl wr.heap.size wr).alloc (Nat.le_refl _) (.cells #[.string M.l[j].nm, .slice M.l[j].A M.l[j].n M.l[j].c] 96))
      have B1 := Lib.hid (Blk.new_ wr wr.heap.size 96 #[.string M.l[j].nm, .slice M.l[j].A M.l[j].n M.l[j].c] rfl)
      have HSB : Hid (∀ i, (M.at_ w.heap.size).S i → i < w1.heap.size) := HBD.out.sub
      have HFLr : Hid (Reads (wr.alloc (.cells #[.string M.l[j].nm, .slice M.l[j].A M.l[j].n M.l[j].c] 96)) M.H 1 Af nf (txts fs)) :=
        (HFL.out.below ((HB1.out.to_below (B := M.H) (fun i e => by rcases e with e | e; · rw [e]; exact H.out.low.2.2
                                                                    · exact H.out.low.2.1 i e) H.out.low.1).trans (HMS.out.2.2.2.2.to_below HD.out.low.2 HD.out.low.1))).below (D1.out.mono (Nat.le_trans HBD.out.low hsz))
      have HC : Hid (Calls Try.prog 48 #[.pointer (some ⟨M.mm, 0, none⟩), .int .i64 (j : Int), .int .i64 ms, .slice Af nf cf] (wr.alloc (.cells #[.string M.l[j].nm, .slice M.l[j].A M.l[j].n M.l[j].c] 96)) _) :=
        rule_rank (M := M.at_ w.heap.size) (rk := rk) ⟨HP.out.rule, HP.out.rank, HP.out.val, HP.out.small, HP.out.ms⟩ Af nf cf hnf (rk j) j rfl hlt _ κ' vs' ds' (HMS.out.1.go D1.out) HFLr.out HMS.out.2.1 (fun i hi _ => HMS.out.2.2.1 i hi)
      have hk0 : (0 : Int) ≤ (j : Int) := by omega
      have hk1 : (j : Int) < (M.n : Int) := by omega
      have hix : ∀ W, (Instr.indexAt 60 (.slice M.A M.n M.c) (.int .i64 (j : Int))).run Try.prog W = .ok (.pointer (some ⟨b0, o0 + j * 2, none⟩)) W := fun W => by
        rw [hA]
        go_simp
      clear hA
      have HO1 := Lib.hid (own_go HO.out D1.out)
      have hszb : w1.heap.size ≤ (wr.alloc (.cells #[.string M.l[j].nm, .slice M.l[j].A M.l[j].n M.l[j].c] 96)).heap.size := by simp; omega
      clear hru hri ho HFLr
      generalize M.l[j].nm = nn at *
      generalize M.l[j].A = oA at *
      generalize M.l[j].n = oN at *
      generalize M.l[j].c = oC at *
      have y9 : wr.heap.size < (wr.alloc (.cells #[.string nn, .slice oA oN oC] 96)).heap.size := by simp
      go_wp2_with fail
      generalize (wr.alloc (.cells #[.string nn, .slice oA oN oC] 96)) = wb at *
      refine HC.out.mono ?_
      rintro e w2 ⟨rfl, κ2, vs2, ds2, a1, a2, a3, a4, a5, a6, a7⟩
      have HMS2 : Hid (MSt (M.at_ w.heap.size) w2 κ2 vs2 ds2 ∧ TmL (M.at_ w.heap.size) κ2 ∧ (∀ i, i < M.n → Dich (M.at_ w.heap.size) tr κ0 V ms fs i κ2 vs2 ds2) ∧ (∀ i, i < j + 1 → ds2.getD i false = true) ∧ Fr (M.at_ w.heap.size).S w1 w2) := by
        refine ⟨a1, a2, fun i hi => ?_, fun i hi => ?_, (HMS.out.2.2.2.2.trans (T := fun _ => False) (Fr.of_below D1.out) (fun _ _ h => h.elim)).trans a7 (fun _ _ h => h)⟩
        · by_cases hle : rk i < rk j + 1
          · exact a3 i hi hle
          · have b1 := a4 i hi (by omega)
            exact (HMS.out.2.2.1 i hi).congr b1.1 b1.2.1 b1.2.2
        · by_cases e : i = j
          · subst e; exact a5
          · exact a6 i (HMS.out.2.2.2.1 i (by omega))
      have HO2 := Lib.hid (own_fr HO1.out a7 HSB.out)
      have HB2 := Lib.hid (a7.blk B1.out (fun e => by have := HSB.out _ e; omega))
      have hsz2 : w1.heap.size ≤ w2.heap.size := Nat.le_trans hszb a7.size
      clear a1 a2 a3 a4 a5 a6 a7 HC HMS HO HO1 B1 D1
      have z1 := HB2.out.cell 0
      have z2 := HB2.out.lt
      cases hvk : V.getD j false with
      | false =>
        rw [hvk] at HOS
        have HOS2 : Hid (outsT M.l V (j + 1) = outsT M.l V j) := by show _ = _; rw [HOS.out]; simp
        clear HOS hvk
        go_wp2_with fail
        go_roundw
        case rel => exact ⟨j + 1, m, A', c', κ2, vs2, ds2, by omega, by go_num, rfl, by show _ = _; rw [HOS2.out]; exact HM.out, by show World.ownsRow _ _ _ _ _ _ _; rw [HOS2.out]; exact HO2.out, HMS2.out, hsz2⟩
        case measure => simp [intOf]; omega
      | true =>
        rw [hvk] at HOS
        have HOS2 : Hid (outsT M.l V (j + 1) = outsT M.l V j ++ [nn]) := by show _ = _; rw [HOS.out]; simp
        clear HOS hvk
        go_wp2_with (at_builtin; go_must (refine wpList_append_grow w2 rfl (.tmp 35) (.tmp 38) 22 rfl w1.heap.size 9 i0 _ 1 16 Try.underlying22 hi0 hz0 hz1 hz2 rfl (by decide) (.slice A' m c') m (txts (outsT M.l V j)) rfl HO2.out hsz2 #[.string nn] rfl rfl (by simp) (by simp [Value.oneCell']) (by unfold maxLen; omega) (by omega) ?_; intro v3 w3 hown3 hg3 hsz3; obtain ⟨A3, c3, rfl, _⟩ := own_slice hown3; have HO3 := Lib.hid hown3; have HG3 := Lib.hid hg3; clear hown3 hg3))
        have F3 : Hid (Below w1.heap.size w2 w3) := below_grown (Below.refl _ w2) HG3.out HO2.out (Nat.le_refl _) hsz2
        have HMS3 : Hid (MSt (M.at_ w.heap.size) w3 κ2 vs2 ds2 ∧ TmL (M.at_ w.heap.size) κ2 ∧ (∀ i, i < M.n → Dich (M.at_ w.heap.size) tr κ0 V ms fs i κ2 vs2 ds2) ∧ (∀ i, i < j + 1 → ds2.getD i false = true) ∧ Fr (M.at_ w.heap.size).S w1 w3) :=
          ⟨HMS2.out.1.keep HBD.out F3.out, HMS2.out.2.1, HMS2.out.2.2.1, HMS2.out.2.2.2.1, HMS2.out.2.2.2.2.trans (T := fun i => w1.heap.size ≤ i) ⟨F3.out.os, F3.out.tape, F3.out.output, F3.out.size, fun i hi hs => F3.out.block i (by omega)⟩ (fun i hi e => by omega)⟩
        go_roundw
        case rel => exact ⟨j + 1, m + 1, A3, c3, κ2, vs2, ds2, by omega, by go_num, rfl, by show _ = _; rw [HOS2.out, List.length_append, ← HM.out]; rfl, by show World.ownsRow _ _ _ _ _ _ _; rw [HOS2.out, txts_append]; exact HO3.out, HMS3.out, hsz3⟩
        case measure => simp [intOf]; omega
    · have hjj : j = M.n := by omega
      have hj1 : ¬ ((j : Int) < (M.n : Int)) := by omega
      have y0 : wr.cell? ⟨M.mm, 0, none⟩ = some (.slice M.A M.n M.c) := HMS.out.1.mach.cell 0
      have hmr : M.mm < wr.heap.size := HMS.out.1.mach.lt
      have HOU : Hid (outsT M.l V j = outsP M.l V) := by
        show _ = _
        unfold outsT outsP
        rw [hjj]
        have : M.l.length = M.n := (show Ruls wr M.H M.A M.n M.l from HMS.out.1.rules).len
        rw [this]
      have HL2 : Hid (∃ κ2 vs2 ds2, MSt (M.at_ w.heap.size) wr κ2 vs2 ds2 ∧ TmL (M.at_ w.heap.size) κ2 ∧ AllDone (M.at_ w.heap.size) V vs2 ds2 ∧ (∀ k, k < 0 → κ2 k = Pl.app (κ0 k) (Pl.fin (Pl.flP (prl M.l) V fs) ms (κ0 k) (tr k))) ∧ (∀ k, k < M.n → 0 ≤ k → κ2 k = κ1 (M.at_ w.heap.size) tr κ0 V ms fs k) ∧ Fr (M.at_ w.heap.size).S w1 wr) := by
        have hd : ∀ i, i < M.n → ds'.getD i false = true := fun i hi => HMS.out.2.2.2.1 i (by omega)
        have hv : ∀ i, i < M.n → vs'.getD i false = V.getD i false ∧ κ' i = κ1 (M.at_ w.heap.size) tr κ0 V ms fs i := fun i hi => by
          rcases HMS.out.2.2.1 i hi with ⟨_, h2, h3⟩ | ⟨h1, _⟩
          · exact ⟨h2, h3⟩
          · rw [hd i hi] at h1; cases h1
        exact ⟨κ', vs', ds', HMS.out.1, HMS.out.2.1, ⟨hd, fun i hi => (hv i hi).1⟩, fun k hk => by omega, fun k hk _ => (hv k hk).2, HMS.out.2.2.2.2⟩
      have HO9 := Lib.hid HO.out
      clear HMS HO
      go_wp2_with fail
      clear y0
      go_loopw [46] (fun i wr => ∃ q : Nat, q ≤ M.n ∧ i = .int .i64 q ∧ Hid (wr.ownsRow w1.heap.size 9 1 (.slice A' m c') m (txts (outsT M.l V j))) ∧ Hid (∃ κ2 vs2 ds2, MSt (M.at_ w.heap.size) wr κ2 vs2 ds2 ∧ TmL (M.at_ w.heap.size) κ2 ∧ AllDone (M.at_ w.heap.size) V vs2 ds2 ∧ (∀ k, k < q → κ2 k = Pl.app (κ0 k) (Pl.fin (Pl.flP (prl M.l) V fs) ms (κ0 k) (tr k))) ∧ (∀ k, k < M.n → q ≤ k → κ2 k = κ1 (M.at_ w.heap.size) tr κ0 V ms fs k) ∧ Fr (M.at_ w.heap.size).S w1 wr)) (fun i _ => M.n - (intOf i).toNat)
      case atStart => exact ⟨0, Nat.zero_le _, rfl, HO9.out, HL2.out⟩
      case round =>
        obtain ⟨q, hq, rfl, HO, HS⟩ := hrel
        clear HL2 HO9
        obtain ⟨κ2, vs2, ds2, h1, h2, h3, h4, h5, h6⟩ := HS.out
        have y0 : wr.cell? ⟨M.mm, 0, none⟩ = some (.slice M.A M.n M.c) := h1.mach.cell 0
        have hmr2 : M.mm < wr.heap.size := h1.mach.lt
        by_cases hlt2 : q < M.n
        · obtain ⟨o, ho, ho64, hlen, hop, htr⟩ := HP.out.rule q hlt2
          have hru : Ruls wr M.H M.A M.n M.l := h1.rules
          obtain ⟨_, b0, o0, hA, hb0, p1, hri⟩ := rul_is hru ho
          have hb1 := cell_lt p1
          rw [hA] at y0
          have HSB : Hid (∀ i, (M.at_ w.heap.size).S i → i < w1.heap.size) := HBD.out.sub
          have HFLr : Hid (Reads wr M.H 1 Af nf (txts fs)) :=
            (HFL.out.below ((HB1.out.to_below (B := M.H) (fun i e => by rcases e with e | e; · rw [e]; exact H.out.low.2.2
                                                                        · exact H.out.low.2.1 i e) H.out.low.1).trans (h6.to_below HD.out.low.2 HD.out.low.1)))
          have HK1 : Hid (κ2 q = κ1 (M.at_ w.heap.size) tr κ0 V ms fs q) := h5 q hlt2 (Nat.le_refl _)
          have HC : Hid (Calls Try.prog 49 #[.pointer (some ⟨M.mm, 0, none⟩), .int .i64 (q : Int), .int .i64 0, .int .i64 (o.n : Int), .int .i64 ms, .slice Af nf cf] wr (SetSaid (M.at_ w.heap.size) V (Pl.flP (prl M.l) V fs) ms q (tr q) (κ0 q) wr κ2)) := by
            have := settle_any (M := M.at_ w.heap.size) (rk := rk) (κ0 := κ0) (V := V) (fs := fs) (tr := tr) ⟨HP.out.rule, HP.out.rank, HP.out.val, HP.out.small, HP.out.ms⟩ Af nf cf hnf ho hlt2 ho64 hlen hop _ (tr q) 0 o.ex.length (Nat.le_refl _) htr wr κ2 vs2 ds2 (κ0 q) h1 HFLr.out h2 h3 (fun p hp => by rw [HK1.out]; rfl)
            rw [hlen] at this
            exact Lib.hid this
          have hq0 : (0 : Int) ≤ (q : Int) := by omega
          have hq1 : (q : Int) < (M.n : Int) := by omega
          have HX := Lib.hid (And.intro h4 (And.intro h5 h6))
          clear h1 h2 h3 h4 h5 h6 hru hri ho hop htr hlen hA HFLr
          go_wp2_with fail
          refine HC.out.mono ?_
          rintro e w3 ⟨rfl, κ3, vs3, ds3, c1, c2, c3, c4, c5, c6, c7⟩
          have HO3 := Lib.hid (own_fr HO.out c7 HSB.out)
          have HS3 : Hid (∃ κ2 vs2 ds2, MSt (M.at_ w.heap.size) w3 κ2 vs2 ds2 ∧ TmL (M.at_ w.heap.size) κ2 ∧ AllDone (M.at_ w.heap.size) V vs2 ds2 ∧ (∀ k, k < q + 1 → κ2 k = Pl.app (κ0 k) (Pl.fin (Pl.flP (prl M.l) V fs) ms (κ0 k) (tr k))) ∧ (∀ k, k < M.n → q + 1 ≤ k → κ2 k = κ1 (M.at_ w.heap.size) tr κ0 V ms fs k) ∧ Fr (M.at_ w.heap.size).S w1 w3) := by
            refine ⟨κ3, vs3, ds3, c1, c2, c3, fun k hk => ?_, fun k hk hk2 => ?_, HX.out.2.2.trans c7 (fun _ _ h => h)⟩
            · by_cases e : k = q
              · subst e
                funext p
                by_cases hpp : p ∈ Pl.plc (tr k)
                · exact c4 p hpp
                · rw [c5 p hpp, HK1.out, Pl.app_out _ _ (fun u hu e9 => hpp (by rw [← e9]; exact Pl.fin_pos _ u hu))]
                  show Pl.app (κ0 k) _ p = _
                  rw [Pl.app_out _ _ (fun u hu e9 => hpp (by rw [← e9]; exact Pl.upd_pos _ u hu))]
              · rw [c6 k e]; exact HX.out.1 k (by omega)
            · rw [c6 k (by omega)]; exact HX.out.2.1 k hk (by omega)
          clear c1 c2 c3 c4 c5 c6 c7 HC HX HK1 HO HS
          go_wp2_with fail
          go_roundw
          case rel => exact ⟨q + 1, by omega, by go_num, HO3.out, HS3.out⟩
          case measure => simp [intOf]; omega
        · have hqq : q = M.n := by omega
          have hj2 : ¬ ((q : Int) < (M.n : Int)) := by omega
          have HFN : Hid (MStSaid M tr κ0 V ms fs w (.returned (.slice A' m c')) wr) := by
            have hsw := h1.swap (κ' := Pl.κfin M.n tr (Pl.flP (prl M.l) V fs) ms κ0) (fun k hk => by
              rw [h4 k (by have hk : k < M.n := hk; omega)]
              funext p
              unfold Pl.κfin
              rw [if_pos (show k < M.n from hk)])
            refine ⟨A', m, c', vs2, rfl, ?_, hsw.rest H.out.low.2.2, ⟨Pl.κfin_times HP.out.ms.1 HT.out.1, fun k o a x ho hx h7 => ?_⟩, ?_⟩
            · rw [← HOU.out]; exact own_base HO.out (by have := HS1.out; omega)
            · have hkl := (List.getElem?_eq_some_iff.1 ho).1
              have hkn : k < M.n := by have := (show Ruls wr M.H M.A M.n M.l from h1.rules).len; omega
              have := h2.2 k o a x ho hx h7
              rw [h4 k (by omega)] at this
              unfold Pl.κfin
              rw [if_pos hkn]; exact this
            · refine HB1.out.trans h6 (fun i hi e => ?_)
              rcases e with e | e | ⟨k, hk, e⟩
              · exact .inr (.inl e)
              · have e : i = w.heap.size := e
                omega
              · exact .inr (.inr ⟨k, hk, e⟩)
          clear h1 h2 h3 h4 h5 h6 HO HS
          go_wp2_with fail
          go_ret
          exact HFN.out
end Go.Proofs.Ytpamgeemmbbkkaa
