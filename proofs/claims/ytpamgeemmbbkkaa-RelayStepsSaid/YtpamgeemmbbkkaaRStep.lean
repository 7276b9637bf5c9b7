/- A relay's step: relay.Step. Conditions: no measured values; the program reads. -/
import Derived.Test.YtpamgeemmbbkkaaRStepA
import Derived.Deep.LoopGhost
namespace Go.Proofs.Ytpamgeemmbbkkaa
open Go.RowKit
set_option maxRecDepth 100000
/-- the names of the rules that hold -/
def outsP (l : List MRul) (V : List Bool) : List ByteArray := (List.range l.length).flatMap fun i => match l[i]? with | some o => if V.getD i false = true then [o.nm] else [] | none => []
def outsT (l : List MRul) (V : List Bool) (j : Nat) : List ByteArray := (List.range j).flatMap fun i => match l[i]? with | some o => if V.getD i false = true then [o.nm] else [] | none => []
theorem outsT_succ (l : List MRul) (V : List Bool) (j : Nat) : outsT l V (j + 1) = outsT l V j ++ (match l[j]? with | some o => if V.getD j false = true then [o.nm] else [] | none => []) := by
  unfold outsT; rw [List.range_succ]; simp
theorem outsT_len (l : List MRul) (V : List Bool) : ∀ j, (outsT l V j).length ≤ j
  | 0 => by simp [outsT]
  | j + 1 => by
    have := outsT_len l V j
    rw [outsT_succ, List.length_append]
    split
    · split <;> simp <;> omega
    · simp; omega
theorem info_st : (Try.prog.info? 9).map (fun i => (i.zero, i.size, i.bytes)) = some (some (.string ⟨#[]⟩), 1, 16) := by kernel_rfl
theorem txts_append (a b : List ByteArray) : txts (a ++ b) = txts a ++ txts b := by unfold txts; rw [List.map_append]
def RStepSaid (w : World) (B r gv b : Nat) (A : Option Addr) (n c : Nat) (l : List MRul) (AO : Option Addr) (cO : Nat) (ol : List Int) (V : List Bool) (nK : Nat) (κ' : Nat → Nat → Pl.Mem) (e : Ending) (w' : World) : Prop :=
  ∃ A' m c' nK', e = .returned (.tuple #[.slice A' m c', .int .i64 0]) ∧ w'.ownsRow w.heap.size 9 1 (.slice A' m c') m (txts (outsP l V)) ∧ RIn w' B r gv b A n c l AO cO ol V nK' κ' ∧ nK' ≤ nK + 70000 ∧ Fr (fun i => i = gv ∨ i = b) w w'
set_option maxHeartbeats 6400000 in
theorem rstep_any {w : World} {B r gv b : Nat} {A : Option Addr} {n c : Nat} {l : List MRul} {AO : Option Addr} {cO : Nat} {ol : List Int} {vs0 : List Bool} {nK : Nat} {κ0 : Nat → Nat → Pl.Mem} {tr : Nat → Pl.RT} {V : List Bool} {ND : Nat → List Int}
    (ms : Int) (Af : Option Addr) (nf cf : Nat) (fs : List ByteArray) (hp : Prg n l ol ND tr) (hV : ValsOk n l fs ms κ0 tr V) (h : RIn w B r gv b A n c l AO cO ol vs0 nK κ0) (hT : Pl.Times κ0) (hms : 1 ≤ ms ∧ ms ≤ 100000) (hf : Reads w B 1 Af nf (txts fs)) (hnf : nf ≤ 256) (hnK : nK ≤ 900000000) :
    Calls Try.prog 40 #[.pointer (some ⟨r, 0, none⟩), .int .i64 ms, .slice Af nf cf, .slice none 0 0] w (RStepSaid w B r gv b A n c l AO cO ol V nK (Pl.κfin n tr (Pl.flP (prl l) V fs) ms κ0)) := by
  have HP := Lib.hid hp
  have HV := Lib.hid hV
  have HT := Lib.hid hT
  have HI := Lib.hid h
  have HF := Lib.hid hf
  have HBG : Hid (b < w.heap.size ∧ gv < w.heap.size) := ⟨h.map.lt, h.val.2.lt⟩
  obtain ⟨hms1, hms2⟩ := hms
  have hr := h.rel.lt
  have hn16 := h.small
  have q0 := h.rel.cell 1
  have m1 : ¬ ms < 1 := by omega
  have m2 : ¬ 100000 < ms := by omega
  have m3 : ¬ 256 < nf := by omega
  clear hp hV hT h hf
  go_enter Try.func40, Try.ntmps40
  go_wp2_with fail
  go_loopw [39] (fun i wr => i = .int .i64 0 ∧ w = wr) (fun _ _ => 0)
  case atStart => exact ⟨rfl, rfl⟩
  case round =>
    obtain ⟨rfl, rfl⟩ := hrel
    have D0 := Lib.hid ((Below.refl w.heap.size w).alloc (Nat.le_refl _) (.cells #[.pointer (some ⟨r, 0, none⟩), .int .i64 ms, .slice Af nf cf, .slice none 0 0, .slice none 0 0] 162))
    have hq := (D0.out.cell (p := ⟨r, 1, none⟩) hr).trans q0
    have HE0 : Hid (EvIn (w.alloc (.cells #[.pointer (some ⟨r, 0, none⟩), .int .i64 ms, .slice Af nf cf, .slice none 0 0, .slice none 0 0] 162)) B w.heap.size r gv b A n c l (.slice AO n cO) vs0 ms Af nf cf fs (.slice none 0 0) [] nK κ0) :=
      (HI.out.go D0.out).ev (Blk.new_ w w.heap.size 162 _ rfl) (HF.out.below (D0.out.mono HI.out.low.2.2)) (by omega) HI.out.low.2.2 (PQ.nil _ _)
    go_wp2_with fail
    generalize (w.alloc (.cells #[.pointer (some ⟨r, 0, none⟩), .int .i64 ms, .slice Af nf cf, .slice none 0 0, .slice none 0 0] 162)) = w0 at *
    have hol : ol.length = n := HP.out.all
    have HOL := Lib.hid hol
    have HST : Hid (∃ (j nK' : Nat) (vs' : List Bool) (vL : Value), j = 0 ∧ vs'.length = n ∧ P1 w B w.heap.size r gv b A n c l AO cO ol ms Af nf cf fs nK κ0 tr V j nK' vs' vL w0) :=
      ⟨0, nK, vs0, _, rfl, HI.out.val.1, by
        have e1 : Pl.qOf (Pl.firstQ tr (ol.take 0)) = [] := rfl
        have e2 : Pl.κone tr (Pl.flP (prl l) V fs) ms κ0 (ol.take 0) = κ0 := by funext k p; simp [Pl.κone]
        unfold P1
        rw [e1, e2]
        exact ⟨HE0.out, Fr.of_below D0.out, fun g hg => (by cases hg), by omega, fun x hx => (by simp at hx)⟩⟩
    clear HE0 hq D0 q0 hol
    have HLOW := Lib.hid HI.out.low
    have HORD := Lib.hid HI.out.ord
    have HRUL := Lib.hid HI.out.rules
    clear HI HF
    go_loopw [61] (fun i wr => ∃ (j nK' : Nat) (vs' : List Bool) (vL : Value), j ≤ n ∧ i = .int .i64 j ∧ vs'.length = n ∧ Hid (P1 w B w.heap.size r gv b A n c l AO cO ol ms Af nf cf fs nK κ0 tr V j nK' vs' vL wr)) (fun i _ => n - (intOf i).toNat)
    case atStart =>
      obtain ⟨j, nK', vs', vL, rfl, h1, h2⟩ := HST.out
      exact ⟨0, nK', vs', vL, Nat.zero_le _, rfl, h1, h2⟩
    case round =>
      obtain ⟨j, nK', vs', vL, hjn, rfl, hvl, HP1⟩ := hrel
      by_cases hlt : j < n
      · have hE := HP1.out.1
        obtain ⟨bo, oo, rfl, hl2, y0⟩ := (HORD.out.below (HP1.out.2.1.to_below (B := B) (by rintro i (rfl | rfl); exact HLOW.out.1; exact HLOW.out.2.1) HLOW.out.2.2)).int_at hlt
        have hbo := cell_lt y0
        have HR0 := HP.out.ord.2.1 (ol[j]'hl2) (List.getElem_mem hl2)
        obtain ⟨i, hi⟩ : ∃ i : Nat, ol[j]'hl2 = (i : Int) := ⟨(ol[j]'hl2).toNat, by omega⟩
        rw [hi] at y0 HR0
        obtain ⟨o, ho, ho64, hlen, hop, hT0⟩ := HP.out.rule i (by omega)
        have HEV := Lib.hid (eval_any (B := B) (s := w.heap.size) (r := r) (gv := gv) (b := b) (A := A) (n := n) (c := c) (O := .slice (some ⟨bo, oo, none⟩) n cO) (vs := vs') (ms := ms) (Af := Af) (nf := nf) (cf := cf) (fs := fs) i o ho (by omega) hlen ⟨by omega, hms2⟩ hop hT0 wr.drew vL _ nK' _ hE.drew (κone_times (by omega) HT.out _) (by have := HP1.out.2.2.2.1; have := HP.out.sz (k := i) (by omega); omega) (by
          have h1 := Pl.loadQ_len (Pl.firstQ tr (ol.take j))
          have h2 := Pl.loadQ_first (tr := tr) (M := 64) (ol.take j) (fun x hx => HP.out.sz (by have := HP.out.ord.2.1 x (List.mem_of_mem_take hx); omega))
          have h3 := HP.out.sz (k := i) (by omega)
          have h4 : (ol.take j).length * 64 ≤ n * 64 := Nat.mul_le_mul_right _ (by rw [List.length_take]; omega)
          have h5 : (Pl.qOf (Pl.firstQ tr (ol.take j))).length = (Pl.firstQ tr (ol.take j)).length := by unfold Pl.qOf; simp
          omega))
        have y1 := hE.rel.cell 1
        have y2 := hE.rel.cell 2
        have hrl := hE.rel.lt
        have HSTEP := Lib.hid (fun e w1 he => P1.step HP.out HV.out rfl HLOW.out.1 HP1.out hlt hi (e := e) (w1 := w1) he)
        have hk0 : (0 : Int) ≤ (i : Int) := by omega
        have hk1 : (i : Int) < (n : Int) := by omega
        have hj1 : (j : Int) < (n : Int) := by omega
        have HIN := Lib.hid (show i < n by omega)
        clear hE hi ho hop hT0 HR0
        go_wp2_with fail
        refine wp_region_mid (fun w' : World => w'.cell? ⟨r, 2, none⟩ = some (.slice (some ⟨gv, 0, none⟩) n n)) 9 (by kernel_rfl) ?_
        have hSw : (fun w' : World => w'.cell? ⟨r, 2, none⟩ = some (.slice (some ⟨gv, 0, none⟩) n n)) wr.drew := y2
        refine wpAnyM_take 0 rfl (by kernel_rfl) (by kernel_rfl) (by kernel_rfl) (by kernel_rfl) (by kernel_rfl) (fun _ _ _ h => h) hSw (by rfl) (fun w' hSx => by (try dsimp only at hSx); go_simp; first | done | with_reducible rfl) ?_
        simp only [Act.put, List.setIfInBounds_toArray]
        refine wpAnyM_take 1 rfl (by kernel_rfl) (by kernel_rfl) (by kernel_rfl) (by kernel_rfl) (by kernel_rfl) (fun _ _ _ h => h) hSw (by rfl) (fun w' hSx => by (try dsimp only at hSx); go_simp; first | done | with_reducible rfl) ?_
        simp only [Act.put]
        refine wpAnyM_take 2 rfl (by kernel_rfl) (by kernel_rfl) (by kernel_rfl) (by kernel_rfl) (by kernel_rfl) (fun _ _ _ h => h) hSw (by rfl) (fun w' hSx => by (try dsimp only at hSx); go_simp; first | done | with_reducible rfl) ?_
        simp only [Act.put]
        refine wpAnyM_take 3 rfl (by kernel_rfl) (by kernel_rfl) (by kernel_rfl) (by kernel_rfl) (by kernel_rfl) (fun _ _ _ h => h) hSw (by rfl) (fun w' hSx => by (try dsimp only at hSx); go_simp; first | done | with_reducible rfl) ?_
        simp only [Act.put]
        refine wpAnyM_take 4 rfl (by kernel_rfl) (by kernel_rfl) (by kernel_rfl) (by kernel_rfl) (by kernel_rfl) (fun _ _ _ h => h) hSw (by rfl) (fun w' hSx => by (try dsimp only at hSx); go_simp; first | done | with_reducible rfl) ?_
        simp only [Act.put]
        refine wpAnyM_take 5 rfl (by kernel_rfl) (by kernel_rfl) (by kernel_rfl) (by kernel_rfl) (by kernel_rfl) (fun _ _ _ h => h) hSw (by rfl) (fun w' hSx => by (try dsimp only at hSx); go_simp; first | done | with_reducible rfl) ?_
        simp only [Act.put]
        refine wpAnyM_take 6 rfl (by kernel_rfl) (by kernel_rfl) (by kernel_rfl) (by kernel_rfl) (by kernel_rfl) (fun _ _ _ h => h) hSw (by rfl) (fun w' hSx => by (try dsimp only at hSx); go_simp; first | done | with_reducible rfl) ?_
        simp only [Act.put]
        refine wpAnyM_take 7 rfl (by kernel_rfl) (by kernel_rfl) (by kernel_rfl) (by kernel_rfl) (by kernel_rfl) (fun _ _ _ h => h) hSw (by rfl) (fun w' hSx => by (try dsimp only at hSx); go_simp; first | done | with_reducible rfl) ?_
        simp only [Act.put]
        refine wpAnyM_ready [8] (by kernel_rfl) (by simp) ?_
        refine AllReadyM.cons (by rfl) (fun K hK => ?_) AllReadyM.nil
        go_simp
        refine HEV.out.mono ?_
        intro e w1 he
        have he2 : EvSaid wr B w.heap.size r gv b A n c l (.slice (some ⟨bo, oo, none⟩) n cO) vs' ms Af nf cf fs vL (Pl.qOf (Pl.firstQ tr (ol.take j))) nK' (Pl.κone tr (Pl.flP (prl l) V fs) ms κ0 (ol.take j)) i (tr i) e w1 := by
          obtain ⟨e0, v1, n1, e1, e2, e3, e4⟩ := he
          exact ⟨e0, v1, n1, e1, ⟨e2.os, e2.tape, e2.output, e2.size, e2.block⟩, e3, e4⟩
        obtain ⟨rfl, x2, ⟨u, xu⟩, xf, xg, vL1, nK1, HN⟩ := HSTEP.out e w1 he2
        have HNX := Lib.hid HN
        have HVL : Hid ((vs'.set i (V.getD i false)).length = n) := by show _ = _; simpa using hvl
        clear he he2 HN HSTEP HEV hSw
        generalize V.getD i false = vi at *
        refine hK.out _ _ x2 ?_
        clear hK K
        refine wpAnyM_ready [9] (by kernel_rfl) (by simp) ?_
        refine AllReadyM.last (by rfl) (by omega) (fun K hK => ?_)
        go_simp
        refine hK.out _ _ ?_
        clear hK K
        refine wpAnyM_ready [10] (by kernel_rfl) (by simp) ?_
        refine AllReadyM.last (by rfl) (by omega) (fun K hK => ?_)
        go_simp
        refine hK.out _ _ ?_
        clear hK K
        refine wpAnyM_done (by kernel_rfl) ?_ _
        go_wp2_with fail
        go_roundw
        case rel => exact ⟨j + 1, nK1, _, vL1, by omega, by go_num, HVL.out, HNX⟩
        case measure => simp [intOf]; omega
      · have hjj : j = n := by omega
        subst hjj
        have HP2 : Hid (P2 w B w.heap.size r gv b A j c l AO cO ms Af nf cf fs (nK + 64 * j + 66 * (j * 64)) κ0 tr V (Pl.firstQ tr ol) nK' (Pl.κone tr (Pl.flP (prl l) V fs) ms κ0 ol) vL wr) := P1.end_ HP.out HV.out.1 hvl HT.out (by omega) HP1
        clear HP1 HST
        have hj1 : ¬ ((j : Int) < (j : Int)) := by omega
        have y4 := HP2.out.1.st.cell 4
        go_wp2_with fail
        have HBGV := Lib.hid HBG.out
        go_loopg [] (Pl.loadQ (Pl.firstQ tr ol)) (fun gg wr => ∃ (Q : List Pl.Item) (nK' : Nat) (κ : Nat → Nat → Pl.Mem) (vL : Value), Pl.loadQ Q ≤ gg ∧ gg ≤ 1024 ∧ Hid (P2 w B w.heap.size r gv b A j c l AO cO ms Af nf cf fs (nK + 64 * j + 66 * (j * 64)) κ0 tr V Q nK' κ vL wr))
        case atStart =>
          have h2 := Pl.loadQ_first (tr := tr) (M := 64) ol (fun x hx => HP.out.sz (by have := HP.out.ord.2.1 x hx; omega))
          rw [HOL.out] at h2
          exact ⟨_, _, _, _, Nat.le_refl _, by omega, HP2.out⟩
        case round =>
          obtain ⟨Q, nK2, κ, vL2, hgk, hgg, HQ⟩ := hrel
          clear HP2
          cases Q with
          | nil =>
            have y4 := HQ.out.1.st.cell 4
            have hs2 := HQ.out.1.st.lt
            have hlen := HQ.out.1.que.len
            have hl0 : ((Pl.qOf []).length : Int) = 0 := rfl
            rw [hl0] at hlen
            clear hl0
            have y5 := HQ.out.1.rel.cell 0
            have hr2 := HQ.out.1.rel.lt
            have HKK : Hid (κ = Pl.κfin j tr (Pl.flP (prl l) V fs) ms κ0) := HQ.out.2.2.2.2.1.nil
            have HRI : Hid (RIn wr B r gv b A j c l AO cO ol V nK2 (Pl.κfin j tr (Pl.flP (prl l) V fs) ms κ0)) := by
              have := HQ.out.1.rin (ol := ol) (HORD.out.below (HQ.out.2.1.to_below (B := B) (by rintro i (rfl | rfl); exact HLOW.out.1; exact HLOW.out.2.1) HLOW.out.2.2)) HLOW.out.1 hn16
              rw [HKK.out] at this
              exact Lib.hid this
            have HFR := Lib.hid HQ.out.2.1
            have HNK : Hid (nK2 ≤ nK + 70000) := by
              show _ ≤ _
              have := HQ.out.2.2.2.1
              omega
            clear HQ HKK HT hgk
            obtain ⟨i0, hi0, hz0, hz1, hz2⟩ := info_parts info_st
            go_wp2_with fail
            clear y4 y5 hlen hs2 hr2
            go_loopw [18, 123] (fun out i wr2 => ∃ (k m : Nat) (A2 : Option Addr) (c2 : Nat), k ≤ j ∧ i = .int .i64 k ∧ out = .slice A2 m c2 ∧ Hid (m = (outsT l V k).length) ∧ Hid (wr2.ownsRow w.heap.size 9 1 (.slice A2 m c2) m (txts (outsT l V k))) ∧ Hid (RIn wr2 B r gv b A j c l AO cO ol V nK2 (Pl.κfin j tr (Pl.flP (prl l) V fs) ms κ0)) ∧ Hid (Fr (fun i => i = gv ∨ i = b) w wr2)) (fun _ i _ => j - (intOf i).toNat)
            case atStart => exact ⟨0, 0, none, 0, Nat.zero_le _, rfl, rfl, rfl, World.ownsRow_nil _ _ _ _, HRI.out, HFR.out⟩
            case round =>
              obtain ⟨k, m, A2, c2, hkj, rfl, rfl, HM, HO, HR, HFx⟩ := hrel
              clear HRI HFR
              by_cases hkl : k < j
              · obtain ⟨o, ho, _⟩ := HP.out.rule k hkl
                have hru := HR.out.rules
                obtain ⟨b0, o0, rfl, hb0, hlk, p0, p1, hri⟩ := rul_at hru hkl
                have ho2 : l[k]'hlk = o := by
                  have := List.getElem?_eq_getElem hlk
                  rw [ho] at this
                  injection this with this
                  exact this.symm
                rw [ho2] at p0 p1
                have hb1 := cell_lt p0
                have HOS : Hid (outsT l V (k + 1) = outsT l V k ++ (if V.getD k false = true then [o.nm] else [])) := by
                  show _ = _
                  rw [outsT_succ, ho]
                have hlenT := outsT_len l V k
                rw [← HM.out] at hlenT
                have y0 := HR.out.rel.cell 2
                have hr3 := HR.out.rel.lt
                have yv := bools_at HR.out.val hkl
                have hgv := HR.out.val.2.lt
                have hk0 : (0 : Int) ≤ (k : Int) := by omega
                have hk1 : (k : Int) < (j : Int) := by omega
                have HX : Hid (∃ nn : ByteArray, nn = o.nm) := ⟨_, rfl⟩
                obtain ⟨nn, hnn⟩ := HX.out
                rw [← hnn] at p0 HOS
                clear hnn HX ho ho2 hri hru
                generalize o.A = oA at *
                generalize o.n = oN at *
                generalize o.c = oC at *
                have D1 := Lib.hid ((Below.refl wr.heap.size wr).alloc (Nat.le_refl _) (.cells #[.string nn, .slice oA oN oC] 96))
                have B1 := Lib.hid (Blk.new_ wr wr.heap.size 96 #[.string nn, .slice oA oN oC] rfl)
                have HO1 := Lib.hid (own_go HO.out D1.out)
                have HBH : Hid (r < w.heap.size ∧ gv < w.heap.size ∧ b < w.heap.size ∧ B ≤ w.heap.size) := ⟨hr, HBG.out.2, HBG.out.1, HLOW.out.2.2⟩
                have HR1 := Lib.hid (HR.out.keep HBH.out.1 HBH.out.2.1 HBH.out.2.2.1 HBH.out.2.2.2 (D1.out.mono HFx.out.size))
                have HF1 := Lib.hid (HFx.out.trans (T := fun _ => False) (Fr.of_below D1.out) (fun _ _ h => h.elim))
                cases hvk : V.getD k false with
                | false =>
                  rw [hvk] at yv HOS
                  clear hvk
                  have HOS2 : Hid (outsT l V (k + 1) = outsT l V k) := by show _ = _; rw [HOS.out]; simp
                  clear HOS
                  go_wp2_with fail
                  go_roundw
                  case rel => exact ⟨k + 1, m, A2, c2, by omega, by go_num, rfl, by show _ = _; rw [HOS2.out]; exact HM.out, by show World.ownsRow _ _ _ _ _ _ _; rw [HOS2.out]; exact HO1.out, HR1.out, HF1.out⟩
                  case measure => simp [intOf]; omega
                | true =>
                  rw [hvk] at yv HOS
                  clear hvk
                  have HOS2 : Hid (outsT l V (k + 1) = outsT l V k ++ [nn]) := by show _ = _; rw [HOS.out]; simp
                  clear HOS
                  go_wp2_with (at_builtin; go_must (refine wpList_append_grow (wr.alloc (.cells #[.string nn, .slice oA oN oC] 96)) rfl (.tmp 135) (.tmp 138) 22 rfl w.heap.size 9 i0 _ 1 16 Try.underlying22 hi0 hz0 hz1 hz2 rfl (by decide) (.slice A2 m c2) m (txts (outsT l V k)) rfl HO1.out (by simp; have := HFx.out.size; omega) #[.string nn] rfl rfl (by simp) (by simp [Value.oneCell']) (by unfold maxLen; omega) (by omega) ?_; intro v3 w3 hown3 hg3 hsz3; obtain ⟨A3, c3, rfl, _⟩ := own_slice hown3; have HO3 := Lib.hid hown3; have HG3 := Lib.hid hg3; clear hown3 hg3))
                  have HBW : Hid (Below w.heap.size wr w3) := below_grown (D1.out.mono HFx.out.size) HG3.out HO1.out (Nat.le_refl _) (by simp; have := HFx.out.size; omega)
                  have HR3 := Lib.hid (HR.out.keep HBH.out.1 HBH.out.2.1 HBH.out.2.2.1 HBH.out.2.2.2 HBW.out)
                  have HF3 : Hid (Fr (fun i => i = gv ∨ i = b) w w3) := HF1.out.trans (T := fun i => some i = (Value.slice A2 m c2).ownBlock) ⟨HG3.out.os, HG3.out.tape, HG3.out.output, HG3.out.size, fun i hi hs => HG3.out.block i hi hs⟩ (fun i hi e => by have := HO1.out.lt i e.symm; omega)
                  go_roundw
                  case rel => exact ⟨k + 1, m + 1, A3, c3, by omega, by go_num, rfl, by show _ = _; rw [HOS2.out, List.length_append, ← HM.out]; rfl, by show World.ownsRow _ _ _ _ _ _ _; rw [HOS2.out, txts_append]; exact HO3.out, HR3.out, HF3.out⟩
                  case measure => simp [intOf]; omega
              · have hkk : k = j := by omega
                subst hkk
                have HFN : Hid (RStepSaid w B r gv b A k c l AO cO ol V nK (Pl.κfin k tr (Pl.flP (prl l) V fs) ms κ0) (.returned (.tuple #[.slice A2 m c2, .int .i64 0])) wr) := ⟨A2, m, c2, nK2, rfl, by
                  have e : outsP l V = outsT l V k := by unfold outsP outsT; rw [HR.out.rules.len]
                  rw [e]; exact HO.out, HR.out, HNK.out, HFx.out⟩
                clear HO HR HM HFx HNK
                have hj1 : ¬ ((k : Int) < (k : Int)) := by omega
                go_wp2_with fail
                go_ret2
                exact HFN.out
          | cons x Q =>
            have hx := HQ.out.2.2.2.2.1.tree x (by simp)
            obtain ⟨o, ho, hon, hlen, hop, hTx, hxa, hxs⟩ := Inv_rule HP.out hx.1 hx.2
            have hld : Pl.loadQ (x :: Q) = Pl.sz x.a + 1 + Pl.loadQ Q := by
              show Pl.loadQ ([x] ++ Q) = _
              rw [Pl.loadQ_append]; simp [Pl.loadQ]
            have HLD := Lib.hid hld
            have hHN := HQ.out.2.2.2.1
            have hQL := Pl.loadQ_len Q
            have hqlen : (Pl.qOf Q).length = Q.length := by unfold Pl.qOf; simp
            have hkn := hx.1
            obtain ⟨gq, oq, v', hgq, hgl, hix, xq0, xq1, hsl, PQ', hov⟩ := HQ.out.1.que.front
            have hlq := HQ.out.1.que.len
            have hqq : ((Pl.qOf (x :: Q)).length : Int) = (((Pl.qOf Q).length + 1 : Nat) : Int) := rfl
            rw [hqq] at hlq
            clear hqq
            have hql2 : (0 : Int) < (((Pl.qOf Q).length + 1 : Nat) : Int) := by omega
            have y4 := HQ.out.1.st.cell 4
            have y4f := HQ.out.1.st.frozen 4
            have hs2 := HQ.out.1.st.lt
            obtain ⟨Av, nv, cv, rfl⟩ := PQ'.shape
            have HEB : Hid (EvIn ((wr.setCell ⟨w.heap.size, 4, none⟩ (.slice Av nv cv)).alloc (.cells #[.int .i64 (x.k : Int), .int .i64 (x.at_ : Int)] 165)) B w.heap.size r gv b A j c l (.slice AO j cO) V ms Af nf cf fs (.slice Av nv cv) (Pl.qOf Q) nK2 κ) := (HQ.out.1.setQ PQ' hov).go ((Below.refl _ _).alloc (Nat.le_refl _) _)
            have HPB := Lib.hid (Blk.new_ (wr.setCell ⟨w.heap.size, 4, none⟩ (.slice Av nv cv)) wr.heap.size 165 #[.int .i64 (x.k : Int), .int .i64 (x.at_ : Int)] (by simp))
            have HFB : Hid (Fr (fun i => i = w.heap.size) wr ((wr.setCell ⟨w.heap.size, 4, none⟩ (.slice Av nv cv)).alloc (.cells #[.int .i64 (x.k : Int), .int .i64 (x.at_ : Int)] 165))) := ((Fr.refl (fun i => i = w.heap.size) wr).set_ ⟨w.heap.size, 4, none⟩ (.slice Av nv cv) (.inr rfl)).alloc _
            have HOV := Lib.hid hov
            have HNX := Lib.hid (fun (wb : World) (he : EvIn wb B w.heap.size r gv b A j c l (.slice AO j cO) V ms Af nf cf fs (.slice Av nv cv) (Pl.qOf Q) nK2 κ) => eval_any (B := B) (s := w.heap.size) (r := r) (gv := gv) (b := b) (A := A) (n := j) (c := c) (O := .slice AO j cO) (vs := V) (ms := ms) (Af := Af) (nf := nf) (cf := cf) (fs := fs) x.k o ho hon hlen ⟨by omega, hms2⟩ hop hTx wb (.slice Av nv cv) (Pl.qOf Q) nK2 κ he HQ.out.2.2.2.2.2 (by omega) (by omega))
            have HN1 := Lib.hid (fun (wb : World) (hFb : Fr (fun i => i = w.heap.size) wr wb) (e : Ending) (w1 : World) he => P2.next HP.out (show 0 ≤ ms by omega) rfl HBG.out.1 HQ.out hov hFb (e := e) (w1 := w1) (wb := wb) he)
            have hok1 : KM.Ok x.k := by unfold KM.Ok; omega
            have hok2 : KM.Ok x.at_ := by unfold KM.Ok; omega
            have HOK := Lib.hid (And.intro hok1 hok2)
            have HNP : Hid (¬ evS w.heap.size b (.slice Av nv cv) wr.heap.size) := by
              rintro (e | e | e)
              · omega
              · have := HQ.out.1.map.lt; omega
              · obtain ⟨_, cur, hc⟩ := HQ.out.1.que.own (hov _ e)
                have := hc.lt
                omega
            clear hx ho hop hTx hov PQ' hld HOV hqlen hok1 hok2
            go_wp2_with fail
            generalize ((wr.setCell ⟨w.heap.size, 4, none⟩ (.slice Av nv cv)).alloc (.cells #[.int .i64 (x.k : Int), .int .i64 (x.at_ : Int)] 165)) = wb at *
            refine (HNX.out wb HEB.out).mono ?_
            intro e w1 he
            obtain ⟨rfl, vL1, nK1, q1, κ1, HE1, hn1, hF1, HFIN⟩ := HN1.out wb HFB.out e w1 he
            have HEX := Lib.hid HE1
            have HPX := Lib.hid (hF1.blk HPB.out HNP.out)
            have HFX := Lib.hid HFIN
            have hn1m : nK1 < maxLen := by unfold maxLen; omega
            have HNM := Lib.hid hn1m
            clear he HE1 hF1 HFIN HNX HN1 HEB HPB HFB hn1m
            generalize Pl.val (Pl.flP (prl l) V fs) ms (κ x.k) x.a = on at *
            have HS1 := Lib.hid (fun (W : World) (hb : Below w1.heap.size w1 W) => (show (fun w' : World => w'.cell? ⟨r, 3, none⟩ = some (.map (some b)) ∧ w'.cell? ⟨wr.heap.size, 0, none⟩ = some (.int .i64 (x.k : Int)) ∧ w'.cell? ⟨wr.heap.size, 1, none⟩ = some (.int .i64 (x.at_ : Int)) ∧ (Instr.lookup 151 (.map (some b)) (.agg #[.int .i64 (x.k : Int), .int .i64 (x.at_ : Int)]) false).run Try.prog w' = .ok (.agg #[.bool (κ1 x.k x.at_).1, .int .i64 (κ1 x.k x.at_).2]) w') W from ⟨(HEX.out.go hb).rel.cell 3, (HPX.out.go hb).cell 0, (HPX.out.go hb).cell 1, kmap_look ((HEX.out.go hb).map) HOK.out.1 HOK.out.2⟩))
            have HKM := Lib.hid (fun (W : World) (hb : Below w1.heap.size w1 W) (y : Pl.Mem) => kmap_set ((HEX.out.go hb).map) HOK.out.1 HOK.out.2 HNM.out y)
            have hr3 := HEX.out.rel.lt
            have hp3 := HPX.out.lt
            go_wp2_with fail
            generalize hm1 : (κ1 x.k x.at_).1 = mo at *
            generalize hm2 : (κ1 x.k x.at_).2 = mt at *
            clear hm1
            have HM2 := Lib.hid hm2
            clear hm2
            refine wp_region_mid (fun w' : World => w'.cell? ⟨r, 3, none⟩ = some (.map (some b)) ∧ w'.cell? ⟨wr.heap.size, 0, none⟩ = some (.int .i64 (x.k : Int)) ∧ w'.cell? ⟨wr.heap.size, 1, none⟩ = some (.int .i64 (x.at_ : Int)) ∧ (Instr.lookup 151 (.map (some b)) (.agg #[.int .i64 (x.k : Int), .int .i64 (x.at_ : Int)]) false).run Try.prog w' = .ok (.agg #[.bool mo, .int .i64 mt]) w') 7 (by kernel_rfl) ?_
            have hSw := HS1.out w1.drew (Below.refl _ _).drew
            have hS2 := HS1.out (w1.drew.alloc (.cells #[.bool false, .int .i64 0] 167)) ((Below.refl w1.heap.size w1).drew.alloc (Nat.le_refl _) (.cells #[.bool false, .int .i64 0] 167))
            refine wpAnyM_take 0 rfl (by kernel_rfl) (by kernel_rfl) (by kernel_rfl) (by kernel_rfl) (by kernel_rfl) (fun _ _ _ h => h) hSw (by rfl) (fun w' hSx => by (try dsimp only at hSx); go_simp; first | done | with_reducible rfl) ?_
            simp only [Act.put, List.setIfInBounds_toArray]
            refine wpAnyM_take 1 rfl (by kernel_rfl) (by kernel_rfl) (by kernel_rfl) (by kernel_rfl) (by kernel_rfl) (fun _ _ _ h => h) hSw (by rfl) (fun w' hSx => by (try dsimp only at hSx); go_simp; first | done | with_reducible rfl) ?_
            simp only [Act.put]
            refine wpAnyM_take 2 rfl (by kernel_rfl) (by kernel_rfl) (by kernel_rfl) (by kernel_rfl) (by kernel_rfl) (fun _ _ _ h => h) hSw (by rfl) (fun w' hSx => by (try dsimp only at hSx); go_simp; first | done | with_reducible rfl) ?_
            simp only [Act.put]
            refine wpAnyM_take 3 rfl (by kernel_rfl) (by kernel_rfl) (by kernel_rfl) (by kernel_rfl) (by kernel_rfl) (fun _ _ _ h => h) hSw (by rfl) (fun w' hSx => by (try dsimp only at hSx); go_simp; first | done | with_reducible rfl) ?_
            simp only [Act.put]
            refine wpAnyM_take 4 rfl (by kernel_rfl) (by kernel_rfl) (by kernel_rfl) (by kernel_rfl) (by kernel_rfl) (fun _ _ _ h => h) hSw (by rfl) (fun w' hSx => by (try dsimp only at hSx); go_simp; first | done | with_reducible rfl) ?_
            simp only [Act.put]
            refine wpAnyM_take 5 rfl (by kernel_rfl) (by kernel_rfl) (by kernel_rfl) (by kernel_rfl) (by kernel_rfl) (fun _ _ _ h => h) hSw (by rfl) (fun w' hSx => by (try dsimp only at hSx); go_simp; first | done | with_reducible rfl) ?_
            simp only [Act.put]
            refine wpAnyM_ready [6] (by kernel_rfl) (by simp) ?_
            refine AllReadyM.cons (by rfl) (fun K hK => ?_) AllReadyM.nil
            go_simp
            refine hK.out _ _ hS2 ?_
            clear hK K
            refine wpAnyM_ready [7] (by kernel_rfl) (by simp) ?_
            refine AllReadyM.last (by rfl) (by omega) (fun K hK => ?_)
            go_simp
            refine hK.out _ _ ?_
            clear hK K hSw hS2
            refine wpAnyM_done (by kernel_rfl) ?_ _
            have D2 := Lib.hid (((Below.refl w1.heap.size w1).alloc (Nat.le_refl _) (.cells #[.bool mo, .int .i64 mt] 167)).drew)
            have M2 := Lib.hid ((Blk.new_ w1 w1.heap.size 167 #[.bool mo, .int .i64 mt] rfl).drew)
            generalize (w1.alloc (.cells #[.bool mo, .int .i64 mt] 167)).drew = w2 at *
            have m20 := M2.out.cell 0
            have m2f := M2.out.frozen 0
            have m2l := M2.out.lt
            go_wp2_with fail
            clear m20 m2f
            have D3 := Lib.hid ((D2.out.setCell (p := ⟨w1.heap.size, 0, none⟩) (Nat.le_refl _) (.bool on)).drew)
            have M3 := Lib.hid ((M2.out.set_ 0 (.bool on)).drew)
            obtain ⟨w4, hup, KM4, hg4⟩ := HKM.out _ D3.out (on, mt)
            obtain ⟨e0, e1, e2, _⟩ := HS1.out _ D3.out
            have hSw : (fun w' : World => w'.cell? ⟨r, 3, none⟩ = some (.map (some b)) ∧ w'.cell? ⟨wr.heap.size, 0, none⟩ = some (.int .i64 (x.k : Int)) ∧ w'.cell? ⟨wr.heap.size, 1, none⟩ = some (.int .i64 (x.at_ : Int)) ∧ w'.cell? ⟨w1.heap.size, 0, none⟩ = some (.bool on) ∧ w'.cell? ⟨w1.heap.size, 1, none⟩ = some (.int .i64 mt)) (w2.setCell ⟨w1.heap.size, 0, none⟩ (.bool on)).drew := ⟨e0, e1, e2, M3.out.cell 0, M3.out.cell 1⟩
            have HF4 := Lib.hid (HFX.out _ w4 D3.out hg4 KM4)
            clear KM4 hg4 HFX HKM HS1 HEX HPX M2 M3 D2 D3 e0 e1 e2 HM2
            refine wp_region_mid (fun w' : World => w'.cell? ⟨r, 3, none⟩ = some (.map (some b)) ∧ w'.cell? ⟨wr.heap.size, 0, none⟩ = some (.int .i64 (x.k : Int)) ∧ w'.cell? ⟨wr.heap.size, 1, none⟩ = some (.int .i64 (x.at_ : Int)) ∧ w'.cell? ⟨w1.heap.size, 0, none⟩ = some (.bool on) ∧ w'.cell? ⟨w1.heap.size, 1, none⟩ = some (.int .i64 mt)) 6 (by kernel_rfl) ?_
            generalize (w2.setCell ⟨w1.heap.size, 0, none⟩ (.bool on)).drew = w3 at *
            refine wpAnyM_take 0 rfl (by kernel_rfl) (by kernel_rfl) (by kernel_rfl) (by kernel_rfl) (by kernel_rfl) (fun _ _ _ h => h) hSw (by rfl) (fun w' hSx => by (try dsimp only at hSx); go_simp; first | done | with_reducible rfl) ?_
            simp only [Act.put, List.setIfInBounds_toArray]
            refine wpAnyM_take 1 rfl (by kernel_rfl) (by kernel_rfl) (by kernel_rfl) (by kernel_rfl) (by kernel_rfl) (fun _ _ _ h => h) hSw (by rfl) (fun w' hSx => by (try dsimp only at hSx); go_simp; first | done | with_reducible rfl) ?_
            simp only [Act.put]
            refine wpAnyM_take 2 rfl (by kernel_rfl) (by kernel_rfl) (by kernel_rfl) (by kernel_rfl) (by kernel_rfl) (fun _ _ _ h => h) hSw (by rfl) (fun w' hSx => by (try dsimp only at hSx); go_simp; first | done | with_reducible rfl) ?_
            simp only [Act.put]
            refine wpAnyM_take 3 rfl (by kernel_rfl) (by kernel_rfl) (by kernel_rfl) (by kernel_rfl) (by kernel_rfl) (fun _ _ _ h => h) hSw (by rfl) (fun w' hSx => by (try dsimp only at hSx); go_simp; first | done | with_reducible rfl) ?_
            simp only [Act.put]
            refine wpAnyM_take 4 rfl (by kernel_rfl) (by kernel_rfl) (by kernel_rfl) (by kernel_rfl) (by kernel_rfl) (fun _ _ _ h => h) hSw (by rfl) (fun w' hSx => by (try dsimp only at hSx); go_simp; first | done | with_reducible rfl) ?_
            simp only [Act.put]
            refine wpAnyM_take 5 rfl (by kernel_rfl) (by kernel_rfl) (by kernel_rfl) (by kernel_rfl) (by kernel_rfl) (fun _ _ _ h => h) hSw (by rfl) (fun w' hSx => by (try dsimp only at hSx); go_simp; first | done | with_reducible rfl) ?_
            simp only [Act.put]
            refine wpAnyM_ready [6] (by kernel_rfl) (by simp) ?_
            refine AllReadyM.last (by rfl) (by omega) (fun K hK => ?_)
            go_simp
            refine hK.out _ _ ?_
            clear hK K hup hSw
            refine wpAnyM_done (by kernel_rfl) ?_ _
            have hkids := Pl.loadQ_kids x.k x.a
            have hlap := Pl.loadQ_append Q (Pl.kidsI x.k x.a)
            have HLAP := Lib.hid hlap
            have hlt9 : Pl.loadQ (Q ++ Pl.kidsI x.k x.a) < gk := by have := HLD.out; omega
            clear hlap
            go_wp2_with fail
            go_roundg (Pl.loadQ (Q ++ Pl.kidsI x.k x.a))
            case measure => exact hlt9
            case rel =>
              obtain ⟨κ2, h2⟩ := HF4.out
              exact ⟨_, _, κ2, vL1, Nat.le_refl _, by omega, h2⟩
end Go.Proofs.Ytpamgeemmbbkkaa
