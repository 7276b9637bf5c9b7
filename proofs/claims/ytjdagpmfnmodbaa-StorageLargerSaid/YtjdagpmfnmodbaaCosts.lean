/- storage.costs: the functions of its plain function, in new memory. Condition: valid storage and prices; what the sort of pieces says. -/
import Derived.Test.YtjdagpmfnmodbaaStorA
import Derived.Test.YtjdagpmfnmodbaaStorM
import Derived.Test.YtjdagpmfnmodbaaRestA
import Derived.Test.YtjdagpmfnmodbaaConvA
namespace Go.Proofs.Ytjdagpmfnmodbaa
open Go.RowKit
def CostsSaid (F : Nat → Pl.Cx × Int) (T : Nat) (w : World) (e : Ending) (w' : World) : Prop :=
  ((F T).2 = 0 ∧ ∃ g cp ms, e = .returned (.tuple #[.slice (some ⟨g, 0, none⟩) (T + 1) cp, .int .i64 0]) ∧ Cxs w' w.heap.size g cp ms ∧ ms.length = T + 1 ∧ (∀ j (hj : j < ms.length), ms[j].cx = (F j).1) ∧ Below w.heap.size w w') ∨
  ((F T).2 ≠ 0 ∧ e = .returned (.tuple #[.slice none 0 0, .int .i64 (F T).2]) ∧ Below w.heap.size w w')
theorem blk_name {w : World} {g : Nat} {t : TypeId} {cs : Array Value} (_ : Blk w g t cs) : ∃ b, b = g := ⟨g, rfl⟩
set_option maxHeartbeats 6400000 in
set_option maxRecDepth 100000 in
theorem costs_any (hsort : SortPOk) (ch dis cap beg en : Int) (A : Option Addr) (n c : Nat) (ps : List Int) (w : World) (hs : Pl.SOk ch dis cap beg en) (hp : ∀ p ∈ ps, -1000000 ≤ p ∧ p ≤ 1000000) (hn : n ≤ 24) (hr : Reads w w.heap.size 1 A n (ints ps)) :
    Calls Try.prog 75 #[vSt ch dis cap beg en, .slice A n c] w (CostsSaid (Pl.sK ch dis cap beg ps) n w) := by
  have HSO := Lib.hid hsort
  have HR := Lib.hid hr
  have HL := Lib.hid hr.int_len
  have HS := Lib.hid hs
  have HP := Lib.hid hp
  obtain ⟨i0, hi0, hz0, hz1, hz2⟩ := info_parts info_Convex
  obtain ⟨d0, d1⟩ := hs.hdis
  obtain ⟨c0, c1⟩ := hs.hch
  have wdis : IntKind.i64.wrap (-dis) = -dis := IntWalk.i64_in _ (by omega)
  clear hsort hr hs hp
  unfold vSt
  obtain ⟨wd, hwd, HX, HST, HBD⟩ : ∃ wd, wd = (w.alloc (.cells #[.int .i64 ch, .int .i64 dis, .int .i64 cap, .int .i64 beg, .int .i64 en] 70)).alloc (.cells #[.int .i64 beg, .int .i64 0, .slice none 0 0] 30) ∧ Hid (Cxs wd (w.heap.size + 1) (w.heap.size + 1) 1 [⟨beg, 0, none, 0, []⟩]) ∧ Hid (Blk wd w.heap.size 70 #[.int .i64 ch, .int .i64 dis, .int .i64 cap, .int .i64 beg, .int .i64 en]) ∧ Hid (Below w.heap.size w wd) := by
    refine ⟨_, rfl, ⟨?_, fun o ho => ?_⟩, ?_, ?_⟩
    · have := World.ownsRow_lit (e := 30) (size := 3) (base := w.heap.size + 1) (w.alloc (.cells #[.int .i64 ch, .int .i64 dis, .int .i64 cap, .int .i64 beg, .int .i64 en] 70)) #[.int .i64 beg, .int .i64 0, .slice none 0 0] 1 (by simp) (by unfold maxLen; omega) (by simp)
      rw [show (w.alloc (.cells #[.int .i64 ch, .int .i64 dis, .int .i64 cap, .int .i64 beg, .int .i64 en] 70)).heap.size = w.heap.size + 1 from by simp] at this
      exact this
    · rw [List.mem_singleton.1 ho]; exact fun h => absurd h (by simp)
    · exact (Blk.new_ w w.heap.size _ _ rfl).alloc _
    · exact ((Below.refl w.heap.size w).alloc (Nat.le_refl _) _).alloc (by simp) _
  go_enter Try.func75, Try.ntmps75
  go_wp2_with fail
  rw [← hwd]
  clear hwd
  go_loopw [6, 17] (fun v i wr => ∃ (k g cp : Nat) (ms : List MCx), k ≤ n ∧ i = .int .i64 k ∧ ms.length = k + 1 ∧ v = .slice (some ⟨g, 0, none⟩) (k + 1) cp ∧ Hid (Cxs wr (w.heap.size + 1) g cp ms) ∧ Hid (∀ j (hj : j < ms.length), (Pl.sK ch dis cap beg ps j).2 = 0 ∧ ms[j].cx = (Pl.sK ch dis cap beg ps j).1) ∧ Hid (Blk wr w.heap.size 70 #[.int .i64 ch, .int .i64 dis, .int .i64 cap, .int .i64 beg, .int .i64 en]) ∧ Hid (Below w.heap.size w wr)) (fun _ i _ => n - (intOf i).toNat)
  case atStart =>
    refine ⟨0, w.heap.size + 1, 1, [⟨beg, 0, none, 0, []⟩], Nat.zero_le _, rfl, rfl, rfl, HX, fun j hj => ?_, HST, HBD⟩
    have : j = 0 := by simp at hj; exact hj
    subst this
    exact ⟨rfl, rfl⟩
  case round =>
    clear HX HST HBD
    obtain ⟨k, g, cp, ms, hk, rfl, hml, rfl, HX, HF, HST, HB⟩ := hrel
    by_cases hlt : k < n
    · obtain ⟨b, o, rfl, hl, hc⟩ := (HR.out.go HB.out).int_at hlt
      have hpk : ps.getD k 0 = ps[k] := by rw [List.getD_eq_getElem?_getD, List.getElem?_eq_getElem hl]; rfl
      obtain ⟨p0, p1⟩ := HP.out _ (List.getElem_mem hl)
      obtain ⟨q0, q1, q2, hrd⟩ := HX.out.at_ (k := k) (by omega)
      obtain ⟨hf0, hf1⟩ := HF.out k (by omega)
      have HSTEP : Hid (Pl.sK ch dis cap beg ps (k + 1) = Pl.stStep ch dis cap (Pl.sK ch dis cap beg ps k).1 ps[k]) := by show _ = _; rw [Pl.sK, if_neg (by simpa using hf0), hpk]
      rw [← hf1] at HSTEP
      have HRD := Lib.hid hrd
      clear hf1 hf0 hpk hrd
      generalize ms[k] = oo at *
      obtain ⟨lo, va, Ao, co, sto⟩ := oo
      simp only [MCx.cx] at q0 q1 q2 HSTEP HRD
      generalize ps[k] = p at *
      have HLI := Lib.hid (fun w => line_any (-dis) ch p w (by omega) (by omega) (by omega) p0 p1)
      have HCV := Lib.hid (fun B c2 w ha hb => cConv_any HSO.out lo va (-dis) (-dis * p) Ao B sto.length (Pl.sline (-dis) ch p).length co c2 sto (Pl.sline (-dis) ch p) w ha hb)
      unfold LineSaid at HLI
      unfold MadeSaid vCx at HCV
      unfold Pl.stStep at HSTEP
      simp only at HSTEP
      generalize Pl.cConv lo va sto (-dis) (-dis * p) (Pl.sline (-dis) ch p) = RC at *
      obtain ⟨⟨lc, vc, pc⟩, ec⟩ := RC
      simp only at HCV HSTEP
      have s0 := HST.out.cell 0
      have s1 := HST.out.cell 1
      have s2 := HST.out.cell 2
      have lst := HST.out.lt
      have lg := HX.out.lt.2
      have k0 : (0 : Int) ≤ (k : Int) := by omega
      have k1 : (k : Int) < (k : Int) + 1 := by omega
      have wk : IntKind.i64.wrap ((k : Int) + 1 - 1) = (k : Int) := by rw [show (k : Int) + 1 - 1 = k by omega]; exact IntWalk.i64_in _ (by omega)
      have wk2 : IntKind.i64.wrap (k : Int) = (k : Int) := IntWalk.i64_in _ (by omega)
      have HSF : Hid (∀ w', Below wr.heap.size wr w' → w'.cell? ⟨w.heap.size, 0, none⟩ = some (.int .i64 ch) ∧ w'.cell? ⟨w.heap.size, 1, none⟩ = some (.int .i64 dis) ∧ w'.cell? ⟨g, k * 3, none⟩ = some (.int .i64 lo) ∧ w'.cell? ⟨g, k * 3 + 1, none⟩ = some (.int .i64 va) ∧ w'.cell? ⟨g, k * 3 + 2, none⟩ = some (.slice Ao sto.length co)) := fun w' hb =>
        ⟨(hb.cell (p := ⟨w.heap.size, 0, none⟩) lst).trans s0, (hb.cell (p := ⟨w.heap.size, 1, none⟩) lst).trans s1, (hb.cell (p := ⟨g, k * 3, none⟩) lg).trans q0, (hb.cell (p := ⟨g, k * 3 + 1, none⟩) lg).trans q1, (hb.cell (p := ⟨g, k * 3 + 2, none⟩) lg).trans q2⟩
      have hcur : Hid (Below wr.heap.size wr wr.drew) := (Below.refl _ _).drew
      go_wp2_with fail
      go_region_held3 (fun w' => w'.cell? ⟨w.heap.size, 0, none⟩ = some (.int .i64 ch) ∧ w'.cell? ⟨w.heap.size, 1, none⟩ = some (.int .i64 dis) ∧ w'.cell? ⟨g, k * 3, none⟩ = some (.int .i64 lo) ∧ w'.cell? ⟨g, k * 3 + 1, none⟩ = some (.int .i64 va) ∧ w'.cell? ⟨g, k * 3 + 2, none⟩ = some (.slice Ao sto.length co))
        (first | exact HSF.out _ hcur.out | exact HSF.out _ (((Below.refl wr.heap.size wr).alloc (Nat.le_refl _) _).drew) | exact HSF.out _ (hcur.out.alloc hcur.out.size _) | exact HSF.out _ (((hcur.out.setCell z9.out _).setCell z9.out _).setCell z9.out _) | exact HSF.out _ ((((hcur.out.alloc hcur.out.size _).setCell hcur.out.size _).setCell hcur.out.size _).setCell hcur.out.size _))
        (first
          | (go_at_call 106; with_reducible refine (HLI.out wr.drew).mono ?_; rintro e wz ⟨Al, cl, rfl, hrl, hbz⟩; have hcur := Lib.hid (hcur.out.trans (hbz.mono hcur.out.size)); have HRL := Lib.hid hrl; clear hbz hrl)
          | (go_at_call 106; refine (HLI.out _).mono ?_; rintro e wz ⟨Al, cl, rfl, hrl, hbz⟩; have b9 := Lib.hid (((Blk.new_ wr wr.heap.size 30 #[.int .i64 0, .int .i64 0, .slice none 0 0] rfl).drew).go hbz); have z9 : Hid (wr.heap.size ≤ wr.heap.size) := Nat.le_refl _; have hcur := Lib.hid ((((Below.refl wr.heap.size wr).alloc (Nat.le_refl _) (.cells #[.int .i64 0, .int .i64 0, .slice none 0 0] 30)).drew).trans (hbz.mono (((Below.refl wr.heap.size wr).alloc (Nat.le_refl _) (.cells #[.int .i64 0, .int .i64 0, .slice none 0 0] 30)).drew).size)); have HRL := Lib.hid hrl; clear hbz hrl)
          | (go_at_call 19; with_reducible refine (HCV.out _ _ _ (HRD.out.go hcur.out) HRL.out).mono ?_; rintro e wz ⟨Ac, cc, rfl, hownc, hbz⟩; (try have b9old := b9); (try have b9 := Lib.hid (b9.out.go hbz)); (try have k9 := b9.out.cell); (try have f9 := b9.out.frozen); (try have l9 := b9.out.lt); (first | (have oc := Lib.hid (own_base hownc (Nat.succ_le_of_lt b9old.out.lt))) | (have oc := Lib.hid (own_base hownc hcur.out.size))); have hcur := Lib.hid (hcur.out.trans (hbz.mono hcur.out.size)); clear hbz hownc)
          | (go_at_call 19; refine (HCV.out _ _ _ (HRD.out.go (hcur.out.alloc hcur.out.size (.cells #[.int .i64 0, .int .i64 0, .slice none 0 0] 30))) (HRL.out.go ((Below.refl _ _).alloc (Nat.le_refl _) (.cells #[.int .i64 0, .int .i64 0, .slice none 0 0] 30)))).mono ?_; rintro e wz ⟨Ac, cc, rfl, hownc, hbz⟩; have b9 := Lib.hid ((Blk.new_ _ _ 30 #[.int .i64 0, .int .i64 0, .slice none 0 0] rfl).go hbz); have k9 := b9.out.cell; have f9 := b9.out.frozen; have l9 := b9.out.lt; have z9 := Lib.hid hcur.out.size; have oc := Lib.hid (own_base hownc (Nat.succ_le_of_lt (Blk.new_ _ _ 30 #[.int .i64 0, .int .i64 0, .slice none 0 0] rfl).lt)); have hcur := Lib.hid ((hcur.out.alloc hcur.out.size (.cells #[.int .i64 0, .int .i64 0, .slice none 0 0] 30)).trans (hbz.mono (hcur.out.alloc hcur.out.size (.cells #[.int .i64 0, .int .i64 0, .slice none 0 0] 30)).size)); clear hbz hownc))
      all_goals
        first
          | (obtain ⟨bN, hbN⟩ := blk_name b9.out
             have HN : Hid (wr.heap.size ≤ bN) := by rw [hbN]; exact z9
             rw [← hbN] at b9 oc ⊢
             have HB2 := Lib.hid (((hcur.out.setCell (p := ⟨bN, 0, none⟩) HN.out (.int .i64 lc)).setCell (p := ⟨bN, 1, none⟩) HN.out (.int .i64 vc)).setCell (p := ⟨bN, 2, none⟩) HN.out (.slice Ac pc.length cc))
             have B2 := Lib.hid (((b9.out.set_ 0 (.int .i64 lc)).set_ 1 (.int .i64 vc)).set_ 2 (.slice Ac pc.length cc))
             have O2 := Lib.hid (Reads.of_own (own_far (own_far (own_far oc.out (p := ⟨bN, 0, none⟩) (Nat.lt_succ_self bN) (.int .i64 lc)) (p := ⟨bN, 1, none⟩) (Nat.lt_succ_self bN) (.int .i64 vc)) (p := ⟨bN, 2, none⟩) (Nat.lt_succ_self bN) (.slice Ac pc.length cc)))
             clear b9 z9 oc hcur hbN k9 f9 l9
             generalize ((wz.setCell ⟨bN, 0, none⟩ (.int .i64 lc)).setCell ⟨bN, 1, none⟩ (.int .i64 vc)).setCell ⟨bN, 2, none⟩ (.slice Ac pc.length cc) = w2 at *)
          | (have HB2 := Lib.hid (hcur.out.alloc hcur.out.size (.cells #[.int .i64 lc, .int .i64 vc, .slice Ac pc.length cc] 30))
             have B2 := Lib.hid (Blk.new_ wz wz.heap.size 30 #[.int .i64 lc, .int .i64 vc, .slice Ac pc.length cc] rfl)
             have O2 := Lib.hid ((Reads.of_own oc.out).go ((Below.refl _ _).alloc (Nat.le_refl _) (.cells #[.int .i64 lc, .int .i64 vc, .slice Ac pc.length cc] 30)))
             have HN := Lib.hid hcur.out.size
             clear oc hcur
             generalize wz.alloc (.cells #[.int .i64 lc, .int .i64 vc, .slice Ac pc.length cc] 30) = w2 at *
             obtain ⟨bN, hbN⟩ := blk_name B2.out
             rw [← hbN] at B2 HN ⊢
             clear hbN)
        clear HLI HCV HRD HRL q0 q1 q2 s0 s1 s2
        have HSTN := HSTEP
        by_cases he : ec = 0
        · subst he
          simp only [ne_eq, not_true_eq_false, if_false] at HSTN
          have HRS := Lib.hid (fun w h => restrict_any lc vc Ac pc.length cc pc 0 cap w h)
          generalize Pl.cRestrict lc vc pc 0 cap = RR at *
          obtain ⟨⟨lr, vr, pr⟩, er⟩ := RR
          unfold MadeSaid vCx at HRS
          simp only at HRS
          have HST2 := Lib.hid (HST.out.go HB2.out)
          have s2 := HST2.out.cell 2
          have k2 := B2.out.cell
          go_wp2_with fail
          refine (HRS.out _ O2.out).mono ?_
          rintro e w3 ⟨Ar, cr, rfl, hownr, hb⟩
          have HB3 := Lib.hid (HB2.out.trans (hb.mono HB2.out.size))
          have B3 := Lib.hid (B2.out.go hb)
          have lN := B2.out.lt
          have OR := Lib.hid hownr
          have k3 := B3.out.cell
          have f3 := B3.out.frozen
          have l3 := B3.out.lt
          clear hb hownr HRS O2 HST2 s2 k2
          have HB4 := Lib.hid (((HB3.out.setCell (p := ⟨bN, 0, none⟩) HN.out (.int .i64 lr)).setCell (p := ⟨bN, 1, none⟩) HN.out (.int .i64 vr)).setCell (p := ⟨bN, 2, none⟩) HN.out (.slice Ar pr.length cr))
          have B4 := Lib.hid (((B3.out.set_ 0 (.int .i64 lr)).set_ 1 (.int .i64 vr)).set_ 2 (.slice Ar pr.length cr))
          have OR4 := Lib.hid (own_far (own_far (own_far OR.out (p := ⟨bN, 0, none⟩) lN (.int .i64 lr)) (p := ⟨bN, 1, none⟩) lN (.int .i64 vr)) (p := ⟨bN, 2, none⟩) lN (.slice Ar pr.length cr))
          have hg2 : g < w2.heap.size := Nat.lt_of_lt_of_le lg HB2.out.size
          by_cases hr : er = 0
          · subst hr
            have HX4 := Lib.hid (HX.out.go HB4.out)
            have hO4 := HX4.out.own
            rw [hml] at hO4
            have HO4 := Lib.hid (hO4.alloc (.cells #[.int .i64 lr, .int .i64 vr, .slice Ar pr.length cr] 30))
            have hN4 : Hid (w.heap.size + 1 ≤ ((((w3.setCell ⟨bN, 0, none⟩ (.int .i64 lr)).setCell ⟨bN, 1, none⟩ (.int .i64 vr)).setCell ⟨bN, 2, none⟩ (.slice Ar pr.length cr)).alloc (.cells #[.int .i64 lr, .int .i64 vr, .slice Ar pr.length cr] 30)).heap.size) := by
              have h1 := HB3.out.size; have h2 := HX.out.lt; show _ ≤ _; simp; omega
            clear hO4
            go_wp2_with (at_builtin; go_must (refine wpList_append_any _ rfl (.tmp 51) (.tmp 53) 136 rfl (w.heap.size + 1) 30 i0 _ 3 40 Try.underlying136 hi0 hz0 hz1 hz2 rfl (by decide) (.slice (some ⟨g, 0, none⟩) (k + 1) cp) (k + 1) (mcxs ms) rfl HO4.out ((((w3.setCell ⟨bN, 0, none⟩ (.int .i64 lr)).setCell ⟨bN, 1, none⟩ (.int .i64 vr)).setCell ⟨bN, 2, none⟩ (.slice Ar pr.length cr)).alloc (.cells #[.int .i64 lr, .int .i64 vr, .slice Ar pr.length cr] 30)).heap.size (some ⟨w3.heap.size, 0, none⟩) 1 1 [.int .i64 lr, .int .i64 vr, .slice Ar pr.length cr] rfl (Reads.lit (((w3.setCell ⟨bN, 0, none⟩ (.int .i64 lr)).setCell ⟨bN, 1, none⟩ (.int .i64 vr)).setCell ⟨bN, 2, none⟩ (.slice Ar pr.length cr)) #[.int .i64 lr, .int .i64 vr, .slice Ar pr.length cr] 30 1 3 w3.heap.size (by simp) rfl) (by simp [Value.oneCell']) (by unfold maxLen; omega) (by omega) hN4.out ?_); intro v5 w5 hown5 hg5 hov5)
            obtain ⟨g5, cp5, rfl, hg5b, hg5l⟩ := hown5.form (by omega)
            have AL : Below (((w3.setCell ⟨bN, 0, none⟩ (.int .i64 lr)).setCell ⟨bN, 1, none⟩ (.int .i64 vr)).setCell ⟨bN, 2, none⟩ (.slice Ar pr.length cr)).heap.size (((w3.setCell ⟨bN, 0, none⟩ (.int .i64 lr)).setCell ⟨bN, 1, none⟩ (.int .i64 vr)).setCell ⟨bN, 2, none⟩ (.slice Ar pr.length cr)) ((((w3.setCell ⟨bN, 0, none⟩ (.int .i64 lr)).setCell ⟨bN, 1, none⟩ (.int .i64 vr)).setCell ⟨bN, 2, none⟩ (.slice Ar pr.length cr)).alloc (.cells #[.int .i64 lr, .int .i64 vr, .slice Ar pr.length cr] 30)) := (Below.refl _ _).alloc (Nat.le_refl _) _
            have hl5 : (ms ++ [(⟨lr, vr, Ar, cr, pr⟩ : MCx)]).length = k + 1 + 1 := by simp [hml]
            have hgl := HX.out.lt.1
            have hb42 : w.heap.size + 1 ≤ w2.heap.size := by omega
            refine ⟨⟨k + 1, g5, cp5, ms ++ [⟨lr, vr, Ar, cr, pr⟩], by omega, by go_num, hl5, rfl, ⟨?_, ?_⟩, ?_, ?_, ?_⟩, by simp [intOf]; omega⟩
            · rw [hl5, mcxs_snoc]
              exact hown5
            · intro o ho
              rcases List.mem_append.1 ho with ho | ho
              · exact ((HX4.out.ins o ho).go AL).grown hg5 hov5
              · rw [List.mem_singleton.1 ho]
                exact ((CxIn.of_own (row := some g) (lo := lr) (va := vr) OR4.out hb42 (fun k hk => by injection hk with hk; omega)).go AL).grown hg5 hov5
            · intro j hj
              by_cases hjk : j < ms.length
              · rw [List.getElem_append_left hjk]
                exact HF.out j hjk
              · have hj1 : j = k + 1 := by omega
                subst hj1
                rw [List.getElem_append_right (by omega)]
                rw [HSTN.out]
                refine ⟨rfl, ?_⟩
                simp [hml, MCx.cx]
            · exact ((HST.out.go HB4.out).alloc _).grown hg5 (fun e => by
                have e2 : (Value.slice (some (⟨g, 0, none⟩ : Addr)) (k + 1) cp).ownBlock = some g := rfl
                rw [e2] at e
                injection e with e
                omega)
            · exact below_grown ((HB.out.trans (HB4.out.mono HB.out.size)).alloc (HB.out.trans (HB4.out.mono HB.out.size)).size _) hg5 HO4.out (Nat.le_succ _) (by have := hN4.out; omega)
          · have her : (er != 0) = true := by simpa using hr
            have HFN : Hid (Pl.sK ch dis cap beg ps n = ((lr, vr, pr), er)) := by
              show _ = _
              rw [Pl.sK_stuck (k := k + 1) (m := n) (by omega) (by rw [HSTN.out]; exact hr), HSTN.out]
            go_wp2_with fail
            go_ret2
            refine .inr ⟨by rw [HFN.out]; exact hr, by rw [HFN.out]; rfl, HB.out.trans (HB4.out.mono HB.out.size)⟩
        · have hec : (ec != 0) = true := by simpa using he
          have HFN : Hid (Pl.sK ch dis cap beg ps n = ((0, 0, []), ec)) := by
            show _ = _
            rw [if_pos (by simpa using he)] at HSTN
            rw [Pl.sK_stuck (k := k + 1) (m := n) (by omega) (by rw [HSTN.out]; exact he), HSTN.out]
          go_wp2_with fail
          go_ret2
          refine .inr ⟨by rw [HFN.out]; exact he, by rw [HFN.out]; rfl, HB.out.trans (HB2.out.mono HB.out.size)⟩
    · have hkn : k = n := by omega
      subst hkn
      go_wp2_with fail
      go_ret2
      refine .inl ⟨(HF.out k (by omega)).1, g, cp, ms, rfl, HX.out.base_le (Nat.le_succ _), hml, fun j hj => (HF.out j hj).2, HB.out⟩
end Go.Proofs.Ytjdagpmfnmodbaa
