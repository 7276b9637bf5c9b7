/- dual.single gives what its plain function gives. Condition: a valid generator, at most eight prices, each in its range. -/
import Derived.Test.YtchafkocobbndaaDUnit
import Derived.Test.YtchafkocobbndaaRun
import Derived.Test.YtchafkocobbndaaOfferC
import Derived.Test.YtchafkocobbndaaOfferE
import Derived.Test.YtchafkocobbndaaOwn
import Derived.Test.YtchafkocobbndaaBits
namespace Go.Proofs.Ytchafkocobbndaa
open Go.RowKit
/-- a list of the call's own, and a number -/
def SingleSaid (x : List Int × Int) (w : World) (e : Ending) (w' : World) : Prop :=
  ∃ A c, e = .returned (.tuple #[.slice A x.1.length c, .int .i64 x.2]) ∧ w'.ownsRow w.heap.size 3 1 (.slice A x.1.length c) x.1.length (ints x.1) ∧ Below w.heap.size w w'
set_option maxHeartbeats 6400000 in
set_option maxRecDepth 100000 in
theorem single_any (u : MU) (B : Option Addr) (m d : Nat) (ps : List Int) (w : World) (hck : Pl.duCheck (plu u) = 0) (hin : UnIn w u) (hm : m ≤ 8) (hps : ∀ p ∈ ps, -2000000 ≤ p ∧ p ≤ 2000000) (hq : Reads w w.heap.size 1 B m (ints ps)) :
    Calls Try.prog 22 #[vUn u, .slice B m d] w (SingleSaid ((Pl.dsingle (plu u) ps).1, (Pl.dsingle (plu u) ps).2.1) w) := by
  have HM := Lib.hid hq.int_len
  obtain ⟨hus, hoc, htt, _, _⟩ := Pl.duCheck_ok hck
  have HOC := Lib.hid hoc
  have HTT := Lib.hid htt
  obtain ⟨n1, n2, _, hrd⟩ := hin
  have HRU := Lib.hid (fun (A : Option Addr) (c : Nat) (zs : List Int) (w : World) (h : Reads w w.heap.size 1 A m (ints zs)) => run_any u.r u.s A m c zs w n1 h)
  have HSU := Lib.hid (fun (p : Int) (w : World) (h : Reads w w.heap.size 2 u.A u.n (pairs u.st)) => oSupply_any u.nm u.A u.n u.c u.st p w n2 h)
  have HCO := Lib.hid (fun (x : Int) (w : World) (h : Reads w w.heap.size 2 u.A u.n (pairs u.st)) => oCost_any u.nm u.A u.n u.c u.st x w n2 h)
  have HPW := Lib.hid (fun p => Pl.dpow_bd hck p)
  have HGN := Lib.hid (fun p h0 h1 => Pl.dgain_bd hck p h0 h1)
  have HSM := Lib.hid (fun k t ht => Pl.dsumN_bd hck hps k t ht)
  have HRB := Lib.hid (fun zs => Pl.urun_bd u.r u.s zs)
  have HPS := Lib.hid hps
  have HRD := Lib.hid hrd
  have HQ := Lib.hid hq
  obtain ⟨j0, ji0, jz0, jz1, jz2⟩ := info_parts info_int
  have hmk0 : ∀ w, (Instr.makeSlice 23 (.int .i64 (m : Int)) (.int .i64 (m : Int))).run Try.prog w = .ok (.slice (some ⟨w.heap.size, 0, none⟩) m m) (w.alloc (.cells (madeCells #[.int .i64 0] m) 3)) := fun w => by
    have := run_make (P := Try.prog) w 23 3 j0 (.int .i64 0) Try.underlying23 ji0 jz0 .i64 .i64 m m (by omega) (by omega) (by rw [jz2]; omega) (by omega)
    rw [jz1, show (Value.int .i64 0).cells = #[.int .i64 0] from rfl] at this
    simpa using this
  generalize hz : madeCells #[Value.int .i64 0] m = ZC at hmk0
  have HZC := Lib.hid hz
  have HZL : Hid (ZC.toList = ints (List.replicate m 0)) := by show _ = _; rw [← HZC.out, toList_madeCells_one]; simp [ints]
  have HMK := Lib.hid hmk0
  have hmk := hmk0
  have HMX : Hid (∀ a b : Int, (if a < b then b else a) = max a b) := ite_max
  have HPSU : Hid (∀ p, -2000000 ≤ p → p ≤ 2000000 → Pl.oSupply u.nm u.st p = (Pl.leastR p u.st, Pl.mostR p u.st, 0)) := fun p h0 h1 => by
    have : Pl.opprice u.nm u.st p = 0 := by unfold Pl.opprice; rw [if_neg (by have e : Pl.ocheck u.nm u.st = 0 := hoc; simpa using e), if_neg (by omega)]
    unfold Pl.oSupply; rw [if_neg (by simpa using this)]
  have HPCO : Hid (∀ p, Pl.oCost u.nm u.st (Pl.dpow (plu u) p) = (Pl.ocost u.st (Pl.dpow (plu u) p), 0)) := fun p => by
    obtain ⟨b1, b2, b3, b4⟩ := HPW.out p
    have : Pl.opcheck u.nm u.st (Pl.dpow (plu u) p) = 0 := by unfold Pl.opcheck; rw [if_neg (by have e : Pl.ocheck u.nm u.st = 0 := hoc; simpa using e), if_neg (by have e : Pl.total u.st = (plu u).r.most := htt; omega)]
    unfold Pl.oCost; rw [if_neg (by simpa using this)]
  have HPD : Hid (∀ p, Pl.dpow (plu u) p = max (Pl.leastR p u.st) u.r.least) := fun p => rfl
  have HGD : Hid (∀ p, Pl.dgain (plu u) p = p * Pl.dpow (plu u) p - Pl.ocost u.st (Pl.dpow (plu u) p)) := fun p => rfl
  have HGN2 : Hid (∀ p, -2000000 ≤ p → p ≤ 2000000 → -200000000000 ≤ p * Pl.dpow (plu u) p ∧ p * Pl.dpow (plu u) p ≤ 200000000000 ∧ -100000000000 ≤ Pl.ocost u.st (Pl.dpow (plu u) p) ∧ Pl.ocost u.st (Pl.dpow (plu u) p) ≤ 100000000000) := HGN.out
  clear hus hoc htt hrd hq hck hps j0 ji0 jz0 jz1 jz2 hz hmk0 HGN HOC HTT
  unfold ThreeSaid at HSU
  unfold TwoSaid at HCO
  unfold vUn vRule vSt vOff at *
  have B0 := Lib.hid (Blk.new_ w w.heap.size 35 #[.string u.r.name, .int .i64 u.r.least, .int .i64 u.r.most, .int .i64 u.r.up, .int .i64 u.r.down, .int .i64 u.r.minOn, .int .i64 u.r.minOff, .int .i64 u.r.start, .string u.nm, .slice u.A u.n u.c, .bool u.s.on, .int .i64 u.s.since, .int .i64 u.s.power] rfl)
  have A0 := Lib.hid ((Below.refl w.heap.size w).alloc (Nat.le_refl _) (.cells #[.string u.r.name, .int .i64 u.r.least, .int .i64 u.r.most, .int .i64 u.r.up, .int .i64 u.r.down, .int .i64 u.r.minOn, .int .i64 u.r.minOff, .int .i64 u.r.start, .string u.nm, .slice u.A u.n u.c, .bool u.s.on, .int .i64 u.s.since, .int .i64 u.s.power] 35))
  have HSZ0 : Hid ((w.alloc (.cells #[.string u.r.name, .int .i64 u.r.least, .int .i64 u.r.most, .int .i64 u.r.up, .int .i64 u.r.down, .int .i64 u.r.minOn, .int .i64 u.r.minOff, .int .i64 u.r.start, .string u.nm, .slice u.A u.n u.c, .bool u.s.on, .int .i64 u.s.since, .int .i64 u.s.power] 35)).heap.size = w.heap.size + 1) := by show _ = _; simp
  go_enter Try.func22, Try.ntmps22
  go_wp2_with fail
  generalize w.alloc (.cells #[.string u.r.name, .int .i64 u.r.least, .int .i64 u.r.most, .int .i64 u.r.up, .int .i64 u.r.down, .int .i64 u.r.minOn, .int .i64 u.r.minOff, .int .i64 u.r.start, .string u.nm, .slice u.A u.n u.c, .bool u.s.on, .int .i64 u.s.since, .int .i64 u.s.power] 35) = w0 at *
  have N1 := Lib.hid (((IBlk.new_ w0 w0.heap.size 3 ZC rfl HZL.out).alloc (.cells ZC 3)).drew)
  have N2 := Lib.hid ((IBlk.new_ (w0.alloc (.cells ZC 3)) (w0.heap.size + 1) 3 ZC (by simp) HZL.out).drew)
  have B1 := Lib.hid (((B0.out.alloc (.cells ZC 3)).alloc (.cells ZC 3)).drew)
  have A1 := Lib.hid (((A0.out.alloc A0.out.size (.cells ZC 3)).alloc (by simp; have := A0.out.size; omega) (.cells ZC 3)).drew)
  obtain ⟨ga, hga⟩ : ∃ a, a = w0.heap.size := ⟨_, rfl⟩
  obtain ⟨gb, hgb⟩ : ∃ b, b = w0.heap.size + 1 := ⟨_, rfl⟩
  have HGA := Lib.hid hga
  have HGB := Lib.hid hgb
  clear hga hgb
  clear B0 A0
  go_region
  all_goals
    generalize ((w0.alloc (.cells ZC 3)).alloc (.cells ZC 3)).drew = w1 at *
    have hga := HGA.out
    have hgb := HGB.out
    have hsz0 := HSZ0.out
    have la : w.heap.size < ga := by omega
    have lb : w.heap.size < gb := by omega
    have hne : ga ≠ gb := by omega
    rw [← hgb] at N2 ⊢
    rw [← hga] at N1 ⊢
    clear hga hgb hsz0 HGA HGB HSZ0
  focus
    generalize ga = gP at *
    generalize gb = gG at *
    have IP := N1
    have IG := N2
  rotate_left
  focus
    replace hne := hne.symm
    generalize ga = gG at *
    generalize gb = gP at *
    have IP := N2
    have IG := N1
  all_goals
    clear N1 N2
    have L0 := Pl.fillN_zero
    rw [← L0 (fun j => Pl.dpow (plu u) (ps.getD j 0))] at IP
    rw [← L0 (fun j => Pl.dgain (plu u) (ps.getD j 0))] at IG
    clear L0 HZC hmk
    go_wp2_with fail
    go_loopw [33] (fun i wr => ∃ k : Nat, k ≤ m ∧ i = .int .i64 k ∧ Hid (IBlk wr gP 3 (Pl.fillN (fun j => Pl.dpow (plu u) (ps.getD j 0)) m k)) ∧ Hid (IBlk wr gG 3 (Pl.fillN (fun j => Pl.dgain (plu u) (ps.getD j 0)) m k)) ∧ Hid (Blk wr w.heap.size 35 #[.string u.r.name, .int .i64 u.r.least, .int .i64 u.r.most, .int .i64 u.r.up, .int .i64 u.r.down, .int .i64 u.r.minOn, .int .i64 u.r.minOff, .int .i64 u.r.start, .string u.nm, .slice u.A u.n u.c, .bool u.s.on, .int .i64 u.s.since, .int .i64 u.s.power]) ∧ Hid (Below w.heap.size w wr)) (fun i _ => m - (intOf i).toNat)
    case atStart => exact ⟨0, Nat.zero_le _, rfl, IP, IG, B1, A1⟩
    case round =>
      clear IP IG B1 A1
      obtain ⟨k, hk, rfl, IP, IG, BX, HB⟩ := hrel
      by_cases hlt : k < m
      · obtain ⟨b, o, rfl, hl, hc⟩ := (HQ.out.go HB.out).int_at hlt
        have hpk : ps.getD k 0 = ps[k] := by rw [List.getD_eq_getElem?_getD, List.getElem?_eq_getElem hl]; rfl
        obtain ⟨p0, p1⟩ := HPS.out _ (List.getElem_mem hl)
        have EP := Lib.hid (Pl.fillN_set (fun j => Pl.dpow (plu u) (ps.getD j 0)) m k)
        have EG := Lib.hid (Pl.fillN_set (fun j => Pl.dgain (plu u) (ps.getD j 0)) m k)
        have lP := Pl.fillN_len (fun j => Pl.dpow (plu u) (ps.getD j 0)) m k
        have lG := Pl.fillN_len (fun j => Pl.dgain (plu u) (ps.getD j 0)) m k
        simp only [hpk] at EP EG
        obtain ⟨g1, g2, g3, g4⟩ := HGN2.out ps[k] p0 p1
        have EPD := Lib.hid (HPD.out ps[k])
        have EGD := Lib.hid (HGD.out ps[k])
        have HS1 := Lib.hid (fun w h => HSU.out ps[k] w h)
        rw [HPSU.out _ p0 p1] at HS1
        have HC1 := Lib.hid (fun w h => HCO.out (Pl.dpow (plu u) ps[k]) w h)
        rw [HPCO.out] at HC1
        clear hpk
        generalize ps[k] = p at *
        rw [EGD.out] at EG
        rw [EPD.out] at EP EG HC1 g1 g2 g3 g4
        clear EGD EPD
        generalize Pl.leastR p u.st = le at *
        generalize Pl.mostR p u.st = mo at *
        generalize Pl.ocost u.st (max le u.r.least) = oc at *
        generalize Pl.fillN (fun j => Pl.dpow (plu u) (ps.getD j 0)) m k = LP at *
        generalize Pl.fillN (fun j => Pl.dgain (plu u) (ps.getD j 0)) m k = LG at *
        have bc := BX.out.cell
        have k0 : (0 : Int) ≤ (k : Int) := by omega
        have k1 : (k : Int) < (m : Int) := by omega
        go_wp2_with fail
        refine (HS1.out _ (HRD.out.go HB.out)).mono ?_
        rintro e w2 ⟨rfl, hb⟩
        have IP2 := Lib.hid (IP.out.go hb)
        have IG2 := Lib.hid (IG.out.go hb)
        have BX2 := Lib.hid (BX.out.go hb)
        have HB2 := Lib.hid (HB.out.trans (hb.mono HB.out.size))
        clear hb bc IP IG BX HB HS1
        have bc := BX2.out.cell
        have fP := IP2.out.frozen k
        have cP := IP2.out.cell k (by omega)
        have imax := HMX.out
        go_wp2_with fail
        clear imax fP cP bc
        generalize max le u.r.least = x at *
        have I3 := IP2.out.set_ k x
        rw [EP.out] at I3
        have IP3 := Lib.hid I3
        have IG3 := Lib.hid (IG2.out.far (p := ⟨gP, k, none⟩) (by show gG ≠ gP; omega) (.int .i64 x))
        have BX3 := Lib.hid (BX2.out.far (p := ⟨gP, k, none⟩) (by show w.heap.size ≠ gP; omega) (.int .i64 x))
        have HB3 := Lib.hid (HB2.out.setCell (p := ⟨gP, k, none⟩) (by show w.heap.size ≤ gP; omega) (.int .i64 x))
        clear I3 IP2 IG2 BX2 HB2
        generalize w2.setCell ⟨gP, k, none⟩ (.int .i64 x) = w3 at *
        have HRD3 := Lib.hid (HRD.out.go HB3.out)
        have cP := IP3.out.cell k (by rw [Pl.fillN_len]; omega)
        rw [show (Pl.fillN (fun j => Pl.dpow (plu u) (ps.getD j 0)) m (k + 1)).getD k 0 = x from by rw [← EP.out, List.getD_eq_getElem?_getD, List.getElem?_set_self (by omega)]; rfl] at cP
        have q8 := Wd.cell (BX3.out.cell 8)
        have q9 := Wd.cell (BX3.out.cell 9)
        have qP := Wd.cell cP
        refine wp_region_wd (by kernel_rfl) (by kernel_rfl) ?_
        repeat (go_big_quiet_step ((go_at_call 33; exact Calls.wd (HC1.out _ (HRD3.out.go (Wd.ok _))))))
        refine wpQuiet_nil ?_
        rintro _ ⟨w6, rfl⟩
        have IP6 := Lib.hid (IP3.out.go w6.ok)
        have IG6 := Lib.hid (IG3.out.go w6.ok)
        have BX6 := Lib.hid (BX3.out.go w6.ok)
        have HB6 := Lib.hid (HB3.out.trans (w6.ok.mono HB3.out.size))
        have cP := qP w6
        have e1 := EG.out
        clear IP3 IG3 BX3 HB3 HRD3 q8 q9 qP HC1 EP
        generalize w6.val = w7 at *
        have cG := IG6.out.cell k (by omega)
        have fG := IG6.out.frozen k
        have wpx : IntKind.i64.wrap (p * x) = p * x := IntWalk.i64_in _ (by omega)
        have wpo : IntKind.i64.wrap (p * x - oc) = p * x - oc := IntWalk.i64_in _ (by omega)
        have I7 := IG6.out.set_ k (p * x - oc)
        rw [EG.out] at I7
        have IG7 := Lib.hid I7
        have IP7 := Lib.hid (IP6.out.far (p := ⟨gG, k, none⟩) (by show gP ≠ gG; omega) (.int .i64 (p * x - oc)))
        have BX7 := Lib.hid (BX6.out.far (p := ⟨gG, k, none⟩) (by show w.heap.size ≠ gG; omega) (.int .i64 (p * x - oc)))
        have HB7 := Lib.hid (HB6.out.setCell (p := ⟨gG, k, none⟩) (by show w.heap.size ≤ gG; omega) (.int .i64 (p * x - oc)))
        clear I7 e1 EG
        go_wp2_with fail
        go_roundw
        case rel => exact ⟨k + 1, by omega, by go_num, IP7, IG7, BX7, HB7⟩
        case measure => simp [intOf]; omega
      · have : k = m := by omega
        subst this
        obtain ⟨kw, kk⟩ := pow_wrap k hm
        go_wp2_with fail
        rw [kw]
        clear kw
        obtain ⟨K, hK⟩ : ∃ K, K = 2 ^ k := ⟨_, rfl⟩
        have HK := Lib.hid hK
        rw [← hK] at kk ⊢
        clear hK
        have hK8 : K ≤ 256 := kk
        clear kk
        go_loopw [15, 16, 17, 79] (fun b mo f i wr => ∃ (q : Nat) (A : Option Addr) (c : Nat), q ≤ K ∧ i = .int .i64 q ∧ b = .slice A (Pl.dsgl (plu u) ps q).1.length c ∧ mo = .int .i64 (Pl.dsgl (plu u) ps q).2.1 ∧ f = .bool (Pl.dsgl (plu u) ps q).2.2 ∧ Hid (wr.ownsRow w.heap.size 3 1 (.slice A (Pl.dsgl (plu u) ps q).1.length c) (Pl.dsgl (plu u) ps q).1.length (ints (Pl.dsgl (plu u) ps q).1)) ∧ Hid (IBlk wr gP 3 (Pl.fillN (fun j => Pl.dpow (plu u) (ps.getD j 0)) k k)) ∧ Hid (IBlk wr gG 3 (Pl.fillN (fun j => Pl.dgain (plu u) (ps.getD j 0)) k k)) ∧ Hid (Blk wr w.heap.size 35 #[.string u.r.name, .int .i64 u.r.least, .int .i64 u.r.most, .int .i64 u.r.up, .int .i64 u.r.down, .int .i64 u.r.minOn, .int .i64 u.r.minOff, .int .i64 u.r.start, .string u.nm, .slice u.A u.n u.c, .bool u.s.on, .int .i64 u.s.since, .int .i64 u.s.power]) ∧ Hid (Below w.heap.size w wr)) (fun _ _ _ i _ => K - (intOf i).toNat)
        case atStart => exact ⟨0, none, 0, Nat.zero_le _, rfl, rfl, rfl, rfl, World.ownsRow_nil _ _ _ _, IP, IG, BX, HB⟩
        case round =>
          clear IP IG BX HB
          obtain ⟨q, A, c, hq, rfl, rfl, rfl, rfl, HRB0, IP, IG, BX, HB⟩ := hrel
          generalize wr = wo at *
          by_cases hlt : q < K
          · have hmk := HMK.out
            go_wp2_with fail
            have IS : Hid (IBlk (wo.alloc (.cells ZC 3)) wo.heap.size 3 (Pl.fillN (Pl.dbit (plu u) ps q) k 0)) := by rw [Pl.fillN_zero]; exact IBlk.new_ _ _ _ _ rfl HZL.out
            have AL := Lib.hid ((Below.refl wo.heap.size wo).alloc (Nat.le_refl _) (.cells ZC 3))
            clear hmk
            obtain ⟨gs, hgs⟩ : ∃ g, g = wo.heap.size := ⟨_, rfl⟩
            have HGS := Lib.hid hgs
            rw [← hgs] at IS ⊢
            clear hgs
            generalize wo.alloc (.cells ZC 3) = wa at *
            go_loopw [20, 87] (fun sm i wi => ∃ j : Nat, j ≤ k ∧ i = .int .i64 j ∧ sm = .int .i64 (Pl.dsumN (plu u) ps q j) ∧ Hid (IBlk wi gs 3 (Pl.fillN (Pl.dbit (plu u) ps q) k j)) ∧ Hid (Below wo.heap.size wo wi)) (fun _ i _ => k - (intOf i).toNat)
            case atStart => exact ⟨0, Nat.zero_le _, rfl, rfl, IS, AL⟩
            case round =>
              clear IS AL
              obtain ⟨j, hj, rfl, rfl, IS, HBI⟩ := hrel
              by_cases hjk : j < k
              · have fS := IS.out.frozen j
                have cS := IS.out.cell j (by rw [Pl.fillN_len]; omega)
                have cP := (IP.out.go HBI.out).cell j (by rw [Pl.fillN_len]; omega)
                have cG := (IG.out.go HBI.out).cell j (by rw [Pl.fillN_len]; omega)
                rw [Pl.fillN_at _ hjk hjk] at cP cG
                generalize (Pl.fillN (Pl.dbit (plu u) ps q) k j).getD j 0 = old at *
                obtain ⟨s0, s1⟩ := HSM.out q j (by rw [HM.out]; omega)
                have j0 : (0 : Int) ≤ (j : Int) := by omega
                have j1 : (j : Int) < (k : Int) := by omega
                have hbit := bit_test q j (by omega)
                have hPS : gP ≠ gs := by have := IP.out.lt; have := HGS.out; omega
                have hGS : gG ≠ gs := by have := IG.out.lt; have := HGS.out; omega
                have hSP := hPS.symm
                have hSG := hGS.symm
                have hmem := Pl.getD_mem (ps := ps) (t := j) (by rw [HM.out]; exact hjk)
                obtain ⟨p0, p1⟩ := HPS.out _ hmem
                obtain ⟨g1, g2, g3, g4⟩ := HGN2.out _ p0 p1
                have EGD := Lib.hid (HGD.out (ps.getD j 0))
                have ESM : Hid (Pl.dsumN (plu u) ps q (j + 1) = Pl.dsumN (plu u) ps q j + (if q.testBit j then Pl.dgain (plu u) (ps.getD j 0) else 0)) := rfl
                have ESET := Lib.hid (Pl.fillN_set (Pl.dbit (plu u) ps q) k j)
                have EB : Hid (Pl.dbit (plu u) ps q j = if q.testBit j then Pl.dpow (plu u) (ps.getD j 0) else -1) := rfl
                have hgn : -300000000000 ≤ Pl.dgain (plu u) (ps.getD j 0) ∧ Pl.dgain (plu u) (ps.getD j 0) ≤ 300000000000 := by rw [EGD.out]; omega
                have HGL : Hid (wo.heap.size ≤ gs) := by show _ ≤ _; rw [HGS.out]; exact Nat.le_refl _
                clear g1 g2 g3 g4 EGD p0 p1 hmem
                generalize Pl.dgain (plu u) (ps.getD j 0) = gn at *
                generalize Pl.dpow (plu u) (ps.getD j 0) = pw at *
                cases hb : q.testBit j
                · rw [hb] at hbit ESM EB
                  simp only [Bool.false_eq_true, if_false, Int.add_zero] at ESM EB
                  rw [EB.out] at ESET
                  clear EB
                  go_wp2_with fail
                  go_roundw
                  case rel =>
                    refine ⟨j + 1, by omega, by go_num, vint ESM.out.symm, ?_, HBI.out.setCell (p := ⟨gs, j, none⟩) HGL.out _⟩
                    show IBlk _ _ _ _
                    rw [← ESET.out]
                    exact IS.out.set_ j _
                  case measure => simp [intOf]; omega
                · rw [hb] at hbit ESM EB
                  simp only [if_true] at ESM EB
                  rw [EB.out] at ESET
                  clear EB
                  have wsm : IntKind.i64.wrap (Pl.dsumN (plu u) ps q j + gn) = Pl.dsumN (plu u) ps q j + gn := IntWalk.i64_in _ (by omega)
                  go_wp2_with fail
                  go_roundw
                  case rel =>
                    refine ⟨j + 1, by omega, by go_num, vint ESM.out.symm, ?_, (HBI.out.setCell (p := ⟨gs, j, none⟩) HGL.out _).setCell (p := ⟨gs, j, none⟩) HGL.out _⟩
                    show IBlk _ _ _ _
                    rw [← ESET.out]
                    have h2 := (IS.out.set_ j (-1)).set_ j pw
                    rw [List.set_set] at h2
                    exact h2
                  case measure => simp [intOf]; omega
              · have : j = k := by omega
                subst this
                obtain ⟨s0, s1⟩ := HSM.out q j (by rw [HM.out]; exact Nat.le_refl _)
                have HLD : Hid ((Pl.dsch (plu u) ps q).length = j) := (Pl.dsch_len _ _ _).trans HM.out
                have HDS : Hid (Pl.fillN (Pl.dbit (plu u) ps q) j j = Pl.dsch (plu u) ps q) := by show _ = _; unfold Pl.dsch; rw [HM.out]
                rw [HDS.out] at IS
                have HST : Hid (Pl.dsgl (plu u) ps (q + 1) = if (Pl.urun u.r u.s (Pl.dsch (plu u) ps q)).2.2 = 0 ∧ ((Pl.dsgl (plu u) ps q).2.2 = false ∨ (Pl.dsgl (plu u) ps q).2.1 < Pl.dsumN (plu u) ps q j - (Pl.urun u.r u.s (Pl.dsch (plu u) ps q)).2.1) then (Pl.dsch (plu u) ps q, Pl.dsumN (plu u) ps q j - (Pl.urun u.r u.s (Pl.dsch (plu u) ps q)).2.1, true) else Pl.dsgl (plu u) ps q) := by
                  show _ = _; rw [Pl.dsgl]; unfold Pl.dsgStep Pl.dval; rw [HM.out]; rfl
                obtain ⟨u0, u1⟩ := HRB.out (Pl.dsch (plu u) ps q)
                have HRN := Lib.hid (fun (A : Option Addr) (c : Nat) (w : World) h => HRU.out A c (Pl.dsch (plu u) ps q) w h)
                have HDN : Hid (∃ D, D = Pl.dsgl (plu u) ps (q + 1)) := ⟨_, rfl⟩
                unfold RunSaid at HRN
                have IS1 := Lib.hid (IBlk.reads IS.out HLD.out)
                have hgw : w.heap.size ≤ gs := by have := IP.out.lt; have := HGS.out; omega
                have IO1 := Lib.hid (IBlk.own IS.out HLD.out hgw (by omega))
                clear HDS IS
                generalize Pl.dsch (plu u) ps q = DS at *
                generalize Pl.urun u.r u.s DS = UR at *
                obtain ⟨UL, us, ue⟩ := UR
                generalize Pl.dsumN (plu u) ps q j = SM at *
                obtain ⟨DN, hDN⟩ := HDN.out
                rw [← hDN] at HST
                have HDN2 := Lib.hid hDN
                clear HDN hDN
                generalize Pl.dsgl (plu u) ps q = DQ at *
                obtain ⟨bl, mo, fo⟩ := DQ
                simp only at HST HRN u0 u1 HRB0
                have BXI := Lib.hid (BX.out.go HBI.out)
                have IPI := Lib.hid (IP.out.go HBI.out)
                have IGI := Lib.hid (IG.out.go HBI.out)
                have HBO := Lib.hid (HB.out.trans (HBI.out.mono HB.out.size))
                have HRB1 := Lib.hid (own_go HRB0.out HBI.out)
                clear BX IP IG HB HRB0 HBI
                have bc := BXI.out.cell
                go_wp2_with fail
                refine (HRN.out _ _ _ IS1.out).mono ?_
                rintro e w2 ⟨Ar, cr, rfl, _, _, hb⟩
                have BX2 := Lib.hid (BXI.out.go hb)
                have IP2 := Lib.hid (IPI.out.go hb)
                have IG2 := Lib.hid (IGI.out.go hb)
                have HB2 := Lib.hid (HBO.out.trans (hb.mono HBO.out.size))
                have HRB2 := Lib.hid (own_go HRB1.out hb)
                have IO2 := Lib.hid (own_go IO1.out hb)
                clear hb BXI IPI IGI HBO HRB1 IS1 IO1 bc HRN
                have wsu : IntKind.i64.wrap (SM - us) = SM - us := IntWalk.i64_in _ (by omega)
                have hIS3 : Hid (w2.ownsRow w.heap.size 3 1 (.slice (some ⟨gs, 0, none⟩) DS.length j) DS.length (ints DS)) := by rw [HLD.out]; exact IO2.out
                by_cases hue : ue = 0
                · have hue2 : (ue == 0) = true := by simpa using hue
                  cases fo with
                  | false =>
                    rw [if_pos ⟨hue, Or.inl rfl⟩] at HST
                    clear hue
                    go_wp2_with fail
                    go_roundw
                    case rel =>
                      refine ⟨q + 1, some ⟨gs, 0, none⟩, j, ?_⟩
                      rw [← HDN2.out, HST.out]
                      exact ⟨by omega, by go_num, by simp only [HLD.out], rfl, rfl, hIS3, IP2, IG2, BX2, HB2⟩
                    case measure => simp [intOf]; omega
                  | true =>
                    by_cases hmo : mo < SM - us
                    · rw [if_pos ⟨hue, Or.inr hmo⟩] at HST
                      clear hue
                      go_wp2_with fail
                      go_roundw
                      case rel =>
                        refine ⟨q + 1, some ⟨gs, 0, none⟩, j, ?_⟩
                        rw [← HDN2.out, HST.out]
                        exact ⟨by omega, by go_num, by simp only [HLD.out], rfl, rfl, hIS3, IP2, IG2, BX2, HB2⟩
                      case measure => simp [intOf]; omega
                    · rw [if_neg (by simp [hmo])] at HST
                      clear hue
                      go_wp2_with fail
                      go_roundw
                      case rel =>
                        refine ⟨q + 1, A, c, ?_⟩
                        rw [← HDN2.out, HST.out]
                        exact ⟨by omega, by go_num, rfl, rfl, rfl, HRB2, IP2, IG2, BX2, HB2⟩
                      case measure => simp [intOf]; omega
                · have hue2 : (ue == 0) = false := by simpa using hue
                  rw [if_neg (by simp [hue])] at HST
                  clear hue
                  go_wp2_with fail
                  go_roundw
                  case rel =>
                    refine ⟨q + 1, A, c, ?_⟩
                    rw [← HDN2.out, HST.out]
                    exact ⟨by omega, by go_num, rfl, rfl, rfl, HRB2, IP2, IG2, BX2, HB2⟩
                  case measure => simp [intOf]; omega
          · have : q = K := by omega
            subst this
            have HE : Hid (Pl.dsingle (plu u) ps = Pl.dsgl (plu u) ps q) := by show _ = _; unfold Pl.dsingle; rw [HM.out, ← HK.out]
            go_wp2_with fail
            go_ret2
            rw [HE.out]
            exact ⟨A, c, rfl, HRB0.out, HB.out⟩
end Go.Proofs.Ytchafkocobbndaa
