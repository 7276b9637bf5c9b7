/- dual.Step gives what its plain function gives. Condition: the generators lie in memory as the words of DUnit say. -/
import Derived.Test.YtchafkocobbndaaStep
namespace Go.Proofs.Ytchafkocobbndaa
open Go.RowKit
/-- a list that is read, and an error -/
def StepSaid (x : List Int × Int) (w : World) (e : Ending) (w' : World) : Prop :=
  ∃ A c, e = .returned (.tuple #[.slice A x.1.length c, .int .i64 x.2]) ∧ Reads w' w'.heap.size 1 A x.1.length (ints x.1) ∧ Below w.heap.size w w'
theorem mixN_full2 (f g h : Nat → Int) (n : Nat) : Pl.mixN f g n n = Pl.mixN f h n n := (Pl.mixN_full f g f n).trans (Pl.mixN_full f h f n).symm
theorem dsup_take {l : List MU} {k : Nat} (hk : k < l.length) (ps : List Int) (t : Nat) : Pl.dsup ps (plus (l.take (k + 1))) t = Pl.dsup ps (plus (l.take k)) t + max 0 ((Pl.dsingle (plu l[k]) ps).1.getD t 0) := by
  rw [List.take_succ_eq_append_getElem hk]
  unfold plus
  rw [List.map_append]
  exact Pl.dsup_snoc ps _ _ t
theorem own_blk5 {w : World} {base g n c : Nat} {e : TypeId} {xs : List Value} (h : w.ownsRow base e 1 (.slice (some ⟨g, 0, none⟩) n c) n xs) : ∃ cur, Blk w g e cur := by
  rcases h.2 with ⟨hv, _⟩ | ⟨g', cap, cur, hv, _, hb, _⟩
  · cases hv
  · injection hv with h1 _ _
    injection h1 with h1
    injection h1 with h1
    subst h1
    exact ⟨cur, hb⟩
theorem set_same (l : List Int) (k : Nat) (x : Int) (hk : k < l.length) (h : l.getD k 0 = x) : l.set k x = l := by
  rw [List.getD_eq_getElem?_getD, List.getElem?_eq_getElem hk] at h
  subst h
  exact List.set_getElem_self hk
/-- a generator loaded out of a slice -/
theorem Unis.cells {w : World} {A : Option Addr} {n : Nat} {l : List MU} (h : Unis w A n l) {k : Nat} (hk : k < n) :
    ∃ b o, A = some ⟨b, o, none⟩ ∧ ∃ u, (∃ hl : k < l.length, u = l[k]'hl) ∧ w.cell? ⟨b, o + k * 13, none⟩ = some (.string u.r.name) ∧ w.cell? ⟨b, o + k * 13 + 1, none⟩ = some (.int .i64 u.r.least) ∧ w.cell? ⟨b, o + k * 13 + 2, none⟩ = some (.int .i64 u.r.most) ∧ w.cell? ⟨b, o + k * 13 + 3, none⟩ = some (.int .i64 u.r.up) ∧ w.cell? ⟨b, o + k * 13 + 4, none⟩ = some (.int .i64 u.r.down) ∧ w.cell? ⟨b, o + k * 13 + 5, none⟩ = some (.int .i64 u.r.minOn) ∧ w.cell? ⟨b, o + k * 13 + 6, none⟩ = some (.int .i64 u.r.minOff) ∧ w.cell? ⟨b, o + k * 13 + 7, none⟩ = some (.int .i64 u.r.start) ∧ w.cell? ⟨b, o + k * 13 + 8, none⟩ = some (.string u.nm) ∧ w.cell? ⟨b, o + k * 13 + 9, none⟩ = some (.slice u.A u.n u.c) ∧ w.cell? ⟨b, o + k * 13 + 10, none⟩ = some (.bool u.s.on) ∧ w.cell? ⟨b, o + k * 13 + 11, none⟩ = some (.int .i64 u.s.since) ∧ w.cell? ⟨b, o + k * 13 + 12, none⟩ = some (.int .i64 u.s.power) ∧ UnIn w u := by
  obtain ⟨b, o, rfl, hl, cc, hin⟩ := h.at_ hk
  exact ⟨b, o, rfl, _, ⟨hl, rfl⟩, cc 0 _ rfl, cc 1 _ rfl, cc 2 _ rfl, cc 3 _ rfl, cc 4 _ rfl, cc 5 _ rfl, cc 6 _ rfl, cc 7 _ rfl, cc 8 _ rfl, cc 9 _ rfl, cc 10 _ rfl, cc 11 _ rfl, cc 12 _ rfl, hin⟩
set_option maxHeartbeats 6400000 in
set_option maxRecDepth 100000 in
theorem dstep_any (A B C : Option Addr) (n c m d q e : Nat) (l : List MU) (ds ps : List Int) (b0 : Int) (w : World) (hcap : n ≤ c) (h : Unis w A n l) (hq : Reads w w.heap.size 1 B m (ints ds)) (hp : Reads w w.heap.size 1 C q (ints ps)) :
    Calls Try.prog 9 #[.slice A n c, .slice B m d, .slice C q e, .int .i64 b0] w (StepSaid (Pl.dStep (plus l) ds ps b0) w) := by
  have HC := Lib.hid (fun w h hq hp => dchk_any A B C n c m d q e l ds ps w hcap h hq hp)
  have H := Lib.hid h
  have HQ := Lib.hid hq
  have HP := Lib.hid hp
  have L0 := Lib.hid h.len
  have L1 := Lib.hid hq.int_len
  have L2 := Lib.hid hp.int_len
  have HX : Hid (Pl.dStep (plus l) ds ps b0 = if Pl.dchk (plus l) ds ps ≠ 0 then ([], Pl.dchk (plus l) ds ps) else if b0 < 1 ∨ 1000000 < b0 then ([], 1) else (Pl.mixN (Pl.dnew (plus l) ds ps b0) (fun _ => 0) ps.length ps.length, 0)) := rfl
  unfold StepSaid
  generalize Pl.dStep (plus l) ds ps b0 = R at *
  clear h hq hp
  by_cases h0 : Pl.dchk (plus l) ds ps = 0
  · rw [if_neg (by simpa using h0)] at HX
    obtain ⟨⟨k1, k2, k3, k4⟩, k5, k6⟩ := Pl.dchk_ok h0
    rw [h0] at HC
    have hqm : q = m := by rw [← L2.out, ← L1.out]; exact k5
    subst hqm
    have hq8 : q ≤ 8 := by rw [← L1.out]; exact k2
    have hn3 : n ≤ 3 := by rw [← L0.out, ← plus_len]; exact k1
    have HU : Hid (∀ u ∈ l, Pl.duCheck (plu u) = 0) := fun u hu => k3 _ (List.mem_map.2 ⟨u, hu, rfl⟩)
    have HPS := Lib.hid k6
    have HDS := Lib.hid k4
    clear h0 k1 k2 k3 k4 k5 k6
    by_cases hb1 : b0 < 1
    · rw [if_pos (Or.inl hb1)] at HX
      go_enter Try.func9, Try.ntmps9
      go_wp2_with fail
      refine (HC.out _ H.out HQ.out HP.out).mono ?_
      rintro e1 w1 ⟨rfl, hb⟩
      have HB1 := Lib.hid hb
      clear hb HC
      go_wp2_with fail
      go_ret2
      rw [HX.out]
      exact ⟨none, 0, rfl, Reads.none_, HB1.out⟩
    · by_cases hb2 : 1000000 < b0
      · rw [if_pos (Or.inr hb2)] at HX
        go_enter Try.func9, Try.ntmps9
        go_wp2_with fail
        refine (HC.out _ H.out HQ.out HP.out).mono ?_
        rintro e1 w1 ⟨rfl, hb⟩
        have HB1 := Lib.hid hb
        clear hb HC
        go_wp2_with fail
        go_ret2
        rw [HX.out]
        exact ⟨none, 0, rfl, Reads.none_, HB1.out⟩
      · rw [if_neg (by omega)] at HX
        obtain ⟨j0, ji0, jz0, jz1, jz2⟩ := info_parts info_int
        have hmk0 : ∀ w, (Instr.makeSlice 23 (.int .i64 (q : Int)) (.int .i64 (q : Int))).run Try.prog w = .ok (.slice (some ⟨w.heap.size, 0, none⟩) q q) (w.alloc (.cells (madeCells #[.int .i64 0] q) 3)) := fun w => by
          have := run_make (P := Try.prog) w 23 3 j0 (.int .i64 0) Try.underlying23 ji0 jz0 .i64 .i64 q q (by omega) (by omega) (by rw [jz2]; omega) (by omega)
          rw [jz1, show (Value.int .i64 0).cells = #[.int .i64 0] from rfl] at this
          simpa using this
        generalize hz : madeCells #[Value.int .i64 0] q = ZC at hmk0
        have HZL : Hid (ZC.toList = ints (List.replicate q 0)) := by show _ = _; rw [← hz, toList_madeCells_one]; simp [ints]
        have HMX : Hid (∀ a b : Int, (if a < b then b else a) = max a b) := ite_max
        have hmk := hmk0
        clear j0 ji0 jz0 jz1 jz2 hz hmk0
        go_enter Try.func9, Try.ntmps9
        go_wp2_with fail
        refine (HC.out _ H.out HQ.out HP.out).mono ?_
        rintro e1 w1 ⟨rfl, hb⟩
        have HB1 := Lib.hid hb
        clear hb HC
        go_wp2_with fail
        have IS : Hid (IBlk (w1.alloc (.cells ZC 3)) w1.heap.size 3 (Pl.mixN (Pl.dsup ps (plus (l.take 0))) (fun _ => 0) q q)) := by
          rw [Pl.mixN_full _ _ (fun _ => 0), show Pl.dsup ps (plus (l.take 0)) = (fun _ => 0) from rfl, Pl.mixN_zero]
          exact IBlk.new_ _ _ _ _ rfl HZL.out
        have HB2 := Lib.hid (HB1.out.alloc HB1.out.size (.cells ZC 3))
        have hgw : w.heap.size ≤ w1.heap.size := HB1.out.size
        clear hmk HB1
        generalize w1.alloc (.cells ZC 3) = w2 at *
        generalize w1.heap.size = gs at *
        go_loopw [38] (fun i wr => ∃ k : Nat, k ≤ n ∧ i = .int .i64 k ∧ Hid (IBlk wr gs 3 (Pl.mixN (Pl.dsup ps (plus (l.take k))) (fun _ => 0) q q)) ∧ Hid (Below w.heap.size w wr)) (fun i _ => n - (intOf i).toNat)
        case atStart => exact ⟨0, Nat.zero_le _, rfl, IS, HB2⟩
        case round =>
          clear IS HB2
          obtain ⟨k, hk, rfl, IS, HB⟩ := hrel
          by_cases hlt : k < n
          · obtain ⟨b, o, rfl, u, ⟨hl, hu⟩, c0, c1, c2, c3, c4, c5, c6, c7, c8, c9, c10, c11, c12, hin⟩ := (H.out.go HB.out).cells hlt
            have hck : Pl.duCheck (plu u) = 0 := HU.out u (by rw [hu]; exact List.getElem_mem hl)
            have HDT := Lib.hid (fun t => dsup_take hl ps t)
            rw [← hu] at HDT
            have HLN : Hid ((Pl.dsingle (plu u) ps).1.length = q) := (Pl.dsingle_len hck (by rw [L2.out]; exact hq8)).trans L2.out
            have HSB := Lib.hid (fun t => Pl.dsingle_bd hck (by rw [L2.out]; exact hq8) t)
            have HDB := Lib.hid (fun t => Pl.dsup_bd (ps := ps) (plus (l.take k)) (fun v hv => by
              obtain ⟨x, hx, rfl⟩ := List.mem_map.1 hv
              exact HU.out x (List.mem_of_mem_take hx)) (by rw [L2.out]; exact hq8) t)
            have hlk : (plus (l.take k)).length ≤ 3 := by rw [plus_len, List.length_take]; omega
            have HSG := Lib.hid (fun (w : World) h1 h2 => single_any u C q e ps w hck h1 hq8 HPS.out h2)
            unfold SingleSaid at HSG
            unfold vUn at HSG
            have HIN := Lib.hid hin
            clear hu hck hin hl
            generalize Pl.dsingle (plu u) ps = D at *
            obtain ⟨DL, dm, df⟩ := D
            simp only at HSG HLN HSB HDT
            obtain ⟨⟨rn, r1, r2, r3, r4, r5, r6, r7⟩, nm, Az, nz, cz, st, ⟨s1, s2, s3⟩⟩ := u
            simp only at HSG c0 c1 c2 c3 c4 c5 c6 c7 c8 c9 c10 c11 c12
            have A0 := Lib.hid ((Below.refl wr.heap.size wr).alloc (Nat.le_refl _) (.cells #[.string rn, .int .i64 r1, .int .i64 r2, .int .i64 r3, .int .i64 r4, .int .i64 r5, .int .i64 r6, .int .i64 r7, .string nm, .slice Az nz cz, .bool s1, .int .i64 s2, .int .i64 s3] 35))
            have H0 := Lib.hid (HIN.out.go A0.out)
            have HP0 := Lib.hid ((HP.out.go HB.out).go A0.out)
            have IS0 := Lib.hid (IS.out.go A0.out)
            have HB0 := Lib.hid (HB.out.trans (A0.out.mono HB.out.size))
            go_wp2_with fail
            refine (HSG.out _ H0.out HP0.out).mono ?_
            rintro e1 w3 ⟨Ar, cr, rfl, hown, hb⟩
            rw [HLN.out] at hown ⊢
            have IS3 := Lib.hid (IS0.out.go hb)
            have HB3 := Lib.hid (HB0.out.trans (hb.mono HB0.out.size))
            have hgsl := IS0.out.lt
            have HOW := Lib.hid hown
            clear hb hown c0 c1 c2 c3 c4 c5 c6 c7 c8 c9 c10 c11 c12 HSG A0 H0 HP0 IS0 HB0 HIN IS HB
            generalize (wr.alloc (.cells #[.string rn, .int .i64 r1, .int .i64 r2, .int .i64 r3, .int .i64 r4, .int .i64 r5, .int .i64 r6, .int .i64 r7, .string nm, .slice Az nz cz, .bool s1, .int .i64 s2, .int .i64 s3] 35)).heap.size = wsz at *
            go_wp2_with fail
            go_loopw [50] (fun i wi => ∃ t : Nat, t ≤ q ∧ i = .int .i64 t ∧ Hid (IBlk wi gs 3 (Pl.mixN (Pl.dsup ps (plus (l.take (k + 1)))) (Pl.dsup ps (plus (l.take k))) q t)) ∧ Hid (wi.ownsRow wsz 3 1 (.slice Ar q cr) q (ints DL)) ∧ Hid (Below w.heap.size w wi)) (fun i _ => q - (intOf i).toNat)
            case atStart =>
              refine ⟨0, Nat.zero_le _, rfl, ?_, HOW, HB3⟩
              show IBlk _ _ _ _
              rw [← Pl.mixN_full _ (fun _ => 0)]
              exact IS3.out
            case round =>
              clear IS3 HOW HB3
              obtain ⟨t, ht, rfl, IS, HOW, HB⟩ := hrel
              by_cases htq : t < q
              · obtain ⟨b5, o5, rfl, hl5, hc5⟩ := (Reads.of_own HOW.out).int_at htq
                have hdt : DL.getD t 0 = DL[t] := by rw [List.getD_eq_getElem?_getD, List.getElem?_eq_getElem hl5]; rfl
                have HDT1 := Lib.hid (HDT.out t)
                obtain ⟨x0, x1⟩ := HSB.out t
                obtain ⟨y0, y1⟩ := HDB.out t
                have ESET := Lib.hid (Pl.mixN_set (Pl.dsup ps (plus (l.take (k + 1)))) (Pl.dsup ps (plus (l.take k))) q t)
                have hcs := IS.out.cell t (by rw [Pl.mixN_len]; exact htq)
                rw [Pl.mixN_at _ _ htq, if_neg (Nat.lt_irrefl t)] at hcs
                rw [HDT1.out] at ESET
                rw [hdt] at ESET x0 x1
                have fz := IS.out.frozen t
                have lgs := IS.out.lt
                have imax := HMX.out
                clear hdt HDT1
                generalize DL[t] = dt at *
                generalize Pl.dsup ps (plus (l.take k)) t = sk at *
                have ws : IntKind.i64.wrap (sk + max 0 dt) = sk + max 0 dt := IntWalk.i64_in _ (by omega)
                have t0 : (0 : Int) ≤ (t : Int) := by omega
                have t1 : (t : Int) < (q : Int) := by omega
                go_wp2_with fail
                go_roundw
                case rel =>
                  refine ⟨t + 1, by omega, by go_num, ?_, own_far HOW.out (p := ⟨gs, t, none⟩) (by show gs < wsz; exact hgsl) _, HB.out.setCell (p := ⟨gs, t, none⟩) (by show w.heap.size ≤ gs; exact hgw) _⟩
                  show IBlk _ _ _ _
                  rw [← ESET.out]
                  exact IS.out.set_ t _
                case measure => simp [intOf]; omega
              · have : t = q := by omega
                subst this
                rw [mixN_full2 _ _ (fun _ => 0)] at IS
                go_wp2_with fail
                go_roundw
                case rel => exact ⟨k + 1, by omega, by go_num, IS, HB⟩
                case measure => simp [intOf]; omega
          · have : k = n := by omega
            subst this
            rw [List.take_of_length_le (by have := L0.out; omega)] at IS
            have HCL := Lib.hid (fun w h => clone_ints C q e ps w (by omega) h)
            have hgs4 := IS.out.lt
            unfold CloneSaid at HCL
            go_wp2_with fail
            refine (HCL.out _ (HP.out.go HB.out)).mono ?_
            rintro e1 w4 ⟨Ao, co, rfl, hown, hb⟩
            have IS4 := Lib.hid (IS.out.go hb)
            have HB4 := Lib.hid (HB.out.trans (hb.mono HB.out.size))
            have HOW := Lib.hid hown
            clear hb hown HCL IS HB
            generalize wr.heap.size = wb at *
            go_wp2_with fail
            go_loopw [69] (fun i wr => ∃ t : Nat, t ≤ q ∧ i = .int .i64 t ∧ Hid (wr.ownsRow wb 3 1 (.slice Ao q co) q (ints (Pl.mixN (Pl.dnew (plus l) ds ps b0) (fun j => ps.getD j 0) q t))) ∧ Hid (IBlk wr gs 3 (Pl.mixN (Pl.dsup ps (plus l)) (fun _ => 0) q q)) ∧ Hid (Below w.heap.size w wr)) (fun i _ => q - (intOf i).toNat)
            case atStart =>
              refine ⟨0, Nat.zero_le _, rfl, ?_, IS4, HB4⟩
              have e := Pl.mixN_list (Pl.dnew (plus l) ds ps b0) ps
              rw [L2.out] at e
              show World.ownsRow _ _ _ _ _ _ _
              rw [e]
              exact HOW.out
            case round =>
              clear IS4 HB4 HOW
              obtain ⟨t, ht, rfl, HOW, IS, HB⟩ := hrel
              by_cases htq : t < q
              · obtain ⟨go, cap, hv, hgo, hgl⟩ := HOW.out.form (by omega)
                injection hv with hv1 _ hv3
                subst hv1 hv3
                obtain ⟨b5, o5, rfl, hl5, hc5⟩ := (HQ.out.go HB.out).int_at htq
                have hdt : ds.getD t 0 = ds[t] := by rw [List.getD_eq_getElem?_getD, List.getElem?_eq_getElem hl5]; rfl
                obtain ⟨x0, x1⟩ := HPS.out _ (Pl.getD_mem (ps := ps) (t := t) (by rw [L2.out]; exact htq))
                have ESET := Lib.hid (Pl.mixN_set (Pl.dnew (plus l) ds ps b0) (fun j => ps.getD j 0) q t)
                have EN : Hid (Pl.dnew (plus l) ds ps b0 t = if Pl.dsup ps (plus l) t < ds.getD t 0 then min (ps.getD t 0 + b0) 2000000 else if ds.getD t 0 < Pl.dsup ps (plus l) t then max (ps.getD t 0 - b0) (-2000000) else ps.getD t 0) := rfl
                have hco := own_int_cell HOW.out t htq
                have ESAME := Lib.hid (set_same (Pl.mixN (Pl.dnew (plus l) ds ps b0) (fun j => ps.getD j 0) q t) t (ps.getD t 0) (by rw [Pl.mixN_len]; exact htq) (by rw [Pl.mixN_at _ _ htq, if_neg (Nat.lt_irrefl t)]))
                rw [Pl.mixN_at _ _ htq, if_neg (Nat.lt_irrefl t)] at hco
                have hcs := IS.out.cell t (by rw [Pl.mixN_len]; exact htq)
                rw [Pl.mixN_at _ _ htq, if_pos htq] at hcs
                have OS := Lib.hid (fun x => own_int_set HOW.out t x)
                rw [hdt] at EN
                rw [EN.out] at ESET
                clear hdt EN
                generalize ds[t] = dv at *
                generalize Pl.dsup ps (plus l) t = sv at *
                obtain ⟨pv, hpv⟩ : ∃ pv, pv = ps.getD t 0 := ⟨_, rfl⟩
                rw [← hpv] at ESET hco ESAME x0 x1
                have HPV := Lib.hid hpv
                clear hpv
                have t0 : (0 : Int) ≤ (t : Int) := by omega
                have t1 : (t : Int) < (q : Int) := by omega
                have wp : IntKind.i64.wrap (pv + b0) = pv + b0 := IntWalk.i64_in _ (by omega)
                have wm : IntKind.i64.wrap (pv - b0) = pv - b0 := IntWalk.i64_in _ (by omega)
                have imax := HMX.out
                have imin : ∀ a b : Int, (if b < a then b else a) = min a b := ite_min
                have hgg : gs ≠ go := by omega
                clear hco
                by_cases hsd : sv < dv
                · rw [if_pos hsd] at ESET
                  go_wp2_with fail
                  have q1 := Wd.cell hcs
                  have q2 := Wd.cell hc5
                  clear hcs hc5
                  refine wp_region_wd (by kernel_rfl) (by kernel_rfl) ?_
                  repeat (go_big_quiet_step (fail))
                  refine wpQuiet_nil ?_
                  rintro _ ⟨w6, rfl⟩
                  have HOW := Lib.hid (own_go HOW.out w6.ok)
                  have IS := Lib.hid (IS.out.go w6.ok)
                  have HB := Lib.hid (HB.out.trans (w6.ok.mono HB.out.size))
                  replace hcs := q1 w6
                  replace hc5 := q2 w6
                  clear q1 q2
                  generalize w6.val = w7 at *
                  clear hcs hc5 OS
                  have hco := own_int_cell HOW.out t htq
                  rw [Pl.mixN_at _ _ htq, if_neg (Nat.lt_irrefl t), ← HPV.out] at hco
                  obtain ⟨cur, bg⟩ := own_blk5 HOW.out
                  have fz := bg.frozen t
                  have lgo := bg.lt
                  clear bg cur
                  go_wp2_with fail
                  have OX := own_int_set HOW.out t (min (pv + b0) 2000000)
                  rw [ESET.out] at OX
                  go_roundw
                  case rel => exact ⟨t + 1, by omega, by go_num, OX, IS.out.far (p := ⟨go, t, none⟩) (by show gs ≠ go; exact hgg) _, HB.out.setCell (p := ⟨go, t, none⟩) (by show w.heap.size ≤ go; omega) _⟩
                  case measure => simp [intOf]; omega
                · rw [if_neg hsd] at ESET
                  have hd1 : decide (sv < dv) = false := decide_eq_false hsd
                  go_wp2_with fail
                  have q1 := Wd.cell hcs
                  have q2 := Wd.cell hc5
                  clear hcs hc5
                  refine wp_region_wd (by kernel_rfl) (by kernel_rfl) ?_
                  repeat (go_big_quiet_step (fail))
                  refine wpQuiet_nil ?_
                  rintro _ ⟨w6, rfl⟩
                  have HOW := Lib.hid (own_go HOW.out w6.ok)
                  have IS := Lib.hid (IS.out.go w6.ok)
                  have HB := Lib.hid (HB.out.trans (w6.ok.mono HB.out.size))
                  replace hcs := q1 w6
                  replace hc5 := q2 w6
                  clear q1 q2
                  generalize w6.val = w7 at *
                  by_cases hds : dv < sv
                  · rw [if_pos hds] at ESET
                    go_wp2_with fail
                    have q1 := Wd.cell hcs
                    have q2 := Wd.cell hc5
                    clear hcs hc5
                    refine wp_region_wd (by kernel_rfl) (by kernel_rfl) ?_
                    repeat (go_big_quiet_step (fail))
                    refine wpQuiet_nil ?_
                    rintro _ ⟨w6, rfl⟩
                    have HOW := Lib.hid (own_go HOW.out w6.ok)
                    have IS := Lib.hid (IS.out.go w6.ok)
                    have HB := Lib.hid (HB.out.trans (w6.ok.mono HB.out.size))
                    replace hcs := q1 w6
                    replace hc5 := q2 w6
                    clear q1 q2
                    generalize w6.val = w7 at *
                    clear hcs hc5 OS
                    have hco := own_int_cell HOW.out t htq
                    rw [Pl.mixN_at _ _ htq, if_neg (Nat.lt_irrefl t), ← HPV.out] at hco
                    obtain ⟨cur, bg⟩ := own_blk5 HOW.out
                    have fz := bg.frozen t
                    have lgo := bg.lt
                    clear bg cur
                    go_wp2_with fail
                    have OX := own_int_set HOW.out t (max (pv - b0) (-2000000))
                    rw [ESET.out] at OX
                    go_roundw
                    case rel => exact ⟨t + 1, by omega, by go_num, OX, IS.out.far (p := ⟨go, t, none⟩) (by show gs ≠ go; exact hgg) _, HB.out.setCell (p := ⟨go, t, none⟩) (by show w.heap.size ≤ go; omega) _⟩
                    case measure => simp [intOf]; omega
                  · rw [if_neg hds, ESAME.out] at ESET
                    go_wp2_with fail
                    have q1 := Wd.cell hcs
                    have q2 := Wd.cell hc5
                    clear hcs hc5
                    refine wp_region_wd (by kernel_rfl) (by kernel_rfl) ?_
                    repeat (go_big_quiet_step (fail))
                    refine wpQuiet_nil ?_
                    rintro _ ⟨w6, rfl⟩
                    have HOW := Lib.hid (own_go HOW.out w6.ok)
                    have IS := Lib.hid (IS.out.go w6.ok)
                    have HB := Lib.hid (HB.out.trans (w6.ok.mono HB.out.size))
                    replace hcs := q1 w6
                    replace hc5 := q2 w6
                    clear q1 q2
                    generalize w6.val = w7 at *
                    clear hcs hc5 OS
                    rw [ESET.out] at HOW
                    go_wp2_with fail
                    go_roundw
                    case rel => exact ⟨t + 1, by omega, by go_num, HOW, IS, HB⟩
                    case measure => simp [intOf]; omega
              · have : t = q := by omega
                subst this
                go_wp2_with fail
                go_ret2
                rw [HX.out]
                have e : Pl.mixN (Pl.dnew (plus l) ds ps b0) (fun j => ps.getD j 0) t t = Pl.mixN (Pl.dnew (plus l) ds ps b0) (fun _ => 0) ps.length ps.length := by rw [L2.out]; exact mixN_full2 _ _ _ _
                rw [e] at HOW
                refine ⟨Ao, co, by simp only [Pl.mixN_len, L2.out]; rfl, ?_, HB.out⟩
                simp only [Pl.mixN_len]
                rw [L2.out] at HOW ⊢
                exact Reads.of_own HOW.out
  · rw [if_pos h0] at HX
    have h2 : (Pl.dchk (plus l) ds ps != 0) = true := by simpa using h0
    clear h0
    generalize Pl.dchk (plus l) ds ps = u at *
    go_enter Try.func9, Try.ntmps9
    go_wp2_with fail
    refine (HC.out _ H.out HQ.out HP.out).mono ?_
    rintro e1 w1 ⟨rfl, hb⟩
    have HB1 := Lib.hid hb
    clear hb HC
    go_wp2_with fail
    go_ret2
    rw [HX.out]
    exact ⟨none, 0, rfl, Reads.none_, HB1.out⟩
end Go.Proofs.Ytchafkocobbndaa
