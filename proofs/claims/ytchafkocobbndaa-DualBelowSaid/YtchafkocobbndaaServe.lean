/- commit.serve: it serves a demand at the least cost, or says that nothing does. Condition: the generators lie in memory as the words of DUnit say, and are valid. -/
import Derived.Test.YtchafkocobbndaaPCommitD
import Derived.Test.YtchafkocobbndaaDUnit
import Derived.Test.YtchafkocobbndaaOfferC
import Derived.Test.YtchafkocobbndaaSrtEC
import Derived.Test.YtchafkocobbndaaOwn
namespace Go.Proofs.Ytchafkocobbndaa
open Go.RowKit
theorem insC_nil (fv : Value) (w : World) : Calls Try.prog 93 #[.slice none 0 0, .int .i64 0, .int .i64 0, fv] w fun e w' => e = .returned (.tuple #[]) ∧ w = w' := by
  go_enter Try.func93, Try.ntmps93
  go_wp2_with fail
  go_loopw [8] (fun i wr => i = .int .i64 1 ∧ w = wr) (fun _ _ => 0)
  case atStart => exact ⟨rfl, rfl⟩
  case round =>
    obtain ⟨rfl, rfl⟩ := hrel
    go_wp2_with fail
    go_end0
    exact ⟨rfl, rfl⟩
theorem stableC_nil (fv : Value) (w : World) : Calls Try.prog 82 #[.slice none 0 0, .int .i64 0, fv] w fun e w' => e = .returned (.tuple #[]) ∧ w = w' := by
  go_enter Try.func82, Try.ntmps82
  go_wp2_with fail
  go_loopw [7, 8] (fun va vb wr => va = .int .i64 0 ∧ vb = .int .i64 20 ∧ w = wr) (fun _ _ _ => 0)
  case atStart => exact ⟨rfl, rfl, rfl⟩
  case round =>
    obtain ⟨rfl, rfl, rfl⟩ := hrel
    go_wp2_with fail
    refine (insC_nil _ _).mono ?_
    rintro e w1 ⟨rfl, rfl⟩
    obtain ⟨wo, rfl⟩ : ∃ wo : World, wo = w := ⟨_, rfl⟩
    go_wp2_with fail
    go_loopw [6] (fun vs wr => vs = .int .i64 20 ∧ wo = wr) (fun _ _ => 0)
    case atStart => exact ⟨rfl, rfl⟩
    case round =>
      obtain ⟨rfl, rfl⟩ := hrel
      go_wp2_with fail
      go_end0
      exact ⟨rfl, rfl⟩
theorem sortC_nil (fv : Value) (w : World) : Calls Try.prog 75 #[.slice none 0 0, fv] w fun e w' => e = .returned (.tuple #[]) ∧ w = w' := by
  go_enter Try.func75, Try.ntmps75
  go_wp2_with fail
  refine (stableC_nil _ _).mono ?_
  rintro e w1 ⟨rfl, rfl⟩
  go_wp2_with fail
  go_end0
  exact ⟨rfl, rfl⟩
namespace Pl
def ccf (x y : B3) : Int := x.2.2 - y.2.2
theorem ccf_swo : Sort.SWO (Srt.ltOf ccf) := by
  constructor
  · intro x; unfold Srt.ltOf ccf; simp
  · intro x y z; unfold Srt.ltOf ccf; simp only [decide_eq_true_eq]; omega
  · intro x y z; unfold Srt.ltOf ccf; simp only [decide_eq_false_iff_not]; omega
theorem sortedC_of {S0 : List B3} {m : Nat} {d : Array B3} (hm : S0.length = m) (hz : d.size = m) (hp : Sort.PermIn 0 m S0.toArray d) (hs : Sort.SortedIn (Srt.ltOf ccf) 0 m d) :
    d.toList.Perm S0 ∧ d.toList.Pairwise (fun a b => a.2.2 ≤ b.2.2) := by
  subst hm
  refine ⟨?_, ?_⟩
  · have h := hp.2.2
    rw [show d.extract 0 S0.length = d from by rw [← hz]; simp, show S0.toArray.extract 0 S0.length = S0.toArray from by
      apply Array.ext'
      simp [List.take_of_length_le]] at h
    first
      | exact h
      | exact h.symm
      | simpa using h
      | simpa using h.symm
  · rw [List.pairwise_iff_getElem]
    intro i j hi hj hij
    have hj2 : j < S0.length := by rw [Array.length_toList] at hj; omega
    have h := hs i j (Nat.zero_le _) hij hj2
    rw [getElem!_pos d i (by omega), getElem!_pos d j (by omega)] at h
    unfold Srt.ltOf ccf at h
    simp only [decide_eq_false_iff_not] at h
    simp only [Array.getElem_toList]
    omega
end Pl
theorem enters_serve1 : ∀ args w, Sem.run Try.prog (callFunc 76 args) w = .ok (.enter 76 args) w := by intro args w; go_simp
set_option maxRecDepth 100000 in
theorem serve1_any (x y : Int × Int × Int) (w : World) (hx : -1000000 ≤ x.2.2 ∧ x.2.2 ≤ 1000000) (hy : -1000000 ≤ y.2.2 ∧ y.2.2 ≤ 1000000) :
    Calls Try.prog 76 #[Srt.valC x, Srt.valC y] w fun e w' => e = .returned (.int .i64 (Pl.ccf x y)) ∧ Below w.heap.size w w' := by
  obtain ⟨a, b, c⟩ := x
  obtain ⟨a', b', c'⟩ := y
  simp only at hx hy
  unfold Srt.valC Pl.ccf
  simp only
  go_enter Try.func76, Try.ntmps76
  go_wp2_with fail
  go_ret
  exact ⟨rfl, ((Below.refl _ _).alloc (Nat.le_refl _) _).alloc (by simp) _⟩
theorem info_cblock : (Try.prog.info? 139).map (fun i => (i.zero, i.size, i.bytes)) = some (some (.agg #[.int .i64 0, .int .i64 0, .int .i64 0]), 3, 24) := by kernel_rfl
theorem flat_snocC (S : List Pl.B3) (b : Pl.B3) : (S ++ [b]).flatMap Srt.encC = S.flatMap Srt.encC ++ [.int .i64 b.1, .int .i64 b.2.1, .int .i64 b.2.2] := by
  rw [List.flatMap_append]; rfl
theorem flat_lenC (S : List Pl.B3) : (S.flatMap Srt.encC).length = S.length * 3 := by
  induction S with
  | nil => rfl
  | cons b S ih => rw [List.flatMap_cons, List.length_append, ih]; simp [Srt.encC]; omega
theorem Reads.c3_at {w : World} {B n : Nat} {A : Option Addr} {S : List Pl.B3} (h : Reads w B 3 A n (S.flatMap Srt.encC)) {k : Nat} (hk : k < n) :
    ∃ b o, A = some ⟨b, o, none⟩ ∧ ∃ hl : k < S.length, w.cell? ⟨b, o + k * 3, none⟩ = some (.int .i64 (S[k]'hl).1) ∧ w.cell? ⟨b, o + k * 3 + 1, none⟩ = some (.int .i64 (S[k]'hl).2.1) ∧ w.cell? ⟨b, o + k * 3 + 2, none⟩ = some (.int .i64 (S[k]'hl).2.2) := by
  obtain ⟨b, o, rfl, _, hc⟩ := h.where_ (by omega) (by omega)
  have hl : k < S.length := by have := h.1; rw [flat_lenC] at this; omega
  refine ⟨b, o, rfl, hl, ?_, ?_, ?_⟩
  · have := hc (k * 3) (.int .i64 S[k].1) (by have := Srt.flat_at Srt.encC 3 (fun _ => rfl) S k 0 hl (by omega); rw [Nat.add_zero] at this; rw [this]; rfl)
    exact this
  · have := hc (k * 3 + 1) (.int .i64 S[k].2.1) (by rw [Srt.flat_at Srt.encC 3 (fun _ => rfl) S k 1 hl (by omega)]; rfl)
    rwa [← Nat.add_assoc] at this
  · have := hc (k * 3 + 2) (.int .i64 S[k].2.2) (by rw [Srt.flat_at Srt.encC 3 (fun _ => rfl) S k 2 hl (by omega)]; rfl)
    rwa [← Nat.add_assoc] at this
/-- cells of truth values -/
def bools (n : Nat) (on : Nat → Bool) : List Value := (List.range n).map fun i => .bool (on i)
theorem Reads.bool_at {w : World} {B n : Nat} {A : Option Addr} {on : Nat → Bool} (h : Reads w B 1 A n (bools n on)) {k : Nat} (hk : k < n) :
    ∃ b o, A = some ⟨b, o, none⟩ ∧ w.cell? ⟨b, o + k, none⟩ = some (.bool (on k)) := by
  obtain ⟨b, o, rfl, _, hc⟩ := h.where_ (by omega) (by omega)
  exact ⟨b, o, rfl, hc k _ (by unfold bools; rw [List.getElem?_map, List.getElem?_range hk]; rfl)⟩
/-- what serve returns -/
def ServeSaid (l : List Pl.CU) (on : Nat → Bool) (n : Nat) (d : Int) (w : World) (e : Ending) (w' : World) : Prop :=
  ∃ (A : Option Addr) (m c : Nat) (cost : Int) (ok : Bool), e = .returned (.tuple #[.slice A m c, .int .i64 cost, .bool ok]) ∧ Below w.heap.size w w' ∧ (ok = false → ∀ xs, Pl.Fits l on xs → Pl.psum l xs ≠ d) ∧
    (ok = true → ∃ ps, m = n ∧ Pl.Srv l on d ps cost ∧ w'.ownsRow w.heap.size 3 1 (.slice A n c) n (ints ps))
theorem plus_cu {l : List MU} {k : Nat} (hk : k < l.length) : Pl.cu (plus l) k = plu l[k] := by
  unfold Pl.cu plus
  rw [List.getD_eq_getElem?_getD, List.getElem?_map, List.getElem?_eq_getElem hk]
  rfl
/-- a generator loaded out of a slice -/
theorem Unis.cells5 {w : World} {A : Option Addr} {n : Nat} {l : List MU} (h : Unis w A n l) {k : Nat} (hk : k < n) :
    ∃ b o, A = some ⟨b, o, none⟩ ∧ ∃ u, (∃ hl : k < l.length, u = l[k]'hl) ∧ w.cell? ⟨b, o + k * 13, none⟩ = some (.string u.r.name) ∧ w.cell? ⟨b, o + k * 13 + 1, none⟩ = some (.int .i64 u.r.least) ∧ w.cell? ⟨b, o + k * 13 + 2, none⟩ = some (.int .i64 u.r.most) ∧ w.cell? ⟨b, o + k * 13 + 3, none⟩ = some (.int .i64 u.r.up) ∧ w.cell? ⟨b, o + k * 13 + 4, none⟩ = some (.int .i64 u.r.down) ∧ w.cell? ⟨b, o + k * 13 + 5, none⟩ = some (.int .i64 u.r.minOn) ∧ w.cell? ⟨b, o + k * 13 + 6, none⟩ = some (.int .i64 u.r.minOff) ∧ w.cell? ⟨b, o + k * 13 + 7, none⟩ = some (.int .i64 u.r.start) ∧ w.cell? ⟨b, o + k * 13 + 8, none⟩ = some (.string u.nm) ∧ w.cell? ⟨b, o + k * 13 + 9, none⟩ = some (.slice u.A u.n u.c) ∧ w.cell? ⟨b, o + k * 13 + 10, none⟩ = some (.bool u.s.on) ∧ w.cell? ⟨b, o + k * 13 + 11, none⟩ = some (.int .i64 u.s.since) ∧ w.cell? ⟨b, o + k * 13 + 12, none⟩ = some (.int .i64 u.s.power) ∧ UnIn w u := by
  obtain ⟨b, o, rfl, hl, cc, hin⟩ := h.at_ hk
  exact ⟨b, o, rfl, _, ⟨hl, rfl⟩, cc 0 _ rfl, cc 1 _ rfl, cc 2 _ rfl, cc 3 _ rfl, cc 4 _ rfl, cc 5 _ rfl, cc 6 _ rfl, cc 7 _ rfl, cc 8 _ rfl, cc 9 _ rfl, cc 10 _ rfl, cc 11 _ rfl, cc 12 _ rfl, hin⟩
set_option maxHeartbeats 6400000 in
set_option maxRecDepth 100000 in
theorem serve_any (A O : Option Addr) (n c co : Nat) (l : List MU) (on : Nat → Bool) (d : Int) (w : World) (hn3 : n ≤ 3) (hl : ∀ u ∈ plus l, Pl.duCheck u = 0) (d0 : 0 ≤ d) (d1 : d ≤ 1000000) (h : Unis w A n l) (hq : Reads w w.heap.size 1 O n (bools n on)) :
    Calls Try.prog 51 #[.slice A n c, .slice O n co, .int .i64 d] w (ServeSaid (plus l) on n d w) := by
  have L1 := Lib.hid h.len
  have H := Lib.hid h
  have HQ := Lib.hid hq
  have HU := Lib.hid hl
  have LP : Hid ((plus l).length = n) := by show _ = _; rw [plus_len]; exact L1.out
  have HKB := Lib.hid (fun k hk => Pl.sK_bd hl on d k hk)
  have HCL := Lib.hid (fun k hk => Pl.cut_len hl on k hk)
  have HCB := Lib.hid (fun k hk => Pl.cut_blocks (plus l) on k hk)
  rw [LP.out] at HKB HCL HCB
  have HRS := Lib.hid (Pl.sremK_succ (plus l) on d)
  have HBS := Lib.hid (Pl.sbaseK_succ (plus l) on)
  obtain ⟨i0, hi0, hz0, hz1, hz2⟩ := info_parts info_cblock
  obtain ⟨j0, ji0, jz0, jz1, jz2⟩ := info_parts info_int
  have hmk : ∀ w, (Instr.makeSlice 23 (.int .i64 (n : Int)) (.int .i64 (n : Int))).run Try.prog w = .ok (.slice (some ⟨w.heap.size, 0, none⟩) n n) (w.alloc (.cells (madeCells #[.int .i64 0] n) 3)) := fun w => by
    have := run_make (P := Try.prog) w 23 3 j0 (.int .i64 0) Try.underlying23 ji0 jz0 .i64 .i64 n n (by omega) (by omega) (by rw [jz2]; omega) (by omega)
    rw [jz1, show (Value.int .i64 0).cells = #[.int .i64 0] from rfl] at this
    simpa using this
  generalize hz : madeCells #[Value.int .i64 0] n = ZC at hmk
  have HZL : Hid (ZC.toList = ints (List.replicate n 0)) := by show _ = _; rw [← hz, toList_madeCells_one]; simp [ints]
  have HMN : Hid (∀ a b : Int, (if b < a then b else a) = min a b) := ite_min
  clear hz ji0 jz0 jz1 jz2 h hq hl
  go_enter Try.func51, Try.ntmps51
  go_wp2_with fail
  have IP : Hid (IBlk (w.alloc (.cells ZC 3)) w.heap.size 3 (Pl.mixN (Pl.slow (plus l) on) (fun _ => 0) n 0)) := by rw [Pl.mixN_zero]; exact IBlk.new_ _ _ _ _ rfl HZL.out
  have HB0 := Lib.hid ((Below.refl w.heap.size w).alloc (Nat.le_refl _) (.cells ZC 3))
  have hgs : (w.alloc (.cells ZC 3)).heap.size = w.heap.size + 1 := by simp
  clear hmk
  generalize w.alloc (.cells ZC 3) = w1 at *
  have HGS := Lib.hid hgs
  clear hgs
  go_loopw [2, 10, 11, 28] (fun vd vc va i wr => ∃ (k : Nat) (Ab : Option Addr) (cb : Nat), k ≤ n ∧ i = .int .i64 k ∧ vd = .int .i64 (Pl.sremK (plus l) on d k) ∧ vc = .int .i64 (Pl.sbaseK (plus l) on k) ∧ va = .slice Ab (Pl.blocksK (Pl.cutO (plus l) on) k).length cb ∧ Hid (wr.ownsRow (w.heap.size + 1) 139 3 (.slice Ab (Pl.blocksK (Pl.cutO (plus l) on) k).length cb) (Pl.blocksK (Pl.cutO (plus l) on) k).length ((Pl.blocksK (Pl.cutO (plus l) on) k).flatMap Srt.encC)) ∧ Hid (IBlk wr w.heap.size 3 (Pl.mixN (Pl.slow (plus l) on) (fun _ => 0) n k)) ∧ Hid (Below w.heap.size w wr)) (fun _ _ _ i _ => n - (intOf i).toNat)
  case atStart => exact ⟨0, none, 0, Nat.zero_le _, rfl, vint (by simp [Pl.sremK, Pl.sumN]), rfl, rfl, World.ownsRow_nil _ _ _ _, IP, HB0⟩
  case round =>
    clear IP HB0
    obtain ⟨k, Ab, cb, hk, rfl, rfl, rfl, rfl, OF, IP, HB⟩ := hrel
    by_cases hlt : k < n
    · obtain ⟨b, o, rfl, u, ⟨hl1, hu⟩, c0, c1, c2, c3, c4, c5, c6, c7, c8, c9, c10, c11, c12, hin⟩ := (H.out.go HB.out).cells5 hlt
      obtain ⟨b5, o5, rfl, hco⟩ := (HQ.out.go HB.out).bool_at hlt
      have hbO : b5 < w.heap.size := by
        obtain ⟨ad, e, hb, _⟩ := HQ.out.2 (by omega)
        cases e
        exact hb
      have hck : Pl.duCheck (plu u) = 0 := HU.out _ (List.mem_map.2 ⟨u, by rw [hu]; exact List.getElem_mem hl1, rfl⟩)
      have hin0 : UnIn w u := by rw [hu]; exact H.out.2 _ (List.getElem_mem hl1)
      have HCU : Hid (Pl.cu (plus l) k = plu u) := by show _ = _; rw [hu]; exact plus_cu hl1
      obtain ⟨b1, b2, b3, b4⟩ := HKB.out k (by omega)
      have hlen := HCL.out k (by omega)
      have HR1 := Lib.hid (HRS.out k)
      have HC1 := Lib.hid (HBS.out k)
      have HB1 := Lib.hid (HCB.out k hlt)
      have EP := Lib.hid (Pl.mixN_set (Pl.slow (plus l) on) (fun _ => 0) n k)
      have ESL : Hid (Pl.slow (plus l) on k = if on k then (Pl.cu (plus l) k).r.least else -1) := rfl
      rw [HCU.out] at HR1 HC1 HB1 ESL
      obtain ⟨hgd, hl0, hlm, hm5, htm⟩ := Pl.unit_facts hck
      have hlc := Pl.least_cost hck
      have HOC : Hid (Pl.ocheck u.nm u.st = 0) := (Pl.duCheck_ok hck).2.1
      have HIN := Lib.hid hin
      have HUN := Lib.hid hin0
      have HCO := Lib.hid (fun (x : Int) (w : World) h => oCost_any u.nm u.A u.n u.c u.st x w HIN.out.2.1 h)
      have HPC : Hid (Pl.oCost u.nm u.st u.r.least = (Pl.ocost u.st u.r.least, 0)) := by
        have : Pl.opcheck u.nm u.st u.r.least = 0 := by unfold Pl.opcheck; rw [if_neg (by rw [HOC.out]; simp), if_neg (by have e : Pl.total u.st = (plu u).r.most := htm; have e2 : (plu u).r.least = u.r.least := rfl; omega)]
        show _ = _
        unfold Pl.oCost; rw [if_neg (by simpa using this)]
      have HGS1 : Hid (∀ p ∈ u.st, 1 ≤ p.1 ∧ p.1 ≤ 100000 ∧ -1000000 ≤ p.2 ∧ p.2 ≤ 1000000) := hgd.step
      have h12 : Hid (u.st.length ≤ 12) := (Pl.ocheck_ok HOC.out).2.1
      have hm6 : (plu u).r.least ≤ 100000 := Int.le_trans hlm hm5
      clear hu hck hgd hin hin0 hl1 hm5 htm
      unfold TwoSaid vOff at HCO
      obtain ⟨⟨rn, r1, r2, r3, r4, r5, r6, r7⟩, nm, Az, nz, cz, st, ⟨s1, s2, s3⟩⟩ := u
      simp only [plu] at c0 c1 c2 c3 c4 c5 c6 c7 c8 c9 c10 c11 c12 HR1 HC1 HB1 ESL hl0 hlm hlc HCO HPC HGS1 h12 hm6
      have hbP := IP.out.lt
      have fz := IP.out.frozen k
      have cP := IP.out.cell k (by rw [Pl.mixN_len]; exact hlt)
      generalize hold : (Pl.mixN (Pl.slow (plus l) on) (fun _ => 0) n k).getD k 0 = old at *
      clear hold
      have AL := Lib.hid ((Below.refl wr.heap.size wr).alloc (Nat.le_refl _) (.cells #[.string rn, .int .i64 r1, .int .i64 r2, .int .i64 r3, .int .i64 r4, .int .i64 r5, .int .i64 r6, .int .i64 r7, .string nm, .slice Az nz cz, .bool s1, .int .i64 s2, .int .i64 s3] 35))
      have HIN0 := Lib.hid (HIN.out.2.2.2.go AL.out)
      have BX0 := Lib.hid (Blk.new_ wr wr.heap.size 35 #[.string rn, .int .i64 r1, .int .i64 r2, .int .i64 r3, .int .i64 r4, .int .i64 r5, .int .i64 r6, .int .i64 r7, .string nm, .slice Az nz cz, .bool s1, .int .i64 s2, .int .i64 s3] rfl)
      have IP0 := Lib.hid (IP.out.go AL.out)
      have HB0 := Lib.hid (HB.out.trans (AL.out.mono HB.out.size))
      have OF0 := Lib.hid (own_go OF.out AL.out)
      have hbO2 : b5 < wr.heap.size := Nat.lt_of_lt_of_le hbO HB.out.size
      have hne1 : b5 ≠ w.heap.size := by omega
      have hne2 : w.heap.size ≠ b5 := by omega
      have hne3 : w.heap.size ≠ wr.heap.size := by omega
      have hne4 : wr.heap.size ≠ w.heap.size := by omega
      have k0 : (0 : Int) ≤ (k : Int) := by omega
      have k1 : (k : Int) < (n : Int) := by omega
      have hgz := HGS.out
      have lw1 : w.heap.size < w.heap.size + 1 := Nat.lt_succ_self _
      cases ho : on k
      · rw [ho] at HR1 HC1 HB1 ESL hco
        simp only [Bool.false_eq_true, if_false, Int.sub_zero, Int.add_zero, List.map_nil, List.append_nil] at HR1 HC1 HB1 ESL
        rw [ESL.out] at EP
        clear HGS1 h12 HPC HCO ho hlc hgz
        go_wp2_with fail
        go_roundw
        case rel =>
          refine ⟨k + 1, Ab, cb, by omega, by go_num, vint HR1.out.symm, vint HC1.out.symm, by rw [HB1.out], ?_, ?_, (HB.out.setCell (p := ⟨w.heap.size, k, none⟩) (Nat.le_refl _) _).alloc (by simp; omega) _⟩
          · rw [HB1.out]
            exact own_go (own_far OF.out (p := ⟨w.heap.size, k, none⟩) lw1 _) ((Below.refl _ _).alloc (Nat.le_refl _) _)
          · show IBlk _ _ _ _
            rw [← EP.out]
            exact (IP.out.set_ k (-1)).alloc _
        case measure => simp [intOf]; omega
      · rw [ho] at HR1 HC1 HB1 ESL hco
        simp only [if_true] at HR1 HC1 HB1 ESL
        rw [ESL.out] at EP
        clear ho hgz
        have hr0 : 0 ≤ r1 := hl0
        go_wp2_with fail
        have HB2 := Lib.hid ((HB.out.setCell (p := ⟨w.heap.size, k, none⟩) (Nat.le_refl _) (.int .i64 (-1))).setCell (p := ⟨w.heap.size, k, none⟩) (Nat.le_refl _) (.int .i64 r1))
        have HBA := Lib.hid (HB2.out.alloc HB2.out.size (.cells #[.string rn, .int .i64 r1, .int .i64 r2, .int .i64 r3, .int .i64 r4, .int .i64 r5, .int .i64 r6, .int .i64 r7, .string nm, .slice Az nz cz, .bool s1, .int .i64 s2, .int .i64 s3] 35))
        have HAL : Hid (Below ((wr.setCell ⟨w.heap.size, k, none⟩ (.int .i64 (-1))).setCell ⟨w.heap.size, k, none⟩ (.int .i64 r1)).heap.size ((wr.setCell ⟨w.heap.size, k, none⟩ (.int .i64 (-1))).setCell ⟨w.heap.size, k, none⟩ (.int .i64 r1)) (((wr.setCell ⟨w.heap.size, k, none⟩ (.int .i64 (-1))).setCell ⟨w.heap.size, k, none⟩ (.int .i64 r1)).alloc (.cells #[.string rn, .int .i64 r1, .int .i64 r2, .int .i64 r3, .int .i64 r4, .int .i64 r5, .int .i64 r6, .int .i64 r7, .string nm, .slice Az nz cz, .bool s1, .int .i64 s2, .int .i64 s3] 35))) := (Below.refl _ _).alloc (Nat.le_refl _) _
        have IPA : Hid (IBlk (((wr.setCell ⟨w.heap.size, k, none⟩ (.int .i64 (-1))).setCell ⟨w.heap.size, k, none⟩ (.int .i64 r1)).alloc (.cells #[.string rn, .int .i64 r1, .int .i64 r2, .int .i64 r3, .int .i64 r4, .int .i64 r5, .int .i64 r6, .int .i64 r7, .string nm, .slice Az nz cz, .bool s1, .int .i64 s2, .int .i64 s3] 35)) w.heap.size 3 (Pl.mixN (Pl.slow (plus l) on) (fun _ => 0) n (k + 1))) := by
          have := ((IP.out.set_ k (-1)).set_ k r1).alloc (.cells #[.string rn, .int .i64 r1, .int .i64 r2, .int .i64 r3, .int .i64 r4, .int .i64 r5, .int .i64 r6, .int .i64 r7, .string nm, .slice Az nz cz, .bool s1, .int .i64 s2, .int .i64 s3] 35)
          rw [List.set_set, EP.out] at this
          exact this
        have BXA : Hid (Blk (((wr.setCell ⟨w.heap.size, k, none⟩ (.int .i64 (-1))).setCell ⟨w.heap.size, k, none⟩ (.int .i64 r1)).alloc (.cells #[.string rn, .int .i64 r1, .int .i64 r2, .int .i64 r3, .int .i64 r4, .int .i64 r5, .int .i64 r6, .int .i64 r7, .string nm, .slice Az nz cz, .bool s1, .int .i64 s2, .int .i64 s3] 35)) wr.heap.size 35 #[.string rn, .int .i64 r1, .int .i64 r2, .int .i64 r3, .int .i64 r4, .int .i64 r5, .int .i64 r6, .int .i64 r7, .string nm, .slice Az nz cz, .bool s1, .int .i64 s2, .int .i64 s3]) := Blk.new_ ((wr.setCell ⟨w.heap.size, k, none⟩ (.int .i64 (-1))).setCell ⟨w.heap.size, k, none⟩ (.int .i64 r1)) wr.heap.size _ _ (by simp)
        have OFA := Lib.hid (own_go (own_far (own_far OF.out (p := ⟨w.heap.size, k, none⟩) lw1 (.int .i64 (-1))) (p := ⟨w.heap.size, k, none⟩) lw1 (.int .i64 r1)) HAL.out)
        have hpk : (Pl.mixN (Pl.slow (plus l) on) (fun _ => 0) n (k + 1)).getD k 0 = r1 := by
          rw [Pl.mixN_at _ _ hlt, if_pos (Nat.lt_succ_self k)]; exact ESL.out
        have cpk := IPA.out.cell k (by rw [Pl.mixN_len]; exact hlt)
        rw [hpk] at cpk
        have HCO1 : Hid (∀ w : World, Reads w w.heap.size 2 Az nz (pairs st) → Calls Try.prog 33 #[.agg #[.string nm, .slice Az nz cz], .int .i64 r1] w fun e w' => e = .returned (.tuple #[.int .i64 (Pl.ocost st r1), .int .i64 0]) ∧ Below w.heap.size w w') := fun w h => by
          have := HCO.out r1 w h
          rw [HPC.out] at this
          exact this
        have HRD := Lib.hid HUN.out.2.2.2
        clear HCO HPC HB2 HAL hpk IP0 HB0 OF0 BX0 AL HIN0 IP OF HIN c0 c1 c2 c3 c4 c5 c6 c7 c8 c9 c10 c11 c12 hco fz cP hne1 hne2 hne3 hne4
        generalize ((wr.setCell ⟨w.heap.size, k, none⟩ (.int .i64 (-1))).setCell ⟨w.heap.size, k, none⟩ (.int .i64 r1)).alloc (.cells #[.string rn, .int .i64 r1, .int .i64 r2, .int .i64 r3, .int .i64 r4, .int .i64 r5, .int .i64 r6, .int .i64 r7, .string nm, .slice Az nz cz, .bool s1, .int .i64 s2, .int .i64 s3] 35) = wa at *
        have r8 := Wd.cell (BXA.out.cell 8)
        have r9 := Wd.cell (BXA.out.cell 9)
        have rk := Wd.cell cpk
        refine wp_region_wd (by kernel_rfl) (by kernel_rfl) ?_
        repeat (go_big_quiet_step ((go_at_call 33; exact Calls.wd (HCO1.out _ (HRD.out.go (HBA.out.trans ((Wd.ok _).mono HBA.out.size)))))))
        refine wpQuiet_nil ?_
        rintro _ ⟨w6, rfl⟩
        have HBB := Lib.hid (HBA.out.trans (w6.ok.mono HBA.out.size))
        have BXB := Lib.hid (BXA.out.go w6.ok)
        have IPB := Lib.hid (IPA.out.go w6.ok)
        have OFB := Lib.hid (own_go OFA.out w6.ok)
        have cpk2 := rk w6
        clear r8 r9 rk cpk HBA BXA IPA OFA
        generalize w6.val = w7 at *
        have b9 := BXB.out.cell 9
        go_wp2_with fail
        have HRB := Lib.hid (HRD.out.go HBB.out)
        have HNZ := Lib.hid HRD.out.pair_len
        have hnz : nz ≤ 12 := Nat.le_trans (Nat.le_of_eq HNZ.out.symm) h12.out
        have HR1B := Lib.hid (fun j => Pl.remU_bd (st := st.take j) (fun p hp => (HGS1.out p (List.mem_of_mem_take hp)).1) r1 hr0)
        clear cpk2 BXB b9 HCO1
        generalize hS0 : Pl.blocksK (Pl.cutO (plus l) on) k = S0 at *
        have HS0 := Lib.hid hS0
        clear hS0
        go_loopw [11, 16, 74] (fun v u i wr => ∃ (j : Nat) (Ab : Option Addr) (cb : Nat), j ≤ nz ∧ i = .int .i64 j ∧ u = .int .i64 (Pl.remU r1 (st.take j)) ∧ v = .slice Ab (S0 ++ (Pl.cutU r1 (st.take j)).map fun s => ((k : Int), s.1, s.2)).length cb ∧ Hid (wr.ownsRow (w.heap.size + 1) 139 3 (.slice Ab (S0 ++ (Pl.cutU r1 (st.take j)).map fun s => ((k : Int), s.1, s.2)).length cb) (S0 ++ (Pl.cutU r1 (st.take j)).map fun s => ((k : Int), s.1, s.2)).length ((S0 ++ (Pl.cutU r1 (st.take j)).map fun s => ((k : Int), s.1, s.2)).flatMap Srt.encC)) ∧ Hid (IBlk wr w.heap.size 3 (Pl.mixN (Pl.slow (plus l) on) (fun _ => 0) n (k + 1))) ∧ Hid (Below w.heap.size w wr)) (fun _ _ i _ => nz - (intOf i).toNat)
        case atStart => exact ⟨0, Ab, cb, Nat.zero_le _, rfl, rfl, by simp [Pl.cutU], by simpa [Pl.cutU] using OFB, IPB, HBB⟩
        case round =>
          clear OFB IPB HBB HRB
          obtain ⟨j, Ab, cb, hj, rfl, rfl, rfl, OF, IP, HB⟩ := hrel
          by_cases hltj : j < nz
          · obtain ⟨b2, o2, rfl, hl2, d1, d2⟩ := (HRD.out.go HB.out).pair_at hltj
            obtain ⟨v0, v1⟩ := HR1B.out j
            obtain ⟨x0, x1, y0, y1⟩ := HGS1.out _ (List.getElem_mem hl2)
            have HRN : Hid (Pl.remU r1 (st.take (j + 1)) = Pl.remU r1 (st.take j) - min (Pl.remU r1 (st.take j)) st[j].1) := by show _ = _; rw [List.take_succ_eq_append_getElem hl2, Pl.remU_snoc]
            have HSN : Hid (S0 ++ ((Pl.cutU r1 (st.take (j + 1))).map fun s => ((k : Int), s.1, s.2)) = (S0 ++ (Pl.cutU r1 (st.take j)).map fun s => ((k : Int), s.1, s.2)) ++ ((if min (Pl.remU r1 (st.take j)) st[j].1 < st[j].1 then [(st[j].1 - min (Pl.remU r1 (st.take j)) st[j].1, st[j].2)] else []).map fun s => ((k : Int), s.1, s.2))) := by
              show _ = _
              rw [List.take_succ_eq_append_getElem hl2, Pl.cutU_snoc, List.map_append, List.append_assoc]
            have hSL : (S0 ++ (Pl.cutU r1 (st.take j)).map fun s => ((k : Int), s.1, s.2)).length ≤ 100 := by
              rw [List.length_append, List.length_map]
              have e1 := Pl.cutU_len r1 (st.take j)
              have e2 : (st.take j).length ≤ 12 := by rw [List.length_take]; omega
              omega
            generalize Pl.remU r1 (st.take j) = v at *
            generalize (S0 ++ (Pl.cutU r1 (st.take j)).map fun s => ((k : Int), s.1, s.2)) = SJ at *
            generalize st[j] = pq at *
            obtain ⟨x, y⟩ := pq
            simp only at d1 d2 HSN HRN x0 x1 y0 y1
            have hsz := HB.out.size
            have hf := flat_lenC SJ
            have OF1 := Lib.hid (own_go OF.out (w' := wr.alloc (.cells #[.int .i64 x, .int .i64 y] 45)) ((Below.refl _ _).alloc (Nat.le_refl _) _))
            have IP1 := Lib.hid (IP.out.alloc (.cells #[.int .i64 x, .int .i64 y] 45))
            have HB2 := Lib.hid (HB.out.alloc HB.out.size (.cells #[.int .i64 x, .int .i64 y] 45))
            rcases Int.lt_or_le v x with hm | hm
            · rw [show min v x = v from by omega] at HSN HRN
              rw [if_pos hm] at HSN
              have HFS : Hid ((SJ ++ [((k : Int), x - v, y)]).flatMap Srt.encC = SJ.flatMap Srt.encC ++ [.int .i64 k, .int .i64 (x - v), .int .i64 y]) := flat_snocC SJ ((k : Int), x - v, y)
              generalize SJ.flatMap Srt.encC = X0 at *
              go_wp2_with (at_builtin; go_must (refine wpList_append_grow _ rfl (.tmp 89) (.tmp 98) 137 rfl (w.heap.size + 1) 139 i0 _ 3 24 Try.underlying137 hi0 hz0 hz1 hz2 rfl (by decide) (.slice Ab SJ.length cb) SJ.length X0 rfl OF1.out (by simp; omega) #[.int .i64 k, .int .i64 (x - v), .int .i64 y] rfl rfl (by simp) (by simp [Value.oneCell']) (by unfold maxLen; omega) (by omega) ?_); intro v' w3 hown3 hg3 hsz3; obtain ⟨A3, c3, rfl, _⟩ := own_slice hown3; have HO3 := Lib.hid hown3; have HG3 := Lib.hid hg3; clear hown3 hg3)
              have HB3 := Lib.hid (below_grown HB2.out HG3.out OF1.out (by omega) (by have := HB.out.size; simp; omega))
              have IP3 := Lib.hid (IP1.out.grown HG3.out (fun e => by have := (OF1.out.lt _ e.symm).1; omega))
              simp only [List.map_cons, List.map_nil] at HSN
              have HLN : Hid ((SJ ++ [((k : Int), x - v, y)]).length = SJ.length + 1) := by show _ = _; simp
              go_roundw
              case rel =>
                refine ⟨j + 1, A3, c3, by omega, by go_num, vint (by rw [HRN.out]; omega), ?_, ?_, IP3, HB3⟩
                · rw [HSN.out, HLN.out]
                · rw [HSN.out, HLN.out, HFS.out]; exact HO3.out
              case measure => simp [intOf]; omega
            · rw [show min v x = x from by omega] at HSN HRN
              rw [if_neg (Int.lt_irrefl _)] at HSN
              simp only [List.map_nil, List.append_nil] at HSN
              clear IP1 hf
              have hite : (if x < v then x else v) = x := by split <;> omega
              go_wp2_with fail
              go_roundw
              case rel =>
                refine ⟨j + 1, Ab, cb, by omega, by go_num, vint HRN.out.symm, ?_, ?_, IP.out.alloc _, HB2⟩
                · rw [HSN.out]
                · rw [HSN.out]; exact OF1.out
              case measure => simp [intOf]; omega
          · have : j = nz := by omega
            subst this
            have HTK : Hid (st.take j = st) := List.take_of_length_le (by rw [HNZ.out]; exact Nat.le_refl _)
            rw [HTK.out] at OF
            clear HR1B
            go_wp2_with fail
            go_roundw
            case rel =>
              refine ⟨k + 1, Ab, cb, by omega, by go_num, vint HR1.out.symm, vint HC1.out.symm, ?_, ?_, IP, HB⟩
              · rw [HB1.out, HTK.out]
              · rw [HB1.out]; exact OF.out
            case measure => simp [intOf]; omega
    · have : k = n := by omega
      subst this
      obtain ⟨b1, b2, b3, b4⟩ := HKB.out k (Nat.le_refl k)
      have hlen := HCL.out k (Nat.le_refl k)
      have ED : Hid (Pl.srem (plus l) on d = Pl.sremK (plus l) on d k) := by show _ = _; rw [← LP.out]; rfl
      have EC : Hid (Pl.sbase (plus l) on = Pl.sbaseK (plus l) on k) := by show _ = _; rw [← LP.out]; rfl
      have ES : Hid (Pl.mixN (Pl.slow (plus l) on) (fun _ => 0) k k = Pl.slows (plus l) on) := by
        have := Pl.slows_mix (plus l) on
        rw [LP.out] at this
        exact this
      rw [ES.out] at IP
      have HLOW : Hid (Pl.sremK (plus l) on d k < 0 → ∀ xs, Pl.Fits (plus l) on xs → Pl.psum (plus l) xs ≠ d) := fun hh xs hx => Pl.serve_low HU.out (by rw [ED.out]; exact hh) xs hx
      have HLAW : Hid (∀ bs : List Pl.B3, bs.Perm (Pl.blocksK (Pl.cutO (plus l) on) k) → bs.Pairwise (fun a b => a.2.2 ≤ b.2.2) → 0 ≤ Pl.sremK (plus l) on d k → ((bs.foldl Pl.dstep (Pl.slows (plus l) on, Pl.sbaseK (plus l) on k, Pl.sremK (plus l) on d k)).2.2 = 0 → Pl.Srv (plus l) on d (bs.foldl Pl.dstep (Pl.slows (plus l) on, Pl.sbaseK (plus l) on k, Pl.sremK (plus l) on d k)).1 (bs.foldl Pl.dstep (Pl.slows (plus l) on, Pl.sbaseK (plus l) on k, Pl.sremK (plus l) on d k)).2.1) ∧ ((bs.foldl Pl.dstep (Pl.slows (plus l) on, Pl.sbaseK (plus l) on k, Pl.sremK (plus l) on d k)).2.2 ≠ 0 → ∀ xs, Pl.Fits (plus l) on xs → Pl.psum (plus l) xs ≠ d)) := fun bs hp hs hh => by
        have := Pl.serve_law HU.out on d (bs := bs) (by rw [LP.out]; exact hp) hs (by rw [ED.out]; exact hh)
        rw [ED.out, EC.out] at this
        exact this
      have HBG : Hid (∀ b ∈ Pl.blocksK (Pl.cutO (plus l) on) k, Pl.GoodB k b) := fun b hb => (Pl.blocksK_good (n := k) (m := k) (fun i hi => Pl.cutO_good HU.out on i (by rw [LP.out]; exact hi)) (Nat.le_refl _) b hb).1
      have HSLB : Hid (∀ g, -1 ≤ (Pl.slows (plus l) on).getD g 0 ∧ (Pl.slows (plus l) on).getD g 0 ≤ 100000) := fun g => by
        by_cases hg : g < (plus l).length
        · rw [Pl.slows_at hg]
          unfold Pl.slow
          obtain ⟨_, c1, c2, c3, _⟩ := Pl.unit_facts (HU.out _ (Pl.cu_mem hg))
          split <;> omega
        · rw [List.getD_eq_getElem?_getD, List.getElem?_eq_none (by rw [Pl.slows_len]; omega)]
          simp
      have HSLN : Hid ((Pl.slows (plus l) on).length = k) := by show _ = _; rw [Pl.slows_len]; exact LP.out
      clear ED EC ES HKB HCL HCB HRS HBS
      generalize Pl.sremK (plus l) on d k = D at *
      generalize Pl.sbaseK (plus l) on k = C at *
      generalize Pl.slows (plus l) on = sl at *
      generalize hBS : Pl.blocksK (Pl.cutO (plus l) on) k = BS at *
      clear hBS
      rcases Int.lt_or_le D 0 with hD | hD
      · go_wp2_with fail
        go_ret3
        exact ⟨none, 0, 0, 0, false, rfl, HB.out, fun _ => HLOW.out hD, by simp⟩
      · have HSORT : Hid (Calls Try.prog 75 #[.slice Ab BS.length cb, .func (.func 76) #[] #[]] wr fun e w6 => e = .returned (.tuple #[]) ∧ ∃ bs : List Pl.B3, bs.Perm BS ∧ bs.Pairwise (fun a b => a.2.2 ≤ b.2.2) ∧ Below w.heap.size w w6 ∧ IBlk w6 w.heap.size 3 sl ∧ w6.ownsRow (w.heap.size + 1) 139 3 (.slice Ab BS.length cb) BS.length (bs.flatMap Srt.encC)) := by
          rcases OF.out.2 with ⟨hv, he⟩ | ⟨g, cap, cur, hv, hg1, _, hcap, _⟩
          · injection hv with hv1 hv2 hv3
            have HE : BS = [] := List.eq_nil_of_length_eq_zero hv2
            subst hv1 hv3
            have hown := OF.out
            rw [HE] at hown ⊢
            refine (sortC_nil _ _).mono ?_
            rintro e w6 ⟨rfl, rfl⟩
            exact ⟨rfl, [], List.Perm.refl _, List.Pairwise.nil, HB.out, IP.out, hown⟩
          · injection hv with hv1 hv2 hv3
            subst hv1 hv3
            have ROW : Srt.Row Srt.encC 3 (w.heap.size + 1) 139 g BS.length cb wr BS.toArray := ⟨by simp, fun _ => rfl, fun _ v hv => by simp [Srt.encC] at hv; rcases hv with rfl | rfl | rfl <;> rfl, hg1, by rw [List.toList_toArray]; exact OF.out⟩
            have HCMP : Srt.CmpOk 76 #[] Srt.valC Pl.ccf (fun x => -1000000 ≤ x.2.2 ∧ x.2.2 ≤ 1000000) g wr := by
              intro wt x y hkp qx qy
              exact serve1_any x y wt qx qy
            have hS := Srt.sortC (w.heap.size + 1) g BS.length cb 76 _ Pl.ccf (fun x => -1000000 ≤ x.2.2 ∧ x.2.2 ≤ 1000000) wr enters_serve1 HCMP Pl.ccf_swo (by omega) BS.toArray wr (Srt.Kp.refl _ _) ROW (fun i hi => by
              rw [getElem!_pos _ i (by simpa using hi)]
              have := HBG.out BS[i] (List.getElem_mem hi)
              simp only [List.getElem_toArray]
              exact ⟨this.2.2.2.2.1, this.2.2.2.2.2⟩)
            refine hS.mono ?_
            rintro e w6 ⟨rfl, d', hrow, hperm, hsort, hdx, hkp⟩
            obtain ⟨hpm, hsd⟩ := Pl.sortedC_of rfl hrow.size hperm hsort
            exact ⟨rfl, d'.toList, hpm, hsd, below_kp HB.out hkp HB.out.size (by omega), IP.out.grown hkp (fun e => by injection e with e; omega), hrow.own⟩
        clear IP HB OF
        go_wp2_with fail
        refine HSORT.out.mono ?_
        rintro e w6 ⟨rfl, bs, hpm, hsd, hb6, hip, hof⟩
        have HLW := Lib.hid (HLAW.out bs hpm hsd hD)
        have HB6 := Lib.hid hb6
        have IP6 := Lib.hid hip
        have OF6 := Lib.hid hof
        have HDL : Hid (bs.length = BS.length) := hpm.length_eq
        have HGB : Hid (∀ b ∈ bs, Pl.GoodB k b) := fun b hb => HBG.out b (hpm.mem_iff.1 hb)
        have HFB := Lib.hid (fun j => Pl.sfill_bd (c := C) hD HSLN.out (bs.take j) fun b hb => HGB.out b (List.mem_of_mem_take hb))
        clear hpm hsd hb6 hip hof HSORT HLAW HLOW HBG
        generalize hlm : BS.length = m at *
        clear hlm
        go_wp2_with fail
        go_loopw [2, 10, 108] (fun v2 v10 i wr => ∃ (j : Nat) (os : List Int) (cs dm : Int), j ≤ m ∧ i = .int .i64 j ∧ v2 = .int .i64 dm ∧ v10 = .int .i64 cs ∧ Hid ((bs.take j).foldl Pl.dstep (sl, C, D) = (os, cs, dm)) ∧ Hid (IBlk wr w.heap.size 3 os) ∧ Hid (wr.ownsRow (w.heap.size + 1) 139 3 (.slice Ab m cb) m (bs.flatMap Srt.encC)) ∧ Hid (Below w.heap.size w wr)) (fun _ _ i _ => m - (intOf i).toNat)
        case atStart => exact ⟨0, sl, C, D, Nat.zero_le _, rfl, rfl, rfl, rfl, IP6, OF6, HB6⟩
        case round =>
          clear IP6 OF6 HB6
          obtain ⟨j, os, cs, dm, hj, rfl, rfl, rfl, HR, IP, OF, HB⟩ := hrel
          obtain ⟨f0, f1, f2, f3, f4, f5⟩ := HFB.out j
          rw [HR.out] at f0 f1 f2 f3 f4 f5
          simp only at f0 f1 f2 f3 f4 f5
          have htl : (bs.take j).length ≤ 36 := by rw [List.length_take, HDL.out]; omega
          by_cases hlt : j < m
          · obtain ⟨b, o, hA, hl1, c1, c2, c3⟩ := (Reads.of_own OF.out).c3_at hlt
            obtain ⟨g0, g1, g2, g3, g4, g5⟩ := HGB.out _ (List.getElem_mem hl1)
            have HSN : Hid ((bs.take (j + 1)).foldl Pl.dstep (sl, C, D) = Pl.dstep (os, cs, dm) bs[j]) := by show _ = _; rw [List.take_succ_eq_append_getElem hl1, Pl.foldl_snocD, HR.out]
            generalize bs[j] = x at *
            obtain ⟨x1, x2, x3⟩ := x
            simp only at c1 c2 c3 g0 g1 g2 g3 g4 g5
            obtain ⟨gi, rfl⟩ := Int.eq_ofNat_of_zero_le g0
            have gk : gi < k := by omega
            have co1 := IP.out.cell gi (by rw [f4]; exact gk)
            have fo := IP.out.frozen gi
            have hgb := f5 gi
            have hsb := HSLB.out gi
            have gi0 : (0 : Int) ≤ (gi : Int) := g0
            have hszw := HB.out.size
            generalize hov : os.getD gi 0 = ov at *
            have HOV := Lib.hid hov
            clear hov f5 HFB HSLB
            have olt := IP.out.lt
            have AX := Lib.hid hA
            obtain ⟨hge, hblt⟩ := OF.out.lt b (by rw [hA]; rfl)
            subst hA
            have hne5 : b ≠ w.heap.size := by omega
            have hne6 : w.heap.size ≠ b := by omega
            have hne7 : w.heap.size ≠ wr.heap.size := by omega
            have hne8 : wr.heap.size ≠ w.heap.size := by omega
            have lw1 : w.heap.size < w.heap.size + 1 := Nat.lt_succ_self _
            rcases Int.lt_or_le x2 dm with hm | hm
            · have mb := Pl.mul_bd (m := x2) (p := x3) g2 g3 g4 g5
              have HST : Hid (Pl.dstep (os, cs, dm) ((gi : Int), x2, x3) = (os.set gi (ov + x2), cs + x2 * x3, dm - x2)) := by
                show (os.set _ _, _, _) = _
                simp only [Int.toNat_natCast]
                rw [HOV.out, show min dm x2 = x2 from by omega]
              rw [HST.out] at HSN
              go_wp2_with fail
              go_roundw
              case rel => exact ⟨j + 1, _, _, _, by omega, by go_num, rfl, rfl, HSN, (IP.out.set_ gi (ov + x2)).alloc _, own_go (own_far OF.out (p := ⟨w.heap.size, gi, none⟩) lw1 _) ((Below.refl _ _).alloc (Nat.le_refl _) _), (HB.out.setCell (p := ⟨w.heap.size, gi, none⟩) (Nat.le_refl _) _).alloc (by simp; omega) _⟩
              case measure => simp [intOf]; omega
            · have mb := Pl.mul_bd (m := dm) (p := x3) f0 (by omega) g4 g5
              have HST : Hid (Pl.dstep (os, cs, dm) ((gi : Int), x2, x3) = (os.set gi (ov + dm), cs + dm * x3, dm - dm)) := by
                show (os.set _ _, _, _) = _
                simp only [Int.toNat_natCast]
                rw [HOV.out, show min dm x2 = dm from by omega]
              rw [HST.out, Int.sub_self] at HSN
              go_wp2_with fail
              go_roundw
              case rel => exact ⟨j + 1, _, _, _, by omega, by go_num, rfl, rfl, HSN, (IP.out.set_ gi (ov + dm)).alloc _, own_go (own_far OF.out (p := ⟨w.heap.size, gi, none⟩) lw1 _) ((Below.refl _ _).alloc (Nat.le_refl _) _), (HB.out.setCell (p := ⟨w.heap.size, gi, none⟩) (Nat.le_refl _) _).alloc (by simp; omega) _⟩
              case measure => simp [intOf]; omega
          · have : j = m := by omega
            subst this
            have HTK : Hid (bs.take j = bs) := List.take_of_length_le (by rw [HDL.out]; exact Nat.le_refl _)
            rw [HTK.out] at HR
            rw [HR.out] at HLW
            simp only at HLW
            clear f5 HFB
            go_wp2_with fail
            go_ret3
            refine ⟨some ⟨w.heap.size, 0, none⟩, k, k, cs, dm == 0, rfl, HB.out, fun hh => HLW.out.2 (by simpa using hh), fun hh => ⟨os, rfl, HLW.out.1 (by simpa using hh), ?_⟩⟩
            exact ⟨by simp [ints, f4], .inr ⟨w.heap.size, k, (ints os).toArray, rfl, Nat.le_refl _, IP.out, Nat.le_refl _, by unfold maxLen; omega, by simp [ints, f4], by simp only [Nat.mul_one]; exact List.take_of_length_le (by simp [ints, f4])⟩⟩
end Go.Proofs.Ytchafkocobbndaa
