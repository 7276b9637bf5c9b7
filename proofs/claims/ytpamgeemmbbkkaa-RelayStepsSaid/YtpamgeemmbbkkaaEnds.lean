/- netmodel's checker of generators, loads and storages answers as its plain function says. Condition: the map is the call's own, the network reads. -/
import Derived.Test.YtpamgeemmbbkkaaBlk03
namespace Go.Proofs.Ytpamgeemmbbkkaa
open Go.RowKit
set_option maxRecDepth 100000
theorem grownBy_alloc2 {w w' : World} {r : Option Nat} (h : w.grownBy w' r) (o : Obj) : w.grownBy (w'.alloc o) r := h.trans (World.grownBy_alloc w' o r)
theorem below_grow {w w' : World} {b B : Nat} (h : w.grownBy w' (some b)) (hB : B ≤ b) (hB2 : B ≤ w.heap.size) : Below B w w' := ⟨h.os, h.tape, h.output, h.size, fun i hi => h.block i (by omega) (by intro e; injection e with e; omega)⟩
theorem or1 (a : Bool) : a = true ∨ a = false := by cases a <;> simp
theorem or3 (a b c : Bool) : a = true ∨ (a = false ∧ b = true) ∨ (a = false ∧ b = false ∧ c = true) ∨ (a = false ∧ b = false ∧ c = false) := by
  cases a <;> cases b <;> cases c <;> simp
theorem gen_at {w : World} {B : Nat} {A : Option Addr} {n : Nat} {l : List Pl.Gen} (h : Elems genC 5 w B A n l) {k : Nat} (hk : k < n) :
    ∃ b o, A = some ⟨b, o, none⟩ ∧ ∃ hl : k < l.length, w.cell? ⟨b, o + k * 5, none⟩ = some (.string (l[k]'hl).name) ∧ w.cell? ⟨b, o + k * 5 + 1, none⟩ = some (.string (l[k]'hl).node) ∧ w.cell? ⟨b, o + k * 5 + 2, none⟩ = some (.int .i64 (l[k]'hl).least) ∧ w.cell? ⟨b, o + k * 5 + 3, none⟩ = some (.int .i64 (l[k]'hl).most) ∧ w.cell? ⟨b, o + k * 5 + 4, none⟩ = some (.int .i64 (l[k]'hl).ramp) := by
  obtain ⟨b, o, rfl, _, hl, hc⟩ := Elems.at_ (dec := genC) (size := 5) (fun _ => rfl) (by decide) h hk
  exact ⟨b, o, rfl, hl, hc 0 (by omega), hc 1 (by omega), hc 2 (by omega), hc 3 (by omega), hc 4 (by omega)⟩
theorem loa_at {w : World} {B : Nat} {A : Option Addr} {n : Nat} {l : List Pl.Loa} (h : Elems loaC 3 w B A n l) {k : Nat} (hk : k < n) :
    ∃ b o, A = some ⟨b, o, none⟩ ∧ ∃ hl : k < l.length, w.cell? ⟨b, o + k * 3, none⟩ = some (.string (l[k]'hl).name) ∧ w.cell? ⟨b, o + k * 3 + 1, none⟩ = some (.string (l[k]'hl).node) ∧ w.cell? ⟨b, o + k * 3 + 2, none⟩ = some (.int .i64 (l[k]'hl).demand) := by
  obtain ⟨b, o, rfl, _, hl, hc⟩ := Elems.at_ (dec := loaC) (size := 3) (fun _ => rfl) (by decide) h hk
  exact ⟨b, o, rfl, hl, hc 0 (by omega), hc 1 (by omega), hc 2 (by omega)⟩
theorem sto_at {w : World} {B : Nat} {A : Option Addr} {n : Nat} {l : List Pl.Sto} (h : Elems stoC 5 w B A n l) {k : Nat} (hk : k < n) :
    ∃ b o, A = some ⟨b, o, none⟩ ∧ ∃ hl : k < l.length, w.cell? ⟨b, o + k * 5, none⟩ = some (.string (l[k]'hl).name) ∧ w.cell? ⟨b, o + k * 5 + 1, none⟩ = some (.string (l[k]'hl).node) ∧ w.cell? ⟨b, o + k * 5 + 2, none⟩ = some (.int .i64 (l[k]'hl).charge) ∧ w.cell? ⟨b, o + k * 5 + 3, none⟩ = some (.int .i64 (l[k]'hl).discharge) ∧ w.cell? ⟨b, o + k * 5 + 4, none⟩ = some (.int .i64 (l[k]'hl).capacity) := by
  obtain ⟨b, o, rfl, _, hl, hc⟩ := Elems.at_ (dec := stoC) (size := 5) (fun _ => rfl) (by decide) h hk
  exact ⟨b, o, rfl, hl, hc 0 (by omega), hc 1 (by omega), hc 2 (by omega), hc 3 (by omega), hc 4 (by omega)⟩
theorem devs_cons (nodes : List ByteArray) (seen : List (List UInt8)) (d : Pl.Dev) (l : List Pl.Dev) :
    Pl.devs nodes seen (d :: l) = if Pl.devE nodes seen d.name d.at_ ≠ 0 then Pl.devE nodes seen d.name d.at_ else if d.bad = true then 4 else Pl.devs nodes (Pl.lst d.name :: seen) l := rfl
/-- the world before a device's call: two new blocks, the second one the device's nodes -/
theorem device_go (b n BB : Nat) (A : Option Addr) (k c : Nat) (nodes : List ByteArray) (seen : List (List UInt8)) (nm : ByteArray) (m : Nat) (ats : List ByteArray) (o : Obj) (t : TypeId) (w : World) (g : Nat) (hg : g = w.heap.size + 1) (cs : Array Value) (hcs : cs.toList = txts ats) (hmm : ats.length = m)
    (hs : Seen w b n seen) (hn : n < 1000000) (hBB : BB ≤ b) (hr : Reads w BB 1 A k (txts nodes)) (hk : k ≤ 9223372036854775807) (hm : m ≤ 2) (hsz : nm.size ≤ maxLen) :
    Calls Try.prog 52 #[.agg #[.map (some b), .slice A k c], .string nm, .slice (some ⟨g, 0, none⟩) m m] ((w.alloc o).alloc (.cells cs t)) fun e w' => e = .returned (.int .i64 (Pl.devE nodes seen nm ats)) ∧ w.grownBy w' (some b) ∧ (∀ g t cs, g ≠ b → Blk (w.alloc o) g t cs → Blk w' g t cs) ∧ (Pl.devE nodes seen nm ats = 0 → Seen w' b (n + 1) (Pl.lst nm :: seen)) := by
  have hb := hs.lt
  have h1 : Below BB w ((w.alloc o).alloc (.cells cs t)) := (((Below.refl _ _).alloc (by omega) _).alloc (by simp; omega) _)
  have hcz : cs.size = m := by rw [← Array.length_toList, hcs]; simpa [txts] using hmm
  refine (device_any b n BB A k c nodes seen nm (some ⟨g, 0, none⟩) m m ats _ ((hs.alloc o).alloc _) hn hBB (hr.below h1) hk ?_ hm ?_ hsz).mono ?_
  · have := Reads.lit (w.alloc o) cs t m 1 g (by simp [hg]) (by omega)
    rwa [hcs] at this
  · intro ad h; injection h with h; subst h; show g ≠ b; omega
  · rintro e w' ⟨he, hgr, hsn⟩
    refine ⟨he, ((World.grownBy_alloc w o _).trans (World.grownBy_alloc _ _ _)).trans hgr, fun g t' cs' hg' hB => ?_, hsn⟩
    exact (hB.alloc _).grown hgr (by intro h; injection h with h; exact hg' h)
set_option maxHeartbeats 3200000 in
theorem ends_any (b n BB : Nat) (M : MNet) (seen : List (List UInt8)) (w : World) (hs : Seen w b n seen) (hn : n < 900000) (hBB : BB ≤ b) (hM : NetIn w BB M) (ng : M.n3 ≤ 10) (nl : M.n4 ≤ 12) (ns : M.n5 ≤ 4) :
    Calls Try.prog 54 #[.agg #[.map (some b), .slice M.A0 M.n0 M.c0], vNet M] w fun e w' => e = .returned (.int .i64 (Pl.devs M.N.nodes seen (Pl.ends M.N))) ∧ Below BB w w' := by
  obtain ⟨N, A0, n0, c0, A1, n1, c1, A2, n2, c2, A3, n3, c3, A4, n4, c4, A5, n5, c5⟩ := M
  simp only at *
  unfold vNet netC
  simp only
  have HM := Lib.hid hM
  have HS := Lib.hid hs
  have HBB := Lib.hid hBB
  have HBL := Lib.hid hs.lt
  clear hM hs hBB
  have HE : Hid (Pl.devs N.nodes seen (Pl.ends N) = Pl.devs N.nodes seen (N.gens.map Pl.dGen ++ (N.loads.map Pl.dLoa ++ N.stores.map Pl.dSto))) := by show _ = _; unfold Pl.ends; rfl
  generalize Pl.devs N.nodes seen (Pl.ends N) = R at *
  have B0 := Lib.hid ((Blk.new_ w w.heap.size 123 #[.map (some b), .slice A0 n0 c0] rfl).alloc (.cells #[.slice A0 n0 c0, .slice A1 n1 c1, .slice A2 n2 c2, .slice A3 n3 c3, .slice A4 n4 c4, .slice A5 n5 c5] 29))
  have B1 := Lib.hid (Blk.new_ (w.alloc (.cells #[.map (some b), .slice A0 n0 c0] 123)) (w.heap.size + 1) 29 #[.slice A0 n0 c0, .slice A1 n1 c1, .slice A2 n2 c2, .slice A3 n3 c3, .slice A4 n4 c4, .slice A5 n5 c5] (by simp))
  have G0 := Lib.hid ((World.grownBy_alloc w (.cells #[.map (some b), .slice A0 n0 c0] 123) (some b)).trans (World.grownBy_alloc _ (.cells #[.slice A0 n0 c0, .slice A1 n1 c1, .slice A2 n2 c2, .slice A3 n3 c3, .slice A4 n4 c4, .slice A5 n5 c5] 29) (some b)))
  have S0 := Lib.hid ((HS.out.alloc (.cells #[.map (some b), .slice A0 n0 c0] 123)).alloc (.cells #[.slice A0 n0 c0, .slice A1 n1 c1, .slice A2 n2 c2, .slice A3 n3 c3, .slice A4 n4 c4, .slice A5 n5 c5] 29))
  go_enter Try.func54, Try.ntmps54
  go_wp2_with fail
  have NB0 : Hid (w.heap.size ≠ b) := by show _ ≠ _; have := HBL.out; omega
  have NB1 : Hid (w.heap.size + 1 ≠ b) := by show _ ≠ _; have := HBL.out; omega
  have HW1 : Hid (BB ≤ ((w.alloc (.cells #[.map (some b), .slice A0 n0 c0] 123)).alloc (.cells #[.slice A0 n0 c0, .slice A1 n1 c1, .slice A2 n2 c2, .slice A3 n3 c3, .slice A4 n4 c4, .slice A5 n5 c5] 29)).heap.size) := by show _ ≤ _; have := HBL.out; have := HBB.out; simp; omega
  have HM1 := Lib.hid (HM.out.below (below_grow G0.out HBB.out (by have := HBL.out; have := HBB.out; omega)))
  have HGB := Lib.hid (below_grow G0.out HBB.out (by have := HBL.out; have := HBB.out; omega))
  clear HS HM
  generalize (w.alloc (.cells #[.map (some b), .slice A0 n0 c0] 123)).alloc (.cells #[.slice A0 n0 c0, .slice A1 n1 c1, .slice A2 n2 c2, .slice A3 n3 c3, .slice A4 n4 c4, .slice A5 n5 c5] 29) = w1 at *
  have HT0 : Hid (∃ T, T = N.loads.map Pl.dLoa ++ N.stores.map Pl.dSto ∧ R = Pl.devs N.nodes seen ((N.gens.drop 0).map Pl.dGen ++ T)) := ⟨_, rfl, by rw [HE.out]; simp⟩
  obtain ⟨T0, HTe0, HEe0⟩ := HT0.out
  have HTe0 := Lib.hid HTe0
  have HEe0 := Lib.hid HEe0
  clear HE HT0
  go_loopw [17] (fun s wr => ∃ (i : Nat) (sn : List (List UInt8)), i ≤ n3 ∧ s = .int .i64 i ∧ Hid (w1.grownBy wr (some b)) ∧ Hid (Seen wr b (n + i) sn) ∧ Hid (R = Pl.devs N.nodes sn ((N.gens.drop i).map Pl.dGen ++ T0))) (fun s _ => n3 - (intOf s).toNat)
  case atStart => exact ⟨0, seen, Nat.zero_le _, rfl, World.grownBy.refl _ _, S0.out, HEe0.out⟩
  case round =>
    obtain ⟨i0, sn0, hi, rfl, HG0, HSn0, HEi⟩ := hrel
    clear HEe0
    by_cases hlt : i0 < n3
    · have HMr := Lib.hid (HM1.out.below (below_grow HG0.out HBB.out HW1.out))
      obtain ⟨bb, o, rfl, hl, q0, q1, q2, q3, q4⟩ := gen_at HMr.out.r3 hlt
      simp only at hl q0 q1 q2 q3 q4
      have HDR : Hid (R = Pl.devs N.nodes sn0 (Pl.dGen N.gens[i0] :: ((N.gens.drop (i0 + 1)).map Pl.dGen ++ T0))) := by
        show _ = _
        rw [HEi.out, List.drop_eq_getElem_cons hl]
        rfl
      rw [devs_cons] at HDR
      have hz : N.gens[i0].name.size ≤ maxLen := (HM1.out.sz.names (Pl.dGen N.gens[i0]) (by unfold Pl.allDevs Pl.ends; simp only [List.mem_append]; exact .inr (.inr (.inr (.inl (List.mem_map_of_mem (List.getElem_mem hl))))))).1
      have HZ := Lib.hid hz
      clear hz HEi
      unfold Pl.dGen Pl.genOut at HDR
      simp only at HDR
      generalize N.gens[i0] = x at *
      obtain ⟨nm, nd, l1, l2, l3⟩ := x
      simp only at *
      have B0r := Lib.hid (B0.out.grown HG0.out (by intro h; injection h with h; exact NB0.out h))
      have HC := Lib.hid (device_go b (n + i0) BB A0 n0 c0 N.nodes sn0 nm 1 [nd] (.cells #[.string nm, .string nd, .int .i64 l1, .int .i64 l2, .int .i64 l3] 89) 9 wr (wr.heap.size + 1) rfl #[.string nd] rfl rfl HSn0.out (by omega) HBB.out HMr.out.r0 HMr.out.z0 (by omega) HZ.out)
      have k0 := B0r.out.cell
      have lt0 := B0r.out.lt
      go_wp2_with fail
      generalize Pl.devE N.nodes sn0 nm [nd] = dv at *
      refine HC.out.mono ?_
      rintro e w2 ⟨rfl, hg, hbk, hsn⟩
      have G2 := Lib.hid (HG0.out.trans hg)
      have BX := Lib.hid (hbk wr.heap.size _ _ (by have := HSn0.out.lt; omega) (Blk.new_ wr wr.heap.size 89 #[.string nm, .string nd, .int .i64 l1, .int .i64 l2, .int .i64 l3] rfl))
      have S2 := Lib.hid hsn
      clear hg hbk hsn HC k0 lt0 q0 q1 q2 q3 q4 B0r
      by_cases hdv : dv = 0
      · subst hdv
        rw [if_neg (by simp)] at HDR
        have S3 := Lib.hid (S2.out rfl)
        have k2 := BX.out.cell 2
        have k3 := BX.out.cell 3
        have k4 := BX.out.cell 4
        simp at k2 k3 k4
        have P1 := Lib.hid (fun w => npermitted_any l1 w)
        have P2 := Lib.hid (fun w => nout_any l2 l1 100000 w)
        have P3 := Lib.hid (fun w => npermitted_any l3 w)
        generalize Pl.outN l1 0 100000 = o1 at *
        generalize Pl.outN l2 l1 100000 = o2 at *
        generalize Pl.outN l3 0 100000 = o3 at *
        rcases or3 o1 o2 o3 with rfl | ⟨rfl, rfl⟩ | ⟨rfl, rfl, rfl⟩ | ⟨rfl, rfl, rfl⟩
        all_goals
          go_wp2_with (first
            | (go_at_call 90; with_reducible refine (P2.out _).mono ?_; rintro e w3 ⟨rfl, rfl⟩)
            | (go_at_call 91; (first | (with_reducible refine (P1.out _).mono ?_) | (with_reducible refine (P3.out _).mono ?_)); rintro e w3 ⟨rfl, rfl⟩))
        · go_ret
          exact ⟨by rw [HDR.out]; rfl, HGB.out.trans (below_grow G2.out HBB.out HW1.out)⟩
        · go_ret
          exact ⟨by rw [HDR.out]; rfl, HGB.out.trans (below_grow G2.out HBB.out HW1.out)⟩
        · go_ret
          exact ⟨by rw [HDR.out]; rfl, HGB.out.trans (below_grow G2.out HBB.out HW1.out)⟩
        · go_roundw
          case rel => exact ⟨i0 + 1, Pl.lst nm :: sn0, by omega, by go_num, G2.out, S3.out, by rw [HDR.out]; rfl⟩
          case measure => simp [intOf]; omega
      · have hdv2 : (dv != 0) = true := by simpa using hdv
        rw [if_pos hdv] at HDR
        clear hdv
        go_wp2_with fail
        go_ret
        exact ⟨by rw [HDR.out]; rfl, HGB.out.trans (below_grow G2.out HBB.out HW1.out)⟩
    · have hi2 : i0 = n3 := by omega
      have HX1 : Hid (R = Pl.devs N.nodes sn0 (N.loads.map Pl.dLoa ++ N.stores.map Pl.dSto)) := by
        show _ = _
        rw [HEi.out, HTe0.out, List.drop_of_length_le (by have := HM1.out.r3.2; simp only at this; omega)]
        rfl
      clear HEi hi2
      have B1r := Lib.hid (B1.out.grown HG0.out (by intro h; injection h with h; exact NB1.out h))
      have k0 := B1r.out.cell
      go_wp2_with fail
      clear k0 B1r
      have HT1 : Hid (∃ T, T = N.stores.map Pl.dSto ∧ R = Pl.devs N.nodes sn0 ((N.loads.drop 0).map Pl.dLoa ++ T)) := ⟨_, rfl, by rw [HX1.out]; simp⟩
      obtain ⟨T1, HTe1, HEe1⟩ := HT1.out
      have HTe1 := Lib.hid HTe1
      have HEe1 := Lib.hid HEe1
      clear HX1 HT1
      go_loopw [52] (fun s wr => ∃ (i : Nat) (sn : List (List UInt8)), i ≤ n4 ∧ s = .int .i64 i ∧ Hid (w1.grownBy wr (some b)) ∧ Hid (Seen wr b ((n + i0) + i) sn) ∧ Hid (R = Pl.devs N.nodes sn ((N.loads.drop i).map Pl.dLoa ++ T1))) (fun s _ => n4 - (intOf s).toNat)
      case atStart => exact ⟨0, sn0, Nat.zero_le _, rfl, HG0.out, HSn0.out, HEe1.out⟩
      case round =>
        obtain ⟨i1, sn1, hi, rfl, HG1, HSn1, HEi⟩ := hrel
        clear HEe1
        by_cases hlt : i1 < n4
        · have HMr := Lib.hid (HM1.out.below (below_grow HG1.out HBB.out HW1.out))
          obtain ⟨bb, o, rfl, hl, q0, q1, q2⟩ := loa_at HMr.out.r4 hlt
          simp only at hl q0 q1 q2
          have HDR : Hid (R = Pl.devs N.nodes sn1 (Pl.dLoa N.loads[i1] :: ((N.loads.drop (i1 + 1)).map Pl.dLoa ++ T1))) := by
            show _ = _
            rw [HEi.out, List.drop_eq_getElem_cons hl]
            rfl
          rw [devs_cons] at HDR
          have hz : N.loads[i1].name.size ≤ maxLen := (HM1.out.sz.names (Pl.dLoa N.loads[i1]) (by unfold Pl.allDevs Pl.ends; simp only [List.mem_append]; exact .inr (.inr (.inr (.inr (.inl (List.mem_map_of_mem (List.getElem_mem hl)))))))).1
          have HZ := Lib.hid hz
          clear hz HEi
          unfold Pl.dLoa Pl.loaOut at HDR
          simp only at HDR
          generalize N.loads[i1] = x at *
          obtain ⟨nm, nd, l1⟩ := x
          simp only at *
          have B0r := Lib.hid (B0.out.grown HG1.out (by intro h; injection h with h; exact NB0.out h))
          have HC := Lib.hid (device_go b ((n + i0) + i1) BB A0 n0 c0 N.nodes sn1 nm 1 [nd] (.cells #[.string nm, .string nd, .int .i64 l1] 142) 9 wr (wr.heap.size + 1) rfl #[.string nd] rfl rfl HSn1.out (by omega) HBB.out HMr.out.r0 HMr.out.z0 (by omega) HZ.out)
          have k0 := B0r.out.cell
          have lt0 := B0r.out.lt
          go_wp2_with fail
          generalize Pl.devE N.nodes sn1 nm [nd] = dv at *
          refine HC.out.mono ?_
          rintro e w2 ⟨rfl, hg, hbk, hsn⟩
          have G2 := Lib.hid (HG1.out.trans hg)
          have BX := Lib.hid (hbk wr.heap.size _ _ (by have := HSn1.out.lt; omega) (Blk.new_ wr wr.heap.size 142 #[.string nm, .string nd, .int .i64 l1] rfl))
          have S2 := Lib.hid hsn
          clear hg hbk hsn HC k0 lt0 q0 q1 q2 B0r
          by_cases hdv : dv = 0
          · subst hdv
            rw [if_neg (by simp)] at HDR
            have S3 := Lib.hid (S2.out rfl)
            have k2 := BX.out.cell 2
            simp at k2
            have P1 := Lib.hid (fun w => npermitted_any l1 w)
            generalize Pl.outN l1 0 100000 = o1 at *
            rcases or1 o1 with rfl | rfl
            all_goals
              go_wp2_with (first
                | (go_at_call 91; (first | (with_reducible refine (P1.out _).mono ?_)); rintro e w3 ⟨rfl, rfl⟩))
            · go_ret
              exact ⟨by rw [HDR.out]; rfl, HGB.out.trans (below_grow G2.out HBB.out HW1.out)⟩
            · go_roundw
              case rel => exact ⟨i1 + 1, Pl.lst nm :: sn1, by omega, by go_num, G2.out, S3.out, by rw [HDR.out]; rfl⟩
              case measure => simp [intOf]; omega
          · have hdv2 : (dv != 0) = true := by simpa using hdv
            rw [if_pos hdv] at HDR
            clear hdv
            go_wp2_with fail
            go_ret
            exact ⟨by rw [HDR.out]; rfl, HGB.out.trans (below_grow G2.out HBB.out HW1.out)⟩
        · have hi2 : i1 = n4 := by omega
          have HX2 : Hid (R = Pl.devs N.nodes sn1 (N.stores.map Pl.dSto)) := by
            show _ = _
            rw [HEi.out, HTe1.out, List.drop_of_length_le (by have := HM1.out.r4.2; simp only at this; omega)]
            rfl
          clear HEi hi2
          have B1r := Lib.hid (B1.out.grown HG1.out (by intro h; injection h with h; exact NB1.out h))
          have k0 := B1r.out.cell
          go_wp2_with fail
          clear k0 B1r
          have HT2 : Hid (∃ T, T = ([] : List Pl.Dev) ∧ R = Pl.devs N.nodes sn1 ((N.stores.drop 0).map Pl.dSto ++ T)) := ⟨_, rfl, by rw [HX2.out]; simp⟩
          obtain ⟨T2, HTe2, HEe2⟩ := HT2.out
          have HTe2 := Lib.hid HTe2
          have HEe2 := Lib.hid HEe2
          clear HX2 HT2
          go_loopw [74] (fun s wr => ∃ (i : Nat) (sn : List (List UInt8)), i ≤ n5 ∧ s = .int .i64 i ∧ Hid (w1.grownBy wr (some b)) ∧ Hid (Seen wr b (((n + i0) + i1) + i) sn) ∧ Hid (R = Pl.devs N.nodes sn ((N.stores.drop i).map Pl.dSto ++ T2))) (fun s _ => n5 - (intOf s).toNat)
          case atStart => exact ⟨0, sn1, Nat.zero_le _, rfl, HG1.out, HSn1.out, HEe2.out⟩
          case round =>
            obtain ⟨i2, sn2, hi, rfl, HG2, HSn2, HEi⟩ := hrel
            clear HEe2
            by_cases hlt : i2 < n5
            · have HMr := Lib.hid (HM1.out.below (below_grow HG2.out HBB.out HW1.out))
              obtain ⟨bb, o, rfl, hl, q0, q1, q2, q3, q4⟩ := sto_at HMr.out.r5 hlt
              simp only at hl q0 q1 q2 q3 q4
              have HDR : Hid (R = Pl.devs N.nodes sn2 (Pl.dSto N.stores[i2] :: ((N.stores.drop (i2 + 1)).map Pl.dSto ++ T2))) := by
                show _ = _
                rw [HEi.out, List.drop_eq_getElem_cons hl]
                rfl
              rw [devs_cons] at HDR
              have hz : N.stores[i2].name.size ≤ maxLen := (HM1.out.sz.names (Pl.dSto N.stores[i2]) (by unfold Pl.allDevs Pl.ends; simp only [List.mem_append]; exact .inr (.inr (.inr (.inr (.inr (List.mem_map_of_mem (List.getElem_mem hl)))))))).1
              have HZ := Lib.hid hz
              clear hz HEi
              unfold Pl.dSto Pl.stoOut at HDR
              simp only at HDR
              generalize N.stores[i2] = x at *
              obtain ⟨nm, nd, l1, l2, l3⟩ := x
              simp only at *
              have B0r := Lib.hid (B0.out.grown HG2.out (by intro h; injection h with h; exact NB0.out h))
              have HC := Lib.hid (device_go b (((n + i0) + i1) + i2) BB A0 n0 c0 N.nodes sn2 nm 1 [nd] (.cells #[.string nm, .string nd, .int .i64 l1, .int .i64 l2, .int .i64 l3] 91) 9 wr (wr.heap.size + 1) rfl #[.string nd] rfl rfl HSn2.out (by omega) HBB.out HMr.out.r0 HMr.out.z0 (by omega) HZ.out)
              have k0 := B0r.out.cell
              have lt0 := B0r.out.lt
              go_wp2_with fail
              generalize Pl.devE N.nodes sn2 nm [nd] = dv at *
              refine HC.out.mono ?_
              rintro e w2 ⟨rfl, hg, hbk, hsn⟩
              have G2 := Lib.hid (HG2.out.trans hg)
              have BX := Lib.hid (hbk wr.heap.size _ _ (by have := HSn2.out.lt; omega) (Blk.new_ wr wr.heap.size 91 #[.string nm, .string nd, .int .i64 l1, .int .i64 l2, .int .i64 l3] rfl))
              have S2 := Lib.hid hsn
              clear hg hbk hsn HC k0 lt0 q0 q1 q2 q3 q4 B0r
              by_cases hdv : dv = 0
              · subst hdv
                rw [if_neg (by simp)] at HDR
                have S3 := Lib.hid (S2.out rfl)
                have k2 := BX.out.cell 2
                have k3 := BX.out.cell 3
                have k4 := BX.out.cell 4
                simp at k2 k3 k4
                have P1 := Lib.hid (fun w => npermitted_any l1 w)
                have P2 := Lib.hid (fun w => npermitted_any l2 w)
                have P3 := Lib.hid (fun w => npermitted_any l3 w)
                generalize Pl.outN l1 0 100000 = o1 at *
                generalize Pl.outN l2 0 100000 = o2 at *
                generalize Pl.outN l3 0 100000 = o3 at *
                rcases or3 o1 o2 o3 with rfl | ⟨rfl, rfl⟩ | ⟨rfl, rfl, rfl⟩ | ⟨rfl, rfl, rfl⟩
                all_goals
                  go_wp2_with (first
                    | (go_at_call 91; (first | (with_reducible refine (P1.out _).mono ?_) | (with_reducible refine (P2.out _).mono ?_) | (with_reducible refine (P3.out _).mono ?_)); rintro e w3 ⟨rfl, rfl⟩))
                · go_ret
                  exact ⟨by rw [HDR.out]; rfl, HGB.out.trans (below_grow G2.out HBB.out HW1.out)⟩
                · go_ret
                  exact ⟨by rw [HDR.out]; rfl, HGB.out.trans (below_grow G2.out HBB.out HW1.out)⟩
                · go_ret
                  exact ⟨by rw [HDR.out]; rfl, HGB.out.trans (below_grow G2.out HBB.out HW1.out)⟩
                · go_roundw
                  case rel => exact ⟨i2 + 1, Pl.lst nm :: sn2, by omega, by go_num, G2.out, S3.out, by rw [HDR.out]; rfl⟩
                  case measure => simp [intOf]; omega
              · have hdv2 : (dv != 0) = true := by simpa using hdv
                rw [if_pos hdv] at HDR
                clear hdv
                go_wp2_with fail
                go_ret
                exact ⟨by rw [HDR.out]; rfl, HGB.out.trans (below_grow G2.out HBB.out HW1.out)⟩
            · have hi2 : i2 = n5 := by omega
              have HX : Hid (R = 0) := by
                show _ = _
                rw [HEi.out, HTe2.out, List.drop_of_length_le (by have := HM1.out.r5.2; simp only at this; omega)]
                rfl
              clear hi2
              go_wp2_with fail
              go_ret
              exact ⟨by rw [HX.out]; rfl, HGB.out.trans (below_grow HG2.out HBB.out HW1.out)⟩
end Go.Proofs.Ytpamgeemmbbkkaa
