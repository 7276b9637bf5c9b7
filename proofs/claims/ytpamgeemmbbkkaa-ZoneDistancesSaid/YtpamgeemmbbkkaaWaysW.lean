/- The reference's Ways answers as its plain function says. Condition: the network is a good one and reads. -/
import Derived.Test.YtpamgeemmbbkkaaWBest
import Derived.Test.YtpamgeemmbbkkaaRefT
import Derived.Test.YtpamgeemmbbkkaaFaultP
import Derived.Test.YtpamgeemmbbkkaaMid
import Derived.Test.YtpamgeemmbbkkaaBaseC
import Derived.BigQuiet
namespace Go.Proofs.Ytpamgeemmbbkkaa
open Go.RowKit
set_option maxRecDepth 100000
section
variable {P : Program} {Q : Exit → Act → World → Prop}
def Join4 (R : World → Prop) (fr : Value → Value → Value → Value → Act) (e : Exit) (a' : Act) (w' : World) : Prop := ∃ v1 v2 v3 v4, e = Exit.normal ∧ a' = fr v1 v2 v3 v4 ∧ R w'
theorem wp_join4 {c : Code} {a : Act} {w : World} (R : World → Prop) (fr : Value → Value → Value → Value → Act) (h : c.wp P (Join4 R fr) a w) (hq : ∀ v1 v2 v3 v4 w', R w' → Q .normal (fr v1 v2 v3 v4) w') : c.wp P Q a w :=
  wp_mono h fun e a' w' ⟨v1, v2, v3, v4, he, ha, hr⟩ => by subst he ha; exact hq v1 v2 v3 v4 w' hr
end
theorem liti_reads {w : World} {g : Nat} {t : TypeId} {v : Value} (h : Blk w g t #[v]) : Reads w w.heap.size 1 (some ⟨g, 0, none⟩) 1 [v] := by
  refine ⟨rfl, fun _ => ⟨_, rfl, h.lt, fun j u hu => ?_⟩⟩
  rw [Srt.addr_add, Blk.cell h j]
  simpa using hu
namespace Pl
def runW (o : Bool) (u : Int) (seen : List Int) (rc : Int → Int) : Nat → Int → Int → Int → Int
  | 0, b, _, _ => b
  | m + 1, b, x, y => runW o u seen rc m (better b (hopS o u seen rc y x)) y x
def runB (wo br : ByteArray) (u : Int) (seen : List Int) (rc : Int → Int) (x : Bra) : Nat → Int → Int → Int → Int → Int
  | 0, b, _, _, _ => b
  | m + 1, b, a, c, p => runB wo br u seen rc x m (halfB wo br u seen rc x b a c p) c a (1000 - p)
theorem seen_short {n : Nat} {seen : List Int} (hn : seen.Nodup) (hi : ∀ v ∈ seen, 0 ≤ v ∧ v < (n : Int)) : seen.length ≤ n := by
  have hnd : (seen.map Int.toNat).Nodup := by
    have : ∀ l : List Int, (∀ v ∈ l, 0 ≤ v) → l.Nodup → (l.map Int.toNat).Nodup := by
      intro l
      induction l with
      | nil => simp
      | cons a l ih =>
        intro h0 hn
        rw [List.nodup_cons] at hn
        rw [List.map_cons, List.nodup_cons]
        refine ⟨fun hm => ?_, ih (fun v hv => h0 v (by simp [hv])) hn.2⟩
        obtain ⟨b, hb, e⟩ := List.mem_map.1 hm
        have h1 := h0 a (by simp)
        have h2 := h0 b (by simp [hb])
        exact hn.1 (by rw [show a = b by omega]; exact hb)
    exact this seen (fun v hv => (hi v hv).1) hn
  have hs : (seen.map Int.toNat) ⊆ List.range n := by
    intro x hx
    obtain ⟨v, hv, rfl⟩ := List.mem_map.1 hx
    have := hi v hv
    simp; omega
  have := hnd.length_le_of_subset hs
  simpa using this
end Pl
def WaysOk (M : MNet) (wo br : ByteArray) (part : Int) (f : Nat) : Prop :=
  ∀ (u : Int) (As : Option Addr) (ns cs : Nat) (seen : List Int) (w : World), NetIn w w.heap.size M → Reads w w.heap.size 1 As ns (ints seen) → seen.Nodup → (∀ v ∈ seen, 0 ≤ v ∧ v < (M.N.nodes.length : Int)) → M.N.nodes.length < seen.length + f →
    Calls Try.prog 13 #[vNet M, .int .i64 u, .string wo, vPlace br part, .slice As ns cs] w fun e w' => e = .returned (.int .i64 (Pl.waysP M.N wo br part f u seen)) ∧ Below w.heap.size w w'
set_option maxHeartbeats 12800000 in
theorem ways_succ (M : MNet) (wo br : ByteArray) (part : Int) (f : Nat) (hf : f ≤ 29) (hok : Pl.NetOk M.N) (hpt : 0 ≤ part ∧ part ≤ 1000) (HI : Hid (WaysOk M wo br part f)) : WaysOk M wo br part (f + 1) := by
  intro u As ns cs seen w hM hs hnd hin hlt
  have hns := hs.int_len
  have hnn := hok.nn
  have hsh := Pl.seen_short hnd hin
  have hns24 : ns ≤ 24 := by omega
  have hn0 := txts_len hM.r0
  have CN := Lib.hid (fun (x : ByteArray) (w1 : World) (hb : Below w.heap.size w w1) => node_any M x w1 (hM.go hb))
  have CH := Lib.hid (fun (x : Int) (w1 : World) (hb : Below w.heap.size w w1) => hasInt_any As ns cs seen x w1 (by omega) (hs.go hb))
  have CR0 := Lib.hid (fun (b : Int) (hb1 : b ∉ seen) (hb2 : 0 ≤ b ∧ b < (M.N.nodes.length : Int)) (A : Option Addr) (n c : Nat) (w1 : World) (hb : Below w.heap.size w w1) (hr : Reads w1 w1.heap.size 1 A n (ints (seen ++ [b]))) => HI.out b A n c (seen ++ [b]) w1 (hM.go hb) hr (List.nodup_append.2 ⟨hnd, by simp, fun x hx y hy => by simp at hy; subst hy; exact fun e => hb1 (e ▸ hx)⟩) (fun v hv => by
    rcases List.mem_append.1 hv with hv | hv
    · exact hin v hv
    · simp at hv; subst hv; exact hb2) (by simp; omega))
  have HWP : Hid (Pl.waysP M.N wo br part (f + 1) u seen = M.N.branches.foldl (Pl.braW M.N wo br part u seen (fun v => Pl.waysP M.N wo br part f v (seen ++ [v]))) (M.N.switches.foldl (Pl.swiW M.N u seen (fun v => Pl.waysP M.N wo br part f v (seen ++ [v]))) (-1))) := rfl
  have HBD0 : Hid (∀ v, -1 ≤ Pl.waysP M.N wo br part f v (seen ++ [v]) ∧ Pl.waysP M.N wo br part f v (seen ++ [v]) ≤ 300000000) := fun v => by have := Pl.waysP_bound hok (wo := wo) (br := br) hpt f v (seen ++ [v]); omega
  obtain ⟨rc, hrc⟩ : ∃ rc : Int → Int, (fun v => Pl.waysP M.N wo br part f v (seen ++ [v])) = rc := ⟨_, rfl⟩
  rw [hrc] at HWP
  have HBD : Hid (∀ v, -1 ≤ rc v ∧ rc v ≤ 300000000) := fun v => by rw [← hrc]; exact HBD0.out v
  have CR := Lib.hid (fun (b : Int) (hb1 : b ∉ seen) (hb2 : 0 ≤ b ∧ b < (M.N.nodes.length : Int)) (A : Option Addr) (n c : Nat) (w1 : World) (hb : Below w.heap.size w w1) (hr : Reads w1 w1.heap.size 1 A n (ints (seen ++ [b]))) => (show Calls _ _ _ _ fun e w' => e = .returned (.int .i64 (rc b)) ∧ Below w1.heap.size w1 w' by rw [← hrc]; exact CR0.out b hb1 hb2 A n c w1 hb hr))
  clear CR0 HBD0 hrc HI
  generalize Pl.waysP M.N wo br part (f + 1) u seen = WP at *
  have HOKS : Hid (∀ k (hk : k < M.N.switches.length), 0 ≤ Pl.idxT M.N.nodes M.N.switches[k].a ∧ Pl.idxT M.N.nodes M.N.switches[k].a < (M.N.nodes.length : Int) ∧ 0 ≤ Pl.idxT M.N.nodes M.N.switches[k].b ∧ Pl.idxT M.N.nodes M.N.switches[k].b < (M.N.nodes.length : Int)) := by
    intro k hk
    obtain ⟨h1, h2, _⟩ := hok.swi _ (List.getElem_mem hk)
    have a := Pl.idxT_mem h1
    have b := Pl.idxT_mem h2
    omega
  have HOKB : Hid (∀ k (hk : k < M.N.branches.length), 0 ≤ Pl.idxT M.N.nodes M.N.branches[k].from_ ∧ Pl.idxT M.N.nodes M.N.branches[k].from_ < (M.N.nodes.length : Int) ∧ 0 ≤ Pl.idxT M.N.nodes M.N.branches[k].to_ ∧ Pl.idxT M.N.nodes M.N.branches[k].to_ < (M.N.nodes.length : Int) ∧ 1 ≤ M.N.branches[k].x ∧ M.N.branches[k].x ≤ 10000) := by
    intro k hk
    obtain ⟨h1, h2, _⟩ := hok.bra _ (List.getElem_mem hk)
    have a := Pl.idxT_mem h1
    have b := Pl.idxT_mem h2
    have c := Pl.x_range hok (List.getElem_mem hk)
    omega
  have HS := Lib.hid hs
  have HM := Lib.hid hM
  have HL1 := Lib.hid hM.r1.2
  have HL2 := Lib.hid hM.r2.2
  have hz1 := hM.z1
  have hz2 := hM.z2
  have HPT := Lib.hid hpt
  clear hM hs hnd hin hlt hns hsh hok hpt hn0 hf hnn
  unfold vNet vPlace at *
  have F0 := Lib.hid ((((Below.refl w.heap.size w).alloc (Nat.le_refl _) (.cells (netC M) 29)).alloc (by simp) (.cells #[.string br, .int .i64 part] 34)).alloc (by simp; omega) (.cells #[.int .i64 (-1)] 3))
  have B0 := Lib.hid (((Blk.new_ w w.heap.size 29 (netC M) rfl).alloc (.cells #[.string br, .int .i64 part] 34)).alloc (.cells #[.int .i64 (-1)] 3))
  have P0 := Lib.hid ((Blk.new_ (w.alloc (.cells (netC M) 29)) (w.heap.size + 1) 34 #[.string br, .int .i64 part] (by simp)).alloc (.cells #[.int .i64 (-1)] 3))
  have G0 := Lib.hid (Blk.new_ ((w.alloc (.cells (netC M) 29)).alloc (.cells #[.string br, .int .i64 part] 34)) (w.heap.size + 1 + 1) 3 #[.int .i64 (-1)] (by simp))
  obtain ⟨N, A0, n0, c0, A1, n1, c1, A2, n2, c2, A3, n3, c3, A4, n4, c4, A5, n5, c5⟩ := M
  unfold netC at *
  simp only at *
  have hnl : Hid ((N.nodes.length : Int) = N.nodes.length) := rfl
  generalize N.nodes.length = nl at *
  have k0 := B0.out.cell
  go_enter Try.func13, Try.ntmps13
  go_wp2_with fail
  clear k0
  generalize hw3 : ((w.alloc (.cells #[.slice A0 n0 c0, .slice A1 n1 c1, .slice A2 n2 c2, .slice A3 n3 c3, .slice A4 n4 c4, .slice A5 n5 c5] 29)).alloc (.cells #[.string br, .int .i64 part] 34)).alloc (.cells #[.int .i64 (-1)] 3) = w3 at *
  clear hw3
  go_loopw [27] (fun i wr => ∃ (k : Nat) (best : Int), k ≤ n1 ∧ i = .int .i64 k ∧ Hid (best = (N.switches.take k).foldl (Pl.swiW N u seen rc) (-1)) ∧ Hid (Blk wr (w.heap.size + 1 + 1) 3 #[.int .i64 best]) ∧ Hid (Blk wr w.heap.size 29 #[.slice A0 n0 c0, .slice A1 n1 c1, .slice A2 n2 c2, .slice A3 n3 c3, .slice A4 n4 c4, .slice A5 n5 c5]) ∧ Hid (Blk wr (w.heap.size + 1) 34 #[.string br, .int .i64 part]) ∧ Hid (Below w.heap.size w wr)) (fun i _ => n1 - (intOf i).toNat)
  case atStart => exact ⟨0, -1, Nat.zero_le _, rfl, rfl, G0.out, B0.out, P0.out, F0.out⟩
  case round =>
    clear F0 B0 P0 G0
    obtain ⟨k, best, hk, rfl, HBE, GR, BR, PR, FR⟩ := hrel
    by_cases hkn : k < n1
    · have GR0 : Hid (w.heap.size + 1 + 1 < wr.heap.size) := GR.out.lt
      obtain ⟨bs, os, rfl, hls, s0, s1, s2, s3, s4⟩ := swi_at (HM.out.r1.below FR.out) hkn
      have HTK : Hid ((N.switches.take (k + 1)).foldl (Pl.swiW N u seen rc) (-1) = Pl.swiW N u seen rc best N.switches[k]) := by
        show _ = _
        rw [List.take_succ_eq_append_getElem hls, List.foldl_append, HBE.out]; rfl
      have HKS := Lib.hid (HOKS.out k hls)
      generalize N.switches[k] = sw at *
      obtain ⟨sn, sa, sb, sk, so⟩ := sw
      simp only at *
      have kn := BR.out.cell
      have ln := BR.out.lt
      have lgn : wr.heap.size < wr.heap.size + 1 := Nat.lt_succ_self _
      have FX := Lib.hid (FR.out.alloc FR.out.size (.cells #[.string sn, .string sa, .string sb, .bool sk, .bool so] 50))
      have GX := Lib.hid (GR.out.alloc (.cells #[.string sn, .string sa, .string sb, .bool sk, .bool so] 50))
      have BX := Lib.hid (BR.out.alloc (.cells #[.string sn, .string sa, .string sb, .bool sk, .bool so] 50))
      have PX := Lib.hid (PR.out.alloc (.cells #[.string sn, .string sa, .string sb, .bool sk, .bool so] 50))
      have SX := Lib.hid (Blk.new_ wr wr.heap.size 50 #[.string sn, .string sa, .string sb, .bool sk, .bool so] rfl)
      go_wp2_with fail
      clear kn ln lgn s0 s1 s2 s3 s4 FR GR BR PR
      generalize hgs : wr.heap.size = gs at *
      have HGS : Hid (w.heap.size + 1 + 1 < gs) := by show _ < _; have := GR0.out; omega
      clear hgs
      generalize hwx : wr.alloc (.cells #[.string sn, .string sa, .string sb, .bool sk, .bool so] 50) = wx at *
      clear hwx
      have e0 := Wd.cell (BX.out.cell 0 : wx.cell? ⟨w.heap.size, 0, none⟩ = some (.slice _ n0 c0))
      have e1 := Wd.cell (BX.out.cell 1 : wx.cell? ⟨w.heap.size, 1, none⟩ = some (.slice _ n1 c1))
      have e2 := Wd.cell (BX.out.cell 2 : wx.cell? ⟨w.heap.size, 2, none⟩ = some (.slice _ n2 c2))
      have e3 := Wd.cell (BX.out.cell 3 : wx.cell? ⟨w.heap.size, 3, none⟩ = some (.slice _ n3 c3))
      have e4 := Wd.cell (BX.out.cell 4 : wx.cell? ⟨w.heap.size, 4, none⟩ = some (.slice _ n4 c4))
      have e5 := Wd.cell (BX.out.cell 5 : wx.cell? ⟨w.heap.size, 5, none⟩ = some (.slice _ n5 c5))
      have s1 := Wd.cell (SX.out.cell 1 : wx.cell? ⟨gs, 1, none⟩ = some (.string sa))
      have s2 := Wd.cell (SX.out.cell 2 : wx.cell? ⟨gs, 2, none⟩ = some (.string sb))
      refine wp_region_wd (by kernel_rfl) (by kernel_rfl) ?_
      repeat (go_big_quiet_step ((go_at_call 12; exact Calls.wd (CN.out _ _ (FX.out.trans ((Wd.ok _).mono FX.out.size))))))
      refine wpQuiet_nil ?_
      rintro _ ⟨w6, rfl⟩
      have F6 := Lib.hid (FX.out.trans (w6.ok.mono FX.out.size))
      have G6 := Lib.hid (GX.out.go w6.ok)
      have B6 := Lib.hid (BX.out.go w6.ok)
      have P6 := Lib.hid (PX.out.go w6.ok)
      have S6 := Lib.hid (SX.out.go w6.ok)
      clear e0 e1 e2 e3 e4 e5 s1 s2 FX GX BX PX SX
      generalize w6.val = w7 at *
      clear w6
      have HRUN : Hid (Pl.runW so u seen rc 2 best (Pl.idxT N.nodes sa) (Pl.idxT N.nodes sb) = Pl.swiW N u seen rc best ⟨sn, sa, sb, sk, so⟩) := rfl
      generalize Pl.swiW N u seen rc best ⟨sn, sa, sb, sk, so⟩ = RS at *
      generalize Pl.idxT N.nodes sa = ia at *
      generalize Pl.idxT N.nodes sb = ib at *
      go_wp2_with fail
      go_loopw [15, 16, 39] (fun va vb vt wq => ∃ (t : Nat) (x y bst : Int), t ≤ 2 ∧ vt = .int .i64 t ∧ va = .int .i64 x ∧ vb = .int .i64 y ∧ Hid (0 ≤ x ∧ x < (nl : Int)) ∧ Hid (0 ≤ y ∧ y < (nl : Int)) ∧ Hid (Pl.runW so u seen rc (2 - t) bst x y = RS) ∧ Hid (Blk wq gs 50 #[.string sn, .string sa, .string sb, .bool sk, .bool so]) ∧ Hid (Blk wq (w.heap.size + 1 + 1) 3 #[.int .i64 bst]) ∧ Hid (Blk wq w.heap.size 29 #[.slice A0 n0 c0, .slice (some ⟨bs, os, none⟩) n1 c1, .slice A2 n2 c2, .slice A3 n3 c3, .slice A4 n4 c4, .slice A5 n5 c5]) ∧ Hid (Blk wq (w.heap.size + 1) 34 #[.string br, .int .i64 part]) ∧ Hid (Below w.heap.size w wq)) (fun _ _ vt _ => 2 - (intOf vt).toNat)
      case atStart => exact ⟨0, ia, ib, best, by omega, rfl, rfl, rfl, ⟨HKS.out.1, HKS.out.2.1⟩, ⟨HKS.out.2.2.1, HKS.out.2.2.2⟩, HRUN.out, S6.out, G6.out, B6.out, P6.out, F6.out⟩
      case round =>
        clear HRUN S6 G6 B6 P6 F6 HBE HKS
        obtain ⟨t, x, y, bst, ht, rfl, rfl, rfl, HXR, HYR, HRUN, SR, GR5, BR, PR, FR⟩ := hrel
        by_cases ht2 : t < 2
        · have HST : Hid (Pl.runW so u seen rc (2 - (t + 1)) (Pl.better bst (Pl.hopS so u seen rc y x)) y x = RS) := by
            have h := HRUN.out
            rw [show 2 - t = (2 - (t + 1)) + 1 by omega] at h
            exact h
          have HNO : Hid (¬ (so = false ∧ y = u ∧ x ∉ seen) → Pl.runW so u seen rc (2 - (t + 1)) bst y x = RS) := by
            intro h
            have h2 := HST.out
            unfold Pl.hopS at h2
            rw [if_neg h, Pl.better_neg] at h2
            exact h2
          have HYE : Hid ((so = false ∧ y = u ∧ x ∉ seen) → Pl.runW so u seen rc (2 - (t + 1)) (Pl.better bst (rc x)) y x = RS) := by
            intro h
            have h2 := HST.out
            unfold Pl.hopS at h2
            rw [if_pos h] at h2
            exact h2
          have k4 := SR.out.cell
          have ht2c : (t : Int) < 2 := by omega
          clear HST HRUN
          cases so
          · by_cases hyu : y = u
            · have hb1 : (y == u) = true := by simp [hyu]
              have HYU := Lib.hid hyu
              clear hyu
              have CHX := Lib.hid (CH.out x wr FR.out)
              go_wp2_with fail
              refine CHX.out.mono ?_
              rintro e w8 ⟨rfl, rfl⟩
              by_cases hm : x ∈ seen
              · have hd : decide (x ∈ seen) = true := decide_eq_true hm
                have HY := Lib.hid (HNO.out (fun h => h.2.2 hm))
                clear hm HYE HNO
                go_wp2_with fail
                go_roundw
                case rel => exact ⟨t + 1, y, x, bst, by omega, by go_num, rfl, rfl, HYR.out, HXR.out, HY.out, SR.out, GR5.out, BR.out, PR.out, FR.out⟩
                case measure => simp [intOf]; omega
              · have hd : decide (x ∈ seen) = false := decide_eq_false hm
                have HY := Lib.hid (HYE.out ⟨(by first | rfl | trivial), HYU.out, hm⟩)
                have HNM := Lib.hid hm
                clear hm HYE HNO k4
                go_wp2_with fail
                obtain ⟨j0, hj0, hjz0, hjz1, hjz2⟩ := info_parts info_int
                generalize w8 = w5 at *
                have e0 := Wd.cell (BR.out.cell 0 : w5.cell? ⟨w.heap.size, 0, none⟩ = some (.slice _ n0 c0))
                have e1 := Wd.cell (BR.out.cell 1 : w5.cell? ⟨w.heap.size, 1, none⟩ = some (.slice _ n1 c1))
                have e2 := Wd.cell (BR.out.cell 2 : w5.cell? ⟨w.heap.size, 2, none⟩ = some (.slice _ n2 c2))
                have e3 := Wd.cell (BR.out.cell 3 : w5.cell? ⟨w.heap.size, 3, none⟩ = some (.slice _ n3 c3))
                have e4 := Wd.cell (BR.out.cell 4 : w5.cell? ⟨w.heap.size, 4, none⟩ = some (.slice _ n4 c4))
                have e5 := Wd.cell (BR.out.cell 5 : w5.cell? ⟨w.heap.size, 5, none⟩ = some (.slice _ n5 c5))
                have p0 := Wd.cell (PR.out.cell 0 : w5.cell? ⟨w.heap.size + 1, 0, none⟩ = some (.string br))
                have p1 := Wd.cell (PR.out.cell 1 : w5.cell? ⟨w.heap.size + 1, 1, none⟩ = some (.int .i64 part))
                apply wp_join4 (fun w' => Blk w' (w.heap.size + 1 + 1) 3 #[.int .i64 (Pl.better bst (rc x))] ∧ OnlyZ (w.heap.size + 1 + 1) (w.heap.size + 1 + 1) w5 w')
                · have hSw : (fun w' => Blk w' w.heap.size 29 #[.slice A0 n0 c0, .slice (some ⟨bs, os, none⟩) n1 c1, .slice A2 n2 c2, .slice A3 n3 c3, .slice A4 n4 c4, .slice A5 n5 c5] ∧ Blk w' (w.heap.size + 1) 34 #[.string br, .int .i64 part]) w5.drew := ⟨BR.out.go (Below.refl w5.heap.size w5).drew, PR.out.go (Below.refl w5.heap.size w5).drew⟩
                  refine wp_region_mid (fun w' => Blk w' w.heap.size 29 #[.slice A0 n0 c0, .slice (some ⟨bs, os, none⟩) n1 c1, .slice A2 n2 c2, .slice A3 n3 c3, .slice A4 n4 c4, .slice A5 n5 c5] ∧ Blk w' (w.heap.size + 1) 34 #[.string br, .int .i64 part]) 13 (by kernel_rfl) ?_
                  refine wpAnyM_take 0 rfl (by kernel_rfl) (by kernel_rfl) (by kernel_rfl) (by kernel_rfl) (by kernel_rfl) (fun _ _ _ h => by obtain ⟨_, _, _, _, h, _⟩ := h; cases h) hSw (by kernel_rfl) (fun w' hSx => by have ea := hSx.1.cell; have pa := hSx.2.cell; go_simp; first | done | with_reducible rfl) ?_
                  simp only [Act.put, List.setIfInBounds_toArray]
                  refine wpAnyM_take 1 rfl (by kernel_rfl) (by kernel_rfl) (by kernel_rfl) (by kernel_rfl) (by kernel_rfl) (fun _ _ _ h => by obtain ⟨_, _, _, _, h, _⟩ := h; cases h) hSw (by kernel_rfl) (fun w' hSx => by have ea := hSx.1.cell; have pa := hSx.2.cell; go_simp; first | done | with_reducible rfl) ?_
                  simp only [Act.put]
                  refine wpAnyM_take 2 rfl (by kernel_rfl) (by kernel_rfl) (by kernel_rfl) (by kernel_rfl) (by kernel_rfl) (fun _ _ _ h => by obtain ⟨_, _, _, _, h, _⟩ := h; cases h) hSw (by kernel_rfl) (fun w' hSx => by have ea := hSx.1.cell; have pa := hSx.2.cell; go_simp; first | done | with_reducible rfl) ?_
                  simp only [Act.put]
                  refine wpAnyM_take 3 rfl (by kernel_rfl) (by kernel_rfl) (by kernel_rfl) (by kernel_rfl) (by kernel_rfl) (fun _ _ _ h => by obtain ⟨_, _, _, _, h, _⟩ := h; cases h) hSw (by kernel_rfl) (fun w' hSx => by have ea := hSx.1.cell; have pa := hSx.2.cell; go_simp; first | done | with_reducible rfl) ?_
                  simp only [Act.put]
                  refine wpAnyM_take 4 rfl (by kernel_rfl) (by kernel_rfl) (by kernel_rfl) (by kernel_rfl) (by kernel_rfl) (fun _ _ _ h => by obtain ⟨_, _, _, _, h, _⟩ := h; cases h) hSw (by kernel_rfl) (fun w' hSx => by have ea := hSx.1.cell; have pa := hSx.2.cell; go_simp; first | done | with_reducible rfl) ?_
                  simp only [Act.put]
                  refine wpAnyM_take 6 rfl (by kernel_rfl) (by kernel_rfl) (by kernel_rfl) (by kernel_rfl) (by kernel_rfl) (fun _ _ _ h => by obtain ⟨_, _, _, _, h, _⟩ := h; cases h) hSw (by kernel_rfl) (fun w' hSx => by have ea := hSx.1.cell; have pa := hSx.2.cell; go_simp; first | done | with_reducible rfl) ?_
                  simp only [Act.put]
                  refine wpAnyM_take 8 rfl (by kernel_rfl) (by kernel_rfl) (by kernel_rfl) (by kernel_rfl) (by kernel_rfl) (fun _ _ _ h => by obtain ⟨_, _, _, _, h, _⟩ := h; cases h) hSw (by kernel_rfl) (fun w' hSx => by have ea := hSx.1.cell; have pa := hSx.2.cell; go_simp; first | done | with_reducible rfl) ?_
                  simp only [Act.put]
                  refine wpAnyM_ready [5, 9] (by kernel_rfl) (by simp) ?_
                  refine AllReadyM.cons (by rfl) (fun K hK => ?_) (AllReadyM.cons (by rfl) (fun K hK => ?_) AllReadyM.nil)
                  · go_simp
                    have dh : (w5.alloc (.cells #[] 3)).drew.heap.size = w5.heap.size + 1 := by simp
                    have HDH := Lib.hid dh
                    clear dh
                    have dx : Below w5.heap.size w5 (w5.alloc (.cells #[] 3)).drew := ((Below.refl w5.heap.size w5).alloc (Nat.le_refl _) (.cells #[] 3)).drew
                    have E6 : Hid ((w5.alloc (.cells #[] 3)).drew.ownsRow w5.heap.size 3 1 (.slice (some ⟨w5.heap.size, 0, none⟩) 0 0) 0 (ints [])) := World.ownsRow_lit w5 #[] 0 (Nat.le_refl _) (by unfold maxLen; omega) rfl
                    have D6 : Hid (Below w5.heap.size w5 (w5.alloc (.cells #[] 3)).drew) := dx
                    refine hK.out _ _ ⟨BR.out.go D6.out, PR.out.go D6.out⟩ ?_
                    clear hK K dx
                    generalize (w5.alloc (.cells #[] 3)).drew = w6 at *
                    refine wpAnyM_ready [7, 9] (by kernel_rfl) (by simp) ?_
                    refine AllReadyM.cons (by rfl) (fun K hK => ?_) (AllReadyM.cons (by rfl) (fun K hK => ?_) AllReadyM.nil)
                    · have H7 : Reads w6 w6.heap.size 1 As ns (ints seen) := HS.out.go (FR.out.trans (D6.out.mono FR.out.size))
                      refine step_append_any _ (by rfl) _ _ _ (by rfl) w5.heap.size 3 j0 _ 1 8 Try.underlying45 hj0 hjz0 hjz1 hjz2 rfl (by decide) (.slice (some ⟨w5.heap.size, 0, none⟩) 0 0) 0 (ints []) (by rfl) E6.out w6.heap.size As ns cs (ints seen) (by rfl) H7 (by simp [ints, Value.oneCell']) (by unfold maxLen; omega) (by omega) D6.out.size ?_
                      intro v7 w7 hown hgr _
                      have D7 := Lib.hid (below_grown D6.out hgr E6.out (Nat.le_refl _) D6.out.size)
                      have E7 : Hid (w7.ownsRow w5.heap.size 3 1 v7 ns (ints seen)) := by rw [Nat.zero_add] at hown; exact hown
                      refine hK.out _ _ ⟨BR.out.go D7.out, PR.out.go D7.out⟩ ?_
                      clear hK K hown hgr H7 E6
                      refine wpAnyM_ready [9] (by kernel_rfl) (by simp) ?_
                      refine AllReadyM.cons (by rfl) (fun K hK => ?_) AllReadyM.nil
                      go_simp
                      have dx : Below w7.heap.size w7 (w7.alloc (.cells #[.int .i64 x] 3)) := ((Below.refl w7.heap.size w7).alloc (Nat.le_refl _) (.cells #[.int .i64 x] 3))
                      have L8 : Hid (Blk (w7.alloc (.cells #[.int .i64 x] 3)) w7.heap.size 3 #[.int .i64 x]) := Blk.new_ w7 _ _ _ rfl
                      have D8 : Hid (Below w5.heap.size w5 (w7.alloc (.cells #[.int .i64 x] 3))) := D7.out.trans (dx.mono D7.out.size)
                      have E8 := Lib.hid (own_go E7.out dx)
                      refine hK.out _ _ ⟨BR.out.go D8.out, PR.out.go D8.out⟩ ?_
                      clear hK K dx
                      generalize (w7.alloc (.cells #[.int .i64 x] 3)) = w8 at *
                      refine wpAnyM_ready [10] (by kernel_rfl) (by simp) ?_
                      refine AllReadyM.cons (by rfl) (fun K hK => ?_) AllReadyM.nil
                      refine step_append_any _ (by rfl) _ _ _ (by rfl) w5.heap.size 3 j0 _ 1 8 Try.underlying45 hj0 hjz0 hjz1 hjz2 rfl (by decide) v7 ns (ints seen) (by rfl) E8.out w8.heap.size (some ⟨w7.heap.size, 0, none⟩) 1 1 [.int .i64 x] (by rfl) (liti_reads L8.out) (by simp [Value.oneCell']) (by unfold maxLen; omega) (by omega) D8.out.size ?_
                      intro v20 w20 hown hgr _
                      have D20 := Lib.hid (below_grown D8.out hgr E8.out (Nat.le_refl _) D8.out.size)
                      obtain ⟨A9, c9, rfl, hr9⟩ := own_slice hown
                      have H20 : Hid (Reads w20 w20.heap.size 1 A9 (ns + 1) (ints (seen ++ [x]))) := by unfold ints at hr9 ⊢; rw [List.map_append]; exact hr9
                      refine hK.out _ _ ⟨BR.out.go D20.out, PR.out.go D20.out⟩ ?_
                      clear hK K hown hgr hr9 E8
                      refine wpAnyM_ready [11] (by kernel_rfl) (by simp) ?_
                      refine AllReadyM.cons (by rfl) (fun K hK => ?_) AllReadyM.nil
                      go_simp
                      refine (CR.out x HNM.out HXR.out A9 (ns + 1) c9 w20 (FR.out.trans (D20.out.mono FR.out.size)) H20.out).mono ?_
                      rintro e w21 ⟨rfl, hb⟩
                      have D21 := Lib.hid (D20.out.trans (hb.mono D20.out.size))
                      clear hb
                      have hSw : (fun w' => Blk w' w.heap.size 29 #[.slice A0 n0 c0, .slice (some ⟨bs, os, none⟩) n1 c1, .slice A2 n2 c2, .slice A3 n3 c3, .slice A4 n4 c4, .slice A5 n5 c5] ∧ Blk w' (w.heap.size + 1) 34 #[.string br, .int .i64 part]) w21 := ⟨BR.out.go D21.out, PR.out.go D21.out⟩
                      refine hK.out _ _ hSw ?_
                      clear hK K
                      refine wpAnyM_ready [12] (by kernel_rfl) (by simp) ?_
                      refine AllReadyM.cons (by rfl) (fun K hK => ?_) AllReadyM.nil
                      go_simp
                      refine (wbest_any (w.heap.size + 1 + 1) bst (rc x) w21 (GR5.out.go D21.out)).mono ?_
                      rintro e w22 ⟨rfl, hk22, ho22⟩
                      have O22 := Lib.hid ((OnlyZ.of_below D21.out).trans ho22)
                      have K22 := Lib.hid hk22
                      clear hk22 ho22
                      refine hK.out _ _ ⟨O22.out.blk BR.out (by omega) (by omega), O22.out.blk PR.out (by omega) (by omega)⟩ ?_
                      clear hK K
                      refine wpAnyM_done (by kernel_rfl) ?_ _
                      try go_simp
                      generalize Value.slice (some ⟨w5.heap.size, 0, none⟩) 0 0 = v42
                      generalize Value.slice (some ⟨w7.heap.size, 0, none⟩) 1 1 = v46
                      generalize Value.slice A9 (ns + 1) c9 = v47
                      exact ⟨v42, v7, v46, v47, rfl, rfl, K22.out, O22.out⟩
                    · go_simp
                      have dx : Below w6.heap.size w6 (w6.alloc (.cells #[.int .i64 x] 3)) := ((Below.refl w6.heap.size w6).alloc (Nat.le_refl _) (.cells #[.int .i64 x] 3))
                      have L7 : Hid (Blk (w6.alloc (.cells #[.int .i64 x] 3)) w6.heap.size 3 #[.int .i64 x]) := Blk.new_ w6 _ _ _ rfl
                      have D7 : Hid (Below w5.heap.size w5 (w6.alloc (.cells #[.int .i64 x] 3))) := D6.out.trans (dx.mono D6.out.size)
                      have E7 := Lib.hid (own_go E6.out dx)
                      refine hK.out _ _ ⟨BR.out.go D7.out, PR.out.go D7.out⟩ ?_
                      clear hK K dx
                      generalize (w6.alloc (.cells #[.int .i64 x] 3)) = w7 at *
                      refine wpAnyM_ready [7] (by kernel_rfl) (by simp) ?_
                      refine AllReadyM.cons (by rfl) (fun K hK => ?_) AllReadyM.nil
                      have H8 : Reads w7 w7.heap.size 1 As ns (ints seen) := HS.out.go (FR.out.trans (D7.out.mono FR.out.size))
                      refine step_append_any _ (by rfl) _ _ _ (by rfl) w5.heap.size 3 j0 _ 1 8 Try.underlying45 hj0 hjz0 hjz1 hjz2 rfl (by decide) (.slice (some ⟨w5.heap.size, 0, none⟩) 0 0) 0 (ints []) (by rfl) E7.out w7.heap.size As ns cs (ints seen) (by rfl) H8 (by simp [ints, Value.oneCell']) (by unfold maxLen; omega) (by omega) D7.out.size ?_
                      intro v8 w8 hown hgr _
                      have D8 := Lib.hid (below_grown D7.out hgr E7.out (Nat.le_refl _) D7.out.size)
                      have E8 : Hid (w8.ownsRow w5.heap.size 3 1 v8 ns (ints seen)) := by rw [Nat.zero_add] at hown; exact hown
                      have L8 := Lib.hid (L7.out.grown hgr (by have := HDH.out; show some w6.heap.size ≠ some w5.heap.size; simp; omega))
                      refine hK.out _ _ ⟨BR.out.go D8.out, PR.out.go D8.out⟩ ?_
                      clear hK K hown hgr H8 E7
                      refine wpAnyM_ready [10] (by kernel_rfl) (by simp) ?_
                      refine AllReadyM.cons (by rfl) (fun K hK => ?_) AllReadyM.nil
                      refine step_append_any _ (by rfl) _ _ _ (by rfl) w5.heap.size 3 j0 _ 1 8 Try.underlying45 hj0 hjz0 hjz1 hjz2 rfl (by decide) v8 ns (ints seen) (by rfl) E8.out w8.heap.size (some ⟨w6.heap.size, 0, none⟩) 1 1 [.int .i64 x] (by rfl) (liti_reads L8.out) (by simp [Value.oneCell']) (by unfold maxLen; omega) (by omega) D8.out.size ?_
                      intro v20 w20 hown hgr _
                      have D20 := Lib.hid (below_grown D8.out hgr E8.out (Nat.le_refl _) D8.out.size)
                      obtain ⟨A9, c9, rfl, hr9⟩ := own_slice hown
                      have H20 : Hid (Reads w20 w20.heap.size 1 A9 (ns + 1) (ints (seen ++ [x]))) := by unfold ints at hr9 ⊢; rw [List.map_append]; exact hr9
                      refine hK.out _ _ ⟨BR.out.go D20.out, PR.out.go D20.out⟩ ?_
                      clear hK K hown hgr hr9 E8
                      refine wpAnyM_ready [11] (by kernel_rfl) (by simp) ?_
                      refine AllReadyM.cons (by rfl) (fun K hK => ?_) AllReadyM.nil
                      go_simp
                      refine (CR.out x HNM.out HXR.out A9 (ns + 1) c9 w20 (FR.out.trans (D20.out.mono FR.out.size)) H20.out).mono ?_
                      rintro e w21 ⟨rfl, hb⟩
                      have D21 := Lib.hid (D20.out.trans (hb.mono D20.out.size))
                      clear hb
                      have hSw : (fun w' => Blk w' w.heap.size 29 #[.slice A0 n0 c0, .slice (some ⟨bs, os, none⟩) n1 c1, .slice A2 n2 c2, .slice A3 n3 c3, .slice A4 n4 c4, .slice A5 n5 c5] ∧ Blk w' (w.heap.size + 1) 34 #[.string br, .int .i64 part]) w21 := ⟨BR.out.go D21.out, PR.out.go D21.out⟩
                      refine hK.out _ _ hSw ?_
                      clear hK K
                      refine wpAnyM_ready [12] (by kernel_rfl) (by simp) ?_
                      refine AllReadyM.cons (by rfl) (fun K hK => ?_) AllReadyM.nil
                      go_simp
                      refine (wbest_any (w.heap.size + 1 + 1) bst (rc x) w21 (GR5.out.go D21.out)).mono ?_
                      rintro e w22 ⟨rfl, hk22, ho22⟩
                      have O22 := Lib.hid ((OnlyZ.of_below D21.out).trans ho22)
                      have K22 := Lib.hid hk22
                      clear hk22 ho22
                      refine hK.out _ _ ⟨O22.out.blk BR.out (by omega) (by omega), O22.out.blk PR.out (by omega) (by omega)⟩ ?_
                      clear hK K
                      refine wpAnyM_done (by kernel_rfl) ?_ _
                      try go_simp
                      generalize Value.slice (some ⟨w5.heap.size, 0, none⟩) 0 0 = v42
                      generalize Value.slice (some ⟨w6.heap.size, 0, none⟩) 1 1 = v46
                      generalize Value.slice A9 (ns + 1) c9 = v47
                      exact ⟨v42, v8, v46, v47, rfl, rfl, K22.out, O22.out⟩
                  · go_simp
                    have dh : (w5.alloc (.cells #[.int .i64 x] 3)).drew.heap.size = w5.heap.size + 1 := by simp
                    have HDH := Lib.hid dh
                    clear dh
                    have dx : Below w5.heap.size w5 (w5.alloc (.cells #[.int .i64 x] 3)).drew := ((Below.refl w5.heap.size w5).alloc (Nat.le_refl _) (.cells #[.int .i64 x] 3)).drew
                    have L6 : Hid (Blk (w5.alloc (.cells #[.int .i64 x] 3)).drew w5.heap.size 3 #[.int .i64 x]) := Blk.new_ w5 _ _ _ rfl
                    have D6 : Hid (Below w5.heap.size w5 (w5.alloc (.cells #[.int .i64 x] 3)).drew) := dx
                    refine hK.out _ _ ⟨BR.out.go D6.out, PR.out.go D6.out⟩ ?_
                    clear hK K dx
                    generalize (w5.alloc (.cells #[.int .i64 x] 3)).drew = w6 at *
                    refine wpAnyM_ready [5] (by kernel_rfl) (by simp) ?_
                    refine AllReadyM.cons (by rfl) (fun K hK => ?_) AllReadyM.nil
                    go_simp
                    have dx : Below w6.heap.size w6 (w6.alloc (.cells #[] 3)) := ((Below.refl w6.heap.size w6).alloc (Nat.le_refl _) (.cells #[] 3))
                    have E7 : Hid ((w6.alloc (.cells #[] 3)).ownsRow w5.heap.size 3 1 (.slice (some ⟨w6.heap.size, 0, none⟩) 0 0) 0 (ints [])) := World.ownsRow_lit w6 #[] 0 (D6.out.size) (by unfold maxLen; omega) rfl
                    have D7 : Hid (Below w5.heap.size w5 (w6.alloc (.cells #[] 3))) := D6.out.trans (dx.mono D6.out.size)
                    have L7 := Lib.hid (L6.out.go dx)
                    refine hK.out _ _ ⟨BR.out.go D7.out, PR.out.go D7.out⟩ ?_
                    clear hK K dx
                    generalize (w6.alloc (.cells #[] 3)) = w7 at *
                    refine wpAnyM_ready [7] (by kernel_rfl) (by simp) ?_
                    refine AllReadyM.cons (by rfl) (fun K hK => ?_) AllReadyM.nil
                    have H8 : Reads w7 w7.heap.size 1 As ns (ints seen) := HS.out.go (FR.out.trans (D7.out.mono FR.out.size))
                    refine step_append_any _ (by rfl) _ _ _ (by rfl) w5.heap.size 3 j0 _ 1 8 Try.underlying45 hj0 hjz0 hjz1 hjz2 rfl (by decide) (.slice (some ⟨w6.heap.size, 0, none⟩) 0 0) 0 (ints []) (by rfl) E7.out w7.heap.size As ns cs (ints seen) (by rfl) H8 (by simp [ints, Value.oneCell']) (by unfold maxLen; omega) (by omega) D7.out.size ?_
                    intro v8 w8 hown hgr _
                    have D8 := Lib.hid (below_grown D7.out hgr E7.out (Nat.le_refl _) D7.out.size)
                    have E8 : Hid (w8.ownsRow w5.heap.size 3 1 v8 ns (ints seen)) := by rw [Nat.zero_add] at hown; exact hown
                    have L8 := Lib.hid (L7.out.grown hgr (by have := HDH.out; show some w5.heap.size ≠ some w6.heap.size; simp; omega))
                    refine hK.out _ _ ⟨BR.out.go D8.out, PR.out.go D8.out⟩ ?_
                    clear hK K hown hgr H8 E7
                    refine wpAnyM_ready [10] (by kernel_rfl) (by simp) ?_
                    refine AllReadyM.cons (by rfl) (fun K hK => ?_) AllReadyM.nil
                    refine step_append_any _ (by rfl) _ _ _ (by rfl) w5.heap.size 3 j0 _ 1 8 Try.underlying45 hj0 hjz0 hjz1 hjz2 rfl (by decide) v8 ns (ints seen) (by rfl) E8.out w8.heap.size (some ⟨w5.heap.size, 0, none⟩) 1 1 [.int .i64 x] (by rfl) (liti_reads L8.out) (by simp [Value.oneCell']) (by unfold maxLen; omega) (by omega) D8.out.size ?_
                    intro v20 w20 hown hgr _
                    have D20 := Lib.hid (below_grown D8.out hgr E8.out (Nat.le_refl _) D8.out.size)
                    obtain ⟨A9, c9, rfl, hr9⟩ := own_slice hown
                    have H20 : Hid (Reads w20 w20.heap.size 1 A9 (ns + 1) (ints (seen ++ [x]))) := by unfold ints at hr9 ⊢; rw [List.map_append]; exact hr9
                    refine hK.out _ _ ⟨BR.out.go D20.out, PR.out.go D20.out⟩ ?_
                    clear hK K hown hgr hr9 E8
                    refine wpAnyM_ready [11] (by kernel_rfl) (by simp) ?_
                    refine AllReadyM.cons (by rfl) (fun K hK => ?_) AllReadyM.nil
                    go_simp
                    refine (CR.out x HNM.out HXR.out A9 (ns + 1) c9 w20 (FR.out.trans (D20.out.mono FR.out.size)) H20.out).mono ?_
                    rintro e w21 ⟨rfl, hb⟩
                    have D21 := Lib.hid (D20.out.trans (hb.mono D20.out.size))
                    clear hb
                    have hSw : (fun w' => Blk w' w.heap.size 29 #[.slice A0 n0 c0, .slice (some ⟨bs, os, none⟩) n1 c1, .slice A2 n2 c2, .slice A3 n3 c3, .slice A4 n4 c4, .slice A5 n5 c5] ∧ Blk w' (w.heap.size + 1) 34 #[.string br, .int .i64 part]) w21 := ⟨BR.out.go D21.out, PR.out.go D21.out⟩
                    refine hK.out _ _ hSw ?_
                    clear hK K
                    refine wpAnyM_ready [12] (by kernel_rfl) (by simp) ?_
                    refine AllReadyM.cons (by rfl) (fun K hK => ?_) AllReadyM.nil
                    go_simp
                    refine (wbest_any (w.heap.size + 1 + 1) bst (rc x) w21 (GR5.out.go D21.out)).mono ?_
                    rintro e w22 ⟨rfl, hk22, ho22⟩
                    have O22 := Lib.hid ((OnlyZ.of_below D21.out).trans ho22)
                    have K22 := Lib.hid hk22
                    clear hk22 ho22
                    refine hK.out _ _ ⟨O22.out.blk BR.out (by omega) (by omega), O22.out.blk PR.out (by omega) (by omega)⟩ ?_
                    clear hK K
                    refine wpAnyM_done (by kernel_rfl) ?_ _
                    try go_simp
                    generalize Value.slice (some ⟨w6.heap.size, 0, none⟩) 0 0 = v42
                    generalize Value.slice (some ⟨w5.heap.size, 0, none⟩) 1 1 = v46
                    generalize Value.slice A9 (ns + 1) c9 = v47
                    exact ⟨v42, v8, v46, v47, rfl, rfl, K22.out, O22.out⟩
                · intro v1 v2 v3 v4 w9 hR
                  obtain ⟨hk9, ho9⟩ := hR
                  have G9 := Lib.hid hk9
                  have B9 := Lib.hid (ho9.blk BR.out (by omega) (by omega))
                  have P9 := Lib.hid (ho9.blk PR.out (by omega) (by omega))
                  have S9 := Lib.hid (ho9.blk SR.out (by have := HGS.out; omega) (by have := HGS.out; omega))
                  have F9 := Lib.hid (FR.out.trans (ho9.below (by omega) (by omega) FR.out.size))
                  clear hk9 ho9 e0 e1 e2 e3 e4 e5 p0 p1
                  go_wp2_with fail
                  go_roundw
                  case rel => exact ⟨t + 1, y, x, Pl.better bst (rc x), by omega, by go_num, rfl, rfl, HYR.out, HXR.out, HY.out, S9.out, G9.out, B9.out, P9.out, F9.out⟩
                  case measure => simp [intOf]; omega
            · have hb1 : (y == u) = false := by simp [hyu]
              have HY := Lib.hid (HNO.out (fun h => hyu h.2.1))
              clear hyu HYE HNO
              go_wp2_with fail
              go_roundw
              case rel => exact ⟨t + 1, y, x, bst, by omega, by go_num, rfl, rfl, HYR.out, HXR.out, HY.out, SR.out, GR5.out, BR.out, PR.out, FR.out⟩
              case measure => simp [intOf]; omega
          · have HY := Lib.hid (HNO.out (fun h => by cases h.1))
            clear HYE HNO
            go_wp2_with fail
            go_roundw
            case rel => exact ⟨t + 1, y, x, bst, by omega, by go_num, rfl, rfl, HYR.out, HXR.out, HY.out, SR.out, GR5.out, BR.out, PR.out, FR.out⟩
            case measure => simp [intOf]; omega
        · have ht3 : t = 2 := by omega
          subst ht3
          have hR : Hid (bst = RS) := HRUN.out
          go_wp2_with fail
          go_roundw
          case rel => exact ⟨k + 1, bst, by omega, by go_num, by show _ = _; rw [HTK.out, hR.out], GR5.out, BR.out, PR.out, FR.out⟩
          case measure => simp [intOf]; omega
    · have HS1 : Hid (best = N.switches.foldl (Pl.swiW N u seen rc) (-1)) := by
        show _ = _
        rw [HBE.out, List.take_of_length_le (by have := HL1.out; omega)]
      obtain ⟨best0, hb0⟩ : ∃ b, b = best := ⟨_, rfl⟩
      rw [← hb0] at HS1
      have HB0 := Lib.hid hb0
      clear hb0
      rw [← HS1.out] at HWP
      clear HBE HS1
      have kn := BR.out.cell
      have hknd : ¬ ((k : Int) < (n1 : Int)) := by omega
      go_wp2_with fail
      clear kn hknd
      go_loopw [75] (fun i wr => ∃ (k : Nat) (best : Int), k ≤ n2 ∧ i = .int .i64 k ∧ Hid (best = (N.branches.take k).foldl (Pl.braW N wo br part u seen rc) best0) ∧ Hid (Blk wr (w.heap.size + 1 + 1) 3 #[.int .i64 best]) ∧ Hid (Blk wr w.heap.size 29 #[.slice A0 n0 c0, .slice A1 n1 c1, .slice A2 n2 c2, .slice A3 n3 c3, .slice A4 n4 c4, .slice A5 n5 c5]) ∧ Hid (Blk wr (w.heap.size + 1) 34 #[.string br, .int .i64 part]) ∧ Hid (Below w.heap.size w wr)) (fun i _ => n2 - (intOf i).toNat)
      case atStart => exact ⟨0, best, Nat.zero_le _, rfl, (by show _ = _; rw [List.take_zero]; exact HB0.out.symm), GR.out, BR.out, PR.out, FR.out⟩
      case round =>
        clear FR BR PR GR HB0 hk hkn
        obtain ⟨k, best, hk, rfl, HBE, GR, BR, PR, FR⟩ := hrel
        by_cases hkn : k < n2
        · have GR0 : Hid (w.heap.size + 1 + 1 < wr.heap.size) := GR.out.lt
          obtain ⟨bs, os, rfl, hls, s0, s1, s2, s3, s4, s5, s6, s7, s8⟩ := bra_at (HM.out.r2.below FR.out) hkn
          have HTK : Hid ((N.branches.take (k + 1)).foldl (Pl.braW N wo br part u seen rc) best0 = Pl.braW N wo br part u seen rc best N.branches[k]) := by
            show _ = _
            rw [List.take_succ_eq_append_getElem hls, List.foldl_append, HBE.out]; rfl
          have HKS := Lib.hid (HOKB.out k hls)
          generalize N.branches[k] = bq at *
          have HBQ : Hid (bq = ⟨bq.name, bq.from_, bq.to_, bq.x, bq.tap, bq.shift, bq.limit, bq.short, bq.hold⟩) := rfl
          obtain ⟨qn, qf, qt, qx, q5, q6, q7, q8, q9⟩ := bq
          simp only at *
          clear HBQ
          have kn := BR.out.cell
          have ln := BR.out.lt
          have lgn : wr.heap.size < wr.heap.size + 1 := Nat.lt_succ_self _
          have FX := Lib.hid (FR.out.alloc FR.out.size (.cells #[.string qn, .string qf, .string qt, .int .i64 qx, .int .i64 q5, .int .i64 q6, .int .i64 q7, .int .i64 q8, .int .i64 q9] 42))
          have GX := Lib.hid (GR.out.alloc (.cells #[.string qn, .string qf, .string qt, .int .i64 qx, .int .i64 q5, .int .i64 q6, .int .i64 q7, .int .i64 q8, .int .i64 q9] 42))
          have BX := Lib.hid (BR.out.alloc (.cells #[.string qn, .string qf, .string qt, .int .i64 qx, .int .i64 q5, .int .i64 q6, .int .i64 q7, .int .i64 q8, .int .i64 q9] 42))
          have PX := Lib.hid (PR.out.alloc (.cells #[.string qn, .string qf, .string qt, .int .i64 qx, .int .i64 q5, .int .i64 q6, .int .i64 q7, .int .i64 q8, .int .i64 q9] 42))
          have SX := Lib.hid (Blk.new_ wr wr.heap.size 42 #[.string qn, .string qf, .string qt, .int .i64 qx, .int .i64 q5, .int .i64 q6, .int .i64 q7, .int .i64 q8, .int .i64 q9] rfl)
          go_wp2_with fail
          clear kn ln lgn s0 s1 s2 s3 s4 s5 s6 s7 s8 FR GR BR PR
          generalize hgs : wr.heap.size = gs at *
          have HGS : Hid (w.heap.size + 1 + 1 < gs) := by show _ < _; have := GR0.out; omega
          clear hgs
          generalize hwx : wr.alloc (.cells #[.string qn, .string qf, .string qt, .int .i64 qx, .int .i64 q5, .int .i64 q6, .int .i64 q7, .int .i64 q8, .int .i64 q9] 42) = wx at *
          clear hwx
          have e0 := Wd.cell (BX.out.cell 0 : wx.cell? ⟨w.heap.size, 0, none⟩ = some (.slice _ n0 c0))
          have e1 := Wd.cell (BX.out.cell 1 : wx.cell? ⟨w.heap.size, 1, none⟩ = some (.slice _ n1 c1))
          have e2 := Wd.cell (BX.out.cell 2 : wx.cell? ⟨w.heap.size, 2, none⟩ = some (.slice _ n2 c2))
          have e3 := Wd.cell (BX.out.cell 3 : wx.cell? ⟨w.heap.size, 3, none⟩ = some (.slice _ n3 c3))
          have e4 := Wd.cell (BX.out.cell 4 : wx.cell? ⟨w.heap.size, 4, none⟩ = some (.slice _ n4 c4))
          have e5 := Wd.cell (BX.out.cell 5 : wx.cell? ⟨w.heap.size, 5, none⟩ = some (.slice _ n5 c5))
          have p0 := Wd.cell (PX.out.cell 0 : wx.cell? ⟨w.heap.size + 1, 0, none⟩ = some (.string br))
          have p1 := Wd.cell (PX.out.cell 1 : wx.cell? ⟨w.heap.size + 1, 1, none⟩ = some (.int .i64 part))
          have s1 := Wd.cell (SX.out.cell 1 : wx.cell? ⟨gs, 1, none⟩ = some (.string qf))
          have s2 := Wd.cell (SX.out.cell 2 : wx.cell? ⟨gs, 2, none⟩ = some (.string qt))
          refine wp_region_wd (by kernel_rfl) (by kernel_rfl) ?_
          repeat (go_big_quiet_step ((go_at_call 12; exact Calls.wd (CN.out _ _ (FX.out.trans ((Wd.ok _).mono FX.out.size))))))
          refine wpQuiet_nil ?_
          rintro _ ⟨w6, rfl⟩
          have F6 := Lib.hid (FX.out.trans (w6.ok.mono FX.out.size))
          have G6 := Lib.hid (GX.out.go w6.ok)
          have B6 := Lib.hid (BX.out.go w6.ok)
          have P6 := Lib.hid (PX.out.go w6.ok)
          have S6 := Lib.hid (SX.out.go w6.ok)
          clear e0 e1 e2 e3 e4 e5 p0 p1 s1 s2 FX GX BX PX SX
          generalize w6.val = w7 at *
          clear w6
          have HRUN : Hid (Pl.runB wo br u seen rc ⟨qn, qf, qt, qx, q5, q6, q7, q8, q9⟩ 2 best (Pl.idxT N.nodes qf) (Pl.idxT N.nodes qt) part = Pl.braW N wo br part u seen rc best ⟨qn, qf, qt, qx, q5, q6, q7, q8, q9⟩) := rfl
          generalize Pl.braW N wo br part u seen rc best ⟨qn, qf, qt, qx, q5, q6, q7, q8, q9⟩ = RS at *
          have HNB := Lib.hid (lst_beq qn br)
          have HNW := Lib.hid (lst_beq qn wo)
          generalize Pl.idxT N.nodes qf = ia at *
          generalize Pl.idxT N.nodes qt = ib at *
          go_wp2_with fail
          go_loopw [19, 20, 21, 89] (fun va vb vp vt wq => ∃ (t : Nat) (x y p bst : Int), t ≤ 2 ∧ vt = .int .i64 t ∧ va = .int .i64 x ∧ vb = .int .i64 y ∧ vp = .int .i64 p ∧ Hid (0 ≤ x ∧ x < (nl : Int)) ∧ Hid (0 ≤ y ∧ y < (nl : Int)) ∧ Hid (0 ≤ p ∧ p ≤ 1000) ∧ Hid (Pl.runB wo br u seen rc ⟨qn, qf, qt, qx, q5, q6, q7, q8, q9⟩ (2 - t) bst x y p = RS) ∧ Hid (Blk wq gs 42 #[.string qn, .string qf, .string qt, .int .i64 qx, .int .i64 q5, .int .i64 q6, .int .i64 q7, .int .i64 q8, .int .i64 q9]) ∧ Hid (Blk wq (w.heap.size + 1 + 1) 3 #[.int .i64 bst]) ∧ Hid (Blk wq w.heap.size 29 #[.slice A0 n0 c0, .slice A1 n1 c1, .slice (some ⟨bs, os, none⟩) n2 c2, .slice A3 n3 c3, .slice A4 n4 c4, .slice A5 n5 c5]) ∧ Hid (Blk wq (w.heap.size + 1) 34 #[.string br, .int .i64 part]) ∧ Hid (Below w.heap.size w wq)) (fun _ _ _ vt _ => 2 - (intOf vt).toNat)
          case atStart => exact ⟨0, ia, ib, part, best, by omega, rfl, rfl, rfl, rfl, ⟨HKS.out.1, HKS.out.2.1⟩, ⟨HKS.out.2.2.1, HKS.out.2.2.2.1⟩, HPT.out, HRUN.out, S6.out, G6.out, B6.out, P6.out, F6.out⟩
          case round =>
            have HQX : Hid (1 ≤ qx ∧ qx ≤ 10000) := HKS.out.2.2.2.2
            clear HRUN S6 G6 B6 P6 F6 HBE HKS
            obtain ⟨t, x, y, p, bst, ht, rfl, rfl, rfl, rfl, HXR, HYR, HPR, HRUN, SR, GR5, BR, PR, FR⟩ := hrel
            by_cases ht2 : t < 2
            · have HST : Hid (Pl.runB wo br u seen rc ⟨qn, qf, qt, qx, q5, q6, q7, q8, q9⟩ (2 - (t + 1)) (Pl.better (Pl.better bst (Pl.endW br u ⟨qn, qf, qt, qx, q5, q6, q7, q8, q9⟩ x p)) (Pl.hopB wo br u seen rc ⟨qn, qf, qt, qx, q5, q6, q7, q8, q9⟩ x y)) y x (1000 - p) = RS) := by
                have h := HRUN.out
                rw [show 2 - t = (2 - (t + 1)) + 1 by omega] at h
                exact h
              have HP2 : Hid (0 ≤ 1000 - p ∧ 1000 - p ≤ 1000) := by have := HPR.out; show _ ∧ _; omega
              have k4 := SR.out.cell
              have k6 := PR.out.cell
              have ht2c : (t : Int) < 2 := by omega
              have wp1 : IntKind.i64.wrap (1000 - p) = 1000 - p := IntWalk.i64_in _ (by have := HPR.out; omega)
              have xp := Pl.xpart_range HQX.out HPR.out
              have wp2 : IntKind.i64.wrap (qx * p) = qx * p := IntWalk.i64_in _ (by omega)
              clear HRUN
              by_cases hbn : Pl.lst qn = Pl.lst br
              · have hn : (qn.toList == br.toList) = true := by rw [HNB.out]; simp [hbn]
                have HBN := Lib.hid hbn
                clear hbn
                by_cases hxu : x = u
                · have hb1 : (x == u) = true := by simp [hxu]
                  have HEW : Hid (Pl.endW br u ⟨qn, qf, qt, qx, q5, q6, q7, q8, q9⟩ x p = qx * p) := by show _ = _; unfold Pl.endW; rw [if_pos ⟨HBN.out, hxu⟩]
                  rw [HEW.out] at HST
                  clear hxu
                  go_wp2_with fail
                  refine (wbest_any (w.heap.size + 1 + 1) bst (qx * p) wr GR5.out).mono ?_
                  rintro e w10 ⟨rfl, hk10, ho10⟩
                  have G10 := Lib.hid hk10
                  have B10 := Lib.hid (ho10.blk BR.out (by omega) (by omega))
                  have P10 := Lib.hid (ho10.blk PR.out (by omega) (by omega))
                  have S10 := Lib.hid (ho10.blk SR.out (by have := HGS.out; omega) (by have := HGS.out; omega))
                  have F10 := Lib.hid (FR.out.trans (ho10.below (by omega) (by omega) FR.out.size))
                  clear hk10 ho10 k4 k6 GR5 BR PR SR FR
                  generalize Pl.better bst (qx * p) = bst1 at *
                  have HS1 : Hid (Pl.runB wo br u seen rc ⟨qn, qf, qt, qx, q5, q6, q7, q8, q9⟩ (2 - (t + 1)) (Pl.better bst1 (Pl.hopB wo br u seen rc ⟨qn, qf, qt, qx, q5, q6, q7, q8, q9⟩ x y)) y x (1000 - p) = RS) := HST.out
                  have GR5 := G10
                  have BR := B10
                  have PR := P10
                  have SR := S10
                  have FR := F10
                  clear G10 B10 P10 S10 F10 HST
                  have k4 := SR.out.cell
                  have k6 := PR.out.cell
                  have HN2 : Hid (¬ (Pl.lst qn ≠ Pl.lst wo ∧ Pl.lst qn ≠ Pl.lst br ∧ x = u ∧ y ∉ seen ∧ 0 ≤ rc y) → Pl.runB wo br u seen rc ⟨qn, qf, qt, qx, q5, q6, q7, q8, q9⟩ (2 - (t + 1)) bst1 y x (1000 - p) = RS) := by
                    intro h
                    have h2 := HS1.out
                    unfold Pl.hopB at h2
                    rw [if_neg h, Pl.better_neg] at h2
                    exact h2
                  have HY2 : Hid ((Pl.lst qn ≠ Pl.lst wo ∧ Pl.lst qn ≠ Pl.lst br ∧ x = u ∧ y ∉ seen ∧ 0 ≤ rc y) → Pl.runB wo br u seen rc ⟨qn, qf, qt, qx, q5, q6, q7, q8, q9⟩ (2 - (t + 1)) (Pl.better bst1 (1000 * qx + rc y)) y x (1000 - p) = RS) := by
                    intro h
                    have h2 := HS1.out
                    unfold Pl.hopB at h2
                    rw [if_pos h] at h2
                    exact h2
                  cases hw : (qn.toList == wo.toList)
                  · have HY := Lib.hid (HN2.out (fun h => h.2.1 HBN.out))
                    go_wp2_with fail
                    go_roundw
                    case rel => exact ⟨t + 1, y, x, 1000 - p, bst1, by omega, by go_num, rfl, rfl, rfl, HYR.out, HXR.out, HP2.out, HY.out, SR.out, GR5.out, BR.out, PR.out, FR.out⟩
                    case measure => simp [intOf]; omega
                  · have HY := Lib.hid (HN2.out (fun h => h.2.1 HBN.out))
                    go_wp2_with fail
                    go_roundw
                    case rel => exact ⟨t + 1, y, x, 1000 - p, bst1, by omega, by go_num, rfl, rfl, rfl, HYR.out, HXR.out, HP2.out, HY.out, SR.out, GR5.out, BR.out, PR.out, FR.out⟩
                    case measure => simp [intOf]; omega
                · have hb1 : (x == u) = false := by simp [hxu]
                  have HEW : Hid (Pl.endW br u ⟨qn, qf, qt, qx, q5, q6, q7, q8, q9⟩ x p = -1) := by show _ = _; unfold Pl.endW; rw [if_neg (fun h => hxu h.2)]
                  rw [HEW.out, Pl.better_neg] at HST
                  obtain ⟨bst1, hbst⟩ : ∃ b, b = bst := ⟨_, rfl⟩
                  rw [← hbst] at HST GR5
                  clear hbst
                  have HS1 : Hid (Pl.runB wo br u seen rc ⟨qn, qf, qt, qx, q5, q6, q7, q8, q9⟩ (2 - (t + 1)) (Pl.better bst1 (Pl.hopB wo br u seen rc ⟨qn, qf, qt, qx, q5, q6, q7, q8, q9⟩ x y)) y x (1000 - p) = RS) := HST.out
                  clear HST hxu
                  have HN2 : Hid (¬ (Pl.lst qn ≠ Pl.lst wo ∧ Pl.lst qn ≠ Pl.lst br ∧ x = u ∧ y ∉ seen ∧ 0 ≤ rc y) → Pl.runB wo br u seen rc ⟨qn, qf, qt, qx, q5, q6, q7, q8, q9⟩ (2 - (t + 1)) bst1 y x (1000 - p) = RS) := by
                    intro h
                    have h2 := HS1.out
                    unfold Pl.hopB at h2
                    rw [if_neg h, Pl.better_neg] at h2
                    exact h2
                  have HY2 : Hid ((Pl.lst qn ≠ Pl.lst wo ∧ Pl.lst qn ≠ Pl.lst br ∧ x = u ∧ y ∉ seen ∧ 0 ≤ rc y) → Pl.runB wo br u seen rc ⟨qn, qf, qt, qx, q5, q6, q7, q8, q9⟩ (2 - (t + 1)) (Pl.better bst1 (1000 * qx + rc y)) y x (1000 - p) = RS) := by
                    intro h
                    have h2 := HS1.out
                    unfold Pl.hopB at h2
                    rw [if_pos h] at h2
                    exact h2
                  cases hw : (qn.toList == wo.toList)
                  · have HY := Lib.hid (HN2.out (fun h => h.2.1 HBN.out))
                    go_wp2_with fail
                    go_roundw
                    case rel => exact ⟨t + 1, y, x, 1000 - p, bst1, by omega, by go_num, rfl, rfl, rfl, HYR.out, HXR.out, HP2.out, HY.out, SR.out, GR5.out, BR.out, PR.out, FR.out⟩
                    case measure => simp [intOf]; omega
                  · have HY := Lib.hid (HN2.out (fun h => h.2.1 HBN.out))
                    go_wp2_with fail
                    go_roundw
                    case rel => exact ⟨t + 1, y, x, 1000 - p, bst1, by omega, by go_num, rfl, rfl, rfl, HYR.out, HXR.out, HP2.out, HY.out, SR.out, GR5.out, BR.out, PR.out, FR.out⟩
                    case measure => simp [intOf]; omega
              · have hn : (qn.toList == br.toList) = false := by rw [HNB.out]; simp [hbn]
                have HBN := Lib.hid hbn
                clear hbn
                have HEW : Hid (Pl.endW br u ⟨qn, qf, qt, qx, q5, q6, q7, q8, q9⟩ x p = -1) := by show _ = _; unfold Pl.endW; rw [if_neg (fun h => HBN.out h.1)]
                rw [HEW.out, Pl.better_neg] at HST
                obtain ⟨bst1, hbst⟩ : ∃ b, b = bst := ⟨_, rfl⟩
                rw [← hbst] at HST GR5
                clear hbst
                have HS1 : Hid (Pl.runB wo br u seen rc ⟨qn, qf, qt, qx, q5, q6, q7, q8, q9⟩ (2 - (t + 1)) (Pl.better bst1 (Pl.hopB wo br u seen rc ⟨qn, qf, qt, qx, q5, q6, q7, q8, q9⟩ x y)) y x (1000 - p) = RS) := HST.out
                clear HST
                have HN2 : Hid (¬ (Pl.lst qn ≠ Pl.lst wo ∧ Pl.lst qn ≠ Pl.lst br ∧ x = u ∧ y ∉ seen ∧ 0 ≤ rc y) → Pl.runB wo br u seen rc ⟨qn, qf, qt, qx, q5, q6, q7, q8, q9⟩ (2 - (t + 1)) bst1 y x (1000 - p) = RS) := by
                  intro h
                  have h2 := HS1.out
                  unfold Pl.hopB at h2
                  rw [if_neg h, Pl.better_neg] at h2
                  exact h2
                have HY2 : Hid ((Pl.lst qn ≠ Pl.lst wo ∧ Pl.lst qn ≠ Pl.lst br ∧ x = u ∧ y ∉ seen ∧ 0 ≤ rc y) → Pl.runB wo br u seen rc ⟨qn, qf, qt, qx, q5, q6, q7, q8, q9⟩ (2 - (t + 1)) (Pl.better bst1 (1000 * qx + rc y)) y x (1000 - p) = RS) := by
                  intro h
                  have h2 := HS1.out
                  unfold Pl.hopB at h2
                  rw [if_pos h] at h2
                  exact h2
                by_cases hwo : Pl.lst qn = Pl.lst wo
                · have hw : (qn.toList == wo.toList) = true := by rw [HNW.out]; simp [hwo]
                  have HY := Lib.hid (HN2.out (fun h => h.1 hwo))
                  go_wp2_with fail
                  go_roundw
                  case rel => exact ⟨t + 1, y, x, 1000 - p, bst1, by omega, by go_num, rfl, rfl, rfl, HYR.out, HXR.out, HP2.out, HY.out, SR.out, GR5.out, BR.out, PR.out, FR.out⟩
                  case measure => simp [intOf]; omega
                · have hw : (qn.toList == wo.toList) = false := by rw [HNW.out]; simp [hwo]
                  have HWO := Lib.hid hwo
                  clear hwo
                  by_cases hxu : x = u
                  · have hb2 : (x == u) = true := by simp [hxu]
                    have HXU := Lib.hid hxu
                    clear hxu
                    have CHX := Lib.hid (CH.out y wr FR.out)
                    go_wp2_with fail
                    refine CHX.out.mono ?_
                    rintro e w8 ⟨rfl, rfl⟩
                    by_cases hm : y ∈ seen
                    · have hd : decide (y ∈ seen) = true := decide_eq_true hm
                      have HY := Lib.hid (HN2.out (fun h => h.2.2.2.1 hm))
                      go_wp2_with fail
                      go_roundw
                      case rel => exact ⟨t + 1, y, x, 1000 - p, bst1, by omega, by go_num, rfl, rfl, rfl, HYR.out, HXR.out, HP2.out, HY.out, SR.out, GR5.out, BR.out, PR.out, FR.out⟩
                      case measure => simp [intOf]; omega
                    · have hd : decide (y ∈ seen) = false := decide_eq_false hm
                      have HNM := Lib.hid hm
                      clear hm k4
                      go_wp2_with fail
                      obtain ⟨j0, hj0, hjz0, hjz1, hjz2⟩ := info_parts info_int
                      generalize w8 = w5 at *
                      have e0 := Wd.cell (BR.out.cell 0 : w5.cell? ⟨w.heap.size, 0, none⟩ = some (.slice _ n0 c0))
                      have e1 := Wd.cell (BR.out.cell 1 : w5.cell? ⟨w.heap.size, 1, none⟩ = some (.slice _ n1 c1))
                      have e2 := Wd.cell (BR.out.cell 2 : w5.cell? ⟨w.heap.size, 2, none⟩ = some (.slice _ n2 c2))
                      have e3 := Wd.cell (BR.out.cell 3 : w5.cell? ⟨w.heap.size, 3, none⟩ = some (.slice _ n3 c3))
                      have e4 := Wd.cell (BR.out.cell 4 : w5.cell? ⟨w.heap.size, 4, none⟩ = some (.slice _ n4 c4))
                      have e5 := Wd.cell (BR.out.cell 5 : w5.cell? ⟨w.heap.size, 5, none⟩ = some (.slice _ n5 c5))
                      have p0 := Wd.cell (PR.out.cell 0 : w5.cell? ⟨w.heap.size + 1, 0, none⟩ = some (.string br))
                      have p1 := Wd.cell (PR.out.cell 1 : w5.cell? ⟨w.heap.size + 1, 1, none⟩ = some (.int .i64 part))
                      apply wp_join4 (fun w' => Below w5.heap.size w5 w')
                      · have hSw : (fun w' => ∃ x : Wd w5, w' = x.val) w5.drew := ⟨⟨_, (Below.refl w5.heap.size w5).drew⟩, rfl⟩
                        refine wp_region_mid (fun w' => ∃ x : Wd w5, w' = x.val) 12 (by kernel_rfl) ?_
                        refine wpAnyM_take 0 rfl (by kernel_rfl) (by kernel_rfl) (by kernel_rfl) (by kernel_rfl) (by kernel_rfl) (fun _ _ _ h => by obtain ⟨_, _, _, _, h, _⟩ := h; cases h) hSw (by kernel_rfl) (fun w' hSx => by obtain ⟨xw, rfl⟩ := hSx; go_simp; first | done | with_reducible rfl) ?_
                        simp only [Act.put, List.setIfInBounds_toArray]
                        refine wpAnyM_take 1 rfl (by kernel_rfl) (by kernel_rfl) (by kernel_rfl) (by kernel_rfl) (by kernel_rfl) (fun _ _ _ h => by obtain ⟨_, _, _, _, h, _⟩ := h; cases h) hSw (by kernel_rfl) (fun w' hSx => by obtain ⟨xw, rfl⟩ := hSx; go_simp; first | done | with_reducible rfl) ?_
                        simp only [Act.put]
                        refine wpAnyM_take 2 rfl (by kernel_rfl) (by kernel_rfl) (by kernel_rfl) (by kernel_rfl) (by kernel_rfl) (fun _ _ _ h => by obtain ⟨_, _, _, _, h, _⟩ := h; cases h) hSw (by kernel_rfl) (fun w' hSx => by obtain ⟨xw, rfl⟩ := hSx; go_simp; first | done | with_reducible rfl) ?_
                        simp only [Act.put]
                        refine wpAnyM_take 3 rfl (by kernel_rfl) (by kernel_rfl) (by kernel_rfl) (by kernel_rfl) (by kernel_rfl) (fun _ _ _ h => by obtain ⟨_, _, _, _, h, _⟩ := h; cases h) hSw (by kernel_rfl) (fun w' hSx => by obtain ⟨xw, rfl⟩ := hSx; go_simp; first | done | with_reducible rfl) ?_
                        simp only [Act.put]
                        refine wpAnyM_take 5 rfl (by kernel_rfl) (by kernel_rfl) (by kernel_rfl) (by kernel_rfl) (by kernel_rfl) (fun _ _ _ h => by obtain ⟨_, _, _, _, h, _⟩ := h; cases h) hSw (by kernel_rfl) (fun w' hSx => by obtain ⟨xw, rfl⟩ := hSx; go_simp; first | done | with_reducible rfl) ?_
                        simp only [Act.put]
                        refine wpAnyM_take 7 rfl (by kernel_rfl) (by kernel_rfl) (by kernel_rfl) (by kernel_rfl) (by kernel_rfl) (fun _ _ _ h => by obtain ⟨_, _, _, _, h, _⟩ := h; cases h) hSw (by kernel_rfl) (fun w' hSx => by obtain ⟨xw, rfl⟩ := hSx; go_simp; first | done | with_reducible rfl) ?_
                        simp only [Act.put]
                        refine wpAnyM_ready [4, 8] (by kernel_rfl) (by simp) ?_
                        refine AllReadyM.cons (by rfl) (fun K hK => ?_) (AllReadyM.cons (by rfl) (fun K hK => ?_) AllReadyM.nil)
                        · go_simp
                          have dh : (w5.alloc (.cells #[] 3)).drew.heap.size = w5.heap.size + 1 := by simp
                          have HDH := Lib.hid dh
                          clear dh
                          have dx : Below w5.heap.size w5 (w5.alloc (.cells #[] 3)).drew := ((Below.refl w5.heap.size w5).alloc (Nat.le_refl _) (.cells #[] 3)).drew
                          have E6 : Hid ((w5.alloc (.cells #[] 3)).drew.ownsRow w5.heap.size 3 1 (.slice (some ⟨w5.heap.size, 0, none⟩) 0 0) 0 (ints [])) := World.ownsRow_lit w5 #[] 0 (Nat.le_refl _) (by unfold maxLen; omega) rfl
                          have D6 : Hid (Below w5.heap.size w5 (w5.alloc (.cells #[] 3)).drew) := dx
                          refine hK.out _ _ ⟨⟨_, D6.out⟩, rfl⟩ ?_
                          clear hK K dx
                          generalize (w5.alloc (.cells #[] 3)).drew = w6 at *
                          refine wpAnyM_ready [6, 8] (by kernel_rfl) (by simp) ?_
                          refine AllReadyM.cons (by rfl) (fun K hK => ?_) (AllReadyM.cons (by rfl) (fun K hK => ?_) AllReadyM.nil)
                          · have H7 : Reads w6 w6.heap.size 1 As ns (ints seen) := HS.out.go (FR.out.trans (D6.out.mono FR.out.size))
                            refine step_append_any _ (by rfl) _ _ _ (by rfl) w5.heap.size 3 j0 _ 1 8 Try.underlying45 hj0 hjz0 hjz1 hjz2 rfl (by decide) (.slice (some ⟨w5.heap.size, 0, none⟩) 0 0) 0 (ints []) (by rfl) E6.out w6.heap.size As ns cs (ints seen) (by rfl) H7 (by simp [ints, Value.oneCell']) (by unfold maxLen; omega) (by omega) D6.out.size ?_
                            intro v7 w7 hown hgr _
                            have D7 := Lib.hid (below_grown D6.out hgr E6.out (Nat.le_refl _) D6.out.size)
                            have E7 : Hid (w7.ownsRow w5.heap.size 3 1 v7 ns (ints seen)) := by rw [Nat.zero_add] at hown; exact hown
                            refine hK.out _ _ ⟨⟨_, D7.out⟩, rfl⟩ ?_
                            clear hK K hown hgr H7 E6
                            refine wpAnyM_ready [8] (by kernel_rfl) (by simp) ?_
                            refine AllReadyM.cons (by rfl) (fun K hK => ?_) AllReadyM.nil
                            go_simp
                            have dx : Below w7.heap.size w7 (w7.alloc (.cells #[.int .i64 y] 3)) := ((Below.refl w7.heap.size w7).alloc (Nat.le_refl _) (.cells #[.int .i64 y] 3))
                            have L8 : Hid (Blk (w7.alloc (.cells #[.int .i64 y] 3)) w7.heap.size 3 #[.int .i64 y]) := Blk.new_ w7 _ _ _ rfl
                            have D8 : Hid (Below w5.heap.size w5 (w7.alloc (.cells #[.int .i64 y] 3))) := D7.out.trans (dx.mono D7.out.size)
                            have E8 := Lib.hid (own_go E7.out dx)
                            refine hK.out _ _ ⟨⟨_, D8.out⟩, rfl⟩ ?_
                            clear hK K dx
                            generalize (w7.alloc (.cells #[.int .i64 y] 3)) = w8 at *
                            refine wpAnyM_ready [9] (by kernel_rfl) (by simp) ?_
                            refine AllReadyM.cons (by rfl) (fun K hK => ?_) AllReadyM.nil
                            refine step_append_any _ (by rfl) _ _ _ (by rfl) w5.heap.size 3 j0 _ 1 8 Try.underlying45 hj0 hjz0 hjz1 hjz2 rfl (by decide) v7 ns (ints seen) (by rfl) E8.out w8.heap.size (some ⟨w7.heap.size, 0, none⟩) 1 1 [.int .i64 y] (by rfl) (liti_reads L8.out) (by simp [Value.oneCell']) (by unfold maxLen; omega) (by omega) D8.out.size ?_
                            intro v20 w20 hown hgr _
                            have D20 := Lib.hid (below_grown D8.out hgr E8.out (Nat.le_refl _) D8.out.size)
                            obtain ⟨A9, c9, rfl, hr9⟩ := own_slice hown
                            have H20 : Hid (Reads w20 w20.heap.size 1 A9 (ns + 1) (ints (seen ++ [y]))) := by unfold ints at hr9 ⊢; rw [List.map_append]; exact hr9
                            refine hK.out _ _ ⟨⟨_, D20.out⟩, rfl⟩ ?_
                            clear hK K hown hgr hr9 E8
                            refine wpAnyM_ready [10] (by kernel_rfl) (by simp) ?_
                            refine AllReadyM.cons (by rfl) (fun K hK => ?_) AllReadyM.nil
                            go_simp
                            refine (CR.out y HNM.out HYR.out A9 (ns + 1) c9 w20 (FR.out.trans (D20.out.mono FR.out.size)) H20.out).mono ?_
                            rintro e w21 ⟨rfl, hb⟩
                            have D21 := Lib.hid (D20.out.trans (hb.mono D20.out.size))
                            clear hb
                            have hSw : (fun w' => ∃ x : Wd w5, w' = x.val) w21 := ⟨⟨_, D21.out⟩, rfl⟩
                            refine hK.out _ _ hSw ?_
                            clear hK K
                            refine wpAnyM_take 11 rfl (by kernel_rfl) (by kernel_rfl) (by kernel_rfl) (by kernel_rfl) (by kernel_rfl) (fun _ _ _ h => by obtain ⟨_, _, _, _, h, _⟩ := h; cases h) hSw (by kernel_rfl) (fun w' hSx => by obtain ⟨xw, rfl⟩ := hSx; go_simp; first | done | with_reducible rfl) ?_
                            simp only [Act.put]
                            refine wpAnyM_done (by kernel_rfl) ?_ _
                            try go_simp
                            generalize Value.slice (some ⟨w5.heap.size, 0, none⟩) 0 0 = v42
                            generalize Value.slice (some ⟨w7.heap.size, 0, none⟩) 1 1 = v46
                            generalize Value.slice A9 (ns + 1) c9 = v47
                            exact ⟨v42, v7, v46, v47, rfl, rfl, D21.out⟩
                          · go_simp
                            have dx : Below w6.heap.size w6 (w6.alloc (.cells #[.int .i64 y] 3)) := ((Below.refl w6.heap.size w6).alloc (Nat.le_refl _) (.cells #[.int .i64 y] 3))
                            have L7 : Hid (Blk (w6.alloc (.cells #[.int .i64 y] 3)) w6.heap.size 3 #[.int .i64 y]) := Blk.new_ w6 _ _ _ rfl
                            have D7 : Hid (Below w5.heap.size w5 (w6.alloc (.cells #[.int .i64 y] 3))) := D6.out.trans (dx.mono D6.out.size)
                            have E7 := Lib.hid (own_go E6.out dx)
                            refine hK.out _ _ ⟨⟨_, D7.out⟩, rfl⟩ ?_
                            clear hK K dx
                            generalize (w6.alloc (.cells #[.int .i64 y] 3)) = w7 at *
                            refine wpAnyM_ready [6] (by kernel_rfl) (by simp) ?_
                            refine AllReadyM.cons (by rfl) (fun K hK => ?_) AllReadyM.nil
                            have H8 : Reads w7 w7.heap.size 1 As ns (ints seen) := HS.out.go (FR.out.trans (D7.out.mono FR.out.size))
                            refine step_append_any _ (by rfl) _ _ _ (by rfl) w5.heap.size 3 j0 _ 1 8 Try.underlying45 hj0 hjz0 hjz1 hjz2 rfl (by decide) (.slice (some ⟨w5.heap.size, 0, none⟩) 0 0) 0 (ints []) (by rfl) E7.out w7.heap.size As ns cs (ints seen) (by rfl) H8 (by simp [ints, Value.oneCell']) (by unfold maxLen; omega) (by omega) D7.out.size ?_
                            intro v8 w8 hown hgr _
                            have D8 := Lib.hid (below_grown D7.out hgr E7.out (Nat.le_refl _) D7.out.size)
                            have E8 : Hid (w8.ownsRow w5.heap.size 3 1 v8 ns (ints seen)) := by rw [Nat.zero_add] at hown; exact hown
                            have L8 := Lib.hid (L7.out.grown hgr (by have := HDH.out; show some w6.heap.size ≠ some w5.heap.size; simp; omega))
                            refine hK.out _ _ ⟨⟨_, D8.out⟩, rfl⟩ ?_
                            clear hK K hown hgr H8 E7
                            refine wpAnyM_ready [9] (by kernel_rfl) (by simp) ?_
                            refine AllReadyM.cons (by rfl) (fun K hK => ?_) AllReadyM.nil
                            refine step_append_any _ (by rfl) _ _ _ (by rfl) w5.heap.size 3 j0 _ 1 8 Try.underlying45 hj0 hjz0 hjz1 hjz2 rfl (by decide) v8 ns (ints seen) (by rfl) E8.out w8.heap.size (some ⟨w6.heap.size, 0, none⟩) 1 1 [.int .i64 y] (by rfl) (liti_reads L8.out) (by simp [Value.oneCell']) (by unfold maxLen; omega) (by omega) D8.out.size ?_
                            intro v20 w20 hown hgr _
                            have D20 := Lib.hid (below_grown D8.out hgr E8.out (Nat.le_refl _) D8.out.size)
                            obtain ⟨A9, c9, rfl, hr9⟩ := own_slice hown
                            have H20 : Hid (Reads w20 w20.heap.size 1 A9 (ns + 1) (ints (seen ++ [y]))) := by unfold ints at hr9 ⊢; rw [List.map_append]; exact hr9
                            refine hK.out _ _ ⟨⟨_, D20.out⟩, rfl⟩ ?_
                            clear hK K hown hgr hr9 E8
                            refine wpAnyM_ready [10] (by kernel_rfl) (by simp) ?_
                            refine AllReadyM.cons (by rfl) (fun K hK => ?_) AllReadyM.nil
                            go_simp
                            refine (CR.out y HNM.out HYR.out A9 (ns + 1) c9 w20 (FR.out.trans (D20.out.mono FR.out.size)) H20.out).mono ?_
                            rintro e w21 ⟨rfl, hb⟩
                            have D21 := Lib.hid (D20.out.trans (hb.mono D20.out.size))
                            clear hb
                            have hSw : (fun w' => ∃ x : Wd w5, w' = x.val) w21 := ⟨⟨_, D21.out⟩, rfl⟩
                            refine hK.out _ _ hSw ?_
                            clear hK K
                            refine wpAnyM_take 11 rfl (by kernel_rfl) (by kernel_rfl) (by kernel_rfl) (by kernel_rfl) (by kernel_rfl) (fun _ _ _ h => by obtain ⟨_, _, _, _, h, _⟩ := h; cases h) hSw (by kernel_rfl) (fun w' hSx => by obtain ⟨xw, rfl⟩ := hSx; go_simp; first | done | with_reducible rfl) ?_
                            simp only [Act.put]
                            refine wpAnyM_done (by kernel_rfl) ?_ _
                            try go_simp
                            generalize Value.slice (some ⟨w5.heap.size, 0, none⟩) 0 0 = v42
                            generalize Value.slice (some ⟨w6.heap.size, 0, none⟩) 1 1 = v46
                            generalize Value.slice A9 (ns + 1) c9 = v47
                            exact ⟨v42, v8, v46, v47, rfl, rfl, D21.out⟩
                        · go_simp
                          have dh : (w5.alloc (.cells #[.int .i64 y] 3)).drew.heap.size = w5.heap.size + 1 := by simp
                          have HDH := Lib.hid dh
                          clear dh
                          have dx : Below w5.heap.size w5 (w5.alloc (.cells #[.int .i64 y] 3)).drew := ((Below.refl w5.heap.size w5).alloc (Nat.le_refl _) (.cells #[.int .i64 y] 3)).drew
                          have L6 : Hid (Blk (w5.alloc (.cells #[.int .i64 y] 3)).drew w5.heap.size 3 #[.int .i64 y]) := Blk.new_ w5 _ _ _ rfl
                          have D6 : Hid (Below w5.heap.size w5 (w5.alloc (.cells #[.int .i64 y] 3)).drew) := dx
                          refine hK.out _ _ ⟨⟨_, D6.out⟩, rfl⟩ ?_
                          clear hK K dx
                          generalize (w5.alloc (.cells #[.int .i64 y] 3)).drew = w6 at *
                          refine wpAnyM_ready [4] (by kernel_rfl) (by simp) ?_
                          refine AllReadyM.cons (by rfl) (fun K hK => ?_) AllReadyM.nil
                          go_simp
                          have dx : Below w6.heap.size w6 (w6.alloc (.cells #[] 3)) := ((Below.refl w6.heap.size w6).alloc (Nat.le_refl _) (.cells #[] 3))
                          have E7 : Hid ((w6.alloc (.cells #[] 3)).ownsRow w5.heap.size 3 1 (.slice (some ⟨w6.heap.size, 0, none⟩) 0 0) 0 (ints [])) := World.ownsRow_lit w6 #[] 0 (D6.out.size) (by unfold maxLen; omega) rfl
                          have D7 : Hid (Below w5.heap.size w5 (w6.alloc (.cells #[] 3))) := D6.out.trans (dx.mono D6.out.size)
                          have L7 := Lib.hid (L6.out.go dx)
                          refine hK.out _ _ ⟨⟨_, D7.out⟩, rfl⟩ ?_
                          clear hK K dx
                          generalize (w6.alloc (.cells #[] 3)) = w7 at *
                          refine wpAnyM_ready [6] (by kernel_rfl) (by simp) ?_
                          refine AllReadyM.cons (by rfl) (fun K hK => ?_) AllReadyM.nil
                          have H8 : Reads w7 w7.heap.size 1 As ns (ints seen) := HS.out.go (FR.out.trans (D7.out.mono FR.out.size))
                          refine step_append_any _ (by rfl) _ _ _ (by rfl) w5.heap.size 3 j0 _ 1 8 Try.underlying45 hj0 hjz0 hjz1 hjz2 rfl (by decide) (.slice (some ⟨w6.heap.size, 0, none⟩) 0 0) 0 (ints []) (by rfl) E7.out w7.heap.size As ns cs (ints seen) (by rfl) H8 (by simp [ints, Value.oneCell']) (by unfold maxLen; omega) (by omega) D7.out.size ?_
                          intro v8 w8 hown hgr _
                          have D8 := Lib.hid (below_grown D7.out hgr E7.out (Nat.le_refl _) D7.out.size)
                          have E8 : Hid (w8.ownsRow w5.heap.size 3 1 v8 ns (ints seen)) := by rw [Nat.zero_add] at hown; exact hown
                          have L8 := Lib.hid (L7.out.grown hgr (by have := HDH.out; show some w5.heap.size ≠ some w6.heap.size; simp; omega))
                          refine hK.out _ _ ⟨⟨_, D8.out⟩, rfl⟩ ?_
                          clear hK K hown hgr H8 E7
                          refine wpAnyM_ready [9] (by kernel_rfl) (by simp) ?_
                          refine AllReadyM.cons (by rfl) (fun K hK => ?_) AllReadyM.nil
                          refine step_append_any _ (by rfl) _ _ _ (by rfl) w5.heap.size 3 j0 _ 1 8 Try.underlying45 hj0 hjz0 hjz1 hjz2 rfl (by decide) v8 ns (ints seen) (by rfl) E8.out w8.heap.size (some ⟨w5.heap.size, 0, none⟩) 1 1 [.int .i64 y] (by rfl) (liti_reads L8.out) (by simp [Value.oneCell']) (by unfold maxLen; omega) (by omega) D8.out.size ?_
                          intro v20 w20 hown hgr _
                          have D20 := Lib.hid (below_grown D8.out hgr E8.out (Nat.le_refl _) D8.out.size)
                          obtain ⟨A9, c9, rfl, hr9⟩ := own_slice hown
                          have H20 : Hid (Reads w20 w20.heap.size 1 A9 (ns + 1) (ints (seen ++ [y]))) := by unfold ints at hr9 ⊢; rw [List.map_append]; exact hr9
                          refine hK.out _ _ ⟨⟨_, D20.out⟩, rfl⟩ ?_
                          clear hK K hown hgr hr9 E8
                          refine wpAnyM_ready [10] (by kernel_rfl) (by simp) ?_
                          refine AllReadyM.cons (by rfl) (fun K hK => ?_) AllReadyM.nil
                          go_simp
                          refine (CR.out y HNM.out HYR.out A9 (ns + 1) c9 w20 (FR.out.trans (D20.out.mono FR.out.size)) H20.out).mono ?_
                          rintro e w21 ⟨rfl, hb⟩
                          have D21 := Lib.hid (D20.out.trans (hb.mono D20.out.size))
                          clear hb
                          have hSw : (fun w' => ∃ x : Wd w5, w' = x.val) w21 := ⟨⟨_, D21.out⟩, rfl⟩
                          refine hK.out _ _ hSw ?_
                          clear hK K
                          refine wpAnyM_take 11 rfl (by kernel_rfl) (by kernel_rfl) (by kernel_rfl) (by kernel_rfl) (by kernel_rfl) (fun _ _ _ h => by obtain ⟨_, _, _, _, h, _⟩ := h; cases h) hSw (by kernel_rfl) (fun w' hSx => by obtain ⟨xw, rfl⟩ := hSx; go_simp; first | done | with_reducible rfl) ?_
                          simp only [Act.put]
                          refine wpAnyM_done (by kernel_rfl) ?_ _
                          try go_simp
                          generalize Value.slice (some ⟨w6.heap.size, 0, none⟩) 0 0 = v42
                          generalize Value.slice (some ⟨w5.heap.size, 0, none⟩) 1 1 = v46
                          generalize Value.slice A9 (ns + 1) c9 = v47
                          exact ⟨v42, v8, v46, v47, rfl, rfl, D21.out⟩
                      · intro v1 v2 v3 v4 w9 hR
                        have G9 := Lib.hid (GR5.out.go hR)
                        have B9 := Lib.hid (BR.out.go hR)
                        have P9 := Lib.hid (PR.out.go hR)
                        have S9 := Lib.hid (SR.out.go hR)
                        have F9 := Lib.hid (FR.out.trans (hR.mono FR.out.size))
                        clear hR e0 e1 e2 e3 e4 e5 p0 p1 GR5 BR PR SR FR
                        have hbd := HBD.out y
                        by_cases hr0 : 0 ≤ rc y
                        · have hd2 : decide (0 ≤ rc y) = true := by simp [hr0]
                          have HY := Lib.hid (HY2.out ⟨HWO.out, HBN.out, HXU.out, HNM.out, hr0⟩)
                          have k5 := S9.out.cell
                          have wx1 : IntKind.i64.wrap (1000 * qx) = 1000 * qx := IntWalk.i64_in _ (by have := HQX.out; omega)
                          have wx2 : IntKind.i64.wrap (1000 * qx + rc y) = 1000 * qx + rc y := IntWalk.i64_in _ (by have := HQX.out; omega)
                          clear hr0
                          go_wp2_with fail
                          refine (wbest_any (w.heap.size + 1 + 1) bst1 (1000 * qx + rc y) w9 G9.out).mono ?_
                          rintro e w10 ⟨rfl, hk10, ho10⟩
                          have G10 := Lib.hid hk10
                          have B10 := Lib.hid (ho10.blk B9.out (by omega) (by omega))
                          have P10 := Lib.hid (ho10.blk P9.out (by omega) (by omega))
                          have S10 := Lib.hid (ho10.blk S9.out (by have := HGS.out; omega) (by have := HGS.out; omega))
                          have F10 := Lib.hid (F9.out.trans (ho10.below (by omega) (by omega) F9.out.size))
                          clear hk10 ho10 k5
                          go_wp2_with fail
                          go_roundw
                          case rel => exact ⟨t + 1, y, x, 1000 - p, Pl.better bst1 (1000 * qx + rc y), by omega, by go_num, rfl, rfl, rfl, HYR.out, HXR.out, HP2.out, HY.out, S10.out, G10.out, B10.out, P10.out, F10.out⟩
                          case measure => simp [intOf]; omega
                        · have hd2 : decide (0 ≤ rc y) = false := by simp; omega
                          have HY := Lib.hid (HN2.out (fun h => hr0 h.2.2.2.2))
                          clear hr0
                          go_wp2_with fail
                          go_roundw
                          case rel => exact ⟨t + 1, y, x, 1000 - p, bst1, by omega, by go_num, rfl, rfl, rfl, HYR.out, HXR.out, HP2.out, HY.out, S9.out, G9.out, B9.out, P9.out, F9.out⟩
                          case measure => simp [intOf]; omega
                  · have hb2 : (x == u) = false := by simp [hxu]
                    have HY := Lib.hid (HN2.out (fun h => hxu h.2.2.1))
                    go_wp2_with fail
                    go_roundw
                    case rel => exact ⟨t + 1, y, x, 1000 - p, bst1, by omega, by go_num, rfl, rfl, rfl, HYR.out, HXR.out, HP2.out, HY.out, SR.out, GR5.out, BR.out, PR.out, FR.out⟩
                    case measure => simp [intOf]; omega
            · have ht3 : t = 2 := by omega
              subst ht3
              have hR : Hid (bst = RS) := HRUN.out
              go_wp2_with fail
              go_roundw
              case rel => exact ⟨k + 1, bst, by omega, by go_num, by show _ = _; rw [HTK.out, hR.out], GR5.out, BR.out, PR.out, FR.out⟩
              case measure => simp [intOf]; omega
        · have HS2 : Hid (best = WP) := by
            show _ = _
            rw [HBE.out, List.take_of_length_le (by have := HL2.out; omega), HWP.out]
          have kg := GR.out.cell 0
          have hknd : ¬ ((k : Int) < (n2 : Int)) := by omega
          go_wp2_with fail
          go_ret
          exact ⟨by rw [HS2.out]; rfl, FR.out⟩
end Go.Proofs.Ytpamgeemmbbkkaa
