/- storage.Run: it returns what its plain function gives, in new memory, and leaves old memory as it is. No condition. -/
import Derived.Test.YtjdagpmfnmodbaaStorA
import Derived.Test.YtjdagpmfnmodbaaOwn
namespace Go.Proofs.Ytjdagpmfnmodbaa
open Go.RowKit
/-- a list, a number and an error; the list in new memory -/
def SchedSaid (x : List Int × Int × Int) (w : World) (e : Ending) (w' : World) : Prop :=
  ∃ A c, e = .returned (.tuple #[.slice A x.1.length c, .int .i64 x.2.1, .int .i64 x.2.2]) ∧ w'.ownsRow w.heap.size 3 1 (.slice A x.1.length c) x.1.length (ints x.1) ∧ Below w.heap.size w w'
theorem ints_snoc (l : List Int) (x : Int) : ints (l ++ [x]) = ints l ++ [.int .i64 x] := by simp [ints]
set_option maxHeartbeats 6400000 in
set_option maxRecDepth 100000 in
theorem sRun_any (ch dis cap beg en : Int) (A B : Option Addr) (n m c d : Nat) (ps cs : List Int) (w : World) (hr : Reads w w.heap.size 1 A n (ints ps)) (hq : Reads w w.heap.size 1 B m (ints cs)) :
    Calls Try.prog 34 #[vSt ch dis cap beg en, .slice A n c, .slice B m d] w (SchedSaid (Pl.sRun ch dis cap beg en ps cs) w) := by
  have HR := Lib.hid hr
  have HQ := Lib.hid hq
  have HL := Lib.hid hr.int_len
  have HM := Lib.hid hq.int_len
  have HC := Lib.hid (fun w h => sCheckP_any ch dis cap beg en A n c ps w h)
  have HB0 : Hid (Below w.heap.size w (w.alloc (.cells #[.int .i64 ch, .int .i64 dis, .int .i64 cap, .int .i64 beg, .int .i64 en] 70))) := (Below.refl _ _).alloc (Nat.le_refl _) _
  have HS0 : Hid (Blk (w.alloc (.cells #[.int .i64 ch, .int .i64 dis, .int .i64 cap, .int .i64 beg, .int .i64 en] 70)) w.heap.size 70 #[.int .i64 ch, .int .i64 dis, .int .i64 cap, .int .i64 beg, .int .i64 en]) := Blk.new_ _ _ _ _ rfl
  clear hr hq
  by_cases h0 : Pl.sCheckP ch dis cap beg en ps = 0
  · obtain ⟨hs, hn24, hp⟩ := Pl.sCheckP_ok h0
    rw [h0] at HC
    by_cases hmn : m = n
    · subst hmn
      have HP := Lib.hid hp
      have HSK := Lib.hid hs
      have HBD := Lib.hid (fun k => Pl.rK_bd (cs := cs) hs hp k)
      obtain ⟨d0, d1⟩ := hs.hdis
      obtain ⟨c0, c1⟩ := hs.hch
      obtain ⟨cp0, cp1⟩ := hs.hcap
      have wdis : IntKind.i64.wrap (-dis) = -dis := IntWalk.i64_in _ (by omega)
      have hm24 : m ≤ 24 := by have := HL.out; omega
      have HERR := Lib.hid (fun (k : Nat) (e : Int) (hk : k ≤ m) (he : (Pl.rK ch dis cap beg ps cs k).2.2 = e) (h : e ≠ 0) => Pl.sRun_err (en := en) h0 (by rw [HM.out, HL.out]) (by rw [HL.out]; exact hk) he h)
      have HFIN : Hid (∀ k, k = m → (Pl.rK ch dis cap beg ps cs k).2.2 = 0 → Pl.sRun ch dis cap beg en ps cs = if (Pl.rK ch dis cap beg ps cs k).1 < en then ([], 0, 14) else (Pl.rLevels ch dis cap beg ps cs k, (Pl.rK ch dis cap beg ps cs k).2.1, 0)) := fun k hk he => by
        subst hk
        rw [← HL.out] at he ⊢
        unfold Pl.sRun
        rw [if_neg (by simpa using h0), if_neg (by rw [HM.out, HL.out]; simp), if_neg (by simpa using he)]
        rfl
      obtain ⟨i0, hi0, hz0, hz1, hz2⟩ := info_parts info_int
      clear h0 hs hp hn24
      unfold SchedSaid
      generalize Pl.sRun ch dis cap beg en ps cs = R at *
      unfold vSt at *
      go_enter Try.func34, Try.ntmps34
      go_wp2_with fail
      refine (HC.out _ (HR.out.go HB0.out)).mono ?_
      rintro e w1 ⟨rfl, hb⟩
      have HB1 := Lib.hid (HB0.out.trans (hb.mono HB0.out.size))
      have HS1 := Lib.hid (HS0.out.go hb)
      have lS := HS0.out.lt
      have HZ1 : Hid (w.heap.size + 1 ≤ w1.heap.size) := by have := hb.size; simp at this; show _ ≤ _; omega
      clear hb HC HB0 HS0 lS
      have s3 := HS1.out.cell 3
      go_wp2_with fail
      go_loopw [10, 11, 12, 30] (fun v lv co i wr => ∃ (k : Nat) (Ao : Option Addr) (cc : Nat), k ≤ m ∧ i = .int .i64 k ∧ lv = .int .i64 (Pl.rK ch dis cap beg ps cs k).1 ∧ co = .int .i64 (Pl.rK ch dis cap beg ps cs k).2.1 ∧ v = .slice Ao k cc ∧ Hid (wr.ownsRow (w.heap.size + 1) 3 1 (.slice Ao k cc) k (ints (Pl.rLevels ch dis cap beg ps cs k))) ∧ Hid ((Pl.rK ch dis cap beg ps cs k).2.2 = 0) ∧ Hid (Blk wr w.heap.size 70 #[.int .i64 ch, .int .i64 dis, .int .i64 cap, .int .i64 beg, .int .i64 en]) ∧ Hid (Below w.heap.size w wr) ∧ Hid (w.heap.size + 1 ≤ wr.heap.size)) (fun _ _ _ i _ => m - (intOf i).toNat)
      case atStart => exact ⟨0, none, 0, Nat.zero_le _, rfl, rfl, rfl, rfl, World.ownsRow_nil _ _ _ _, rfl, HS1, HB1, HZ1⟩
      case round =>
        clear s3 HS1 HB1 HZ1
        obtain ⟨k, Ao, cc, hk, rfl, rfl, rfl, rfl, HO, HE, HS, HB, HZ⟩ := hrel
        have s0 := HS.out.cell 0
        have s1 := HS.out.cell 1
        have s2 := HS.out.cell 2
        have s4 := HS.out.cell 4
        have hsz := HZ.out
        obtain ⟨bd1, bd2, bd3, bd4⟩ := HBD.out k
        by_cases hlt : k < m
        · obtain ⟨b, o, rfl, hl, hc⟩ := (HR.out.go HB.out).int_at hlt
          obtain ⟨b', o', rfl, hl', hc'⟩ := (HQ.out.go HB.out).int_at hlt
          have hpk : ps.getD k 0 = ps[k] := by rw [List.getD_eq_getElem?_getD, List.getElem?_eq_getElem hl]; rfl
          have hck : cs.getD k 0 = cs[k] := by rw [List.getD_eq_getElem?_getD, List.getElem?_eq_getElem hl']; rfl
          obtain ⟨p0, p1⟩ := HP.out _ (List.getElem_mem hl)
          have HK : Hid (Pl.rK ch dis cap beg ps cs (k + 1) = if cs[k] < -dis ∨ ch < cs[k] then (0, 0, 17) else if (Pl.rK ch dis cap beg ps cs k).1 + cs[k] < 0 ∨ cap < (Pl.rK ch dis cap beg ps cs k).1 + cs[k] then (0, 0, 4) else ((Pl.rK ch dis cap beg ps cs k).1 + cs[k], (Pl.rK ch dis cap beg ps cs k).2.1 + cs[k] * ps[k], 0)) := by
            show _ = _
            rw [Pl.rK, if_neg (by simpa using HE.out), hpk, hck]
          have HLV := Lib.hid (Pl.rLevels_succ ch dis cap beg ps cs k)
          have k0 : (0 : Int) ≤ (k : Int) := by omega
          have k1 : (k : Int) < (m : Int) := by omega
          clear hpk hck HE
          generalize Pl.rLevels ch dis cap beg ps cs k = LV at *
          generalize (Pl.rK ch dis cap beg ps cs k).1 = lv at *
          generalize (Pl.rK ch dis cap beg ps cs k).2.1 = co at *
          generalize ps[k] = p at *
          generalize cs[k] = x at *
          by_cases h1 : x < -dis ∨ ch < x
          · have HR2 := Lib.hid (HERR.out (k + 1) 17 (by omega) (by rw [HK.out, if_pos h1]) (by decide))
            have RES : ∀ w', Below w.heap.size w w' → ∃ A c, (Ending.returned (.tuple #[.slice none 0 0, .int .i64 0, .int .i64 17]) : Ending) = .returned (.tuple #[.slice A R.1.length c, .int .i64 R.2.1, .int .i64 R.2.2]) ∧ w'.ownsRow w.heap.size 3 1 (.slice A R.1.length c) R.1.length (ints R.1) ∧ Below w.heap.size w w' := fun w' hb => by
              rw [HR2.out]; exact ⟨none, 0, rfl, World.ownsRow_nil _ _ _ _, hb⟩
            have HRES := Lib.hid RES
            clear RES
            rcases (show x < -dis ∨ -dis ≤ x by omega) with h2 | h2
            · clear h1
              go_wp2_with fail
              go_ret3
              exact HRES.out _ HB.out
            · have h3 : ch < x := by omega
              clear h1
              go_wp2_with fail
              go_ret3
              exact HRES.out _ HB.out
          · have hx0 : -dis ≤ x := by omega
            have hx1 : x ≤ ch := by omega
            obtain ⟨mm0, mm1⟩ := Pl.mulP_small (c := x) (p := p) (by omega) (by omega) p0 p1
            by_cases h2 : lv + x < 0 ∨ cap < lv + x
            · have HR2 := Lib.hid (HERR.out (k + 1) 4 (by omega) (by rw [HK.out, if_neg h1, if_pos h2]) (by decide))
              have RES : ∀ w', Below w.heap.size w w' → ∃ A c, (Ending.returned (.tuple #[.slice none 0 0, .int .i64 0, .int .i64 4]) : Ending) = .returned (.tuple #[.slice A R.1.length c, .int .i64 R.2.1, .int .i64 R.2.2]) ∧ w'.ownsRow w.heap.size 3 1 (.slice A R.1.length c) R.1.length (ints R.1) ∧ Below w.heap.size w w' := fun w' hb => by
                rw [HR2.out]; exact ⟨none, 0, rfl, World.ownsRow_nil _ _ _ _, hb⟩
              have HRES := Lib.hid RES
              clear RES h1
              rcases (show lv + x < 0 ∨ 0 ≤ lv + x by omega) with h3 | h3
              · clear h2
                go_wp2_with fail
                go_ret3
                exact HRES.out _ HB.out
              · have h4 : cap < lv + x := by omega
                clear h2
                go_wp2_with fail
                go_ret3
                exact HRES.out _ HB.out
            · have HK2 : Hid (Pl.rK ch dis cap beg ps cs (k + 1) = (lv + x, co + x * p, 0)) := by show _ = _; rw [HK.out, if_neg h1, if_neg h2]
              have hl0 : 0 ≤ lv + x := by omega
              have hl1 : lv + x ≤ cap := by omega
              have wl : IntKind.i64.wrap (lv + x) = lv + x := IntWalk.i64_in _ (by omega)
              have wc : IntKind.i64.wrap (co + x * p) = co + x * p := IntWalk.i64_in _ (by omega)
              have wx : IntKind.i64.wrap (x * p) = x * p := IntWalk.i64_in _ (by omega)
              clear h1 h2 HK
              go_wp2_with (at_builtin; go_must (refine wpList_append_grow _ rfl (.tmp 65) (.tmp 67) 24 rfl (w.heap.size + 1) 3 i0 _ 1 8 Try.underlying24 hi0 hz0 hz1 hz2 rfl (by decide) (.slice Ao k cc) k (ints LV) rfl HO.out HZ.out #[.int .i64 (lv + x)] rfl rfl (by simp) (by simp [Value.oneCell']) (by unfold maxLen; omega) (by omega) ?_); intro v' w3 hown3 hg3 hsz3)
              obtain ⟨A3, c3, rfl, _⟩ := own_slice hown3
              have HB3 := Lib.hid (below_grown HB.out hg3 HO.out (Nat.le_succ _) HB.out.size)
              have HS3 := Lib.hid (HS.out.grown hg3 (own_ne HO.out (.inl (Nat.lt_succ_self _))))
              have HO3 := Lib.hid hown3
              have HZ3 := Lib.hid hsz3
              clear hown3 hg3 hsz3
              go_roundw
              case rel =>
                refine ⟨k + 1, A3, c3, by omega, by go_num, by rw [HK2.out], by rw [HK2.out], rfl, ?_, ?_, HS3, HB3, HZ3⟩
                · show World.ownsRow _ _ _ _ _ _ _
                  rw [HLV.out, HK2.out, ints_snoc]
                  exact HO3.out
                · show _ = _
                  rw [HK2.out]
              case measure => simp [intOf]; omega
        · have hkm : k = m := by omega
          subst hkm
          have HX := Lib.hid (HFIN.out k rfl HE.out)
          by_cases h1 : (Pl.rK ch dis cap beg ps cs k).1 < en
          · have HX2 := Lib.hid (HX.out.trans (if_pos h1))
            go_wp2_with fail
            go_ret3
            rw [HX2.out]
            exact ⟨none, 0, rfl, World.ownsRow_nil _ _ _ _, HB.out⟩
          · have HX2 := Lib.hid (HX.out.trans (if_neg h1))
            have hll := Pl.rLevels_len ch dis cap beg ps cs k
            go_wp2_with fail
            go_ret3
            rw [HX2.out]
            refine ⟨Ao, cc, by simp only [hll]; rfl, ?_, HB.out⟩
            simp only [hll]
            exact own_base HO.out (Nat.le_succ _)
    · have HX : Hid (Pl.sRun ch dis cap beg en ps cs = ([], 0, 3)) := by show _ = _; unfold Pl.sRun; rw [if_neg (by simpa using h0), if_pos (by rw [HL.out, HM.out]; exact hmn)]
      have hmn2 : ((m : Int) != (n : Int)) = true := by simp; omega
      clear h0 hs hn24 hp hmn
      unfold SchedSaid
      generalize Pl.sRun ch dis cap beg en ps cs = R at *
      unfold vSt at *
      go_enter Try.func34, Try.ntmps34
      go_wp2_with fail
      refine (HC.out _ (HR.out.go HB0.out)).mono ?_
      rintro e w1 ⟨rfl, hb⟩
      have HB1 := Lib.hid (HB0.out.trans (hb.mono HB0.out.size))
      clear hb
      go_wp2_with fail
      go_ret3
      rw [HX.out]
      exact ⟨none, 0, rfl, World.ownsRow_nil _ _ _ _, HB1.out⟩
  · have HX : Hid (Pl.sRun ch dis cap beg en ps cs = ([], 0, Pl.sCheckP ch dis cap beg en ps)) := by show _ = _; unfold Pl.sRun; rw [if_pos h0]
    have h2 : (Pl.sCheckP ch dis cap beg en ps != 0) = true := by simpa using h0
    clear h0
    unfold SchedSaid
    generalize Pl.sRun ch dis cap beg en ps cs = R at *
    generalize Pl.sCheckP ch dis cap beg en ps = u at *
    unfold vSt at *
    go_enter Try.func34, Try.ntmps34
    go_wp2_with fail
    refine (HC.out _ (HR.out.go HB0.out)).mono ?_
    rintro e w1 ⟨rfl, hb⟩
    have HB1 := Lib.hid (HB0.out.trans (hb.mono HB0.out.size))
    clear hb
    go_wp2_with fail
    go_ret3
    rw [HX.out]
    exact ⟨none, 0, rfl, World.ownsRow_nil _ _ _ _, HB1.out⟩
end Go.Proofs.Ytjdagpmfnmodbaa
