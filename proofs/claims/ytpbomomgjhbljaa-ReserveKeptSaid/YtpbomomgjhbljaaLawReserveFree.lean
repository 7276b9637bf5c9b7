/- Arguments that are slices of reserve units, opened. No condition. The law ReserveFree. Condition: the units read take less memory than the form's reach. -/
import Derived.Test.YtpbomomgjhbljaaRes
import Derived.Test.YtpbomomgjhbljaaServed
import Derived.SizedLaws
import Derived.Test.YtpbomomgjhbljaaResB
import Derived.Test.YtpbomomgjhbljaaPWelf
namespace Go.Proofs.Ytpbomomgjhbljaa
open Go.ChangeShapes Go.WideShapes Go.ChangeAt Go.RowKit
variable {H : Type} {enc : TypeId × Value → H} {W : World} {base : Nat} {sp : Nat → Bool} {held : Bool}
theorem bytes_unit : Try.prog.bytesOf 65 = 48 := by kernel_rfl
theorem cells_unit : Try.prog.cellsOf 65 = 3 := by kernel_rfl
theorem units_reach {A : Option Addr} {n c : Nat} {d : DataW H} {p : List MemPlace} (h : DataW.Trod enc Try.prog W base sp held 60 (.slice A n c) d p) {ts : List TypeId} {ds : List (DataW H)}
    (hsz : (DataW.weightsEach Try.prog ts ds).all (· ≤ reachBytes) = true) {j : Nat} (ht : ts[j]? = some 60) (hd : ds[j]? = some d) : n * 48 ≤ 140737488351232 := by
  obtain ⟨fuel, hf⟩ := h
  rcases Go.Deep.open_slice Try.underlying60 hf with ⟨hcs, _⟩ | ⟨a, len, cap, m, k, D, Q, hcs, _, hl, hm, hmm, hx, _⟩
  · injection hcs with hcs _
    injection hcs with _ hn _
    subst hn
    decide
  · injection hcs with hcs _
    injection hcs with _ hn _
    subst hn
    injection hx with hx _
    subst hx
    have := sized_slice hsz ht hd Try.underlying60
    rw [bytes_unit] at this
    simp only [List.length_map, List.length_range, reachBytes] at this
    have h2 : n * 48 ≤ (n + (m - n)) * 48 := Nat.mul_le_mul_right 48 (by omega)
    omega
def decUnit (u : MOff × Int) : List Value := [.string u.1.nm, .slice u.1.A u.1.n u.1.c, .int .i64 u.2]
theorem open_offer_cells {f0 f1 : Field} (he : Try.prog.underlying 57 = some (.struct #[f0, f1])) (hone : Go.Deep.oneCellFields Try.prog #[f0, f1] = true) (h0 : Try.prog.underlying f0.type = some .string) (h1 : f1.type = 55) {n : Nat} {cs : List Value} {y : DataW H × List MemPlace}
    (hy : DataW.trod enc Try.prog W base sp held n 57 cs = some y) : ∃ o : MOff, cs = decOff o ∧ OffIn W o := by
  obtain ⟨hl, m, hff⟩ := open_struct_cells he hone hy (by rw [cells_Offer]; rfl)
  obtain ⟨a, b, rfl⟩ := list2 (l := cs) (by simpa using hl)
  obtain ⟨_, y0, e0, t0⟩ := hff 0 f0 rfl
  obtain ⟨_, y1, e1, t1⟩ := hff 1 f1 rfl
  injection e0 with e0; subst e0
  injection e1 with e1; subst e1
  obtain ⟨s, rfl, hs⟩ := string_cell h0 t0
  rw [h1] at t1
  obtain ⟨A, k, c, st, rfl, hkc, _, hr⟩ := open_pairs_cells Try.underlying55 Try.underlying62 (by kernel_rfl) cells_OfferStep Try.underlying3 Try.underlying3 t1
  exact ⟨⟨s, A, k, c, st⟩, rfl, hs, hkc, hr⟩
theorem open_unit_cells {f0 f1 : Field} (he : Try.prog.underlying 65 = some (.struct #[f0, f1])) (o0 : f0.offset = 0) (k0 : f0.type = 57) (o1 : f1.offset = 2) (k1 : f1.type = 3) {n : Nat} {cs : List Value} {y : DataW H × List MemPlace}
    (hy : DataW.trod enc Try.prog W base sp held n 65 cs = some y) : ∃ u : MOff × Int, cs = decUnit u ∧ OffIn W u.1 ∧ -9223372036854775808 ≤ u.2 ∧ u.2 ≤ 9223372036854775807 := by
  obtain ⟨xs, m, _, _, hlen, hxl, hf⟩ := DataW.trod_struct he hy
  rw [cells_unit] at hlen
  obtain ⟨a, b, c, rfl⟩ := list3 hlen
  have hx2 : xs.length = 2 := hxl
  have h0 := hf 0 f0 rfl
  have h1 := hf 1 f1 rfl
  rw [o0, k0, cells_Offer, List.getElem?_eq_getElem (by omega)] at h0
  rw [o1, k1, show Try.prog.cellsOf 3 = 1 from by kernel_rfl, List.getElem?_eq_getElem (by omega)] at h1
  obtain ⟨o, ho, hq⟩ := open_offer_cells Try.underlying57 (by kernel_rfl) Try.underlying9 rfl (show DataW.trod enc Try.prog W base sp held m 57 [a, b] = _ from h0)
  obtain ⟨z, rfl, z0, z1⟩ := int_cell Try.underlying3 (show DataW.trod enc Try.prog W base sp held m 3 [c] = _ from h1)
  refine ⟨(o, z), ?_, hq, z0, z1⟩
  have : [a, b, Value.int .i64 z] = [a, b] ++ [Value.int .i64 z] := rfl
  rw [this, ho]
  rfl
set_option maxRecDepth 100000 in
theorem open_units_arg {r : Reach} {b0 : Nat} {v : Value} {d : DataW H} {p : List MemPlace} (hv : Value.okWide Try.prog W r b0 60 v) (h : DataW.Trod enc Try.prog W base sp held 60 v d p) :
    ∃ (A : Option Addr) (n c : Nat) (l : List (MOff × Int)), v = .slice A n c ∧ n ≤ c ∧ c ≤ maxLen ∧ Units W A n l := by
  obtain ⟨A, n, c, rfl⟩ := okWide_slice Try.underlying60 hv
  obtain ⟨fuel, hf⟩ := h
  obtain ⟨A, n, c, l, e, h1, h2, h3, h4⟩ := open_slice_of decUnit (fun u => OffIn W u.1 ∧ -9223372036854775808 ≤ u.2 ∧ u.2 ≤ 9223372036854775807) 3 (by omega) (fun _ => rfl) Try.underlying60 cells_unit (fun n cs y hy => open_unit_cells Try.underlying65 rfl rfl rfl rfl hy) hf
  exact ⟨A, n, c, l, e, h1, h2, h3, h4⟩
end Go.Proofs.Ytpbomomgjhbljaa
namespace Go.Proofs.Ytpbomomgjhbljaa
open Go.RowKit
namespace Pl
theorem rfree_law {l : List RU} {n : Nat} {d : Int} {bs : List B4} (hn : l.length = n) (h1 : oall (roffs l) = 0) (hg : ∀ k, k < n → Good (steps (roffs l) k)) (hf : ∀ k, k < n → 0 ≤ (ru l k).2) (d0 : 0 ≤ d) (d1 : d ≤ 1000000) (hp : bs.Perm (rblocks l n)) (hs : bs.Pairwise rle) :
    (0 < (rfill n d (possK l n - 0) bs).2.2.1 → dcheck (roffs l) d = 8) ∧ ((rfill n d (possK l n - 0) bs).2.2.1 ≤ 0 → dcheck (roffs l) d = 0 ∧ ∃ p, Served (roffs l) n d (rfill n d (possK l n - 0) bs).1 (rfill n d (possK l n - 0) bs).2.1 p) := by
  rw [Int.sub_zero]
  obtain ⟨h2, h3⟩ := rfill_free hg hf hp hs d0
  have hl : (roffs l).length = n := by unfold roffs; rw [List.length_map]; exact hn
  have ht : totals (roffs l) (roffs l).length = sumN (fun k => total (steps (roffs l) k)) n := by rw [hl]; rfl
  have hdc : dcheck (roffs l) d = if sumN (fun k => total (steps (roffs l) k)) n < d then 8 else 0 := by
    unfold dcheck
    rw [if_neg (by simpa using h1), if_neg (by omega), ht]
  constructor
  · intro h
    rw [h2] at h
    rw [hdc, if_pos (by omega)]
  · intro h
    rw [h2] at h
    exact ⟨by rw [hdc, if_neg (by omega)], h3 (by omega)⟩
theorem dcheck_out {l : List Off} {d : Int} (h1 : oall l = 0) (h : outB d 0 1000000 = true) : dcheck l d = 4 := by
  unfold dcheck
  unfold outB at h
  rw [if_neg (by simpa using h1), if_pos (by simpa using h)]
end Pl
theorem one_units {w1 : World} {A1 : Option Addr} {nz : Nat} {st : List (Int × Int)} (h1 : Reads w1 w1.heap.size 2 A1 nz (pairs st)) (s1 : ByteArray) (z1 : s1.size ≤ 9223372036854775807) (f : Int) (f0 : 0 ≤ f) (f1 : f ≤ 100000) (g : Nat) (hg : g = w1.heap.size) :
    Units (w1.alloc (.cells #[.string s1, .slice A1 nz nz, .int .i64 f] 65)) (some ⟨g, 0, none⟩) 1 [(⟨s1, A1, nz, nz, st⟩, f)] := by
  refine ⟨Reads.lit w1 #[.string s1, .slice A1 nz nz, .int .i64 f] 65 1 3 g hg rfl, fun o ho => ?_⟩
  simp only [List.mem_singleton] at ho
  subst ho
  exact ⟨⟨z1, Nat.le_refl _, h1.go ((Below.refl _ _).alloc (Nat.le_refl _) _)⟩, by show _ ≤ f; omega, by show f ≤ _; omega⟩
theorem possEx : rposs [((⟨#[65]⟩, twoSt), 5)] = 5 ∧ Pl.rcheck [((⟨#[65]⟩, twoSt), 5)] = 0 := ⟨by kernel_rfl, by kernel_rfl⟩
theorem poss_ex (A A1 : Option Addr) (c : Nat) (w : World) (h : Units w A 1 [(⟨⟨#[65]⟩, A1, 2, 2, twoSt⟩, 5)]) :
    Calls Try.prog 34 #[.slice A 1 c] w fun e w' => e = .returned (.tuple #[.int .i64 5, .int .i64 0]) ∧ Below w.heap.size w w' := by
  have := possible_any A 1 c _ w (by omega) h
  have e1 : rposs (plr [(⟨⟨#[65]⟩, A1, 2, 2, twoSt⟩, 5)]) = 5 := possEx.1
  have e2 : Pl.rcheck (plr [(⟨⟨#[65]⟩, A1, 2, 2, twoSt⟩, 5)]) = 0 := possEx.2
  rw [e1, e2] at this
  exact this
set_option maxHeartbeats 6400000 in
set_option maxRecDepth 100000 in
theorem reserveFree_walk (A : Option Addr) (n c : Nat) (l : List (MOff × Int)) (d : Int) (w : World) (hn : n * 48 ≤ 140737488351232) (h : Units w A n l) :
    Calls Try.prog 10 #[.slice A n c, .int .i64 d] w fun e w' => e = .returned (.bool true) ∧ Below w.heap.size w w' := by
  have L1 := Lib.hid h.len
  have H := Lib.hid h
  obtain ⟨i0, hi0, hz0, hz1, hz2⟩ := info_parts info_offer
  have hn2 : n ≤ 10000000000000 := by omega
  have HN := Lib.hid hn
  clear h
  go_enter Try.func10, Try.ntmps10
  go_wp2_with fail
  refine (served_any _).mono ?_
  rintro e w1 ⟨rfl, hb⟩
  have HB1 := Lib.hid hb
  clear hb
  go_wp2_with fail
  refine (two_any _ _).mono ?_
  rintro e w2 ⟨A1, rfl, h1, hb1⟩
  have HB2 := Lib.hid (HB1.out.trans (hb1.mono HB1.out.size))
  have H1 := Lib.hid h1
  clear h1 hb1 HB1
  unfold vOff
  go_wp2_with fail
  have HO := Lib.hid (one_units H1.out ⟨#[65]⟩ (by decide) 5 (by omega) (by omega) _ rfl)
  have HB3 := Lib.hid (HB2.out.alloc HB2.out.size (.cells #[.string ⟨#[65]⟩, .slice A1 2 2, .int .i64 5] 65))
  refine (poss_ex _ _ _ _ HO.out).mono ?_
  rintro e w3 ⟨rfl, hb⟩
  have HB4 := Lib.hid (HB3.out.trans (hb.mono HB3.out.size))
  have hsz4 := HB4.out.size
  clear hb HO HB3 HB2 H1
  go_wp2_with fail
  go_loopw [7, 33] (fun v i wr => ∃ (k : Nat) (Ao : Option Addr) (co : Nat), k ≤ n ∧ i = .int .i64 k ∧ v = .slice Ao k co ∧ Hid (wr.ownsRow w.heap.size 57 2 (.slice Ao k co) k (offs ((l.map fun u => u.1).take k))) ∧ Hid (Below w.heap.size w wr)) (fun _ i _ => n - (intOf i).toNat)
  case atStart => exact ⟨0, none, 0, Nat.zero_le _, rfl, rfl, World.ownsRow_nil _ _ _ _, HB4⟩
  case round =>
    clear HB4 hsz4
    obtain ⟨k, Ao, co, hk, rfl, rfl, OF, HB⟩ := hrel
    by_cases hlt : k < n
    · obtain ⟨b, o, rfl, hl1, c1, c2, c3⟩ := (H.out.go HB.out).at_ hlt
      have HSN : Hid (offs ((l.map fun u => u.1).take (k + 1)) = offs ((l.map fun u => u.1).take k) ++ [.string l[k].1.nm, .slice l[k].1.A l[k].1.n l[k].1.c]) := by
        show _ = _
        rw [List.take_succ_eq_append_getElem (by simpa using hl1), offs_snoc]
        simp
      generalize offs ((l.map fun u => u.1).take k) = X0 at *
      generalize l[k] = z at *
      obtain ⟨⟨nm, Az, nz, cz, st⟩, f⟩ := z
      simp only at c1 c2 c3 HSN
      have OF1 := Lib.hid (OF.out.alloc (.cells #[.string nm, .slice Az nz cz, .int .i64 f] 65))
      have HB1 := Lib.hid (HB.out.alloc HB.out.size (.cells #[.string nm, .slice Az nz cz, .int .i64 f] 65))
      have hsz := HB.out.size
      go_wp2_with (at_builtin; go_must (refine wpList_append_grow _ rfl (.tmp 37) (.tmp 40) 48 rfl w.heap.size 57 i0 _ 2 40 Try.underlying48 hi0 hz0 hz1 hz2 rfl (by decide) (.slice Ao k co) k X0 rfl OF1.out (by simp; omega) #[.string nm, .slice Az nz cz] rfl rfl (by simp) (by simp [Value.oneCell']) (by unfold maxLen; omega) (by omega) ?_); intro v' w3 hown3 hg3 hsz3; obtain ⟨A3, c3, rfl, _⟩ := own_slice hown3; have HO3 := Lib.hid hown3; have HG3 := Lib.hid hg3; clear hown3 hg3)
      have HB3 := Lib.hid (below_grown HB1.out HG3.out OF1.out (Nat.le_refl _) (by have := HB.out.size; simp; omega))
      go_roundw
      case rel =>
        refine ⟨k + 1, A3, c3, by omega, by go_num, rfl, ?_, HB3⟩
        rw [HSN.out]; exact HO3.out
      case measure => simp [intOf]; omega
    · have : k = n := by omega
      subst this
      have HTK : Hid ((l.map fun u => u.1).take k = l.map fun u => u.1) := List.take_of_length_le (by have := L1.out; simp; omega)
      rw [HTK.out] at OF
      have HOF : Hid (Offs wr Ao k (l.map fun u => u.1)) := ⟨Reads.of_own OF.out, fun o ho => by
        obtain ⟨u, hu, rfl⟩ := List.mem_map.1 ho
        obtain ⟨a, b, c⟩ := (H.out.2 u hu).1
        exact ⟨a, b, c.go HB.out⟩⟩
      have hco := own_cap OF.out
      have HCK := Lib.hid (fun w h => rcheck_any A k c l w HN.out h)
      have HRE := Lib.hid (roffs_plr l)
      clear HTK OF hi0 hz0 hz1 hz2
      by_cases h1 : Pl.rcheck (plr l) = 0
      · obtain ⟨h2, _⟩ := Pl.rcheck_ok h1
        have HR := Lib.hid (rgood_of L1.out h1)
        have hn10 := HR.out.n10
        rw [h1] at HCK
        cases hv : Pl.outB d 0 1000000
        · obtain ⟨d0, d1⟩ := Pl.outB_false.1 hv
          have hpb := Pl.possK_bd (n := k) (fun j hj => (HR.out.good j (by omega)).1) (fun j hj => HR.out.fast j (by omega))
          have hpo : rposs (plr l) = Pl.possK (plr l) k := by unfold rposs; rw [if_neg (by simpa using h1), plr_len, L1.out]
          have hb0 : Pl.rberr (plr l) d 0 = 0 := by
            unfold Pl.rberr
            rw [if_neg (by simpa using h1), hv, show Pl.outB 0 0 1000000 = false from by decide, if_neg (by decide), hpo, if_neg (by omega)]
          have HLAW := Lib.hid (fun bs hp hs => Pl.rfree_law (l := plr l) (n := k) (d := d) (bs := bs) (by rw [plr_len, L1.out]) h2 (fun j hj => (HR.out.good j hj).1) (fun j hj => (HR.out.fast j hj).1) d0 d1 hp hs)
          have HBG := Lib.hid (rbest_good A k c l d 0 wr HN.out (H.out.go HB.out) hb0)
          clear h1 h2 hv hpb hpo hb0
          go_wp2_with fail
          refine HBG.out.mono ?_
          rintro e w5 ⟨hb, bs, hperm, hsort, _, hh⟩
          have HB5 := Lib.hid (HB.out.trans (hb.mono HB.out.size))
          have HO5 := Lib.hid (HOF.out.go hb)
          obtain ⟨law1, law2⟩ := HLAW.out bs hperm hsort
          have HL1 := Lib.hid law1
          have HL2 := Lib.hid law2
          clear hb hperm hsort law1 law2 HLAW HBG HB HOF
          rcases hh with ⟨hpos, rfl⟩ | ⟨hnp, A', rfl, _⟩
          · have hd := HL1.out hpos
            rw [HRE.out] at hd
            have HBW := Lib.hid (best_bad Ao k co (l.map fun u => u.1) d w5 hco HO5.out (by rw [hd]; decide))
            rw [hd] at HBW
            clear hd hpos HL1 HL2
            go_wp2_with fail
            refine HBW.out.mono ?_
            rintro e w6 ⟨rfl, hb⟩
            have HB6 := Lib.hid (HB5.out.trans (hb.mono HB5.out.size))
            clear hb
            go_wp2_with fail
            refine (HCK.out _ (H.out.go HB6.out)).mono ?_
            rintro e w7 ⟨rfl, hb⟩
            have HB7 := Lib.hid (HB6.out.trans (hb.mono HB6.out.size))
            clear hb
            go_wp2_with fail
            go_ret
            exact ⟨rfl, HB7.out⟩
          · obtain ⟨hd, p, hsv⟩ := HL2.out hnp
            rw [HRE.out] at hd hsv
            have HBW := Lib.hid (best_good Ao k co (l.map fun u => u.1) d w5 hco HO5.out hd)
            have HSV := Lib.hid hsv
            have HGD : Hid (∀ j, j < k → Pl.Good (Pl.steps (plo (l.map fun u => u.1)) j)) := fun j hj => by rw [← HRE.out]; exact (HR.out.good j hj).1
            clear hd hsv hnp HL1 HL2
            generalize (Pl.rfill k d (Pl.possK (plr l) k - 0) bs).2.1 = cs at *
            generalize (Pl.rfill k d (Pl.possK (plr l) k - 0) bs).1 = pp at *
            go_wp2_with fail
            refine HBW.out.mono ?_
            rintro e w6 ⟨A6, ps, cost, p2, rfl, hs2, _, _, _, _, hb⟩
            obtain ⟨hce, _, _⟩ := Pl.served_prices HGD.out HSV.out hs2
            subst hce
            have HB6 := Lib.hid (HB5.out.trans (hb.mono HB5.out.size))
            clear hb hs2
            go_wp2_with fail
            refine (HCK.out _ (H.out.go HB6.out)).mono ?_
            rintro e w7 ⟨rfl, hb⟩
            have HB7 := Lib.hid (HB6.out.trans (hb.mono HB6.out.size))
            clear hb
            go_wp2_with fail
            go_ret
            exact ⟨rfl, HB7.out⟩
        · have hb4 : Pl.rberr (plr l) d 0 = 4 := by
            unfold Pl.rberr
            rw [if_neg (by simpa using h1), hv, Bool.true_or, if_pos rfl]
          have hd : Pl.dcheck (plo (l.map fun u => u.1)) d = 4 := by rw [← HRE.out]; exact Pl.dcheck_out h2 hv
          have HBG := Lib.hid (rbest_bad A k c l d 0 wr HN.out (H.out.go HB.out) (by rw [hb4]; decide))
          have HBW := Lib.hid (fun w h => best_bad Ao k co (l.map fun u => u.1) d w hco h (by rw [hd]; decide))
          rw [hb4] at HBG
          rw [hd] at HBW
          clear h1 h2 hv hb4 hd
          go_wp2_with fail
          refine HBG.out.mono ?_
          rintro e w5 ⟨rfl, hb⟩
          have HB5 := Lib.hid (HB.out.trans (hb.mono HB.out.size))
          have HO5 := Lib.hid (HOF.out.go hb)
          clear hb
          go_wp2_with fail
          refine (HBW.out _ HO5.out).mono ?_
          rintro e w6 ⟨rfl, hb⟩
          have HB6 := Lib.hid (HB5.out.trans (hb.mono HB5.out.size))
          clear hb
          go_wp2_with fail
          refine (HCK.out _ (H.out.go HB6.out)).mono ?_
          rintro e w7 ⟨rfl, hb⟩
          have HB7 := Lib.hid (HB6.out.trans (hb.mono HB6.out.size))
          clear hb
          go_wp2_with fail
          go_ret
          exact ⟨rfl, HB7.out⟩
      · have hb4 : Pl.rberr (plr l) d 0 = Pl.rcheck (plr l) := by
          unfold Pl.rberr
          rw [if_pos h1]
        have hne : (Pl.rcheck (plr l) != 0) = true := by simpa using h1
        have HBG := Lib.hid (rbest_bad A k c l d 0 wr HN.out (H.out.go HB.out) (by rw [hb4]; exact h1))
        rw [hb4] at HBG
        have HBW : Hid (∀ w, Offs w Ao k (l.map fun u => u.1) → Calls Try.prog 28 #[.slice Ao k co, .int .i64 d] w fun e w' => ∃ (A' : Option Addr) (m' c' : Nat) (x y : Int), e = .returned (.tuple #[.slice A' m' c', .int .i64 x, .int .i64 y]) ∧ Below w.heap.size w w') := fun w hw => by
          by_cases hd : Pl.dcheck (plo (l.map fun u => u.1)) d = 0
          · refine (best_good Ao k co (l.map fun u => u.1) d w hco hw hd).mono ?_
            rintro e w6 ⟨A6, ps, cost, p2, rfl, _, _, _, _, _, hb⟩
            exact ⟨A6, k, k, cost, 0, rfl, hb⟩
          · refine (best_bad Ao k co (l.map fun u => u.1) d w hco hw hd).mono ?_
            rintro e w6 ⟨rfl, hb⟩
            exact ⟨none, 0, 0, 0, _, rfl, hb⟩
        clear h1 hb4
        generalize Pl.rcheck (plr l) = u at *
        go_wp2_with fail
        refine HBG.out.mono ?_
        rintro e w5 ⟨rfl, hb⟩
        have HB5 := Lib.hid (HB.out.trans (hb.mono HB.out.size))
        have HO5 := Lib.hid (HOF.out.go hb)
        clear hb
        go_wp2_with fail
        refine (HBW.out _ HO5.out).mono ?_
        rintro e w6 ⟨A', m', c', x, y, rfl, hb⟩
        have HB6 := Lib.hid (HB5.out.trans (hb.mono HB5.out.size))
        clear hb
        go_wp2_with fail
        refine (HCK.out _ (H.out.go HB6.out)).mono ?_
        rintro e w7 ⟨rfl, hb⟩
        have HB7 := Lib.hid (HB6.out.trans (hb.mono HB6.out.size))
        clear hb
        go_wp2_with fail
        go_ret
        exact ⟨rfl, HB7.out⟩
end Go.Proofs.Ytpbomomgjhbljaa
