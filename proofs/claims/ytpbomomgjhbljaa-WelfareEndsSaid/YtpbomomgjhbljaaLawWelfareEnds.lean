/- The law WelfareEnds: for all valid lengths the call returns true, and old memory is left as it is. No condition. -/
import Derived.Test.YtpbomomgjhbljaaMove2
import Derived.Test.YtpbomomgjhbljaaLawWelfareBound
import Derived.Test.YtpbomomgjhbljaaCloI
namespace Go.Proofs.Ytpbomomgjhbljaa
open Go.RowKit
namespace Pl
theorem moveEx : (dCost servedL [12, 2]).2.2 = 0 ∧ lastP servedL [12, 2] 0 = 8 ∧ nextP servedL [12, 2] 1 = 5 ∧ lastP servedL [12, 2] 1 = 5 ∧ nextP servedL [12, 2] 0 = 8 ∧ total (steps servedL 1) = 20 := ⟨by kernel_rfl, by kernel_rfl, by kernel_rfl, by kernel_rfl, by kernel_rfl, by kernel_rfl⟩
theorem moved_ex {i k : Nat} {m : Int} (h : Moved servedL 2 [12, 2] i k m) : i = 0 ∧ k = 1 ∧ m = 3 := by
  obtain ⟨_, e1, e2, e3, e4, e5⟩ := moveEx
  have h3 := h.most 0 1 (by omega) (by omega) ⟨by omega, by decide, by rw [e5]; decide⟩
  rw [e1, e2] at h3
  obtain ⟨hi, hk, ⟨hne, _, _⟩, hm⟩ := h.may (by omega)
  have : (i = 0 ∧ k = 1) ∨ (i = 1 ∧ k = 0) := by omega
  rcases this with ⟨rfl, rfl⟩ | ⟨rfl, rfl⟩
  · rw [e1, e2] at hm; exact ⟨rfl, rfl, hm⟩
  · rw [e3, e4] at hm; omega
end Pl
theorem move_ex (A A1 A2 B : Option Addr) (c e' : Nat) (w : World) (hc : 2 ≤ c) (h : Offs w A 2 [⟨⟨#[65]⟩, A1, 2, 2, twoSt⟩, ⟨⟨#[66]⟩, A2, 2, 2, twoSt⟩]) (hp : Reads w w.heap.size 1 B 2 (ints [12, 2])) :
    Calls Try.prog 37 #[.slice A 2 c, .slice B 2 e'] w fun e w' => e = .returned (.tuple #[.int .i64 0, .int .i64 1, .int .i64 3, .int .i64 0]) ∧ Below w.heap.size w w' := by
  refine (move_good A B 2 c e' _ [12, 2] w hc h hp Pl.moveEx.1).mono ?_
  rintro e w' ⟨i, k, m, hm, he, hb⟩
  obtain ⟨rfl, rfl, rfl⟩ := Pl.moved_ex hm
  rcases he with ⟨h, _⟩ | ⟨_, h⟩
  · exact absurd h (by decide)
  · exact ⟨h, hb⟩
set_option maxHeartbeats 6400000 in
set_option maxRecDepth 100000 in
theorem welfareEnds_walk (A : Option Addr) (n c : Nat) (l : List MOff) (B : Option Addr) (m e' : Nat) (xs : List Int) (w : World) (hcap : n ≤ c) (h : Offs w A n l) (hx : Reads w w.heap.size 1 B m (ints xs)) :
    Calls Try.prog 11 #[.slice A n c, .slice B m e'] w fun e w' => e = .returned (.bool true) ∧ Below w.heap.size w w' := by
  have L1 := Lib.hid h.len
  have L2 := Lib.hid hx.int_len
  have H := Lib.hid h
  clear h
  go_enter Try.func11, Try.ntmps11
  go_wp2_with fail
  refine (two_any _ _).mono ?_
  rintro e w1 ⟨A1, rfl, h1, hb1⟩
  unfold vOff
  go_wp2_with fail
  refine (two_any _ _).mono ?_
  rintro e w2 ⟨A2, rfl, h2, hb2⟩
  have HB2 := Lib.hid (hb1.trans (hb2.mono hb1.size))
  have H1 := Lib.hid (h1.go hb2)
  have H2 := Lib.hid h2
  clear h1 h2 hb1 hb2
  unfold vOff
  go_wp2_with fail
  have AL := (Below.refl (w2.alloc (.cells #[.string ⟨#[65]⟩, .slice A1 2 2, .string ⟨#[66]⟩, .slice A2 2 2] 57)).heap.size (w2.alloc (.cells #[.string ⟨#[65]⟩, .slice A1 2 2, .string ⟨#[66]⟩, .slice A2 2 2] 57))).alloc (Nat.le_refl _) (.cells #[.int .i64 12, .int .i64 2] 3)
  have HO := Lib.hid ((two_offs H1.out H2.out ⟨#[65]⟩ ⟨#[66]⟩ (by decide) (by decide) _ rfl).go AL)
  have HI := Lib.hid (Reads.lit (w2.alloc (.cells #[.string ⟨#[65]⟩, .slice A1 2 2, .string ⟨#[66]⟩, .slice A2 2 2] 57)) #[.int .i64 12, .int .i64 2] 3 2 1 (w2.heap.size + 1) (by simp) rfl)
  have HB3 := Lib.hid ((HB2.out.alloc HB2.out.size (.cells #[.string ⟨#[65]⟩, .slice A1 2 2, .string ⟨#[66]⟩, .slice A2 2 2] 57)).alloc (by have := HB2.out.size; simp; omega) (.cells #[.int .i64 12, .int .i64 2] 3))
  refine (move_ex _ _ _ _ _ _ _ (by decide) HO.out HI.out).mono ?_
  rintro e w3 ⟨rfl, hb⟩
  have HB4 := Lib.hid (HB3.out.trans (hb.mono HB3.out.size))
  clear hb HO HI HB3 HB2 H1 H2 AL
  go_wp2_with fail
  by_cases h0 : (Pl.dCost (plo l) xs).2.2 = 0
  · obtain ⟨g1, g2, g3, _⟩ := Pl.dCost_ok h0
    have hm : m = n := by rw [plo_len, L1.out, L2.out] at g2; exact g2
    subst hm
    have HG : Hid (∀ k, k < m → Pl.Good (Pl.steps (plo l) k)) := fun k hk => (Pl.steps_good g1 k (by rw [plo_len, L1.out]; exact hk)).1
    have HX : Hid (∀ k, k < m → 0 ≤ xs.getD k 0 ∧ xs.getD k 0 ≤ Pl.total (Pl.steps (plo l) k)) := fun k hk => g3 k (by rw [plo_len, L1.out]; exact hk)
    obtain ⟨gl, _⟩ := Pl.oall_good g1
    have hn10 : m ≤ 10 := by have := L1.out; rw [plo_len] at gl; omega
    have HDC : Hid (∀ ys : List Int, ys.length = m → (∀ k, k < m → 0 ≤ ys.getD k 0 ∧ ys.getD k 0 ≤ Pl.total (Pl.steps (plo l) k)) → (Pl.dCost (plo l) ys).2.2 = 0) := fun ys hl hy => by
      rw [Pl.dCost_of (l := plo l) g1 (by rw [plo_len, L1.out]; exact hl) (fun k hk => hy k (by rw [plo_len, L1.out] at hk; exact hk))]
    have HCB : Hid (∀ ys : List Int, (∀ k, k < m → 0 ≤ ys.getD k 0 ∧ ys.getD k 0 ≤ Pl.total (Pl.steps (plo l) k)) → -(100000000000 * (m : Int)) ≤ Pl.costK (plo l) ys m ∧ Pl.costK (plo l) ys m ≤ 100000000000 * (m : Int)) := fun ys hy => by
      have := Pl.costK_bd g1 m (by rw [plo_len, L1.out]; exact Nat.le_refl _) hy
      exact ⟨this.1, this.2.1⟩
    have HWA := Lib.hid (fun (ys : List Int) (A' : Option Addr) (e2 : Nat) w ha hb hd => waste_good A A' m c e2 l ys w hcap ha hb hd)
    have HMV := Lib.hid (fun (ys : List Int) (A' : Option Addr) (e2 : Nat) w ha hb hd => move_good A A' m c e2 l ys w hcap ha hb hd)
    refine (HWA.out xs B e' w3 (H.out.go HB4.out) (hx.go HB4.out) h0).mono ?_
    rintro e w5 ⟨ps, c0, p0, rfl, hs0, _, hb⟩
    have HB6 := Lib.hid (HB4.out.trans (hb.mono HB4.out.size))
    have HS0 := Lib.hid hs0
    obtain ⟨k1, k2⟩ := HCB.out xs HX.out
    have HC0 := Pl.waste_law HG.out hs0 HX.out rfl
    have c0a : c0 ≤ Pl.costK (plo l) xs m := by have := HC0.1; omega
    have hc0 : -1000000000000 ≤ c0 ∧ c0 ≤ 1000000000000 := by
      have := hs0.cost
      have hb : ∀ k, k < m → 0 ≤ ps.getD k 0 ∧ ps.getD k 0 ≤ Pl.total (Pl.steps (plo l) k) := fun k hk => by
        have h1 := hs0.at_ k hk
        have h2 := Pl.least_most (P := p0) (fun q hq => ((HG.out k hk).step q hq).1)
        omega
      have := HCB.out ps hb
      unfold Pl.costK at this
      omega
    obtain ⟨c00, c01⟩ := hc0
    clear h0 g1 g2 g3 gl hs0 hb HB4 HC0
    go_wp2_with fail
    refine (clone_ints B m e' xs w5 (by omega) (hx.go HB6.out)).mono ?_
    rintro e w6 ⟨A6, c6, rfl, ho, hb⟩
    have HB7 := Lib.hid (HB6.out.trans (hb.mono HB6.out.size))
    have OF6 := Lib.hid ho
    have hsz6 := HB6.out.size
    clear hb ho
    go_wp2_with fail
    go_loopw [9, 54] (fun v9 i wr => ∃ (t : Nat) (ys : List Int), t ≤ 60 ∧ i = .int .i64 t ∧ v9 = .int .i64 (Pl.costK (plo l) ys m - c0) ∧ Hid (ys.length = m) ∧ Hid (Pl.powK ys m = Pl.powK xs m) ∧ Hid (∀ k, k < m → 0 ≤ ys.getD k 0 ∧ ys.getD k 0 ≤ Pl.total (Pl.steps (plo l) k)) ∧ Hid (wr.ownsRow w5.heap.size 3 1 (.slice A6 m c6) m (ints ys)) ∧ Hid (Below w.heap.size w wr)) (fun _ i _ => 60 - (intOf i).toNat)
    case atStart => exact ⟨0, xs, by omega, rfl, rfl, L2, rfl, HX, OF6, HB7⟩
    case round =>
      clear OF6 HB7 HB6
      obtain ⟨t, ys, ht, rfl, rfl, LY, PY, HY, OF, HB⟩ := hrel
      obtain ⟨b1, b2⟩ := HCB.out ys HY.out
      have hw0 : 0 ≤ Pl.costK (plo l) ys m - c0 := by have := (Pl.waste_law HG.out HS0.out HY.out PY.out).1; omega
      by_cases hlt : t < 60
      · have hd := HDC.out ys LY.out HY.out
        go_wp2_with fail
        refine (HMV.out ys A6 c6 wr (H.out.go HB.out) (Reads.of_own OF.out) hd).mono ?_
        rintro e w7 ⟨i, k, mm, hmv, he, hb⟩
        have HB8 := Lib.hid (HB.out.trans (hb.mono HB.out.size))
        have OF8 := Lib.hid (own_go OF.out hb)
        have HMD := Lib.hid hmv
        rcases he with ⟨rfl, rfl⟩ | ⟨hne, rfl⟩
        · have hz : Pl.costK (plo l) ys m - c0 = 0 := by
            have := Pl.no_waste HG.out HS0.out HY.out PY.out HMD.out
            omega
          have hz1 : ((Pl.costK (plo l) ys m - c0) == 0) = true := by rw [hz]; rfl
          clear hb hmv hz hd
          generalize Pl.costK (plo l) ys m - c0 = wv at *
          go_wp2_with fail
          go_ret
          exact ⟨by first | rfl | (rw [hz1]), HB8.out⟩
        · obtain ⟨hi, hk, hmay, hmm⟩ := hmv.may hne
          have hm0 := hmv.pos
          obtain ⟨e1, e2, e3, e4⟩ := Pl.move1_law HG.out LY.out HY.out hmv hne
          have HE2 := Lib.hid e2
          have HE3 := Lib.hid e3
          have HPW : Hid (Pl.powK (Pl.move1 ys i k) m = Pl.powK xs m) := e1.trans PY.out
          have HE4 := Lib.hid e4
          have hne2 := hmay.1
          have hw1 : 0 ≤ Pl.costK (plo l) (Pl.move1 ys i k) m - c0 := by have := (Pl.waste_law HG.out HS0.out e4 HPW.out).1; omega
          rw [e2] at hw1
          have hne3 : ((i : Int) == (k : Int)) = false := by simp; omega
          have yi := HY.out i hi
          have yk := HY.out k hk
          have ti := (HG.out i hi).sum
          have tk := (HG.out k hk).sum
          have HMV1 : Hid (Pl.move1 ys i k = (ys.set i (ys.getD i 0 - 1)).set k (ys.getD k 0 + 1)) := rfl
          clear hb hmv e1 e2 e3 e4 hmay hmm hd hne HMD
          rcases OF8.out.2 with ⟨hv, _⟩ | ⟨g, cap, cur, hv, hg1, _, hcap6, _⟩
          · injection hv with _ hv2 _
            exfalso; omega
          · injection hv with hv1 hv2 hv3
            subst hv1 hv3
            have qa := own_int_cell OF8.out i hi
            have qk := own_int_cell OF8.out k hk
            have ff := World.ownsRow.frozenAt OF8.out
            have i0 : (0 : Int) ≤ (i : Int) := by omega
            have i1 : (i : Int) < (m : Int) := by omega
            have k0 : (0 : Int) ≤ (k : Int) := by omega
            have k01 : (k : Int) < (m : Int) := by omega
            obtain ⟨yi0, yi1⟩ := yi
            obtain ⟨yk0, yk1⟩ := yk
            have xi1 : ys.getD i 0 ≤ 100000 := by omega
            have xk1 : ys.getD k 0 ≤ 100000 := by omega
            clear yi1 yk1 ti tk hne2
            have OFS := Lib.hid (own_int_set (own_int_set OF8.out i (ys.getD i 0 - 1)) k (ys.getD k 0 + 1))
            rw [← HMV1.out] at OFS
            have hgw : w.heap.size ≤ g := by omega
            have HBS := Lib.hid ((HB8.out.setCell (p := ⟨g, i, none⟩) hgw (.int .i64 (ys.getD i 0 - 1))).setCell (p := ⟨g, k, none⟩) hgw (.int .i64 (ys.getD k 0 + 1)))
            obtain ⟨vk, qk2⟩ : ∃ v, (w7.setCell ⟨g, i, none⟩ (.int .i64 (ys.getD i 0 - 1))).cell? ⟨g, k, none⟩ = some v := ⟨_, own_int_cell (own_int_set OF8.out i (ys.getD i 0 - 1)) k hk⟩
            generalize ys.getD i 0 = ai at *
            generalize ys.getD k 0 = ak at *
            generalize hcy : Pl.costK (plo l) ys m = cy at *
            have HCY := Lib.hid hcy
            clear hcy
            have z1 : IntKind.i64.wrap (ai - 1) = ai - 1 := IntWalk.i64_in _ (by omega)
            have z2 : IntKind.i64.wrap (ak + 1) = ak + 1 := IntWalk.i64_in _ (by omega)
            have z3 : IntKind.i64.wrap (cy - c0 - mm) = cy - c0 - mm := IntWalk.i64_in _ (by omega)
            go_wp2_with fail
            go_region
            all_goals
              go_wp2_with fail
              refine (HWA.out (Pl.move1 ys i k) (some ⟨g, 0, none⟩) c6 _ (H.out.go HBS.out.drew) (show Reads _ _ _ _ _ _ from Reads.of_own OFS.out) (HDC.out _ HE3.out HE4.out)).mono ?_
              rintro e w9 ⟨ps2, c2, p2, he, hs2, _, hb⟩
              rw [HPW.out] at hs2
              obtain ⟨ec, _, _⟩ := Pl.served_prices HG.out HS0.out hs2
              have hq : Pl.costK (plo l) (Pl.move1 ys i k) m - c2 = cy - c0 - mm := by rw [HE2.out, ← ec]; omega
              rw [hq] at he
              subst he
              have HB9 := Lib.hid (HBS.out.drew.trans (hb.mono HBS.out.drew.size))
              have OF9 := Lib.hid (own_go OFS.out.drew hb)
              have HV9 : Hid (Value.int .i64 (cy - c0 - mm) = .int .i64 (Pl.costK (plo l) (Pl.move1 ys i k) m - c0)) := vint (by rw [HE2.out]; omega)
              clear hb hs2 ec hq qa qk qk2 ff
              go_wp2_with fail
              go_roundw
              case rel => exact ⟨t + 1, Pl.move1 ys i k, by omega, by go_num, HV9.out, HE3, HPW, HE4, OF9, HB9⟩
              case measure => simp [intOf]; omega
      · have : t = 60 := by omega
        subst this
        have hz1 : decide (0 ≤ Pl.costK (plo l) ys m - c0) = true := decide_eq_true hw0
        generalize Pl.costK (plo l) ys m - c0 = wv at *
        go_wp2_with fail
        go_ret
        exact ⟨by first | rfl | (rw [hz1]), HB.out⟩
  · have hne : ((Pl.dCost (plo l) xs).2.2 != 0) = true := by simpa using h0
    refine (waste_bad A B n c m e' l xs w3 hcap (H.out.go HB4.out) (hx.go HB4.out) h0).mono ?_
    rintro e w5 ⟨rfl, hb⟩
    have HB6 := Lib.hid (HB4.out.trans (hb.mono HB4.out.size))
    clear hb h0
    generalize (Pl.dCost (plo l) xs).2.2 = u at *
    go_wp2_with fail
    go_ret
    exact ⟨rfl, HB6.out⟩
end Go.Proofs.Ytpbomomgjhbljaa
