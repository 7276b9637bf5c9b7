/- The law LedgerLimit, its walk: Post adds an entry unless the account would fall below the least balance. Condition: the entries lie in memory as the words say (and are not more than the form's reach); the library's tables lie as they are laid. -/
import Derived.Test.YtnnfkfimicmboaaDoorLawLedgerZero
import Derived.Deep.RegionHeld3
namespace Go.Proofs.YtnnfkfimicmboaaDoor
open Go.RowKit
namespace Pl
theorem lbads_ne (l : List LE) : lbads l ≠ 17 := by
  induction l using snocInd with
  | h0 => decide
  | h1 l x ih =>
    rw [lbads_snoc]
    split
    · exact ih
    · unfold lbad
      split
      · decide
      · split
        · decide
        · split <;> decide
theorem lcheck_ne (l : List LE) : lcheck l ≠ 17 := by
  unfold lcheck
  split
  · decide
  · split
    · exact lbads_ne l
    · split <;> decide
theorem lPost_lim {l : List LE} {x : LE} {least : Int} (h : lPost l x least = 17) : lcheck (l ++ [x]) = 0 ∧ bal (l ++ [x]) x.1 < least := by
  unfold lPost at h
  by_cases h1 : lcheck l = 0
  · rw [if_neg (by simpa using h1)] at h
    split at h
    · cases h
    · by_cases h2 : lcheck (l ++ [x]) = 0
      · rw [if_neg (by simpa using h2)] at h
        split at h
        · rename_i h3; exact ⟨h2, h3⟩
        · cases h
      · rw [if_pos h2] at h; exact absurd h (lcheck_ne _)
  · rw [if_pos h1] at h; exact absurd h (lcheck_ne _)
theorem lAB_post : lPost [] (⟨#[65]⟩, ⟨#[66]⟩, 5) (-4) = 17 := by
  have h1 : lcheck ([] ++ [((⟨#[65]⟩, ⟨#[66]⟩, 5) : LE)]) = 0 := lAB_ok
  have h2 : bal ([] ++ [((⟨#[65]⟩, ⟨#[66]⟩, 5) : LE)]) ⟨#[65]⟩ = -5 := by decide +kernel
  unfold lPost
  rw [if_neg (by rw [lcheck_nil]; simp), if_neg (by omega), if_neg (by rw [h1]; simp)]
  simp only [h2]
  rfl
end Pl
theorem row_cap {w : World} {base n c : Nat} {e : TypeId} {size : Nat} {A : Option Addr} {xs : List Value} (h : w.ownsRow base e size (.slice A n c) n xs) : n ≤ c ∧ c ≤ maxLen := by
  rcases h.2 with ⟨hv, _⟩ | ⟨g, cap, cur, hv, _, _, hn, hc, _⟩
  · injection hv with _ h1 h2; subst h2; exact ⟨by omega, Nat.zero_le _⟩
  · injection hv with _ h1 h2; subst h2; exact ⟨hn, hc⟩
theorem Ents.pre {w : World} {A : Option Addr} {n : Nat} {l m : List Pl.LE} (h : Ents w A n (l ++ m)) : Ents w A l.length l := by
  have hn : l.length + m.length = n := by have := h.len; rwa [List.length_append] at this
  refine ⟨⟨ents_length l, fun h0 => ?_⟩, fun x hx => h.2 x (List.mem_append_left _ hx)⟩
  obtain ⟨ad, e, hb, hc⟩ := h.1.2 (by omega)
  refine ⟨ad, e, hb, fun j u hu => hc j u ?_⟩
  rw [ents_append, List.getElem?_append_left (List.getElem?_eq_some_iff.1 hu).1]
  exact hu
set_option maxHeartbeats 3200000 in
set_option maxRecDepth 100000 in
theorem limit_any (A : Option Addr) (n c : Nat) (l : List Pl.LE) (x : Pl.LE) (least : Int) (w : World) (hn : n * 40 ≤ 140737488351232) (h : Ents w A n l) (hx : EntIn x) (h1 : -9223372036854775808 ≤ least ∧ least ≤ 9223372036854775807) (hl : LW w) :
    Calls Tryd.prog 6 #[.slice A n c, .agg #[.string x.1, .string x.2.1, .int .i64 x.2.2], .int .i64 least] w fun e w' => e = .returned (.bool true) ∧ Below w.heap.size w w' := by
  obtain ⟨ba, bb, ct⟩ := x
  have L := Lib.hid h.len
  have H := Lib.hid h
  have HLW := Lib.hid hl
  have HX := Lib.hid hx
  have HWR := Lib.hid (fun w h => written_any w h)
  have HBAL := Lib.hid (fun (A : Option Addr) (n c : Nat) (l : List Pl.LE) nm w h => lbalance_any A n c l nm w h)
  have HPO := Lib.hid (fun w h => post_any A n c l (ba, bb, ct) least w h HX.out h1.1 h1.2)
  have HP0 := Lib.hid (fun w => post_any none 0 0 [] (⟨#[65]⟩, ⟨#[66]⟩, 5) (-4) w ⟨Reads.none_, fun x hx => absurd hx (by simp)⟩ (lAB_in _ (by simp [Pl.lAB])) (by decide) (by decide))
  have HN := Lib.hid hn
  have hp0 : Pl.lPostL [] (⟨#[65]⟩, ⟨#[66]⟩, 5) (-4) = [] := by unfold Pl.lPostL; rw [if_neg (by rw [Pl.lAB_post]; decide)]
  unfold PostSaid at HPO HP0
  rw [hp0, Pl.lAB_post] at HP0
  clear h hl hx hn hp0
  simp only at HPO HP0 ⊢
  go_enter Tryd.func6, Tryd.ntmps6
  go_wp2_with fail
  have AL : Hid (Below w.heap.size w (w.alloc (.cells #[.string ba, .string bb, .int .i64 ct] 31))) := (Below.refl _ _).alloc (Nat.le_refl _) _
  have BX := Lib.hid (Blk.new_ w w.heap.size 31 #[.string ba, .string bb, .int .i64 ct] rfl)
  generalize w.alloc (.cells #[.string ba, .string bb, .int .i64 ct] 31) = w1 at *
  refine (HP0.out _).mono ?_
  rintro e w2 ⟨A2, c2, rfl, _, hb⟩
  have HB2 := Lib.hid (AL.out.trans (hb.mono AL.out.size))
  have BX2 := Lib.hid (BX.out.go hb)
  clear hb AL BX HP0
  go_wp2_with (go_at_call 7; refine (HWR.out _ (HLW.out.go HB2.out)).mono ?_; rintro e w3 ⟨rfl, hb⟩; have HB3 := Lib.hid (HB2.out.trans (hb.mono HB2.out.size)); have BX3 := Lib.hid (BX2.out.go hb); clear hb; have x0 := BX3.out.cell 0; have x1 := BX3.out.cell 1; have x2 := BX3.out.cell 2)
  refine (HPO.out w3 (H.out.go HB3.out)).mono ?_
  rintro e w4 ⟨A4, c4, rfl, hown, hb⟩
  have HB4 := Lib.hid (HB3.out.trans (hb.mono HB3.out.size))
  have BX4 := Lib.hid (BX3.out.go hb)
  have OM := Lib.hid hown
  clear hb hown HB3 BX3 HB2 BX2 x0 x1 x2 HPO
  by_cases hp : Pl.lPost l (ba, bb, ct) least = 0
  · obtain ⟨q0, q1, q2⟩ := Pl.lPost_ok hp
    have el : Pl.lPostL l (ba, bb, ct) least = l ++ [(ba, bb, ct)] := by unfold Pl.lPostL; rw [if_pos hp]
    rw [el] at OM ⊢
    rw [hp]
    have hlen : (l ++ [(ba, bb, ct)]).length = n + 1 := by rw [List.length_append, L.out]; rfl
    have HE4 : Hid (Ents w4 A4 (n + 1) (l ++ [(ba, bb, ct)])) := ⟨by have := Reads.of_own OM.out; rwa [hlen] at this, fun y hy => by
      rcases List.mem_append.1 hy with hy | hy
      · exact H.out.2 y hy
      · rw [List.mem_singleton.1 hy]; exact HX.out⟩
    have hcap := row_cap OM.out
    rw [hlen] at hcap ⊢
    have hcap2 : n ≤ c4 := by omega
    have hnl : n ≤ 256 := by rw [← L.out]; exact (Pl.lcheck_ok.1 q0).1
    have b2 := Pl.lBalance_ok q1 ba
    have b2z := b2.2.2 (Pl.accL_mem.2 (by rw [Pl.nmsL_append]; exact List.mem_append_right _ (by simp [Pl.nmsL])))
    have HB5 := Lib.hid (fun w h => HBAL.out A4 (n + 1) c4 (l ++ [(ba, bb, ct)]) ba w h)
    rw [b2.1, b2z] at HB5
    change least ≤ Pl.bal (l ++ [(ba, bb, ct)]) ba at q2
    clear q0 q1 el hlen b2 b2z hp OM
    generalize Pl.bal (l ++ [(ba, bb, ct)]) ba = bz at *
    have x0 := BX4.out.cell 0
    go_wp2_with fail
    refine (HB5.out _ HE4.out).mono ?_
    rintro e w5 ⟨rfl, hb⟩
    have BX5 := Lib.hid (BX4.out.go hb)
    have HE5 := Lib.hid (HE4.out.go hb)
    have HB6 := Lib.hid (HB4.out.trans (hb.mono HB4.out.size))
    clear hb BX4 HE4 HB4 HB5 x0
    obtain ⟨b, o, rfl, hl1, c0, c1, c2, hl2⟩ := HE5.out.at_ (k := n) (by omega)
    have hx : (l ++ [(ba, bb, ct)])[n] = (ba, bb, ct) := by
      rw [List.getElem_append_right (by rw [L.out]; exact Nat.le_refl _)]
      simp [L.out]
    rw [hx] at c0 c1 c2
    simp only at c0 c1 c2
    have lx := BX5.out.lt
    have hxc := BX5.out.cell
    have HSF : Hid (∀ w', Below w5.heap.size w5 w' → w'.cell? ⟨w.heap.size, 0, none⟩ = some (.string ba) ∧ w'.cell? ⟨w.heap.size, 1, none⟩ = some (.string bb) ∧ w'.cell? ⟨w.heap.size, 2, none⟩ = some (.int .i64 ct) ∧ w'.cell? ⟨b, o + n * 3, none⟩ = some (.string ba) ∧ w'.cell? ⟨b, o + n * 3 + 1, none⟩ = some (.string bb) ∧ w'.cell? ⟨b, o + n * 3 + 2, none⟩ = some (.int .i64 ct)) := fun w' hb =>
      ⟨(hb.cell (p := ⟨w.heap.size, 0, none⟩) lx).trans (hxc 0), (hb.cell (p := ⟨w.heap.size, 1, none⟩) lx).trans (hxc 1), (hb.cell (p := ⟨w.heap.size, 2, none⟩) lx).trans (hxc 2), (hb.cell (cell_lt c0)).trans c0, (hb.cell (cell_lt c1)).trans c1, (hb.cell (cell_lt c2)).trans c2⟩
    have HPR := Lib.hid (HE5.out.pre)
    rw [L.out] at HPR
    have HQL := Lib.hid (fun (w : World) h1 h2 => eqle_any (some ⟨b, o, none⟩) A n n c4 c l l w (by omega) h1 h2 rfl)
    have hcur : Hid (Below w5.heap.size w5 w5.drew) := (Below.refl _ _).drew
    have HH5 : Hid (Ents w5 A n l) := H.out.go HB6.out
    have k1 : (n : Int) < (n : Int) + 1 := by omega
    have k5 : (n : Int) ≤ (c4 : Int) := by omega
    have k2 : IntKind.i64.wrap ((n : Int) + 1 - 1) = (n : Int) := by rw [Int.add_sub_cancel]; exact IntWalk.i64_in _ (by omega)
    have k3 : IntKind.i64.wrap (n : Int) = (n : Int) := IntWalk.i64_in _ (by omega)
    have k4 : ¬ (n : Int) < 0 := by omega
    clear lx hxc hl2 hx hl1 c0 c1 c2
    go_wp2_with fail
    go_region_held3 (fun w' => w'.cell? ⟨w.heap.size, 0, none⟩ = some (.string ba) ∧ w'.cell? ⟨w.heap.size, 1, none⟩ = some (.string bb) ∧ w'.cell? ⟨w.heap.size, 2, none⟩ = some (.int .i64 ct) ∧ w'.cell? ⟨b, o + n * 3, none⟩ = some (.string ba) ∧ w'.cell? ⟨b, o + n * 3 + 1, none⟩ = some (.string bb) ∧ w'.cell? ⟨b, o + n * 3 + 2, none⟩ = some (.int .i64 ct))
      (exact HSF.out _ hcur.out)
      ((go_at_call 10; with_reducible refine (HQL.out _ (HPR.out.go hcur.out) (HH5.out.go hcur.out)).mono ?_; rintro e wz ⟨rfl, hbz⟩; have hcur := Lib.hid (hcur.out.trans (hbz.mono hcur.out.size)); clear hbz))
    all_goals
      go_wp2_with fail
      go_ret
      exact ⟨rfl, HB6.out.trans (hcur.out.mono HB6.out.size)⟩
  · have el : Pl.lPostL l (ba, bb, ct) least = [] := by unfold Pl.lPostL; rw [if_neg hp]
    rw [el]
    have HLIM : Hid (Pl.lPost l (ba, bb, ct) least = 17 → Pl.lcheck (l ++ [(ba, bb, ct)]) = 0 ∧ Pl.bal (l ++ [(ba, bb, ct)]) ba < least) := fun h => Pl.lPost_lim h
    have hp2 : (Pl.lPost l (ba, bb, ct) least == 0) = false := by simpa using hp
    generalize Pl.lPost l (ba, bb, ct) least = er at *
    clear hp el OM
    obtain ⟨i0, hi0, hz0, hz1, hz2⟩ := info_parts info_ent
    have hnn := HN.out
    have HCLN := Lib.hid (fun (w : World) h => clone_ents A n c l w (by omega) h)
    unfold CloneSaid at HCLN
    have HEX : Hid (∀ y ∈ l ++ [(ba, bb, ct)], EntIn y) := fun y hy => by
      rcases List.mem_append.1 hy with hy | hy
      · exact H.out.2 y hy
      · rw [List.mem_singleton.1 hy]; exact HX.out
    have HG2 : Hid (w.heap.size < w4.heap.size) := BX4.out.lt
    have HRDO : Hid (Reads w4 w4.heap.size 3 A n (ents l)) := H.out.1.go HB4.out
    have hcur : Hid (Below w4.heap.size w4 w4.drew) := (Below.refl _ _).drew
    have HSF : Hid (∀ w', Below w4.heap.size w4 w' → (∀ j, w'.cell? ⟨w.heap.size, j, none⟩ = #[.string ba, .string bb, .int .i64 ct][j]?)) := fun w' hb => (BX4.out.go hb).cell
    have HBC : Hid (∀ (A : Option Addr) (c : Nat) (w : World), w.ownsRow w4.heap.size 31 3 (.slice A (n + 1) c) (n + 1) (ents l ++ [.string ba, .string bb, .int .i64 ct]) → Calls Tryd.prog 15 #[.slice A (n + 1) c, .string ba] w fun e w' => e = .returned (.tuple #[.int .i64 (Pl.lBalance (l ++ [(ba, bb, ct)]) ba).1, .int .i64 (Pl.lBalance (l ++ [(ba, bb, ct)]) ba).2]) ∧ Below w.heap.size w w') := fun A c w h => by
      refine HBAL.out A (n + 1) c (l ++ [(ba, bb, ct)]) ba w ⟨?_, HEX.out⟩
      rw [ents_append]
      exact Reads.of_own h
    have HV : Hid (er = 17 → (Pl.lBalance (l ++ [(ba, bb, ct)]) ba).2 = 0 ∧ (Pl.lBalance (l ++ [(ba, bb, ct)]) ba).1 < least) := fun h => by
      obtain ⟨q1, q2⟩ := HLIM.out h
      have b2 := Pl.lBalance_ok q1 ba
      exact ⟨b2.2.2 (Pl.accL_mem.2 (by rw [Pl.nmsL_append]; exact List.mem_append_right _ (by simp [Pl.nmsL]))), by rw [b2.1]; exact q2⟩
    generalize Pl.lBalance (l ++ [(ba, bb, ct)]) ba = V at *
    obtain ⟨vb, ve⟩ := V
    simp only at HBC HV
    clear HLIM
    go_wp2_with fail
    go_region_held3 (fun w' => ∀ j, w'.cell? ⟨w.heap.size, j, none⟩ = #[.string ba, .string bb, .int .i64 ct][j]?)
      (first
        | exact HSF.out _ hcur.out
        | exact HSF.out _ (((Below.refl w4.heap.size w4).alloc (Nat.le_refl _) _).drew)
        | exact HSF.out _ (hcur.out.alloc hcur.out.size _))
      (first
        | (go_at_call 18; with_reducible refine (HCLN.out _ (HRDO.out.go hcur.out)).mono ?_; rintro e wz ⟨Ac, cc, rfl, hoc, hbz⟩; have oc := Lib.hid (own_base hoc hcur.out.size); have hcur := Lib.hid (hcur.out.trans (hbz.mono hcur.out.size)); clear hoc hbz)
        | (go_at_call 18; refine (HCLN.out _ (HRDO.out.go (((Below.refl w4.heap.size w4).alloc (Nat.le_refl _) (.cells #[.string ba, .string bb, .int .i64 ct] 31)).drew))).mono ?_; rintro e wz ⟨Ac, cc, rfl, hoc, hbz⟩; have b131 := Lib.hid (((Blk.new_ w4 w4.heap.size 31 #[.string ba, .string bb, .int .i64 ct] rfl).drew).go hbz); have oc := Lib.hid (own_base hoc (show w4.heap.size ≤ _ by simp)); have hcur := Lib.hid ((((Below.refl w4.heap.size w4).alloc (Nat.le_refl _) (.cells #[.string ba, .string bb, .int .i64 ct] 31)).drew).trans (hbz.mono (show w4.heap.size ≤ _ by simp))); clear hoc hbz)
        | (refine step_append_any _ (by rfl) _ _ _ (by rfl) w4.heap.size 31 i0 _ 3 40 Tryd.underlying22 hi0 hz0 hz1 hz2 rfl (by decide) (.slice Ac n cc) n (ents l) (by rfl) (own_go oc.out ((Below.refl wz.heap.size wz).alloc (Nat.le_refl _) (.cells #[.string ba, .string bb, .int .i64 ct] 31))) (wz.heap.size + 1) (some ⟨wz.heap.size, 0, none⟩) 1 1 [.string ba, .string bb, .int .i64 ct] (by rfl) (by have := Reads.lit wz #[.string ba, .string bb, .int .i64 ct] 31 1 3 wz.heap.size rfl rfl; simpa using this) (by intro u hu; simp at hu; rcases hu with rfl | rfl | rfl <;> rfl) (by unfold maxLen; omega) (by omega) (by have := hcur.out.size; simp; omega) ?_; intro v' w3 hown3 hg3 _; obtain ⟨A3, c3, rfl, _⟩ := own_slice hown3; have o3 := Lib.hid hown3; have hcur := Lib.hid (below_grown (hcur.out.alloc hcur.out.size (.cells #[.string ba, .string bb, .int .i64 ct] 31)) hg3 (own_go oc.out ((Below.refl wz.heap.size wz).alloc (Nat.le_refl _) (.cells #[.string ba, .string bb, .int .i64 ct] 31))) (Nat.le_refl _) (by have := hcur.out.size; simp; omega)); clear hown3 hg3)
        | (refine step_append_any _ (by rfl) _ _ _ (by rfl) w4.heap.size 31 i0 _ 3 40 Tryd.underlying22 hi0 hz0 hz1 hz2 rfl (by decide) (.slice Ac n cc) n (ents l) (by rfl) oc.out wz.heap.size (some ⟨w4.heap.size, 0, none⟩) 1 1 [.string ba, .string bb, .int .i64 ct] (by rfl) (by have := ent_block b131.out; simpa using this) (by intro u hu; simp at hu; rcases hu with rfl | rfl | rfl <;> rfl) (by unfold maxLen; omega) (by omega) hcur.out.size ?_; intro v' w3 hown3 hg3 _; obtain ⟨A3, c3, rfl, _⟩ := own_slice hown3; have o3 := Lib.hid hown3; have hcur := Lib.hid (below_grown hcur.out hg3 oc.out (Nat.le_refl _) hcur.out.size); clear hown3 hg3)
        | (go_at_call 15; refine (HBC.out _ _ _ o3.out).mono ?_; rintro e w5 ⟨rfl, hb5⟩; have hcur := Lib.hid (hcur.out.trans (hb5.mono hcur.out.size)); clear hb5))
    all_goals
      have HBE := Lib.hid (HB4.out.trans (hcur.out.mono HB4.out.size))
      clear hcur o3 oc HSF HCLN HRDO HBC BX4 HB4
      by_cases h17 : er = 17
      · obtain ⟨r1, r2⟩ := HV.out h17
        subst h17 r1
        clear HV
        go_wp2_with fail
        go_ret
        exact ⟨rfl, HBE.out⟩
      · have h18 : (er != 17) = true := by simpa using h17
        clear HV h17
        go_wp2_with fail
        go_ret
        exact ⟨rfl, HBE.out⟩
end Go.Proofs.YtnnfkfimicmboaaDoor
