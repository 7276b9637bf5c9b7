/- ledger.Read and Post give what their plain words say. Condition: the entries lie in memory as the words say; the library's tables lie as they are laid. -/
import Derived.Test.YtnnfkfimicmboaaDoorLedH
namespace Go.Proofs.YtnnfkfimicmboaaDoor
open Go.RowKit
namespace Pl
/-- ledger.Post, its error -/
def lPost (l : List LE) (x : LE) (least : Int) : Int :=
  if lcheck l ≠ 0 then lcheck l else if least < -1000000000000 ∨ 0 < least then 1 else if lcheck (l ++ [x]) ≠ 0 then lcheck (l ++ [x]) else if bal (l ++ [x]) x.1 < least then 17 else 0
def lPostL (l : List LE) (x : LE) (least : Int) : List LE := if lPost l x least = 0 then l ++ [x] else []
end Pl
/-- what Read returns -/
def ReadSaid (S : List UInt8) (w : World) (e : Ending) (w' : World) : Prop :=
  ∃ (out : List Pl.LE) (A : Option Addr) (c : Nat) (er : Int), e = .returned (.tuple #[.slice A out.length c, .int .i64 er]) ∧ (er = 0 → Pl.lcheck out = 0 ∧ S = Pl.textS Pl.s0 out) ∧ (er ≠ 0 → out = []) ∧ (∀ l, Pl.lcheck l = 0 → S = Pl.textS Pl.s0 l → er = 0 ∧ out = l) ∧ w'.ownsRow w.heap.size 31 3 (.slice A out.length c) out.length (ents out) ∧ (∀ x ∈ out, EntIn x) ∧ Below w.heap.size w w'
theorem Pl.text_short {l : List Pl.LE} (h : Pl.lcheck l = 0) : (Pl.textS Pl.s0 l).length ≤ 15360 := by
  obtain ⟨h1, h2, _⟩ := Pl.lcheck_ok.1 h
  have := Pl.textS_len Pl.s0_ok h2
  omega
set_option maxHeartbeats 1600000 in
set_option maxRecDepth 100000 in
theorem read_any (S : List UInt8) (w : World) (hl : LW w) : Calls Tryd.prog 9 #[txt S] w (ReadSaid S w) := by
  have HREC := Lib.hid (recover_any S w hl)
  unfold RecSaid at HREC
  have hsz : (⟨S.toArray⟩ : ByteArray).size = S.length := by rw [size_bl, Pl.bl_mk]
  unfold txt at HREC ⊢
  go_enter Tryd.func9, Tryd.ntmps9
  go_wp2_with fail
  refine (HREC.out).mono ?_
  rintro e w2 ⟨out, A, c, k, er, rfl, hbig, hsmall, hown, hein, hb⟩
  have HO := Lib.hid hown
  have HE := Lib.hid hein
  have HB := Lib.hid hb
  have HBIG := Lib.hid hbig
  have HSM := Lib.hid hsmall
  clear hown hein hb hbig hsmall HREC
  by_cases hb2 : 131072 < S.length
  · obtain ⟨rfl, rfl, rfl⟩ := HBIG.out hb2
    go_wp2_with fail
    go_ret2
    refine ⟨[], none, 0, 2, rfl, fun h => absurd h (by decide), fun _ => rfl, fun l h1 h2 => ?_, World.ownsRow_nil _ _ _ _, fun x hx => absurd hx (by simp), HB.out⟩
    have := Pl.text_short h1
    rw [h2] at hb2
    omega
  · obtain ⟨rfl, hrec⟩ := HSM.out (by omega)
    have HR := Lib.hid hrec
    obtain ⟨h0, r, hr, hk, _⟩ := hrec
    have hlen : S.length = (Pl.textS Pl.s0 out).length + r.length := by
      have := congrArg List.length hr
      rwa [List.length_append] at this
    by_cases hr0 : r = []
    · have hge : ¬ k < (S.length : Int) := by
        rw [hlen, hk, hr0]
        simp
      have HRD : Hid (S = Pl.textS Pl.s0 out) := by show _ = _; rw [hr, hr0, List.append_nil]
      have H0 := Lib.hid h0
      clear hlen hk hr hb2 h0
      go_wp2_with fail
      go_ret2
      refine ⟨out, A, c, 0, rfl, fun _ => ⟨H0.out, HRD.out⟩, fun h => absurd rfl h, fun l h1 h2 => ⟨rfl, ?_⟩, HO.out, HE.out, HB.out⟩
      exact (Pl.rec_done (tail := []) HR.out h1 (by rw [List.append_nil]; exact h2) (by simp)).1
    · have hlt : k < (S.length : Int) := by
        have := List.length_pos_iff.2 hr0
        rw [hlen, hk]
        omega
      have HLEN := Lib.hid hlen
      have HK := Lib.hid hk
      have HR0 := Lib.hid hr0
      clear hlen hk hr hb2 h0 hr0
      go_wp2_with fail
      go_ret2
      refine ⟨[], none, 0, 13, rfl, fun h => absurd h (by decide), fun _ => rfl, fun l h1 h2 => ?_, World.ownsRow_nil _ _ _ _, fun x hx => absurd hx (by simp), HB.out⟩
      exfalso
      obtain ⟨e1, e2⟩ := Pl.rec_done (tail := []) HR.out h1 (by rw [List.append_nil]; exact h2) (by simp)
      have := HLEN.out
      rw [e1, ← h2] at this
      exact HR0.out (List.eq_nil_of_length_eq_zero (by omega))
/-- what Post returns -/
def PostSaid (l : List Pl.LE) (x : Pl.LE) (least : Int) (w : World) (e : Ending) (w' : World) : Prop :=
  ∃ (A : Option Addr) (c : Nat), e = .returned (.tuple #[.slice A (Pl.lPostL l x least).length c, .int .i64 (Pl.lPost l x least)]) ∧ w'.ownsRow w.heap.size 31 3 (.slice A (Pl.lPostL l x least).length c) (Pl.lPostL l x least).length (ents (Pl.lPostL l x least)) ∧ Below w.heap.size w w'
theorem post_bad {l : List Pl.LE} {x : Pl.LE} {least : Int} {w w' : World} (h : Pl.lPost l x least ≠ 0) (hb : Below w.heap.size w w') : PostSaid l x least w (.returned (.tuple #[.slice none 0 0, .int .i64 (Pl.lPost l x least)])) w' := by
  have e : Pl.lPostL l x least = [] := by unfold Pl.lPostL; rw [if_neg h]
  unfold PostSaid
  rw [e]
  exact ⟨none, 0, rfl, World.ownsRow_nil _ _ _ _, hb⟩
set_option maxHeartbeats 3200000 in
set_option maxRecDepth 100000 in
theorem post_any (A : Option Addr) (n c : Nat) (l : List Pl.LE) (x : Pl.LE) (least : Int) (w : World) (h : Ents w A n l) (hx : EntIn x) (h0 : -9223372036854775808 ≤ least) (h1 : least ≤ 9223372036854775807) :
    Calls Tryd.prog 17 #[.slice A n c, .agg #[.string x.1, .string x.2.1, .int .i64 x.2.2], .int .i64 least] w (PostSaid l x least w) := by
  obtain ⟨ba, bb, k⟩ := x
  have L := Lib.hid h.len
  have H := Lib.hid h
  have HX := Lib.hid hx
  have HC := Lib.hid (fun w h => lcheck_any A n c l w h)
  have HBAD := Lib.hid (fun w' hb hne => post_bad (l := l) (x := (ba, bb, k)) (least := least) (w := w) (w' := w') hne hb)
  have HP : Hid (Pl.lPost l (ba, bb, k) least = if Pl.lcheck l ≠ 0 then Pl.lcheck l else if least < -1000000000000 ∨ 0 < least then 1 else if Pl.lcheck (l ++ [(ba, bb, k)]) ≠ 0 then Pl.lcheck (l ++ [(ba, bb, k)]) else if Pl.bal (l ++ [(ba, bb, k)]) ba < least then 17 else 0) := rfl
  clear h hx
  simp only
  go_enter Tryd.func17, Tryd.ntmps17
  go_wp2_with fail
  have AL : Hid (Below w.heap.size w (w.alloc (.cells #[.string ba, .string bb, .int .i64 k] 31))) := (Below.refl _ _).alloc (Nat.le_refl _) _
  have BX := Lib.hid (Blk.new_ w w.heap.size 31 #[.string ba, .string bb, .int .i64 k] rfl)
  generalize w.alloc (.cells #[.string ba, .string bb, .int .i64 k] 31) = w1 at *
  refine (HC.out w1 (H.out.go AL.out)).mono ?_
  rintro e w2 ⟨rfl, hb⟩
  have HB2 := Lib.hid (AL.out.trans (hb.mono AL.out.size))
  have BX2 := Lib.hid (BX.out.go hb)
  clear hb AL BX
  by_cases hc : Pl.lcheck l = 0
  · rw [if_neg (by simpa using hc)] at HP
    have HOK := Lib.hid (Pl.lcheck_ok.1 hc)
    have hnl : n ≤ 256 := by rw [← L.out]; exact HOK.out.1
    rw [hc]
    by_cases hl : least < -1000000000000 ∨ 0 < least
    · rw [if_pos hl] at HP
      have fin : ∀ W, Below w.heap.size w W → PostSaid l (ba, bb, k) least w (.returned (.tuple #[.slice none 0 0, .int .i64 1])) W := fun W hb => by
        have := HBAD.out W hb (by rw [HP.out]; decide)
        rwa [HP.out] at this
      have HF := Lib.hid fin
      clear fin HP HBAD
      rcases hl with hl | hl
      · go_wp2_with fail
        go_ret2
        exact HF.out _ HB2.out
      · have hl2 : ¬ least < -1000000000000 := by omega
        go_wp2_with fail
        go_ret2
        exact HF.out _ HB2.out
    · rw [if_neg hl] at HP
      have hl1 : ¬ least < -1000000000000 := fun e => hl (.inl e)
      have hl2 : ¬ 0 < least := fun e => hl (.inr e)
      clear hl
      obtain ⟨i0, hi0, hz0, hz1, hz2⟩ := info_parts info_ent
      have HCLN := Lib.hid (fun (w : World) h => clone_ents A n c l w (by omega) h)
      unfold CloneSaid at HCLN
      have HEX : Hid (∀ y ∈ l ++ [(ba, bb, k)], EntIn y) := fun y hy => by
        rcases List.mem_append.1 hy with hy | hy
        · exact H.out.2 y hy
        · rw [List.mem_singleton.1 hy]; exact HX.out
      have HG2 : Hid (w.heap.size < w2.heap.size) := BX2.out.lt
      have HRDO : Hid (Reads w2 w2.heap.size 3 A n (ents l)) := H.out.1.go HB2.out
      have hcur : Hid (Below w2.heap.size w2 w2.drew) := (Below.refl _ _).drew
      have HSF : Hid (∀ w', Below w2.heap.size w2 w' → (∀ j, w'.cell? ⟨w.heap.size, j, none⟩ = #[.string ba, .string bb, .int .i64 k][j]?)) := fun w' hb => (BX2.out.go hb).cell
      go_wp2_with fail
      go_region_held3 (fun w' => ∀ j, w'.cell? ⟨w.heap.size, j, none⟩ = #[.string ba, .string bb, .int .i64 k][j]?)
        (first
          | exact HSF.out _ hcur.out
          | exact HSF.out _ (((Below.refl w2.heap.size w2).alloc (Nat.le_refl _) _).drew)
          | exact HSF.out _ (hcur.out.alloc hcur.out.size _))
        (first
          | (go_at_call 18; with_reducible refine (HCLN.out _ (HRDO.out.go hcur.out)).mono ?_; rintro e wz ⟨Ac, cc, rfl, hoc, hbz⟩; have oc := Lib.hid (own_base hoc hcur.out.size); have hcur := Lib.hid (hcur.out.trans (hbz.mono hcur.out.size)); clear hoc hbz)
          | (go_at_call 18; refine (HCLN.out _ (HRDO.out.go (((Below.refl w2.heap.size w2).alloc (Nat.le_refl _) (.cells #[.string ba, .string bb, .int .i64 k] 31)).drew))).mono ?_; rintro e wz ⟨Ac, cc, rfl, hoc, hbz⟩; have b131 := Lib.hid (((Blk.new_ w2 w2.heap.size 31 #[.string ba, .string bb, .int .i64 k] rfl).drew).go hbz); have oc := Lib.hid (own_base hoc (show w2.heap.size ≤ _ by simp)); have hcur := Lib.hid ((((Below.refl w2.heap.size w2).alloc (Nat.le_refl _) (.cells #[.string ba, .string bb, .int .i64 k] 31)).drew).trans (hbz.mono (show w2.heap.size ≤ _ by simp))); clear hoc hbz)
          | (refine step_append_any _ (by rfl) _ _ _ (by rfl) w2.heap.size 31 i0 _ 3 40 Tryd.underlying22 hi0 hz0 hz1 hz2 rfl (by decide) (.slice Ac n cc) n (ents l) (by rfl) (own_go oc.out ((Below.refl wz.heap.size wz).alloc (Nat.le_refl _) (.cells #[.string ba, .string bb, .int .i64 k] 31))) (wz.heap.size + 1) (some ⟨wz.heap.size, 0, none⟩) 1 1 [.string ba, .string bb, .int .i64 k] (by rfl) (by have := Reads.lit wz #[.string ba, .string bb, .int .i64 k] 31 1 3 wz.heap.size rfl rfl; simpa using this) (by intro u hu; simp at hu; rcases hu with rfl | rfl | rfl <;> rfl) (by unfold maxLen; omega) (by omega) (by have := hcur.out.size; simp; omega) ?_; intro v' w3 hown3 hg3 _; obtain ⟨A3, c3, rfl, _⟩ := own_slice hown3; have o3 := Lib.hid hown3; have hcur := Lib.hid (below_grown (hcur.out.alloc hcur.out.size (.cells #[.string ba, .string bb, .int .i64 k] 31)) hg3 (own_go oc.out ((Below.refl wz.heap.size wz).alloc (Nat.le_refl _) (.cells #[.string ba, .string bb, .int .i64 k] 31))) (Nat.le_refl _) (by have := hcur.out.size; simp; omega)); clear hown3 hg3)
          | (refine step_append_any _ (by rfl) _ _ _ (by rfl) w2.heap.size 31 i0 _ 3 40 Tryd.underlying22 hi0 hz0 hz1 hz2 rfl (by decide) (.slice Ac n cc) n (ents l) (by rfl) oc.out wz.heap.size (some ⟨w2.heap.size, 0, none⟩) 1 1 [.string ba, .string bb, .int .i64 k] (by rfl) (by have := ent_block b131.out; simpa using this) (by intro u hu; simp at hu; rcases hu with rfl | rfl | rfl <;> rfl) (by unfold maxLen; omega) (by omega) hcur.out.size ?_; intro v' w3 hown3 hg3 _; obtain ⟨A3, c3, rfl, _⟩ := own_slice hown3; have o3 := Lib.hid hown3; have hcur := Lib.hid (below_grown hcur.out hg3 oc.out (Nat.le_refl _) hcur.out.size); clear hown3 hg3))
      all_goals
        have HB3 := Lib.hid (HB2.out.trans (hcur.out.mono HB2.out.size))
        have BX3 := Lib.hid (BX2.out.go hcur.out)
        have O3 := Lib.hid (own_base o3.out (Nat.le_of_lt HG2.out))
        have HE3 : Hid (Ents w3 A3 (n + 1) (l ++ [(ba, bb, k)])) := ⟨by rw [ents_append]; exact Reads.of_own o3.out, HEX.out⟩
        clear hcur o3 oc HSF HCLN HRDO BX2 HB2
        have HC2 := Lib.hid (fun w h => lcheck_any A3 (n + 1) c3 (l ++ [(ba, bb, k)]) w h)
        go_wp2_with fail
        refine (HC2.out w3 HE3.out).mono ?_
        rintro e w4 ⟨rfl, hb⟩
        have HB4 := Lib.hid (HB3.out.trans (hb.mono HB3.out.size))
        have BX4 := Lib.hid (BX3.out.go hb)
        have O4 := Lib.hid (own_go O3.out hb)
        have HE4 := Lib.hid (HE3.out.go hb)
        clear hb HB3 BX3 O3 HE3 HC2
        by_cases hc2 : Pl.lcheck (l ++ [(ba, bb, k)]) = 0
        · rw [if_neg (by simpa using hc2)] at HP
          have HOK2 := Lib.hid (Pl.lcheck_ok.1 hc2)
          rw [hc2]
          have HBL := Lib.hid (fun w h => balance_any A3 (n + 1) c3 (l ++ [(ba, bb, k)]) ba w (by omega) (fun y hy => by obtain ⟨_, _, _, q1, q2⟩ := Pl.lbad_ok.1 (HOK2.out.2.1 y hy); exact ⟨q1, q2⟩) h)
          have x0 := BX4.out.cell 0
          clear hc2 HOK2 HOK
          generalize hBL : Pl.bal (l ++ [(ba, bb, k)]) ba = R at *
          have HBLE := Lib.hid hBL
          clear hBL
          go_wp2_with fail
          refine (HBL.out w4 HE4.out).mono ?_
          rintro e w5 ⟨rfl, hb⟩
          have HB5 := Lib.hid (HB4.out.trans (hb.mono HB4.out.size))
          have O5 := Lib.hid (own_go O4.out hb)
          clear hb HB4 BX4 O4 HE4 HBL x0
          by_cases hlt : R < least
          · rw [if_pos hlt] at HP
            have fin : ∀ W, Below w.heap.size w W → PostSaid l (ba, bb, k) least w (.returned (.tuple #[.slice none 0 0, .int .i64 17])) W := fun W hb => by
              have := HBAD.out W hb (by rw [HP.out]; decide)
              rwa [HP.out] at this
            have HF := Lib.hid fin
            clear fin HP HBAD
            go_wp2_with fail
            go_ret2
            exact HF.out _ HB5.out
          · rw [if_neg hlt] at HP
            have eL : Pl.lPostL l (ba, bb, k) least = l ++ [(ba, bb, k)] := by unfold Pl.lPostL; rw [if_pos HP.out]
            have fin : ∀ W, W.ownsRow w.heap.size 31 3 (.slice A3 (n + 1) c3) (n + 1) (ents l ++ [.string ba, .string bb, .int .i64 k]) → Below w.heap.size w W → PostSaid l (ba, bb, k) least w (.returned (.tuple #[.slice A3 (n + 1) c3, .int .i64 0])) W := fun W ho hb => by
              unfold PostSaid
              rw [eL, HP.out, List.length_append, L.out]
              refine ⟨A3, c3, rfl, ?_, hb⟩
              rw [ents_append]
              exact ho
            have HF := Lib.hid fin
            clear fin HP HBAD eL
            go_wp2_with fail
            go_ret2
            exact HF.out _ O5.out HB5.out
        · rw [if_pos hc2] at HP
          have fin : ∀ W, Below w.heap.size w W → PostSaid l (ba, bb, k) least w (.returned (.tuple #[.slice none 0 0, .int .i64 (Pl.lcheck (l ++ [(ba, bb, k)]))])) W := fun W hb => by
            have := HBAD.out W hb (by rw [HP.out]; exact hc2)
            rwa [HP.out] at this
          have HF := Lib.hid fin
          clear fin HP HBAD
          generalize Pl.lcheck (l ++ [(ba, bb, k)]) = R at *
          have hc3 : (R != 0) = true := by simpa using hc2
          go_wp2_with fail
          go_ret2
          exact HF.out _ HB4.out
  · rw [if_pos hc] at HP
    have fin : ∀ W, Below w.heap.size w W → PostSaid l (ba, bb, k) least w (.returned (.tuple #[.slice none 0 0, .int .i64 (Pl.lcheck l)])) W := fun W hb => by
      have := HBAD.out W hb (by rw [HP.out]; exact hc)
      rwa [HP.out] at this
    have HF := Lib.hid fin
    clear fin HP HBAD
    generalize Pl.lcheck l = R at *
    have hc2 : (R != 0) = true := by simpa using hc
    go_wp2_with fail
    go_ret2
    exact HF.out _ HB2.out
end Go.Proofs.YtnnfkfimicmboaaDoor
