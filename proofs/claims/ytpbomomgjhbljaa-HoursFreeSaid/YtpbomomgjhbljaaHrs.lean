/- hours.Change where it gives an error. Condition: the greatest change is permitted. -/
import Derived.Test.YtpbomomgjhbljaaHrsS
import Derived.Test.YtpbomomgjhbljaaDispC
import Derived.Test.YtpbomomgjhbljaaHours
import Derived.Test.YtpbomomgjhbljaaIBlk
namespace Go.Proofs.Ytpbomomgjhbljaa
open Go.RowKit
def vNone : Array Value := #[.slice none 0 0, .int .i64 0]
def HErrSaid (w : World) (e : Ending) (w' : World) : Prop := ∃ u : Int, u ≠ 0 ∧ e = .returned (.tuple #[.agg #[.slice none 0 0, .int .i64 0], .int .i64 u]) ∧ Below w.heap.size w w'
theorem ne_of_zero {u : Int} (h : u ≠ 0) : (u != 0) = true := by simpa using h
set_option maxHeartbeats 6400000 in
set_option maxRecDepth 100000 in
theorem hchange_bad (A : Option Addr) (n c : Nat) (l : List MOff) (B : Option Addr) (m e' : Nat) (xs : List Int) (d mo : Int) (w : World) (hcap : n ≤ c) (h : Offs w A n l) (hp : Reads w w.heap.size 1 B m (ints xs)) (h0 : (Pl.dCost (plo l) xs).2.2 ≠ 0 ∨ d < 0 ∨ 1000000 < d) :
    Calls Try.prog 42 #[.slice A n c, .slice B m e', .int .i64 d, .int .i64 mo] w (HErrSaid w) := by
  have L1 := Lib.hid h.len
  have L2 := Lib.hid hp.int_len
  have HC := Lib.hid (fun w h => oall_any A n c l w hcap h)
  have H := Lib.hid h
  have H0 := Lib.hid h0
  clear h h0
  by_cases e0 : Pl.oall (plo l) = 0
  · by_cases e1 : m = n
    · subst e1
      obtain ⟨g1, _⟩ := Pl.oall_good e0
      have hn10 : m ≤ 10 := by have := L1.out; rw [plo_len] at g1; omega
      have HG : Hid (∀ k, k < m → Pl.Good (Pl.steps (plo l) k) ∧ (Pl.steps (plo l) k).length ≤ 12) := fun k hk => Pl.steps_good e0 k (by rw [plo_len, L1.out]; exact hk)
      have HD : Hid ((∀ k, k < m → 0 ≤ xs.getD k 0 ∧ xs.getD k 0 ≤ Pl.total (Pl.steps (plo l) k)) → d < 0 ∨ 1000000 < d) := fun hx => by
        have := Pl.dCost_of (l := plo l) (ps := xs) e0 (by rw [plo_len, L1.out, L2.out]) (fun k hk => hx k (by rw [plo_len, L1.out] at hk; exact hk))
        rcases H0.out with h | h
        · rw [this] at h; exact absurd rfl h
        · exact h
      have HSM : Hid (∀ (k : Nat) (hk : k < m) (hl : k < l.length) (w2 : World), Reads w2 w2.heap.size 2 l[k].A l[k].n (pairs l[k].st) →
          Calls Try.prog 68 #[.agg #[.string l[k].nm, .slice l[k].A l[k].n l[k].c]] w2 fun e w' => e = .returned (.int .i64 (Pl.total (Pl.steps (plo l) k))) ∧ Below w2.heap.size w2 w') := fun k hk hl w2 hr => by
        obtain ⟨g1, g2⟩ := HG.out k hk
        rw [plo_steps hl] at g1 g2 ⊢
        exact osum_any l[k].nm l[k].A l[k].n l[k].c l[k].st w2 hr g1 (by have := hr.pair_len; omega)
      have HE0 := Lib.hid e0
      rw [e0] at HC
      clear e0 g1 H0 HG
      go_enter Try.func42, Try.ntmps42
      go_wp2_with fail
      refine (HC.out _ ?hr1).mono ?_
      case hr1 => exact (H.out.go ((Below.refl _ _).alloc (Nat.le_refl _) _)).go ((Below.refl _ _).alloc (Nat.le_refl _) _)
      rintro e w1 ⟨rfl, hb⟩
      have HB1 := Lib.hid ((((Below.refl w.heap.size w).alloc (Nat.le_refl _) _).alloc (by simp) _).trans (hb.mono (by simp; omega)))
      have B8 : Hid (Blk w1 w.heap.size _ _) := (Blk.old_ (by simp) (Blk.new_ _ _ _ _ (by simp))).go hb
      have B10 : Hid (Blk w1 (w.heap.size + 1) _ _) := (Blk.new_ _ _ _ _ (by simp)).go hb
      clear hb HC
      go_wp2_with fail
      go_loopw [49] (fun i wr => ∃ k : Nat, k ≤ m ∧ i = .int .i64 k ∧ Hid (∀ j, j < k → 0 ≤ xs.getD j 0 ∧ xs.getD j 0 ≤ Pl.total (Pl.steps (plo l) j)) ∧ Hid (Blk wr w.heap.size 79 #[.slice none 0 0, .int .i64 0]) ∧ Hid (Blk wr (w.heap.size + 1) 79 #[.slice none 0 0, .int .i64 0]) ∧ Hid (Below w.heap.size w wr)) (fun i _ => m - (intOf i).toNat)
      case atStart => exact ⟨0, Nat.zero_le _, rfl, fun j hj => absurd hj (by omega), B8, B10, HB1⟩
      case round =>
        clear B8 B10 HB1
        obtain ⟨k, hk, rfl, HX, B8, B10, HB⟩ := hrel
        by_cases hlt : k < m
        · obtain ⟨b, o, rfl, hl1, c1, c2, hin⟩ := (H.out.go HB.out).at_ hlt
          obtain ⟨b', o', rfl, hl2, q1⟩ := (hp.go HB.out).int_at hlt
          have hxe : xs.getD k 0 = xs[k] := by rw [List.getD_eq_getElem?_getD, List.getElem?_eq_getElem hl2]; rfl
          rw [← hxe] at q1
          have HS2 := Lib.hid (fun w2 hr => HSM.out k hlt hl1 w2 hr)
          have HIN := Lib.hid hin
          clear hin hxe
          generalize l[k] = z at *
          obtain ⟨nm, Az, nz, cz, st⟩ := z
          simp only at c1 c2 HS2
          have HBN := Lib.hid (HB.out.alloc HB.out.size (.cells #[.string nm, .slice Az nz cz] 57))
          have BN := Lib.hid (Blk.new_ wr wr.heap.size 57 #[.string nm, .slice Az nz cz] rfl)
          have B8N := Lib.hid (B8.out.alloc (.cells #[.string nm, .slice Az nz cz] 57))
          have B10N := Lib.hid (B10.out.alloc (.cells #[.string nm, .slice Az nz cz] 57))
          have q4 : (wr.alloc (.cells #[.string nm, .slice Az nz cz] 57)).cell? ⟨b', o' + k, none⟩ = some (.int .i64 (xs.getD k 0)) := by rw [World.cell?_alloc_some _ _ _ (by rw [q1]; rfl)]; exact q1
          have HIN2 := Lib.hid (HIN.out.2.2.go ((Below.refl _ _).alloc (Nat.le_refl _) (.cells #[.string nm, .slice Az nz cz] 57)))
          have k1 : (0 : Int) ≤ (k : Int) := by omega
          have k2 : (k : Int) < (m : Int) := by omega
          go_wp2_with fail
          clear c1 c2 q1 HB HIN B8 B10
          generalize wr.alloc (.cells #[.string nm, .slice Az nz cz] 57) = w2 at *
          generalize wr.heap.size = bn at *
          have r0 := Wd.cell (BN.out.cell 0)
          have r1 := Wd.cell (BN.out.cell 1)
          replace q4 := Wd.cell q4
          generalize hx : xs.getD k 0 = x at *
          generalize ht : Pl.total (Pl.steps (plo l) k) = T at *
          have HXE := Lib.hid hx
          have HTE := Lib.hid ht
          clear hx ht
          have HO := Lib.hid (fun w => out_any x 0 T w)
          cases hv : Pl.outB x 0 T
          · rw [hv] at HO
            have HX2 : Hid (∀ j, j < k + 1 → 0 ≤ xs.getD j 0 ∧ xs.getD j 0 ≤ Pl.total (Pl.steps (plo l) j)) := fun j hj => by
              rcases Nat.lt_or_ge j k with h | h
              · exact HX.out j h
              · have : j = k := by omega
                subst this
                rw [HXE.out, HTE.out]
                exact Pl.outB_false.1 hv
            clear hv
            refine wp_region_wd (by kernel_rfl) (by kernel_rfl) ?_
            repeat (go_big_quiet_step ((first | (go_at_call 68; exact Calls.wd (HS2.out _ (HIN2.out.go (Wd.ok _)))) | (go_at_call 48; exact Calls.wd_same (HO.out _)))))
            refine wpQuiet_nil ?_
            rintro _ ⟨w6, rfl⟩
            have HB6 := Lib.hid (HBN.out.trans (w6.ok.mono HBN.out.size))
            have B8N := Lib.hid (B8N.out.go w6.ok)
            have B10N := Lib.hid (B10N.out.go w6.ok)
            clear q4 r0 r1
            generalize w6.val = w7 at *
            go_wp2_with fail
            go_roundw
            case rel => exact ⟨k + 1, by omega, by go_num, HX2, B8N, B10N, HB6⟩
            case measure => simp [intOf]; omega
          · rw [hv] at HO
            clear hv
            refine wp_region_wd (by kernel_rfl) (by kernel_rfl) ?_
            repeat (go_big_quiet_step ((first | (go_at_call 68; exact Calls.wd (HS2.out _ (HIN2.out.go (Wd.ok _)))) | (go_at_call 48; exact Calls.wd_same (HO.out _)))))
            refine wpQuiet_nil ?_
            rintro _ ⟨w6, rfl⟩
            have HB6 := Lib.hid (HBN.out.trans (w6.ok.mono HBN.out.size))
            have B8N := Lib.hid (B8N.out.go w6.ok)
            have B10N := Lib.hid (B10N.out.go w6.ok)
            clear q4 r0 r1
            generalize w6.val = w7 at *
            have c10 := B10N.out.cell
            have c8 := B8N.out.cell
            have f8 := B8N.out.frozen
            go_wp2_with fail
            have E8 := Lib.hid ((B8N.out.set_ 0 (.slice none 0 0)).set_ 1 (.int .i64 0))
            have k7 := E8.out.cell
            refine bodyPost_ret (v := .tuple #[.agg #[.slice none 0 0, .int .i64 0], .int .i64 4]) (by simp [results, Try.results42, go_sem, k7]) rfl ⟨4, by decide, rfl, ?_⟩
            exact ((HB6.out.setCell (by simp) _).setCell (by simp) _)
        · have : k = m := by omega
          subst this
          have hd := HD.out HX.out
          have hv : Pl.outB d 0 1000000 = true := by
            cases h : Pl.outB d 0 1000000
            · have := Pl.outB_false.1 h; omega
            · rfl
          have HO := Lib.hid (fun w => out_any d 0 1000000 w)
          rw [hv] at HO
          clear hv hd
          have c10 := B10.out.cell
          have c8 := B8.out.cell
          have f8 := B8.out.frozen
          go_wp2_with (go_at_call 48; refine (HO.out _).mono ?_; rintro e w' ⟨rfl, rfl⟩)
          have E8 := Lib.hid ((B8.out.set_ 0 (.slice none 0 0)).set_ 1 (.int .i64 0))
          have k7 := E8.out.cell
          refine bodyPost_ret (v := .tuple #[.agg #[.slice none 0 0, .int .i64 0], .int .i64 1]) (by simp [results, Try.results42, go_sem, k7]) rfl ⟨1, by decide, rfl, ?_⟩
          exact ((HB.out.setCell (by simp) _).setCell (by simp) _)
    · have e2 : ((m : Int) != (n : Int)) = true := by simp; omega
      rw [e0] at HC
      clear e0 H0
      go_enter Try.func42, Try.ntmps42
      go_wp2_with fail
      refine (HC.out _ ?hr2).mono ?_
      case hr2 => exact (H.out.go ((Below.refl _ _).alloc (Nat.le_refl _) _)).go ((Below.refl _ _).alloc (Nat.le_refl _) _)
      rintro e w1 ⟨rfl, hb⟩
      have HB1 := Lib.hid ((((Below.refl w.heap.size w).alloc (Nat.le_refl _) _).alloc (by simp) _).trans (hb.mono (by simp; omega)))
      have B8 : Hid (Blk w1 w.heap.size _ _) := (Blk.old_ (by simp) (Blk.new_ _ _ _ _ (by simp))).go hb
      have B10 : Hid (Blk w1 (w.heap.size + 1) _ _) := (Blk.new_ _ _ _ _ (by simp)).go hb
      clear hb HC
      have c10 := B10.out.cell
      have c8 := B8.out.cell
      have f8 := B8.out.frozen
      go_wp2_with fail
      have E8 := Lib.hid ((B8.out.set_ 0 (.slice none 0 0)).set_ 1 (.int .i64 0))
      have k7 := E8.out.cell
      refine bodyPost_ret (v := .tuple #[.agg #[.slice none 0 0, .int .i64 0], .int .i64 3]) (by simp [results, Try.results42, go_sem, k7]) rfl ⟨3, by decide, rfl, ?_⟩
      exact ((HB1.out.setCell (by simp) _).setCell (by simp) _)
  · have e2 := ne_of_zero e0
    have E0 := Lib.hid e0
    clear e0 H0
    generalize Pl.oall (plo l) = u at *
    go_enter Try.func42, Try.ntmps42
    go_wp2_with fail
    refine (HC.out _ ?hr3).mono ?_
    case hr3 => exact (H.out.go ((Below.refl _ _).alloc (Nat.le_refl _) _)).go ((Below.refl _ _).alloc (Nat.le_refl _) _)
    rintro e w1 ⟨rfl, hb⟩
    have HB1 := Lib.hid ((((Below.refl w.heap.size w).alloc (Nat.le_refl _) _).alloc (by simp) _).trans (hb.mono (by simp; omega)))
    have B8 : Hid (Blk w1 w.heap.size _ _) := (Blk.old_ (by simp) (Blk.new_ _ _ _ _ (by simp))).go hb
    have B10 : Hid (Blk w1 (w.heap.size + 1) _ _) := (Blk.new_ _ _ _ _ (by simp)).go hb
    clear hb HC
    have c10 := B10.out.cell
    have c8 := B8.out.cell
    have f8 := B8.out.frozen
    go_wp2_with fail
    have E8 := Lib.hid ((B8.out.set_ 0 (.slice none 0 0)).set_ 1 (.int .i64 0))
    have k7 := E8.out.cell
    refine bodyPost_ret (v := .tuple #[.agg #[.slice none 0 0, .int .i64 0], .int .i64 u]) (by simp [results, Try.results42, go_sem, k7]) rfl ⟨u, E0.out, rfl, ?_⟩
    exact ((HB1.out.setCell (by simp) _).setCell (by simp) _)
end Go.Proofs.Ytpbomomgjhbljaa
