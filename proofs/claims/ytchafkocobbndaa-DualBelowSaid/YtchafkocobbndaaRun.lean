/- The contract of unit.Run: it returns what the plain function urun gives, in new memory, and leaves old memory as it is. -/
import Derived.Test.YtchafkocobbndaaBase
import Derived.Test.YtchafkocobbndaaUnit
import Derived.Test.YtchafkocobbndaaPRun
namespace Go.Proofs.Ytchafkocobbndaa
open Go.RowKit
theorem info_UnitState : (Try.prog.info? 33).map (fun i => (i.zero, i.size, i.bytes)) = some (some (.agg #[.bool false, .int .i64 0, .int .i64 0]), 3, 24) := by kernel_rfl
/-- cells of states -/
def states (l : List Pl.St) : List Value := l.flatMap fun s => [.bool s.on, .int .i64 s.since, .int .i64 s.power]
theorem states_length (l : List Pl.St) : (states l).length = l.length * 3 := by
  induction l with
  | nil => rfl
  | cons p l ih => simp [states] at ih ⊢; omega
theorem states_snoc (l : List Pl.St) (s : Pl.St) : states (l ++ [s]) = states l ++ [.bool s.on, .int .i64 s.since, .int .i64 s.power] := by simp [states]
theorem states_at (l : List Pl.St) (k : Nat) (hk : k < l.length) : (states l)[k * 3]? = some (.bool l[k].on) ∧ (states l)[k * 3 + 1]? = some (.int .i64 l[k].since) ∧ (states l)[k * 3 + 2]? = some (.int .i64 l[k].power) := by
  induction l generalizing k with
  | nil => simp at hk
  | cons p l ih =>
    cases k with
    | zero => exact ⟨rfl, rfl, rfl⟩
    | succ k =>
      have := ih k (by simpa using hk)
      rw [show (k + 1) * 3 = k * 3 + 3 from by omega]
      simpa [states] using this
theorem Reads.state_len {w : World} {B n : Nat} {A : Option Addr} {l : List Pl.St} (h : Reads w B 3 A n (states l)) : l.length = n := by
  have := h.1; rw [states_length] at this; omega
theorem Reads.state_at {w : World} {B n : Nat} {A : Option Addr} {l : List Pl.St} (h : Reads w B 3 A n (states l)) {k : Nat} (hk : k < n) :
    ∃ b o, A = some ⟨b, o, none⟩ ∧ ∃ hl : k < l.length, w.cell? ⟨b, o + k * 3, none⟩ = some (.bool (l[k]'hl).on) ∧ w.cell? ⟨b, o + k * 3 + 1, none⟩ = some (.int .i64 (l[k]'hl).since) ∧ w.cell? ⟨b, o + k * 3 + 2, none⟩ = some (.int .i64 (l[k]'hl).power) := by
  obtain ⟨b, o, rfl, _, hc⟩ := h.where_ (by omega) (by omega)
  have hl : k < l.length := by have := h.state_len; omega
  obtain ⟨h1, h2, h3⟩ := states_at l k hl
  exact ⟨b, o, rfl, hl, hc _ _ h1, by rw [Nat.add_assoc]; exact hc _ _ h2, by rw [Nat.add_assoc]; exact hc _ _ h3⟩
/-- the contract of unit.Run -/
def RunSaid (x : List Pl.St × Int × Int) (w : World) (e : Ending) (w' : World) : Prop :=
  ∃ A c, e = .returned (.tuple #[.slice A x.1.length c, .int .i64 x.2.1, .int .i64 x.2.2]) ∧ Reads w' w'.heap.size 3 A x.1.length (states x.1) ∧ w'.ownsRow w.heap.size 33 3 (.slice A x.1.length c) x.1.length (states x.1) ∧ Below w.heap.size w w'
set_option maxHeartbeats 1600000 in
set_option maxRecDepth 100000 in
theorem run_loop (r : Pl.Rule) (s : Pl.St) (A : Option Addr) (n c : Nat) (zs : List Int) (w : World) (hs : r.name.size ≤ 9223372036854775807) (hv : Pl.ustate r s = 0) (hn : n ≤ 24)
    (hr : Reads w w.heap.size 1 A n (ints zs)) : Calls Try.prog 32 #[vRule r, vSt s, .slice A n c] w (RunSaid (Pl.racc r s zs).2 w) := by
  have HC := Lib.hid (fun w => ustate_any r s w hs)
  rw [hv] at HC
  have L1 := Lib.hid hr.int_len
  have HV := Lib.hid hv
  clear hv
  obtain ⟨i0, hi0, hz0, hz1, hz2⟩ := info_parts info_UnitState
  unfold vRule vSt at *
  go_enter Try.func32, Try.ntmps32
  go_wp2_with fail
  refine (HC.out _).mono ?_
  rintro e w1 ⟨rfl, hb⟩
  have HB := Lib.hid (((Below.refl w.heap.size w).alloc (Nat.le_refl _) _).alloc (by simp) _ |>.trans (hb.mono (by simp; omega)))
  have B3 : Hid (Blk w1 w.heap.size _ _) := (Blk.old_ (by simp) (Blk.new_ _ _ _ _ (by simp))).go hb
  have B4 : Hid (Blk w1 (w.heap.size + 1) _ _) := (Blk.new_ _ _ _ _ (by simp)).go hb
  clear hb
  go_wp2_with fail
  go_loopw [10, 11, 28] (fun v x i wr => ∃ k : Nat, k ≤ n ∧ i = .int .i64 k ∧ (Pl.racc r s (zs.take k)).2.2.2 = 0 ∧ x = .int .i64 (Pl.racc r s (zs.take k)).2.2.1 ∧
      wr.ownsRow (w.heap.size + 2) 33 3 v k (states (Pl.racc r s (zs.take k)).2.1) ∧
      Blk wr w.heap.size 28 #[.string r.name, .int .i64 r.least, .int .i64 r.most, .int .i64 r.up, .int .i64 r.down, .int .i64 r.minOn, .int .i64 r.minOff, .int .i64 r.start] ∧
      Blk wr (w.heap.size + 1) 33 #[.bool (Pl.racc r s (zs.take k)).1.on, .int .i64 (Pl.racc r s (zs.take k)).1.since, .int .i64 (Pl.racc r s (zs.take k)).1.power] ∧ Below w.heap.size w wr) (fun _ _ i _ => n - (intOf i).toNat)
  case atStart => exact ⟨0, Nat.zero_le _, rfl, rfl, rfl, World.ownsRow_nil _ _ _ _, B3.out, B4.out, HB.out⟩
  case round =>
    obtain ⟨k, hk, rfl, he, rfl, hown, b3, b4, hbel⟩ := hrel
    obtain ⟨v1, v2, v3, v4⟩ := Pl.racc_inv r s HV.out (zs.take k) he
    have lt4 := b4.lt
    by_cases hlt : k < n
    · obtain ⟨b, o, rfl, hl1, hc1⟩ := (hr.go hbel).int_at hlt
      have hsn : Pl.racc r s (zs.take (k + 1)) = Pl.rstep r (Pl.racc r s (zs.take k)) zs[k] := by rw [List.take_succ_eq_append_getElem hl1, Pl.racc_snoc]
      have HS := Lib.hid hsn
      have HE := Lib.hid he
      have HX := Lib.hid (fun w => unext_any r (Pl.racc r s (zs.take k)).1 zs[k] w v1)
      have HST := Lib.hid (Pl.racc_stuck r s zs (k + 1))
      clear hsn he
      rw [List.length_take] at v4
      by_cases hx : (Pl.unext r (Pl.racc r s (zs.take k)).1 zs[k]).2.2 = 0
      · have H1 := Lib.hid (Pl.rstep_ok r _ _ HE.out hx)
        have u := Pl.unext_valid v1 hx
        have u2 := u.2.1
        have u3 := u.2.2.1
        clear u
        have HX' : Hid (∀ w, Calls Try.prog 54 #[vRule r, vSt (Pl.racc r s (zs.take k)).1, .int .i64 zs[k]] w fun e w' => e = .returned (.tuple #[vSt (Pl.unext r (Pl.racc r s (zs.take k)).1 zs[k]).1, .int .i64 (Pl.unext r (Pl.racc r s (zs.take k)).1 zs[k]).2.1, .int .i64 0]) ∧ Below w.heap.size w w') := by
          intro w
          have h := HX.out w
          unfold NextSaid at h
          rw [hx] at h
          exact h
        clear HX hx
        generalize Pl.racc r s (zs.take k) = acc at *
        obtain ⟨⟨σ0, σ1, σ2⟩, L, cc, ee⟩ := acc
        simp only at v1 v2 v3 v4 u2 u3 hown b4 H1 HX' HE
        generalize Pl.unext r ⟨σ0, σ1, σ2⟩ zs[k] = x at *
        obtain ⟨⟨x0, x1, x2⟩, xc, xe⟩ := x
        simp only at u2 u3
        generalize zs[k] = z at *
        have c3 := b3.cell
        have c4 := b4.cell
        unfold vRule vSt at HX'
        simp only at HX'
        go_wp2_with fail
        refine (HX'.out _).mono ?_
        rintro e w2 ⟨rfl, hb2⟩
        have hown2 := own_go hown hb2
        have B3 := Lib.hid (b3.go hb2)
        have B4 := Lib.hid (b4.go hb2)
        have HB2 := Lib.hid (hbel.trans (hb2.mono hbel.size))
        clear c3 c4 b3 b4 hb2 hown hbel
        have l3 := B3.out.lt
        have l4 := B4.out.lt
        go_wp2_with (at_builtin; refine wpList_append_grow _ rfl (.tmp 43) (.tmp 45) 84 rfl (w.heap.size + 2) 33 i0 _ 3 24 Try.underlying84 hi0 hz0 hz1 hz2 rfl (by decide) _ _ _ rfl (hown2.alloc _) (by simp; omega) _ rfl rfl (by simp) (by simp [Value.oneCell']) (by unfold maxLen; omega) (by omega) ?_; intro v' w3 hown3 hg hsz3; have B5 := Lib.hid ((B3.out.alloc _).grown hg (own_ne hown2 (.inl (by omega)))); have B6 := Lib.hid ((B4.out.alloc _).grown hg (own_ne hown2 (.inl (by omega)))); have B7 := Lib.hid ((Blk.new_ w2 w2.heap.size _ _ rfl).grown hg (own_ne hown2 (.inr (Nat.le_refl _)))); have c5 := B5.out.cell; have c6 := B6.out.cell; have f6 := B6.out.frozen; have c7 := B7.out.cell)
        go_roundw
        case rel =>
          refine ⟨k + 1, by omega, by go_num, by rw [HS.out, H1.out], by rw [HS.out, H1.out], ?_, ?_, ?_, ?_⟩
          · rw [HS.out, H1.out, states_snoc]
            exact own_far (own_far (own_far hown3 (by simp) _) (by simp) _) (by simp) _
          · exact ((B5.out.far (by simp) _).far (by simp) _).far (by simp) _
          · rw [HS.out, H1.out]
            exact ((B6.out.set_ 0 _).set_ 1 _).set_ 2 _
          · exact (((below_grown (HB2.out.alloc HB2.out.size _) hg (hown2.alloc _) (by omega) (by have := HB2.out.size; simp; omega)).setCell (by simp) _).setCell (by simp) _).setCell (by simp) _
        case measure => simp [intOf]; omega
      · have H1 := Lib.hid (Pl.rstep_err r _ _ HE.out hx)
        have hx2 : ((Pl.unext r (Pl.racc r s (zs.take k)).1 zs[k]).2.2 != 0) = true := by simpa using hx
        have HT : Hid (Pl.racc r s zs = ((Pl.racc r s (zs.take k)).1, [], 0, (Pl.unext r (Pl.racc r s (zs.take k)).1 zs[k]).2.2)) := by
          show _ = _
          rw [HST.out (by rw [HS.out, H1.out]; exact hx), HS.out, H1.out]
        have HX' : Hid (∀ w, Calls Try.prog 54 #[vRule r, vSt (Pl.racc r s (zs.take k)).1, .int .i64 zs[k]] w fun e w' => e = .returned (.tuple #[vSt (Pl.unext r (Pl.racc r s (zs.take k)).1 zs[k]).1, .int .i64 (Pl.unext r (Pl.racc r s (zs.take k)).1 zs[k]).2.1, .int .i64 (Pl.unext r (Pl.racc r s (zs.take k)).1 zs[k]).2.2]) ∧ Below w.heap.size w w') := HX.out
        clear HX hx HS H1 HST
        generalize Pl.racc r s (zs.take k) = acc at *
        obtain ⟨⟨σ0, σ1, σ2⟩, L, cc, ee⟩ := acc
        simp only at v1 v2 v3 v4 hown b4 HX' HE HT hx2
        generalize Pl.unext r ⟨σ0, σ1, σ2⟩ zs[k] = x at *
        obtain ⟨⟨x0, x1, x2⟩, xc, xe⟩ := x
        simp only at hx2 HT
        generalize zs[k] = z at *
        have c3 := b3.cell
        have c4 := b4.cell
        unfold vRule vSt at HX'
        simp only at HX'
        go_wp2_with fail
        refine (HX'.out _).mono ?_
        rintro e w2 ⟨rfl, hb2⟩
        have HB2 := Lib.hid (hbel.trans (hb2.mono hbel.size))
        clear c3 c4 b3 b4 hb2 hown hbel
        go_wp2_with fail
        go_ret3
        exact ⟨none, 0, by rw [HT.out]; rfl, by rw [HT.out]; exact Reads.none_, by rw [HT.out]; exact World.ownsRow_nil _ _ _ _, HB2.out.alloc HB2.out.size _⟩
    · have : k = n := by omega
      subst this
      have HT : Hid (zs.take k = zs) := List.take_of_length_le (by have := L1.out; omega)
      rw [HT.out] at v2 hown
      have HL : Hid ((Pl.racc r s zs).2.1.length = k) := v2.trans L1.out
      have HE : Hid ((Pl.racc r s zs).2.2.2 = 0) := by rw [← HT.out]; exact he
      have HD : Hid ((Pl.racc r s (zs.take k)).2.2.1 = (Pl.racc r s zs).2.2.1) := by rw [HT.out]; exact rfl
      obtain ⟨A', c', rfl, hrd⟩ := own_slice hown
      clear he v2
      generalize (Pl.racc r s (zs.take k)).2.2.1 = cc at *
      go_wp2_with fail
      go_ret3
      exact ⟨A', c', by rw [HL.out, HE.out, ← HD.out]; rfl, by rw [HL.out]; exact hrd, by rw [HL.out]; exact own_base hown (by omega), hbel⟩
set_option maxHeartbeats 1600000 in
set_option maxRecDepth 100000 in
theorem run_any (r : Pl.Rule) (s : Pl.St) (A : Option Addr) (n c : Nat) (zs : List Int) (w : World) (hs : r.name.size ≤ 9223372036854775807)
    (hr : Reads w w.heap.size 1 A n (ints zs)) : Calls Try.prog 32 #[vRule r, vSt s, .slice A n c] w (RunSaid (Pl.urun r s zs) w) := by
  have HC := Lib.hid (fun w => ustate_any r s w hs)
  by_cases hv : Pl.ustate r s = 0
  · by_cases hn : n ≤ 24
    · have h := run_loop r s A n c zs w hs hv hn hr
      have e : Pl.urun r s zs = (Pl.racc r s zs).2 := by
        unfold Pl.urun; rw [if_neg (by simpa using hv), if_neg (by have := hr.int_len; omega)]
      rw [e]; exact h
    · have HF : Hid (Pl.urun r s zs = ([], 0, 2)) := by
        show _ = _; unfold Pl.urun; rw [if_neg (by simpa using hv), if_pos (by have := hr.int_len; omega)]
      rw [hv] at HC
      clear hv
      generalize Pl.urun r s zs = y at *
      unfold vRule vSt at *
      go_enter Try.func32, Try.ntmps32
      go_wp2_with fail
      refine (HC.out _).mono ?_
      rintro e w1 ⟨rfl, hb⟩
      have HB := Lib.hid (((Below.refl w.heap.size w).alloc (Nat.le_refl _) _).alloc (by simp) _ |>.trans (hb.mono (by simp; omega)))
      clear hb
      go_wp2_with fail
      go_ret3
      exact ⟨none, 0, by rw [HF.out]; rfl, by rw [HF.out]; exact Reads.none_, by rw [HF.out]; exact World.ownsRow_nil _ _ _ _, HB.out⟩
  · have HF : Hid (Pl.urun r s zs = ([], 0, Pl.ustate r s)) := by show _ = _; unfold Pl.urun; rw [if_pos hv]
    have h2 : (Pl.ustate r s != 0) = true := by simpa using hv
    clear hv
    generalize Pl.urun r s zs = y at *
    generalize Pl.ustate r s = u at *
    unfold vRule vSt at *
    go_enter Try.func32, Try.ntmps32
    go_wp2_with fail
    refine (HC.out _).mono ?_
    rintro e w1 ⟨rfl, hb⟩
    have HB := Lib.hid (((Below.refl w.heap.size w).alloc (Nat.le_refl _) _).alloc (by simp) _ |>.trans (hb.mono (by simp; omega)))
    clear hb
    go_wp2_with fail
    go_ret3
    exact ⟨none, 0, by rw [HF.out]; rfl, by rw [HF.out]; exact Reads.none_, by rw [HF.out]; exact World.ownsRow_nil _ _ _ _, HB.out⟩
end Go.Proofs.Ytchafkocobbndaa
