/- relaylang.needs answers as its plain function says. Condition: the program reads, the expression is a whole one. slices.Contains at integers, slices.ContainsFunc at integers with a closure that only reads. No condition on the integers. The field of package choose, plain: its edges join different nodes; which edges it has; how many names. No program. -/
import Derived.Test.YtpamgeemmbbkkaaBlk06
import Derived.Test.YtpamgeemmbbkkaaBlk03
import Derived.Test.YtpamgeemmbbkkaaBase
import Derived.Test.YtpamgeemmbbkkaaShTxt
import Derived.Test.YtpamgeemmbbkkaaBlk05
namespace Go.Proofs.Ytpamgeemmbbkkaa
open Go.RowKit
set_option maxRecDepth 100000
set_option maxHeartbeats 3200000 in
theorem needs_any (A : Option Addr) (n c : Nat) (l : List MRul) (Ae : Option Addr) (ne ce : Nat) (ex : List Pl.RN) (w : World) (hn : n ≤ 9223372036854775807) (hne : ne ≤ 64) (h : Ruls w w.heap.size A n l) (he : Elems rnC 3 w w.heap.size Ae ne ex) (hw : Pl.endG 1 ex = some ex.length) :
    Calls Try.prog 85 #[.slice A n c, .slice Ae ne ce] w fun e w' => ∃ (A1 : Option Addr) (m c1 : Nat), e = .returned (.slice A1 m c1) ∧ Reads w' w'.heap.size 1 A1 m (ints (Pl.needsP (Pl.ruleI (prl l)) ex)) ∧ m ≤ 64 ∧ Below w.heap.size w w' := by
  have HN : Hid (∃ N, N = Pl.needsP (Pl.ruleI (prl l)) ex) := ⟨_, rfl⟩
  obtain ⟨NL, hNL⟩ := HN.out
  rw [← hNL]
  have hel := he.2
  have HSTART : Hid (NL = [] ++ Pl.needsG (Pl.ruleI (prl l)) ex ne 0) := by show _ = _; rw [hNL, ← hel]; rfl
  have HLEN : Hid (NL.length ≤ 64) := by rw [hNL]; have := Pl.needsG_len (Pl.ruleI (prl l)) ex ex.length 0; show _ ≤ _; unfold Pl.needsP; omega
  have CE := Lib.hid (fun (at_ : Nat) (hat : at_ ≤ ne) (w1 : World) (hb : Below w.heap.size w w1) => end_any Ae ne ce ex at_ w1 w1.heap.size (by omega) hat (elems_go he hb))
  have CR := Lib.hid (fun (nm : ByteArray) (w1 : World) (hb : Below w.heap.size w w1) => rule_any A n c l nm w1 hn (h.go hb))
  have HP := Lib.hid (fun (at_ : Nat) (hat : at_ < ex.length) => Pl.endI_part hw hat)
  have HE := Lib.hid he
  have HEL := Lib.hid hel
  obtain ⟨R, hR⟩ : ∃ R, R = Pl.ruleI (prl l) := ⟨_, rfl⟩
  rw [← hR] at HSTART CR
  clear hNL HN h he hw hR hel
  obtain ⟨i0, hi0, hz0, hz1, hz2⟩ := info_parts info_int
  go_enter Try.func85, Try.ntmps85
  go_wp2_with fail
  go_loopw [5, 6] (fun vo va wr => ∃ (k f : Nat) (Ao : Option Addr) (m co : Nat) (out : List Int), k ≤ ne ∧ ne ≤ f + k ∧ va = .int .i64 k ∧ vo = .slice Ao m co ∧ m ≤ k ∧ Hid (NL = out ++ Pl.needsG R ex f k) ∧ Hid (wr.ownsRow w.heap.size 3 1 (.slice Ao m co) m (ints out)) ∧ Hid (Below w.heap.size w wr)) (fun _ va _ => ne - (intOf va).toNat)
  case atStart => exact ⟨0, ne, none, 0, 0, [], Nat.zero_le _, by omega, rfl, rfl, Nat.zero_le _, HSTART.out, World.ownsRow_nil _ _ _ _, Below.refl _ _⟩
  case round =>
    clear HSTART
    obtain ⟨k, f, Ao, m, co, out, hk, hf, rfl, rfl, hm, HT, OW, HB⟩ := hrel
    by_cases hkn : k < ne
    · obtain ⟨b, o, rfl, hbl, hlk, q0, q1, q2⟩ := rn_at (HE.out.below HB.out) hkn
      obtain ⟨f1, hf1⟩ : ∃ f1, f = f1 + 1 := ⟨f - 1, by omega⟩
      subst hf1
      have HGE : Hid (ex[k]? = some ex[k]) := List.getElem?_eq_getElem hlk
      have HPK := Lib.hid (HP.out k hlk)
      have CEK := Lib.hid (CE.out k hk)
      have HT2 : Hid (NL = out ++ (if ex[k].op = 6 then Pl.needsG R ex f1 (Pl.endI ex k).toNat else (if ex[k].op = 0 ∧ 0 ≤ R ex[k].name then [R ex[k].name] else []) ++ Pl.needsG R ex f1 (k + 1))) := by
        have h := HT.out
        show _ = _
        rw [h]
        congr 1
        show (match ex[k]? with | none => [] | some x => if x.op = 6 then Pl.needsG R ex f1 (Pl.endI ex k).toNat else (if x.op = 0 ∧ 0 ≤ R x.name then [R x.name] else []) ++ Pl.needsG R ex f1 (k + 1)) = _
        rw [HGE.out]
      clear HT HGE
      generalize ex[k] = x at *
      obtain ⟨xo, xn, xv⟩ := x
      simp only at *
      have k0 : (0 : Int) ≤ (k : Int) := by omega
      have k1 : (k : Int) < (ne : Int) := by omega
      have hxo : xo = 6 ∨ xo = 0 ∨ (xo ≠ 6 ∧ xo ≠ 0) := by omega
      rcases hxo with rfl | rfl | ⟨h6, h0⟩
      · have HT3 : Hid (NL = out ++ Pl.needsG R ex f1 (Pl.endI ex k).toNat) := by show _ = _; rw [HT2.out]; simp
        clear HT2
        go_wp2_with fail
        refine (CEK.out _ HB.out).mono ?_
        rintro e w1 ⟨rfl, rfl⟩
        have hpk := HPK.out
        have hel := HEL.out
        generalize Pl.endI ex k = ek at *
        go_wp2_with fail
        go_roundw
        case rel => exact ⟨ek.toNat, f1, Ao, m, co, out, by omega, by omega, by rw [show ((ek.toNat : Nat) : Int) = ek by omega], rfl, by omega, HT3.out, OW.out, HB.out⟩
        case measure => simp [intOf]; omega
      · go_wp2_with fail
        refine (CR.out xn _ HB.out).mono ?_
        rintro e w1 ⟨rfl, hb⟩
        have OW1 := Lib.hid (own_go OW.out hb)
        have HB1 := Lib.hid (HB.out.trans (hb.mono HB.out.size))
        clear hb OW HB
        generalize R xn = rx at *
        by_cases hr : 0 ≤ rx
        · have hd : decide (0 ≤ rx) = true := by simp [hr]
          have HT3 : Hid (NL = out ++ [rx] ++ Pl.needsG R ex f1 (k + 1)) := by show _ = _; rw [HT2.out]; simp [hr]
          have d3 : Below w1.heap.size w1 (w1.alloc (.cells #[.int .i64 rx] 3)) := (Below.refl _ _).alloc (Nat.le_refl _) _
          have OW2 := Lib.hid (own_go OW1.out d3)
          have HB2 := Lib.hid (HB1.out.trans (d3.mono HB1.out.size))
          clear hr HT2
          go_wp2_with (at_builtin; go_must (refine wpList_append_any _ rfl (.tmp 33) (.tmp 35) 45 rfl w.heap.size 3 i0 _ 1 8 Try.underlying45 hi0 hz0 hz1 hz2 rfl (by decide) (.slice Ao m co) m (ints out) rfl OW2.out (w1.heap.size + 1) (some ⟨w1.heap.size, 0, none⟩) 1 1 [.int .i64 rx] rfl (by have := Reads.lit w1 #[.int .i64 rx] 3 1 1 w1.heap.size rfl rfl; simpa using this) (by intro u hu; simp at hu; subst hu; rfl) (by unfold maxLen; omega) (by omega) (by have := HB1.out.size; simp at this ⊢; omega) ?_); intro v' w6 hown6 hg6 hn6; obtain ⟨A6, c6, rfl, _⟩ := own_slice hown6; have HO6 := Lib.hid hown6; have HB3 := Lib.hid (below_grown HB2.out hg6 OW2.out (Nat.le_refl _) HB2.out.size); clear hown6 hg6 hn6)
          have OW3 : Hid (w6.ownsRow w.heap.size 3 1 (.slice A6 (m + 1) c6) (m + 1) (ints (out ++ [rx]))) := by show World.ownsRow _ _ _ _ _ _ _; have := HO6.out; unfold ints at this ⊢; rw [List.map_append]; exact this
          go_roundw
          case rel => exact ⟨k + 1, f1, A6, m + 1, c6, out ++ [rx], by omega, by omega, by go_num, rfl, by omega, HT3.out, OW3.out, HB3.out⟩
          case measure => simp [intOf]; omega
        · have hd : decide (0 ≤ rx) = false := by simp; omega
          have HT3 : Hid (NL = out ++ Pl.needsG R ex f1 (k + 1)) := by show _ = _; rw [HT2.out]; simp [hr]
          clear hr HT2
          go_wp2_with fail
          go_roundw
          case rel => exact ⟨k + 1, f1, Ao, m, co, out, by omega, by omega, by go_num, rfl, by omega, HT3.out, OW1.out, HB1.out⟩
          case measure => simp [intOf]; omega
      · have e6 : (xo == 6) = false := by simp [h6]
        have e0 : (xo == 0) = false := by simp [h0]
        have HT3 : Hid (NL = out ++ Pl.needsG R ex f1 (k + 1)) := by show _ = _; rw [HT2.out]; simp [h6, h0]
        clear HT2 h6 h0
        go_wp2_with fail
        go_roundw
        case rel => exact ⟨k + 1, f1, Ao, m, co, out, by omega, by omega, by go_num, rfl, by omega, HT3.out, OW.out, HB.out⟩
        case measure => simp [intOf]; omega
    · have HT3 : Hid (NL = out) := by
        show _ = _
        rw [HT.out]
        have : Pl.needsG R ex f k = [] := by
          cases f with
          | zero => rfl
          | succ f => show (match ex[k]? with | none => [] | some x => _) = _; rw [List.getElem?_eq_none (by have := HEL.out; omega)]
        rw [this, List.append_nil]
      go_wp2_with fail
      go_ret
      exact ⟨Ao, m, co, rfl, by rw [HT3.out]; exact Reads.of_own OW.out, by omega, HB.out⟩
end Go.Proofs.Ytpamgeemmbbkkaa
namespace Go.Proofs.Ytpamgeemmbbkkaa
open Go.RowKit
set_option maxRecDepth 100000
theorem idx_int (A : Option Addr) (n c : Nat) (zs : List Int) (x : Int) (B : Nat) (w : World) (hn : n ≤ 1000000000000000) (h : Reads w B 1 A n (ints zs)) :
    Calls Try.prog 99 #[.slice A n c, .int .i64 x] w fun e w' => e = .returned (.int .i64 (Pl.idxOf (fun z => x == z) zs)) ∧ w' = w := by
  have HL := Lib.hid h.int_len
  have HR := Lib.hid h
  clear h
  go_enter Try.func99, Try.ntmps99
  go_wp2_with fail
  go_loopw [8] (fun i wr => ∃ k : Nat, k ≤ n ∧ i = .int .i64 k ∧ Hid (∀ j (hj : j < zs.length), j < k → (x == zs[j]) = false) ∧ wr = w) (fun i _ => n - (intOf i).toNat)
  case atStart => exact ⟨0, Nat.zero_le _, rfl, fun j _ h => absurd h (by omega), rfl⟩
  case round =>
    obtain ⟨k, hk, rfl, HN, rfl⟩ := hrel
    by_cases hlt : k < n
    · obtain ⟨b, o, rfl, hl, hc⟩ := HR.out.int_at hlt
      have HZ : Hid (∃ z, z = zs[k]) := ⟨_, rfl⟩
      obtain ⟨z, hz⟩ := HZ.out
      rw [← hz] at hc
      have HZE := Lib.hid hz
      clear hz HZ
      have k0 : (0 : Int) ≤ (k : Int) := by omega
      have k1 : (k : Int) < (n : Int) := by omega
      cases hv : (x == z)
      · have HV := Lib.hid hv
        have hne : ¬ x = z := by simpa using hv
        go_wp2_with fail
        go_roundw
        case rel => exact ⟨k + 1, by omega, by go_num, (fun j hj hjk => by
          by_cases e : j = k
          · subst e; rw [← HZE.out]; exact HV.out
          · exact HN.out j hj (by omega)), by first | exact rfl | trivial⟩
        case measure => simp [intOf]; omega
      · have HV := Lib.hid hv
        have heq : x = z := by simpa using hv
        go_wp2_with fail
        go_ret
        exact ⟨ret_int (Pl.idxOf_hit _ zs k hl (by rw [← HZE.out]; exact HV.out) HN.out).symm, rfl⟩
    · go_wp2_with fail
      go_ret
      exact ⟨ret_int (Pl.idxOf_miss _ zs fun j hj => HN.out j hj (by have := HL.out; omega)).symm, rfl⟩
theorem con_int (A : Option Addr) (n c : Nat) (zs : List Int) (x : Int) (B : Nat) (w : World) (hn : n ≤ 1000000000000000) (h : Reads w B 1 A n (ints zs)) :
    Calls Try.prog 83 #[.slice A n c, .int .i64 x] w fun e w' => e = .returned (.bool (decide (x ∈ zs))) ∧ w' = w := by
  have HE : Hid (decide (x ∈ zs) = decide (0 ≤ Pl.idxOf (fun z => x == z) zs)) := by
    show _ = _
    rw [Pl.has_idx]
    unfold Pl.has
    rw [Bool.eq_iff_iff, decide_eq_true_eq, List.any_eq_true]
    refine ⟨fun h => ⟨x, h, by simp⟩, ?_⟩
    rintro ⟨y, h, e⟩
    have e2 : x = y := by simpa using e
    rw [e2]; exact h
  have HC := Lib.hid (idx_int A n c zs x B w hn h)
  generalize Pl.idxOf (fun z => x == z) zs = R at *
  clear h
  go_enter Try.func83, Try.ntmps83
  go_wp2_with fail
  refine HC.out.mono ?_
  rintro e w1 ⟨rfl, rfl⟩
  go_wp2_with fail
  go_ret
  exact ⟨by rw [HE.out]; rfl, rfl⟩
set_option maxHeartbeats 800000 in
theorem idxfn_intb (F : FuncId) (lb : Array Value) (p : Int → Bool) (eg : ∀ args w, Sem.run Try.prog (callFunc F args) w = .ok (.enter F args) w) (A : Option Addr) (n c : Nat) (zs : List Int) (B : Nat) (w : World) (hn : n ≤ 1000000000000000)
    (hp : Hid (∀ z, Calls Try.prog F (#[.int .i64 z] ++ lb) w fun e w' => e = .returned (.bool (p z)) ∧ w' = w)) (h : Reads w B 1 A n (ints zs)) :
    Calls Try.prog 100 #[.slice A n c, .func (.func F) #[] lb] w fun e w' => e = .returned (.int .i64 (Pl.idxOf p zs)) ∧ w' = w := by
  have HL := Lib.hid h.int_len
  have HR := Lib.hid h
  clear h
  go_enter Try.func100, Try.ntmps100
  go_wp2_with fail
  go_loopw [8] (fun i wr => ∃ k : Nat, k ≤ n ∧ i = .int .i64 k ∧ Hid (∀ j (hj : j < zs.length), j < k → p zs[j] = false) ∧ wr = w) (fun i _ => n - (intOf i).toNat)
  case atStart => exact ⟨0, Nat.zero_le _, rfl, fun j _ h => absurd h (by omega), rfl⟩
  case round =>
    obtain ⟨k, hk, rfl, HN, rfl⟩ := hrel
    by_cases hlt : k < n
    · obtain ⟨b, o, rfl, hl, hc⟩ := HR.out.int_at hlt
      have HC := Lib.hid (hp.out zs[k])
      go_wp2_with (go_at_fn F; refine HC.out.mono ?_; rintro e w' ⟨rfl, rfl⟩)
      all_goals first
        | (go_roundw
           case rel =>
             have hv : p zs[k] = false := by assumption
             exact ⟨k + 1, by omega, by go_num, (fun j hj hjk => by
               by_cases e : j = k
               · subst e; exact hv
               · exact HN.out j hj (by omega)), by first | exact rfl | trivial⟩
           case measure => simp [intOf]; omega)
        | (go_ret
           have hv : p zs[k] = true := by assumption
           exact ⟨ret_int (Pl.idxOf_hit p zs k hl hv HN.out).symm, rfl⟩)
    · go_wp2_with fail
      go_ret
      exact ⟨ret_int (Pl.idxOf_miss p zs fun j hj => HN.out j hj (by have := HL.out; omega)).symm, rfl⟩
theorem conf_intb (F : FuncId) (lb : Array Value) (p : Int → Bool) (eg : ∀ args w, Sem.run Try.prog (callFunc F args) w = .ok (.enter F args) w) (A : Option Addr) (n c : Nat) (zs : List Int) (B : Nat) (w : World) (hn : n ≤ 1000000000000000)
    (hp : Hid (∀ z, Calls Try.prog F (#[.int .i64 z] ++ lb) w fun e w' => e = .returned (.bool (p z)) ∧ w' = w)) (h : Reads w B 1 A n (ints zs)) :
    Calls Try.prog 84 #[.slice A n c, .func (.func F) #[] lb] w fun e w' => e = .returned (.bool (zs.any p)) ∧ w' = w := by
  have HC := Lib.hid (idxfn_intb F lb p eg A n c zs B w hn hp h)
  have HE : Hid (zs.any p = decide (0 ≤ Pl.idxOf p zs)) := (Pl.has_idx p zs).symm
  generalize Pl.idxOf p zs = R at *
  clear h hp
  go_enter Try.func84, Try.ntmps84
  go_wp2_with fail
  refine HC.out.mono ?_
  rintro e w1 ⟨rfl, rfl⟩
  go_wp2_with fail
  go_ret
  exact ⟨by rw [HE.out]; rfl, rfl⟩
end Go.Proofs.Ytpamgeemmbbkkaa
namespace Go.Proofs.Ytpamgeemmbbkkaa.Pl
/-- the edges that branches and switches give, and no others -/
def EdgIn (N : Net) (open_ : List ByteArray) (br : ByteArray) (part : Int) (k : Nat) (e : Edg) : Prop :=
  (∃ s ∈ N.switches, shutS open_ s = true ∧ e = edgS N.nodes s) ∨
  (∃ b ∈ N.branches.take k, wholeB br part b = true ∧ e = ⟨idxT N.nodes b.from_, idxT N.nodes b.to_, b.name, false, 0⟩) ∨
  (∃ b ∈ N.branches.take k, wholeB br part b = false ∧ (e = ⟨N.nodes.length, idxT N.nodes b.from_, b.name, false, 0⟩ ∨ e = ⟨N.nodes.length, idxT N.nodes b.to_, b.name, false, 0⟩))
theorem notWhole {br : ByteArray} {part : Int} {b : Bra} (h : wholeB br part b = false) : b.name = br ∧ part ≠ 0 ∧ part ≠ 1000 := by
  unfold wholeB at h
  simp only [Bool.or_eq_false_iff, decide_eq_false_iff_not, Classical.not_not] at h
  exact ⟨lst_inj h.1.1, h.1.2, h.2⟩
theorem fldB_edges (N : Net) (open_ : List ByteArray) (br : ByteArray) (part : Int) : ∀ k, k ≤ N.branches.length → ∀ e, e ∈ (fldB N open_ br part k).2 ↔ EdgIn N open_ br part k e
  | 0, _, e => by
    have : (fldB N open_ br part 0).2 = edgesS N.nodes open_ N.switches := rfl
    rw [this]
    unfold EdgIn edgesS
    simp only [List.mem_map, List.mem_filter, List.take_zero, List.not_mem_nil, false_and, exists_false, or_false]
    exact ⟨fun ⟨s, ⟨h1, h2⟩, h3⟩ => ⟨s, h1, h2, h3.symm⟩, fun ⟨s, h1, h2, h3⟩ => ⟨s, ⟨h1, h2⟩, h3.symm⟩⟩
  | k + 1, h, e => by
    have ih := fldB_edges N open_ br part k (by omega) e
    have hk : k < N.branches.length := by omega
    rw [fldB_succ N open_ br part k hk]
    have ht : ∀ b, b ∈ N.branches.take (k + 1) ↔ b ∈ N.branches.take k ∨ b = N.branches[k] := fun b => by
      rw [List.take_succ_eq_append_getElem hk, List.mem_append, List.mem_singleton]
    have hE : EdgIn N open_ br part (k + 1) e ↔ EdgIn N open_ br part k e ∨ (wholeB br part N.branches[k] = true ∧ e = ⟨idxT N.nodes N.branches[k].from_, idxT N.nodes N.branches[k].to_, N.branches[k].name, false, 0⟩) ∨ (wholeB br part N.branches[k] = false ∧ (e = ⟨N.nodes.length, idxT N.nodes N.branches[k].from_, N.branches[k].name, false, 0⟩ ∨ e = ⟨N.nodes.length, idxT N.nodes N.branches[k].to_, N.branches[k].name, false, 0⟩)) := by
      unfold EdgIn
      constructor
      · rintro (h | ⟨b, hb, h⟩ | ⟨b, hb, h⟩)
        · exact .inl (.inl h)
        · rcases (ht b).1 hb with hb | rfl
          · exact .inl (.inr (.inl ⟨b, hb, h⟩))
          · exact .inr (.inl h)
        · rcases (ht b).1 hb with hb | rfl
          · exact .inl (.inr (.inr ⟨b, hb, h⟩))
          · exact .inr (.inr h)
      · rintro ((h | ⟨b, hb, h⟩ | ⟨b, hb, h⟩) | h | h)
        · exact .inl h
        · exact .inr (.inl ⟨b, (ht b).2 (.inl hb), h⟩)
        · exact .inr (.inr ⟨b, (ht b).2 (.inl hb), h⟩)
        · exact .inr (.inl ⟨_, (ht _).2 (.inr rfl), h⟩)
        · exact .inr (.inr ⟨_, (ht _).2 (.inr rfl), h⟩)
    rw [hE, ← ih]
    unfold stepB
    cases hw : wholeB br part N.branches[k] with
    | true => simp
    | false =>
      have hp := fldB_place N open_ br part k (by omega) (notWhole hw).2.1 (notWhole hw).2.2
      simp [hp]
theorem fEdges_iff (N : Net) (open_ : List ByteArray) (br : ByteArray) (part : Int) (e : Edg) : e ∈ fEdges N open_ br part ↔ EdgIn N open_ br part N.branches.length e := fldB_edges N open_ br part _ (Nat.le_refl _) e
/-- where the place lies when the fault is at an end of its branch -/
def endOf (N : Net) (part : Int) (b : Bra) : Int := if 0 < part then idxT N.nodes b.to_ else idxT N.nodes b.from_
theorem fPlace_end {N : Net} {open_ : List ByteArray} {br : ByteArray} {part : Int} {b : Bra} (hb : b ∈ N.branches) (hn : b.name = br) (hu : ∀ b' ∈ N.branches, b'.name = br → b' = b) (hp : part = 0 ∨ part = 1000) : fPlace N open_ br part = endOf N part b := by
  obtain ⟨q, hq, rfl⟩ := List.getElem_of_mem hb
  have step : ∀ k (hk : k < N.branches.length), N.branches[k].name = br → (fldB N open_ br part (k + 1)).1 = endOf N part N.branches[q] := by
    intro k hk hnm
    have e := hu _ (List.getElem_mem hk) hnm
    rw [fldB_succ N open_ br part k hk]
    unfold stepB
    have hw : wholeB br part N.branches[k] = true := by unfold wholeB; rcases hp with h | h <;> simp [h]
    rw [if_pos hw]
    simp only
    rw [if_pos (by rw [hnm]), e]; rfl
  have : ∀ d, q + 1 + d ≤ N.branches.length → (fldB N open_ br part (q + 1 + d)).1 = endOf N part N.branches[q] := by
    intro d
    induction d with
    | zero => intro h; exact step q hq hn
    | succ d ih =>
      intro h
      have ih := ih (by omega)
      by_cases hnm : (N.branches[q + 1 + d]'(by omega)).name = br
      · exact step (q + 1 + d) (by omega) hnm
      · rw [show q + 1 + (d + 1) = (q + 1 + d) + 1 by omega, fldB_succ N open_ br part (q + 1 + d) (by omega)]
        unfold stepB
        split
        · simp only
          rw [if_neg (fun e => hnm (lst_inj e))]; exact ih
        · exact ih
  have := this (N.branches.length - (q + 1)) (by omega)
  rwa [show q + 1 + (N.branches.length - (q + 1)) = N.branches.length by omega] at this
/-- a place that passes: its branch, by name the only one -/
theorem bra_unique {N : Net} (hok : NetOk N) {b b' : Bra} (hb : b ∈ N.branches) (hb' : b' ∈ N.branches) (h : b.name = b'.name) : b = b' := by
  have hn : ((N.branches.map dBra).map Dev.name).Nodup := by
    have := hok.nodup
    unfold allDevs at this
    rw [List.map_append, List.nodup_append] at this
    have h2 := this.2.1
    rw [List.map_append, List.nodup_append] at h2
    have h3 := h2.2.1
    rw [List.map_append, List.nodup_append] at h3
    exact h3.1
  rw [List.map_map] at hn
  obtain ⟨i, hi, rfl⟩ := List.getElem_of_mem hb
  obtain ⟨j, hj, rfl⟩ := List.getElem_of_mem hb'
  have e1 : (N.branches.map (Dev.name ∘ dBra))[i]? = some N.branches[i].name := by simp [hi]; rfl
  have e2 : (N.branches.map (Dev.name ∘ dBra))[j]? = some N.branches[j].name := by simp [hj]; rfl
  rw [h] at e1
  have := (List.getElem?_inj (by simpa using hi) hn).1 (e1.trans e2.symm)
  subst this
  rfl
theorem swi_nodup {N : Net} (hok : NetOk N) : (N.switches.map Swi.name).Nodup := by
  have := hok.nodup
  unfold allDevs at this
  rw [List.map_append, List.nodup_append] at this
  have h2 := this.2.1
  rw [List.map_append, List.nodup_append] at h2
  have h3 := h2.1
  rw [List.map_map] at h3
  exact h3
structure PlaceOk (N : Net) (br : ByteArray) (part : Int) (b : Bra) : Prop where
  mem : b ∈ N.branches
  name : b.name = br
  low : 0 ≤ part
  high : part ≤ 1000
theorem fPlace_mid {N : Net} {open_ : List ByteArray} {br : ByteArray} {part : Int} (h0 : part ≠ 0) (h1 : part ≠ 1000) : fPlace N open_ br part = N.nodes.length := fldB_place N open_ br part _ (Nat.le_refl _) h0 h1
theorem field_ok {N : Net} {open_ : List ByteArray} {br : ByteArray} {part : Int} {b : Bra} (hok : NetOk N) (hp : PlaceOk N br part b) : FieldOk (fEdges N open_ br part) (fPlace N open_ br part) ((N.nodes.length + 1 : Nat) : Int) := by
  have two : ∀ {x y : ByteArray}, x ∈ N.nodes → y ∈ N.nodes → x ≠ y → 0 ≤ idxT N.nodes x ∧ idxT N.nodes x < ((N.nodes.length + 1 : Nat) : Int) ∧ 0 ≤ idxT N.nodes y ∧ idxT N.nodes y < ((N.nodes.length + 1 : Nat) : Int) ∧ idxT N.nodes x ≠ idxT N.nodes y := by
    intro x y hx hy hne
    have a := idxT_mem hx
    have c := idxT_mem hy
    exact ⟨a.1, by omega, c.1, by omega, fun e => hne (idxT_inj hx hy e)⟩
  refine ⟨fun e he => ?_, ?_⟩
  · rcases (fEdges_iff N open_ br part e).1 he with ⟨s, hs, _, rfl⟩ | ⟨b', hb', _, rfl⟩ | ⟨b', hb', _, h | h⟩
    · obtain ⟨h1, h2, h3⟩ := hok.swi s hs
      exact two h1 h2 h3
    · obtain ⟨h1, h2, h3, _⟩ := hok.bra b' (List.mem_of_mem_take hb')
      exact two h1 h2 h3
    · obtain ⟨h1, h2, h3, _⟩ := hok.bra b' (List.mem_of_mem_take hb')
      have a := idxT_mem h1
      rw [h]; simp only; omega
    · obtain ⟨h1, h2, h3, _⟩ := hok.bra b' (List.mem_of_mem_take hb')
      have a := idxT_mem h2
      rw [h]; simp only; omega
  · by_cases hm : part = 0 ∨ part = 1000
    · rw [fPlace_end hp.mem hp.name (fun b' hb' hn => bra_unique hok hb' hp.mem (hn.trans hp.name.symm)) hm]
      obtain ⟨h1, h2, _, _⟩ := hok.bra b hp.mem
      have a := idxT_mem h1
      have c := idxT_mem h2
      unfold endOf
      split <;> omega
    · rw [fPlace_mid (fun e => hm (.inl e)) (fun e => hm (.inr e))]
      omega
theorem fEdges_len {N : Net} {open_ : List ByteArray} {br : ByteArray} {part : Int} (hok : NetOk N) : (fEdges N open_ br part).length ≤ 80 := by
  have := fldB_len N open_ br part N.branches.length (Nat.le_refl _)
  have h1 := hok.ns
  have h2 := hok.nb
  unfold fEdges
  omega
theorem fEdges_flow {N : Net} {open_ : List ByteArray} {br : ByteArray} {part : Int} : ∀ e ∈ fEdges N open_ br part, e.flow = 0 := by
  intro e he
  rcases (fEdges_iff N open_ br part e).1 he with ⟨s, hs, _, rfl⟩ | ⟨b', hb', _, rfl⟩ | ⟨b', hb', _, rfl | rfl⟩ <;> rfl
theorem fSrc_len (N : Net) : (fSrc N).length = N.nodes.length + 1 := by
  unfold fSrc
  rw [setS_length, setS_length, List.length_replicate]
end Go.Proofs.Ytpamgeemmbbkkaa.Pl
