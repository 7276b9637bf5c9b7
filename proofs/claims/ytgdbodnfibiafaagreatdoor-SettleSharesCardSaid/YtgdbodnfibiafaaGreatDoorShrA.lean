/- Slices of rational numbers: Clone, ContainsFunc; large.Sum, large.Texts. Condition: the words read; at most 10^6 numbers. -/
import Derived.Test.YtgdbodnfibiafaaGreatDoorRatB
import Derived.Test.YtgdbodnfibiafaaGreatDoorRatAS
import Derived.Test.YtgdbodnfibiafaaGreatDoorPBal
import Derived.Lib.SliceRun
namespace Go.Proofs.YtgdbodnfibiafaaGreatDoor
open Go.RowKit
set_option maxRecDepth 100000
set_option maxRecDepth 100000 in
theorem clone_rats (A : Option Addr) (n c : Nat) (xs : List Value) (w : World) (hn : n ≤ 1000000) (hr : Reads w w.heap.size 4 A n xs) (h1 : ∀ u ∈ xs, u.oneCell' = true) :
    Calls Tryz.prog 33 #[.slice A n c] w (CloneSaid 47 4 n xs w) := by
  obtain ⟨i0, hi0, hz0, hz1, hz2⟩ := info_parts info_rat
  rcases A with _ | ⟨b, o, s⟩
  · have h0 : n = 0 := by
      rcases Nat.eq_zero_or_pos n with h | h
      · exact h
      · obtain ⟨_, h, _⟩ := hr.2 h; cases h
    subst h0
    have hl : xs = [] := List.eq_nil_of_length_eq_zero (by simpa using hr.1)
    rw [hl]
    clear hl hr hi0 hz0 hz1 hz2 h1
    have hnil : ∀ W, (binOp .eql 40 (.slice none 0 c) (.slice none 0 0)).run Tryz.prog W = .ok (.bool true) W := fun W => Lib.run_eql_slice_nil W _ _ none 0 c 0 0 Tryz.underlying40
    go_enter Tryz.func33, Tryz.ntmps33
    go_wp2_with fail
    go_ret
    exact ⟨none, 0, rfl, World.ownsRow_nil _ _ _ _, Below.refl _ _⟩
  · have hnil : ∀ W, (binOp .eql 40 (.slice (some ⟨b, o, s⟩) n c) (.slice none 0 0)).run Tryz.prog W = .ok (.bool false) W := fun W => Lib.run_eql_slice_nil W _ _ (some ⟨b, o, s⟩) n c 0 0 Tryz.underlying40
    have HR : Hid (Reads (w.alloc (.cells #[] 47)) w.heap.size 4 (some ⟨b, o, s⟩) n xs) := hr.alloc (Nat.le_refl _) _
    have HO := Lib.hid (own_empty w 47 4 w.heap.size w.heap.size rfl (Nat.le_refl _))
    have HB := Lib.hid ((Below.refl w.heap.size w).alloc (Nat.le_refl _) (.cells #[] 47))
    have H1 := Lib.hid h1
    clear h1
    go_enter Tryz.func33, Tryz.ntmps33
    go_wp2_with (at_builtin; go_must (refine wpList_append_any _ rfl (.tmp 5) (.tmp 6) 40 rfl w.heap.size 47 i0 _ 4 64 Tryz.underlying40 hi0 hz0 hz1 hz2 rfl (by decide) (.slice (some ⟨w.heap.size, 0, none⟩) 0 0) 0 [] rfl HO.out w.heap.size (some ⟨b, o, s⟩) n c xs rfl HR.out H1.out (by unfold maxLen; omega) (by omega) (by simp) ?_); intro v' w3 hown3 hg3 _; have HO3 := Lib.hid hown3; have HG3 := Lib.hid hg3; clear hown3 hg3)
    have HO4 := HO3.out
    rw [Nat.zero_add, List.nil_append] at HO4
    obtain ⟨A', c', rfl, _⟩ := own_slice HO4
    go_ret
    exact ⟨A', c', rfl, HO4, below_grown HB.out HG3.out HO.out (Nat.le_refl _) (by simp)⟩

theorem enters_neg : ∀ args w, Sem.run Tryz.prog (callFunc 26 args) w = .ok (.enter 26 args) w := by intro args w; go_simp
theorem isneg_any {a : Rat} {x : Rt} {w : World} (hx : RatIs w w.heap.size a x) : Calls Tryz.prog 26 #[x.v] w fun e w' => e = .returned (.bool (decide (a.num < 0))) ∧ Below w.heap.size w w' := by
  obtain ⟨hA, hD, hsz⟩ := box1 w #[.bool x.N.b, .slice x.N.A x.N.n x.N.c, .bool x.D.b, .slice x.D.A x.D.n x.D.c] 47
  have HX := Lib.hid (hx.go hD)
  have D := Lib.hid hD
  have BA := Lib.hid hA
  have ca := hA.cell
  have la := hA.lt
  clear hx hA hD hsz
  go_enter Tryz.func26, Tryz.ntmps26
  go_wp2_with fail
  refine (rsign_any HX.out).mono ?_
  rintro e w2 ⟨rfl, hb⟩
  have D2 := Lib.hid (D.out.trans (hb.mono D.out.size))
  clear hb
  go_wp2_with fail
  go_ret
  exact ⟨rfl, D2.out⟩
/-- is one of them negative? -/
def Pl.hasNeg (rs : List Rat) : Bool := Pl.has (fun a : Rat => decide (a.num < 0)) rs
set_option maxHeartbeats 1600000 in
theorem idxfn_neg (A : Option Addr) (n c : Nat) (L : List (Rat × Rt)) (rs : List Rat) (w : World) (hn : n ≤ 1000000) (hr : RatsIs w w.heap.size A n L) (hL : L.map (·.1) = rs) :
    Calls Tryz.prog 49 #[.slice A n c, .func (.func 26) #[] #[]] w fun e w' => e = .returned (.int .i64 (Pl.idxOf (fun a : Rat => decide (a.num < 0)) rs)) ∧ Below w.heap.size w w' := by
  have HR := Lib.hid hr
  have HN : Hid (rs.length = n) := by show _ = _; rw [← hL, List.length_map]; exact hr.len
  have HL := Lib.hid hL
  clear hr hL
  go_enter Tryz.func49, Tryz.ntmps49
  go_wp2_with fail
  go_loopw [8] (fun i wr => ∃ k : Nat, k ≤ n ∧ i = .int .i64 k ∧ Hid (∀ j (hj : j < rs.length), j < k → decide (rs[j].num < 0) = false) ∧ Below w.heap.size w wr) (fun i _ => n - (intOf i).toNat)
  case atStart => exact ⟨0, Nat.zero_le _, rfl, fun j _ h => absurd h (by omega), Below.refl _ _⟩
  case round =>
    obtain ⟨k, hk, rfl, HNO, hbel⟩ := hrel
    have HB := Lib.hid hbel
    clear hbel
    by_cases hlt : k < n
    · obtain ⟨b, o, rfl, hbb, hla, c0, c1, c2, c3, hX⟩ := (HR.out.go HB.out).at (k := k) hlt
      have hkl : k < rs.length := by rw [HN.out]; exact hlt
      have ea : L[k].1 = rs[k] := by
        have := HL.out
        subst this
        simp
      rw [ea] at hX
      have HX := Lib.hid hX
      have HT : Hid (decide (rs[k].num < 0) = true → Pl.idxOf (fun a : Rat => decide (a.num < 0)) rs = k) := fun h => Pl.idxOf_hit _ rs k hkl h HNO.out
      have HF : Hid (decide (rs[k].num < 0) = false → ∀ j (hj : j < rs.length), j < k + 1 → decide (rs[j].num < 0) = false) := fun h j hj hjk => by
        by_cases e : j = k
        · subst e; exact h
        · exact HNO.out j hj (by omega)
      generalize L[k].2 = x at *
      clear ea hla hX
      have hk1 : (k : Int) < (n : Int) := by omega
      go_wp2_with fail
      refine (isneg_any HX.out).mono ?_
      rintro e w2 ⟨rfl, hb⟩
      have HB2 := Lib.hid (HB.out.trans (hb.mono HB.out.size))
      clear hb HX c0 c1 c2 c3
      generalize decide (rs[k].num < 0) = bb at *
      cases bb
      · go_wp2_with fail
        go_roundw
        case rel => exact ⟨k + 1, by omega, by go_num, HF.out trivial, HB2.out⟩
        case measure => simp [intOf]; omega
      · go_wp2_with fail
        go_ret
        exact ⟨ret_int (HT.out trivial).symm, HB2.out⟩
    · go_wp2_with fail
      go_ret
      exact ⟨ret_int (Pl.idxOf_miss _ rs fun j hj => HNO.out j hj (by have := HN.out; omega)).symm, HB.out⟩
theorem contains_neg (A : Option Addr) (n c : Nat) (L : List (Rat × Rt)) (rs : List Rat) (w : World) (hn : n ≤ 1000000) (hr : RatsIs w w.heap.size A n L) (hL : L.map (·.1) = rs) :
    Calls Tryz.prog 25 #[.slice A n c, .func (.func 26) #[] #[]] w fun e w' => e = .returned (.bool (Pl.hasNeg rs)) ∧ Below w.heap.size w w' := by
  have HC := Lib.hid (idxfn_neg A n c L rs w hn hr hL)
  have HI : Hid ((decide (0 ≤ Pl.idxOf (fun a : Rat => decide (a.num < 0)) rs)) = Pl.hasNeg rs) := Pl.has_idx _ rs
  clear hr hL
  generalize Pl.idxOf (fun a : Rat => decide (a.num < 0)) rs = ix at *
  go_enter Tryz.func25, Tryz.ntmps25
  go_wp2_with fail
  refine HC.out.mono ?_
  rintro e w2 ⟨rfl, hb⟩
  have HB := Lib.hid hb
  clear hb HC
  go_wp2_with fail
  go_ret
  exact ⟨ret_bool HI.out, HB.out⟩
/-- the sizes of the partial sums -/
theorem sumR_rsz2 : ∀ l : List Rat, (∀ q ∈ l, Pl.rsz q ≤ 210) → Pl.rsz (Pl.sumR l) ≤ 1 + 211 * l.length
  | [], _ => by
    rw [Pl.sumR]
    have e : Pl.rsz ((0 : Int) : Rat) = max (Pl.nw (0 : Int).natAbs) 1 := Pl.rsz_int 0
    rw [show ((0 : Int) : Rat) = 0 from rfl] at e
    rw [e, show Pl.nw (0 : Int).natAbs = 0 from by rw [← List.length_eq_zero_iff.2 (Pl.digs_nil.2 rfl)]; rfl]
    simp
  | x :: l, h => by
    have ih := sumR_rsz2 l fun q hq => h q (by simp [hq])
    have h1 := h x (by simp)
    have := Pl.rsz_add x (Pl.sumR l)
    rw [Pl.sumR, List.length_cons]
    omega
set_option maxHeartbeats 3200000 in
theorem lsum_any (A : Option Addr) (n c : Nat) (L : List (Rat × Rt)) (rs : List Rat) (w : World) (hn : n ≤ 1000) (hr : RatsIs w w.heap.size A n L) (hL : L.map (·.1) = rs) (hs : ∀ q ∈ rs, Pl.rsz q ≤ 210) :
    Calls Tryz.prog 28 #[.slice A n c] w (RtSaid (Pl.sumR rs) w) := by
  have HA := Lib.hid hr
  have HL := Lib.hid hL
  have HSZ := Lib.hid hs
  have HN : Hid (rs.length = n) := by show _ = _; rw [← hL, List.length_map]; exact hr.len
  obtain ⟨hR, hD, hsz⟩ := box1 w #[.bool false, .slice none 0 0, .bool false, .slice none 0 0] 47
  have XR := Lib.hid hR
  have D := Lib.hid hD
  clear hr hL hs hR hD hsz
  go_enter Tryz.func28, Tryz.ntmps28
  go_wp2_with fail
  obtain ⟨rb, hrb⟩ : ∃ rb : Nat, rb = w.heap.size := ⟨_, rfl⟩
  have HRB : w.heap.size ≤ rb := by omega
  rw [← hrb] at XR ⊢
  clear hrb
  generalize w.alloc (.cells #[.bool false, .slice none 0 0, .bool false, .slice none 0 0] 47) = w1 at *
  refine (whole_any 0 w1 (by omega) (by omega)).mono ?_
  rintro e w2 ⟨s0, rfl, hs0, hb5⟩
  have HS := Lib.hid hs0
  have lrb : rb < w2.heap.size := (XR.out.go hb5).lt
  replace XR := Lib.hid (XR.out.go hb5)
  replace D := Lib.hid (D.out.trans (hb5.mono D.out.size))
  clear hs0 hb5
  go_wp2_with fail
  have BS := Lib.hid (Blk.new_ w2 w2.heap.size 47 #[.bool s0.N.b, .slice s0.N.A s0.N.n s0.N.c, .bool s0.D.b, .slice s0.D.A s0.D.n s0.D.c] rfl)
  have hb5 := below_one w2 (.cells #[.bool s0.N.b, .slice s0.N.A s0.N.n s0.N.c, .bool s0.D.b, .slice s0.D.A s0.D.n s0.D.c] 47)
  replace XR := Lib.hid (XR.out.go hb5)
  replace HS := Lib.hid (HS.out.go hb5)
  replace D := Lib.hid (D.out.trans (hb5.mono D.out.size))
  clear hb5
  obtain ⟨bs, e1, h4⟩ : ∃ bs : Nat, bs = w2.heap.size ∧ rb < bs := ⟨_, rfl, lrb⟩
  rw [← e1] at BS
  rw [← e1]
  clear e1 lrb
  generalize w2.alloc (.cells #[.bool s0.N.b, .slice s0.N.A s0.N.n s0.N.c, .bool s0.D.b, .slice s0.D.A s0.D.n s0.D.c] 47) = w3 at *
  go_loopw [9] (fun i wr => ∃ (k : Nat) (s : Rt), k ≤ n ∧ i = .int .i64 k ∧ Blk wr rb 47 #[.bool false, .slice none 0 0, .bool false, .slice none 0 0] ∧ Blk wr bs 47 #[.bool s.N.b, .slice s.N.A s.N.n s.N.c, .bool s.D.b, .slice s.D.A s.D.n s.D.c] ∧ RatIs wr wr.heap.size (Pl.sumR (rs.take k)) s ∧ Below w.heap.size w wr) (fun i _ => n - (intOf i).toNat)
  case atStart => exact ⟨0, s0, Nat.zero_le _, rfl, XR.out, BS.out, by simpa [Pl.sumR] using HS.out, D.out⟩
  case round =>
    clear XR BS HS D
    obtain ⟨k, s, hk, rfl, hxr, hbs, hss, hd⟩ := hrel
    have XR := Lib.hid hxr
    have BS := Lib.hid hbs
    have HS := Lib.hid hss
    have D := Lib.hid hd
    clear hxr hbs hss hd
    by_cases hlt : k < n
    · have hkl : k < rs.length := by rw [HN.out]; exact hlt
      obtain ⟨b, o, rfl, hbb, hla, c0, c1, c2, c3, hX⟩ := (HA.out.go D.out).at (k := k) hlt
      have ea : L[k].1 = rs[k] := by
        have := HL.out
        subst this
        simp
      have hq := HSZ.out _ (List.getElem_mem hkl)
      rw [ea] at hX
      have HT : Hid (Pl.sumR (rs.take (k + 1)) = Pl.sumR (rs.take k) + rs[k]) := by show _ = _; rw [List.take_succ_eq_append_getElem hkl, Pl.sumR_snoc]
      have hsr : Pl.rsz (Pl.sumR (rs.take k)) ≤ 400000 := by
        have h7 := sumR_rsz2 (rs.take k) (fun q hq => HSZ.out q (List.mem_of_mem_take hq))
        rw [List.length_take] at h7
        omega
      generalize L[k].2 = x at *
      have HX := Lib.hid hX
      generalize rs[k] = q at *
      clear ea hla hX hkl
      have hk1 : (k : Int) < (n : Int) := by omega
      have lbs := BS.out.lt
      have cbs := BS.out.cell
      go_wp2_with fail
      have BA := Lib.hid (Blk.new_ wr wr.heap.size 47 #[.bool x.N.b, .slice x.N.A x.N.n x.N.c, .bool x.D.b, .slice x.D.A x.D.n x.D.c] rfl)
      have hb5 := below_one wr (.cells #[.bool x.N.b, .slice x.N.A x.N.n x.N.c, .bool x.D.b, .slice x.D.A x.D.n x.D.c] 47)
      replace XR := Lib.hid (XR.out.go hb5)
      replace BS := Lib.hid (BS.out.go hb5)
      replace HS := Lib.hid (HS.out.go hb5)
      replace HX := Lib.hid (HX.out.go hb5)
      replace D := Lib.hid (D.out.trans (hb5.mono D.out.size))
      clear hb5 cbs
      generalize wr.alloc (.cells #[.bool x.N.b, .slice x.N.A x.N.n x.N.c, .bool x.D.b, .slice x.D.A x.D.n x.D.c] 47) = wa at *
      refine (radd_any HS.out HX.out hsr (by omega)).mono ?_
      rintro e wb ⟨s2, rfl, hs2, hb5⟩
      have HS2 := Lib.hid hs2
      replace XR := Lib.hid (XR.out.go hb5)
      replace BS := Lib.hid (BS.out.go hb5)
      replace D := Lib.hid (D.out.trans (hb5.mono D.out.size))
      clear hb5 hs2 HS HX lbs
      have cbs := BS.out.cell
      have fbs := BS.out.frozen
      have lbs := BS.out.lt
      go_wp2_with fail
      go_roundw
      case rel =>
        refine ⟨k + 1, s2, by omega, by go_num, XR.out.far4 (r := bs) (by omega), BS.out.put4, ?_, below_put4 D.out (r := bs) (by omega)⟩
        rw [HT.out]
        exact HS2.out.put4 BS.out (noU32_num2 s.N s.D)
      case measure => simp [intOf]; omega
    · have : k = n := by omega
      subst this
      have hT : rs.take k = rs := List.take_of_length_le (by rw [HN.out]; exact Nat.le_refl _)
      rw [hT] at HS
      have cbs := BS.out.cell
      have lbs := BS.out.lt
      have cxr := XR.out.cell
      have fxr := XR.out.frozen
      have lxr := XR.out.lt
      go_wp2_with fail
      have k4 := (XR.out.put4 (u0 := .bool s.N.b) (u1 := .slice s.N.A s.N.n s.N.c) (u2 := .bool s.D.b) (u3 := .slice s.D.A s.D.n s.D.c)).cell
      refine bodyPost_ret (v := s.v) (by simp [results, Tryz.results28, go_sem, k4]) rfl ⟨s, rfl, HS.out.put4 XR.out noU32_new2, below_put4 D.out (r := rb) (by omega)⟩
/-- texts in a row -/
theorem info_tx : (Tryz.prog.info? 27).map (fun i => (i.zero, i.size, i.bytes)) = some (some (.string ⟨#[]⟩), 1, 16) := by kernel_rfl
theorem make_tx (n : Nat) (hn : n ≤ 1000000) (w : World) : (Instr.makeSlice 22 (.int .i64 (n : Int)) (.int .i64 (n : Int))).run Tryz.prog w = .ok (.slice (some ⟨w.heap.size, 0, none⟩) n n) (w.alloc (.cells (Array.replicate n (Value.string ⟨#[]⟩)) 27)) := by
  obtain ⟨j0, ji0, jz0, jz1, jz2⟩ := info_parts info_tx
  have := run_make (P := Tryz.prog) w 22 27 j0 (.string ⟨#[]⟩) Tryz.underlying22 ji0 jz0 .i64 .i64 n n (by omega) (by omega) (by rw [jz2]; omega) (by omega)
  rw [jz1, show (Value.string ⟨#[]⟩).cells = #[.string ⟨#[]⟩] from rfl] at this
  rw [show (Array.replicate n (Value.string ⟨#[]⟩)) = madeCells #[.string ⟨#[]⟩] n from by
    apply Array.ext'
    rw [toList_madeCells_one]
    simp]
  simpa using this
/-- what large.Texts returns -/
def TextsSaid (rs : List Rat) (w : World) (e : Ending) (w' : World) : Prop :=
  ∃ (v : Value) (b : Bool), e = .returned (.tuple #[v, .bool b]) ∧ (b = true ↔ ∀ q ∈ rs, Pl.Fits q) ∧ Below w.heap.size w w'
set_option maxHeartbeats 3200000 in
theorem texts_any (A : Option Addr) (n c : Nat) (L : List (Rat × Rt)) (rs : List Rat) (w : World) (hn : n ≤ 1000) (hr : RatsIs w w.heap.size A n L) (hL : L.map (·.1) = rs) (hl : LV w) :
    Calls Tryz.prog 32 #[.slice A n c] w (TextsSaid rs w) := by
  have HA := Lib.hid hr
  have HL := Lib.hid hL
  have HV := Lib.hid hl
  have HN : Hid (rs.length = n) := by show _ = _; rw [← hL, List.length_map]; exact hr.len
  have hmk := make_tx n (by omega)
  clear hr hL hl
  go_enter Tryz.func32, Tryz.ntmps32
  go_wp2_with fail
  have XR := Lib.hid (Blk.new_ w w.heap.size 27 (Array.replicate n (Value.string ⟨#[]⟩)) rfl)
  have D := Lib.hid (below_one w (.cells (Array.replicate n (Value.string ⟨#[]⟩)) 27))
  obtain ⟨g, hg⟩ : ∃ g : Nat, g = w.heap.size := ⟨_, rfl⟩
  have HG : w.heap.size ≤ g := by omega
  rw [← hg] at XR ⊢
  clear hg hmk
  generalize w.alloc (.cells (Array.replicate n (Value.string ⟨#[]⟩)) 27) = w1 at *
  go_loopw [14] (fun i wr => ∃ (k : Nat) (cs : Array Value), k ≤ n ∧ i = .int .i64 k ∧ cs.size = n ∧ Blk wr g 27 cs ∧ Hid (∀ q ∈ rs.take k, Pl.Fits q) ∧ Below w.heap.size w wr) (fun i _ => n - (intOf i).toNat)
  case atStart => exact ⟨0, _, Nat.zero_le _, rfl, by simp, XR.out, Lib.hid (fun q hq => by simp at hq), D.out⟩
  case round =>
    clear XR D
    obtain ⟨k, cs, hk, rfl, hcs, hxr, HF, hd⟩ := hrel
    have XR := Lib.hid hxr
    have D := Lib.hid hd
    clear hxr hd
    by_cases hlt : k < n
    · have hkl : k < rs.length := by rw [HN.out]; exact hlt
      obtain ⟨b, o, rfl, hbb, hla, c0, c1, c2, c3, hX⟩ := (HA.out.go D.out).at (k := k) hlt
      have ea : L[k].1 = rs[k] := by
        have := HL.out
        subst this
        simp
      rw [ea] at hX
      have HM := Lib.hid (List.getElem_mem hkl)
      have HT : Hid (rs.take (k + 1) = rs.take k ++ [rs[k]]) := by show _ = _; rw [List.take_succ_eq_append_getElem hkl]
      generalize L[k].2 = x at *
      have HX := Lib.hid hX
      generalize rs[k] = q at *
      clear ea hla hX hkl
      have hk1 : (k : Int) < (n : Int) := by omega
      go_wp2_with fail
      have hb5 := below_one wr (.cells #[.bool x.N.b, .slice x.N.A x.N.n x.N.c, .bool x.D.b, .slice x.D.A x.D.n x.D.c] 47)
      replace XR := Lib.hid (XR.out.go hb5)
      replace HX := Lib.hid (HX.out.go hb5)
      replace D := Lib.hid (D.out.trans (hb5.mono D.out.size))
      clear hb5
      generalize wr.alloc (.cells #[.bool x.N.b, .slice x.N.A x.N.n x.N.c, .bool x.D.b, .slice x.D.A x.D.n x.D.c] 47) = wa at *
      refine (rtext_any HX.out (HV.out.go D.out)).mono ?_
      rintro e wb ⟨s, bb, rfl, hbq, hst, hb5⟩
      have HBQ := Lib.hid hbq
      clear hst
      replace XR := Lib.hid (XR.out.go hb5)
      replace D := Lib.hid (D.out.trans (hb5.mono D.out.size))
      clear hb5 hbq HX
      cases bb
      · go_wp2_with fail
        go_ret2
        refine ⟨_, false, rfl, ⟨(fun h => by cases h), fun h => ?_⟩, D.out⟩
        have := HBQ.out.2 (h q HM.out)
        cases this
      · have cx : wb.cell? ⟨g, k, none⟩ = some cs[k]! := by
          refine (XR.out.cell k).trans ?_
          rw [getElem!_pos cs k (by omega), Array.getElem?_eq_getElem (by omega)]
        have fx := XR.out.frozen
        have lx := XR.out.lt
        go_wp2_with fail
        go_roundw
        case rel =>
          refine ⟨k + 1, _, by omega, by go_num, ?_, XR.out.set_ k (tx s), ?_, D.out.setCell (by simp; omega) _⟩
          · rw [Array.size_setIfInBounds]; exact hcs
          · show ∀ z ∈ rs.take (k + 1), _
            rw [HT.out]
            intro z hz
            rw [List.mem_append, List.mem_singleton] at hz
            rcases hz with hz | hz
            · exact HF.out z hz
            · subst hz; exact HBQ.out.1 trivial
        case measure => simp [intOf]; omega
    · have : k = n := by omega
      subst this
      have hT : rs.take k = rs := List.take_of_length_le (by rw [HN.out]; exact Nat.le_refl _)
      rw [hT] at HF
      go_wp2_with fail
      go_ret2
      exact ⟨_, true, rfl, ⟨fun _ => HF.out, fun _ => rfl⟩, D.out⟩
end Go.Proofs.YtgdbodnfibiafaaGreatDoor
