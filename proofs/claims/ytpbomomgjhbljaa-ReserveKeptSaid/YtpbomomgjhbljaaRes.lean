/- Slices of reserve units in memory. No condition. reserve.Check, held, Possible and Held: what they give. Condition: the units read take less memory than the form's reach. reserve.Possible and Held: what they give. Condition: the units read take less memory than the form's reach. -/
import Derived.Test.YtpbomomgjhbljaaOffs
import Derived.Test.YtpbomomgjhbljaaPRes
import Derived.Test.YtpbomomgjhbljaaQuiet
namespace Go.Proofs.Ytpbomomgjhbljaa
open Go.RowKit
def units (l : List (MOff × Int)) : List Value := l.flatMap fun u => [.string u.1.nm, .slice u.1.A u.1.n u.1.c, .int .i64 u.2]
def plr (l : List (MOff × Int)) : List Pl.RU := l.map fun u => ((u.1.nm, u.1.st), u.2)
/-- a slice of units, the steps of their offers with them -/
def Units (w : World) (A : Option Addr) (n : Nat) (l : List (MOff × Int)) : Prop := Reads w w.heap.size 3 A n (units l) ∧ ∀ u ∈ l, OffIn w u.1 ∧ -9223372036854775808 ≤ u.2 ∧ u.2 ≤ 9223372036854775807
theorem Units.go {w w' : World} {A : Option Addr} {n : Nat} {l : List (MOff × Int)} (h : Units w A n l) (hb : Below w.heap.size w w') : Units w' A n l :=
  ⟨h.1.go hb, fun o ho => ⟨⟨(h.2 o ho).1.1, (h.2 o ho).1.2.1, (h.2 o ho).1.2.2.go hb⟩, (h.2 o ho).2⟩⟩
theorem units_length (l : List (MOff × Int)) : (units l).length = l.length * 3 := by
  induction l with
  | nil => rfl
  | cons p l ih => simp [units] at ih ⊢; omega
theorem units_at (l : List (MOff × Int)) (k : Nat) (hk : k < l.length) : (units l)[k * 3]? = some (.string l[k].1.nm) ∧ (units l)[k * 3 + 1]? = some (.slice l[k].1.A l[k].1.n l[k].1.c) ∧ (units l)[k * 3 + 2]? = some (.int .i64 l[k].2) := by
  induction l generalizing k with
  | nil => simp at hk
  | cons p l ih =>
    cases k with
    | zero => exact ⟨rfl, rfl, rfl⟩
    | succ k =>
      have := ih k (by simpa using hk)
      rw [show (k + 1) * 3 = k * 3 + 3 from by omega]
      simpa [units] using this
theorem Units.len {w : World} {A : Option Addr} {n : Nat} {l : List (MOff × Int)} (h : Units w A n l) : l.length = n := by
  have := h.1.1; rw [units_length] at this; omega
theorem Units.at_ {w : World} {A : Option Addr} {n : Nat} {l : List (MOff × Int)} (h : Units w A n l) {k : Nat} (hk : k < n) :
    ∃ b o, A = some ⟨b, o, none⟩ ∧ ∃ hl : k < l.length, w.cell? ⟨b, o + k * 3, none⟩ = some (.string (l[k]'hl).1.nm) ∧ w.cell? ⟨b, o + k * 3 + 1, none⟩ = some (.slice (l[k]'hl).1.A (l[k]'hl).1.n (l[k]'hl).1.c) ∧ w.cell? ⟨b, o + k * 3 + 2, none⟩ = some (.int .i64 (l[k]'hl).2) := by
  obtain ⟨b, o, rfl, _, hc⟩ := h.1.where_ (by omega) (by omega)
  have hl : k < l.length := by have := h.len; omega
  obtain ⟨h1, h2, h3⟩ := units_at l k hl
  exact ⟨b, o, rfl, hl, hc _ _ h1, by rw [Nat.add_assoc]; exact hc _ _ h2, by rw [Nat.add_assoc]; exact hc _ _ h3⟩
theorem plr_len (l : List (MOff × Int)) : (plr l).length = l.length := by unfold plr; simp
theorem roffs_plr (l : List (MOff × Int)) : Pl.roffs (plr l) = plo (l.map fun u => u.1) := by
  unfold Pl.roffs plr plo
  rw [List.map_map, List.map_map]
  rfl
theorem plr_ru {l : List (MOff × Int)} {k : Nat} (hk : k < l.length) : Pl.ru (plr l) k = ((l[k].1.nm, l[k].1.st), l[k].2) := by
  unfold Pl.ru plr
  rw [List.getD_eq_getElem?_getD, List.getElem?_map, List.getElem?_eq_getElem hk]
  rfl
theorem plr_steps {l : List (MOff × Int)} {k : Nat} (hk : k < l.length) : Pl.steps (Pl.roffs (plr l)) k = l[k].1.st := by rw [Pl.ru_steps, plr_ru hk]
theorem offs_snoc (l : List MOff) (o : MOff) : offs (l ++ [o]) = offs l ++ [.string o.nm, .slice o.A o.n o.c] := by
  unfold offs; rw [List.flatMap_append]; rfl
theorem own_cap {w : World} {base : Nat} {e : TypeId} {size n : Nat} {A : Option Addr} {c : Nat} {xs : List Value} (h : w.ownsRow base e size (.slice A n c) n xs) : n ≤ c := by
  rcases h.2 with ⟨hv, _⟩ | ⟨g, cap, cur, hv, _, _, hc, _⟩
  · injection hv with _ h2 h3; omega
  · injection hv with _ _ h3; omega
namespace Pl
def fastB (u : RU) : Bool := decide (u.2 < 0) || decide (100000 < u.2)
def rcheck (l : List RU) : Int := if oall (roffs l) ≠ 0 then oall (roffs l) else if has fastB l then 4 else 0
theorem fastB_false {u : RU} : fastB u = false ↔ 0 ≤ u.2 ∧ u.2 ≤ 100000 := by unfold fastB; simp
theorem rcheck_ok {l : List RU} (h : rcheck l = 0) : oall (roffs l) = 0 ∧ ∀ k, k < l.length → 0 ≤ (ru l k).2 ∧ (ru l k).2 ≤ 100000 := by
  unfold rcheck at h
  by_cases h1 : oall (roffs l) = 0
  · rw [if_neg (by simpa using h1)] at h
    cases h2 : has fastB l with
    | true => rw [h2] at h; simp at h
    | false =>
      refine ⟨h1, fun k hk => ?_⟩
      have := has_false h2 k hk
      unfold ru
      rw [List.getD_eq_getElem?_getD, List.getElem?_eq_getElem hk]
      exact fastB_false.1 this
  · rw [if_pos h1] at h; exact absurd h h1
end Pl
end Go.Proofs.Ytpbomomgjhbljaa
namespace Go.Proofs.Ytpbomomgjhbljaa
open Go.RowKit
theorem enters_rcheck1 : ∀ args w, Sem.run Try.prog (callFunc 71 args) w = .ok (.enter 71 args) w := by intro args w; go_simp
set_option maxRecDepth 100000 in
theorem rcheck1_any (z : MOff × Int) (w : World) : Calls Try.prog 71 #[.agg #[.string z.1.nm, .slice z.1.A z.1.n z.1.c, .int .i64 z.2]] w fun e w' => e = .returned (.bool (Pl.fastB ((z.1.nm, z.1.st), z.2))) ∧ Below w.heap.size w w' := by
  obtain ⟨⟨a, b, c, d, st⟩, f⟩ := z
  unfold Pl.fastB
  simp only
  by_cases h : f < 0
  · have e1 : decide (f < 0) = true := decide_eq_true h
    go_enter Try.func71, Try.ntmps71
    go_wp2_with fail
    go_ret
    exact ⟨by first | rfl | (rw [e1]; rfl), (Below.refl _ _).alloc (Nat.le_refl _) _⟩
  · have e1 : decide (f < 0) = false := decide_eq_false h
    go_enter Try.func71, Try.ntmps71
    go_wp2_with fail
    go_ret
    exact ⟨by first | rfl | (rw [e1]; rfl) | (simp [h]), (Below.refl _ _).alloc (Nat.le_refl _) _⟩
def pru (z : MOff × Int) : Pl.RU := ((z.1.nm, z.1.st), z.2)
set_option maxHeartbeats 800000 in
set_option maxRecDepth 100000 in
theorem idxfn_unit (A : Option Addr) (n c : Nat) (l : List (MOff × Int)) (w : World) (hn : n ≤ 1000000000000000) (h : Units w A n l) :
    Calls Try.prog 100 #[.slice A n c, .func (.func 71) #[] #[]] w fun e w' => e = .returned (.int .i64 (Pl.idxOf (fun z => Pl.fastB (pru z)) l)) ∧ Below w.heap.size w w' := by
  have HL := Lib.hid h.len
  have H := Lib.hid h
  clear h
  go_enter Try.func100, Try.ntmps100
  go_wp2_with fail
  go_loopw [8] (fun i wr => ∃ k : Nat, k ≤ n ∧ i = .int .i64 k ∧ Hid (∀ j (hj : j < l.length), j < k → Pl.fastB (pru l[j]) = false) ∧ Below w.heap.size w wr) (fun i _ => n - (intOf i).toNat)
  case atStart => exact ⟨0, Nat.zero_le _, rfl, fun j _ h => absurd h (by omega), Below.refl _ _⟩
  case round =>
    obtain ⟨k, hk, rfl, HN, hbel⟩ := hrel
    have HB := Lib.hid hbel
    clear hbel
    by_cases hlt : k < n
    · obtain ⟨b, o, rfl, hl, c1, c2, c3⟩ := (H.out.go HB.out).at_ hlt
      have HC := Lib.hid (rcheck1_any l[k] wr)
      go_wp2_with fail
      refine HC.out.mono ?_
      rintro e w' ⟨rfl, hb⟩
      have HB2 := Lib.hid (HB.out.trans (hb.mono HB.out.size))
      clear hb
      cases hv : Pl.fastB (pru l[k])
      · have HV := Lib.hid hv
        have hv2 : Pl.fastB ((l[k].1.nm, l[k].1.st), l[k].2) = false := hv
        rw [hv2]
        clear hv hv2 HC
        go_wp2_with fail
        go_roundw
        case rel =>
          exact ⟨k + 1, by omega, by go_num, fun j hj hjk => by
            by_cases e : j = k
            · subst e; exact HV.out
            · exact HN.out j hj (by omega), HB2.out⟩
        case measure => simp [intOf]; omega
      · have HV := Lib.hid hv
        have hv2 : Pl.fastB ((l[k].1.nm, l[k].1.st), l[k].2) = true := hv
        rw [hv2]
        clear hv hv2 HC
        go_wp2_with fail
        go_ret
        exact ⟨ret_int (Pl.idxOf_hit (fun z => Pl.fastB (pru z)) l k hl HV.out HN.out).symm, HB2.out⟩
    · go_wp2_with fail
      go_ret
      exact ⟨ret_int (Pl.idxOf_miss (fun z => Pl.fastB (pru z)) l fun j hj => HN.out j hj (by have := HL.out; omega)).symm, HB.out⟩
theorem contains_unit (A : Option Addr) (n c : Nat) (l : List (MOff × Int)) (w : World) (hn : n ≤ 1000000000000000) (h : Units w A n l) :
    Calls Try.prog 70 #[.slice A n c, .func (.func 71) #[] #[]] w fun e w' => e = .returned (.bool (Pl.has Pl.fastB (plr l))) ∧ Below w.heap.size w w' := by
  have hh : Pl.has Pl.fastB (plr l) = Pl.has (fun z => Pl.fastB (pru z)) l := by
    unfold Pl.has plr
    rw [List.any_map]
    rfl
  rw [hh]
  clear hh
  go_enter Try.func70, Try.ntmps70
  go_wp2_with fail
  refine (idxfn_unit A n c l _ hn h).mono ?_
  rintro e w' ⟨rfl, hb⟩
  go_wp2_with fail
  go_ret
  exact ⟨ret_bool (Pl.has_idx _ l), hb⟩
theorem info_offer : (Try.prog.info? 57).map (fun i => (i.zero, i.size, i.bytes)) = some (some (.agg #[.string ⟨#[]⟩, .slice none 0 0]), 2, 40) := by kernel_rfl
set_option maxHeartbeats 3200000 in
set_option maxRecDepth 100000 in
theorem rcheck_any (A : Option Addr) (n c : Nat) (l : List (MOff × Int)) (w : World) (hn : n * 48 ≤ 140737488351232) (h : Units w A n l) :
    Calls Try.prog 36 #[.slice A n c] w fun e w' => e = .returned (.int .i64 (Pl.rcheck (plr l))) ∧ Below w.heap.size w w' := by
  have L1 := Lib.hid h.len
  have H := Lib.hid h
  obtain ⟨i0, hi0, hz0, hz1, hz2⟩ := info_parts info_offer
  have hn2 : n ≤ 10000000000000 := by omega
  clear h
  go_enter Try.func36, Try.ntmps36
  go_wp2_with fail
  go_loopw [3, 9] (fun v i wr => ∃ (k : Nat) (Ao : Option Addr) (co : Nat), k ≤ n ∧ i = .int .i64 k ∧ v = .slice Ao k co ∧ Hid (wr.ownsRow w.heap.size 57 2 (.slice Ao k co) k (offs ((l.map fun u => u.1).take k))) ∧ Hid (Below w.heap.size w wr)) (fun _ i _ => n - (intOf i).toNat)
  case atStart => exact ⟨0, none, 0, Nat.zero_le _, rfl, rfl, World.ownsRow_nil _ _ _ _, Below.refl _ _⟩
  case round =>
    obtain ⟨k, Ao, co, hk, rfl, rfl, OF, HB⟩ := hrel
    by_cases hlt : k < n
    · obtain ⟨b, o, rfl, hl1, c1, c2, c3⟩ := (H.out.go HB.out).at_ hlt
      have HSN : Hid (offs ((l.map fun u => u.1).take (k + 1)) = offs ((l.map fun u => u.1).take k) ++ [.string l[k].1.nm, .slice l[k].1.A l[k].1.n l[k].1.c]) := by
        show _ = _
        rw [List.take_succ_eq_append_getElem (by simpa using hl1), offs_snoc]
        simp
      generalize offs ((l.map fun u => u.1).take k) = X0 at *
      generalize l[k] = z at *
      obtain ⟨⟨nm, Az, nz, cz, st⟩, f⟩ := z
      simp only at c1 c2 c3 HSN
      have OF1 := Lib.hid (OF.out.alloc (.cells #[.string nm, .slice Az nz cz, .int .i64 f] 65))
      have HB1 := Lib.hid (HB.out.alloc HB.out.size (.cells #[.string nm, .slice Az nz cz, .int .i64 f] 65))
      have hsz := HB.out.size
      go_wp2_with (at_builtin; go_must (refine wpList_append_grow _ rfl (.tmp 13) (.tmp 16) 48 rfl w.heap.size 57 i0 _ 2 40 Try.underlying48 hi0 hz0 hz1 hz2 rfl (by decide) (.slice Ao k co) k X0 rfl OF1.out (by simp; omega) #[.string nm, .slice Az nz cz] rfl rfl (by simp) (by simp [Value.oneCell']) (by unfold maxLen; omega) (by omega) ?_); intro v' w3 hown3 hg3 hsz3; obtain ⟨A3, c3, rfl, _⟩ := own_slice hown3; have HO3 := Lib.hid hown3; have HG3 := Lib.hid hg3; clear hown3 hg3)
      have HB3 := Lib.hid (below_grown HB1.out HG3.out OF1.out (Nat.le_refl _) (by have := HB.out.size; simp; omega))
      go_roundw
      case rel =>
        refine ⟨k + 1, A3, c3, by omega, by go_num, rfl, ?_, HB3⟩
        rw [HSN.out]; exact HO3.out
      case measure => simp [intOf]; omega
    · have : k = n := by omega
      subst this
      have HTK : Hid ((l.map fun u => u.1).take k = l.map fun u => u.1) := List.take_of_length_le (by have := L1.out; simp; omega)
      rw [HTK.out] at OF
      have HOF : Hid (Offs wr Ao k (l.map fun u => u.1)) := ⟨Reads.of_own OF.out, fun o ho => by
        obtain ⟨u, hu, rfl⟩ := List.mem_map.1 ho
        obtain ⟨a, b, c⟩ := (H.out.2 u hu).1
        exact ⟨a, b, c.go HB.out⟩⟩
      have HCA := Lib.hid (oall_any Ao k co (l.map fun u => u.1) wr (own_cap OF.out) HOF.out)
      rw [← roffs_plr] at HCA
      by_cases h0 : Pl.oall (Pl.roffs (plr l)) = 0
      · have HX : Hid (Pl.rcheck (plr l) = if Pl.has Pl.fastB (plr l) then 4 else 0) := by show _ = _; unfold Pl.rcheck; rw [if_neg (by simpa using h0)]
        have HCU := Lib.hid (fun w h => contains_unit A k c l w (by omega) h)
        rw [h0] at HCA
        clear h0
        go_wp2_with fail
        refine HCA.out.mono ?_
        rintro e w3 ⟨rfl, hb⟩
        have HB3 := Lib.hid (HB.out.trans (hb.mono HB.out.size))
        clear hb
        go_wp2_with fail
        refine (HCU.out _ (H.out.go HB3.out)).mono ?_
        rintro e w4 ⟨rfl, hb⟩
        have HB4 := Lib.hid (HB3.out.trans (hb.mono HB3.out.size))
        clear hb
        cases hv : Pl.has Pl.fastB (plr l)
        · rw [hv] at HX
          clear hv
          go_wp2_with fail
          go_ret
          exact ⟨by rw [HX.out]; rfl, HB4.out⟩
        · rw [hv] at HX
          clear hv
          go_wp2_with fail
          go_ret
          exact ⟨by rw [HX.out]; rfl, HB4.out⟩
      · have HX : Hid (Pl.rcheck (plr l) = Pl.oall (Pl.roffs (plr l))) := by show _ = _; unfold Pl.rcheck; rw [if_pos h0]
        have h2 : (Pl.oall (Pl.roffs (plr l)) != 0) = true := by simpa using h0
        clear h0
        generalize Pl.oall (Pl.roffs (plr l)) = u at *
        go_wp2_with fail
        refine HCA.out.mono ?_
        rintro e w3 ⟨rfl, hb⟩
        have HB3 := Lib.hid (HB.out.trans (hb.mono HB.out.size))
        clear hb
        go_wp2_with fail
        go_ret
        exact ⟨by rw [HX.out]; rfl, HB3.out⟩
set_option maxHeartbeats 800000 in
set_option maxRecDepth 100000 in
theorem held_any (nm : ByteArray) (A : Option Addr) (n c : Nat) (st : List (Int × Int)) (f p : Int) (w : World) (hr : Reads w w.heap.size 2 A n (pairs st)) (hg : Pl.Good st) (hl : st.length ≤ 12) (p0 : 0 ≤ p) (p1 : p ≤ 1000000) :
    Calls Try.prog 69 #[.agg #[.string nm, .slice A n c, .int .i64 f], .int .i64 p] w fun e w' => e = .returned (.int .i64 (Pl.heldF f st p)) ∧ Below w.heap.size w w' := by
  have hT := hg.sum
  have hT0 := (Pl.least_most (P := 0) (st := st) (fun q hq => (hg.step q hq).1))
  have hT1 : 0 ≤ Pl.total st := by omega
  clear hT0
  have HS := Lib.hid (fun w h => osum_any nm A n c st w h hg (by have := h.pair_len; omega))
  have HF : Hid (Pl.heldF f st p = min f (Pl.total st - p)) := rfl
  have HR := Lib.hid (hr.go ((Below.refl w.heap.size w).alloc (Nat.le_refl _) (.cells #[.string nm, .slice A n c, .int .i64 f] 65)))
  have HB0 := Lib.hid ((Below.refl w.heap.size w).alloc (Nat.le_refl _) (.cells #[.string nm, .slice A n c, .int .i64 f] 65))
  have BN := Lib.hid (Blk.new_ w w.heap.size 65 #[.string nm, .slice A n c, .int .i64 f] rfl)
  have hmn : ∀ a b : Int, (if b < a then b else a) = min a b := ite_min
  rw [HF.out]
  clear hg hl
  generalize Pl.total st = T at *
  unfold vOff at HS
  go_enter Try.func69, Try.ntmps69
  go_wp2_with fail
  generalize w.alloc (.cells #[.string nm, .slice A n c, .int .i64 f] 65) = w2 at *
  have r0 := Wd.cell (BN.out.cell 0)
  have r1 := Wd.cell (BN.out.cell 1)
  have r2 := Wd.cell (BN.out.cell 2)
  refine wp_region_wd (by kernel_rfl) (by kernel_rfl) ?_
  repeat (go_big_quiet_step ((go_at_call 68; exact Calls.wd (HS.out _ (HR.out.go (Wd.ok _))))))
  refine wpQuiet_nil ?_
  rintro _ ⟨w6, rfl⟩
  have HB6 := Lib.hid (HB0.out.trans (w6.ok.mono HB0.out.size))
  clear r0 r1 r2
  generalize w6.val = w7 at *
  go_wp2_with fail
  go_ret
  exact ⟨rfl, HB6.out⟩
end Go.Proofs.Ytpbomomgjhbljaa
namespace Go.Proofs.Ytpbomomgjhbljaa
open Go.RowKit
namespace Pl
theorem heldF_bd {f p : Int} {st : List (Int × Int)} (hg : Good st) (f0 : 0 ≤ f) (f1 : f ≤ 100000) (p0 : 0 ≤ p) (p1 : p ≤ total st) : 0 ≤ heldF f st p ∧ heldF f st p ≤ 100000 := by
  have hT := hg.sum
  unfold heldF
  omega
theorem heldK_bd {l : List RU} {ps : List Int} {n : Nat} (hg : ∀ k, k < n → Good (steps (roffs l) k)) (hf : ∀ k, k < n → 0 ≤ (ru l k).2 ∧ (ru l k).2 ≤ 100000) (hp : ∀ k, k < n → 0 ≤ ps.getD k 0 ∧ ps.getD k 0 ≤ total (steps (roffs l) k)) : 0 ≤ heldK l ps n ∧ heldK l ps n ≤ 100000 * (n : Int) := by
  induction n with
  | zero => simp [heldK, sumN]
  | succ n ih =>
    have i := ih (fun k hk => hg k (by omega)) (fun k hk => hf k (by omega)) (fun k hk => hp k (by omega))
    have h := heldF_bd (hg n (by omega)) (hf n (by omega)).1 (hf n (by omega)).2 (hp n (by omega)).1 (hp n (by omega)).2
    have e : heldK l ps (n + 1) = heldK l ps n + heldF (ru l n).2 (steps (roffs l) n) (ps.getD n 0) := rfl
    rw [e]
    omega
theorem possK_bd {l : List RU} {n : Nat} (hg : ∀ k, k < n → Good (steps (roffs l) k)) (hf : ∀ k, k < n → 0 ≤ (ru l k).2 ∧ (ru l k).2 ≤ 100000) : 0 ≤ possK l n ∧ possK l n ≤ 100000 * (n : Int) := by
  induction n with
  | zero => simp [possK, sumN]
  | succ n ih =>
    have i := ih (fun k hk => hg k (by omega)) (fun k hk => hf k (by omega))
    have hT := least_most (P := 0) (st := steps (roffs l) n) (fun q hq => ((hg n (by omega)).step q hq).1)
    have h := heldF_bd (hg n (by omega)) (hf n (by omega)).1 (hf n (by omega)).2 (Int.le_refl 0) (by omega)
    have e : possK l (n + 1) = possK l n + heldF (ru l n).2 (steps (roffs l) n) 0 := rfl
    rw [e]
    omega
end Pl
/-- what a valid list of units is good for -/
structure RGood (l : List (MOff × Int)) (n : Nat) : Prop where
  n10 : n ≤ 10
  good : ∀ k, k < n → Pl.Good (Pl.steps (Pl.roffs (plr l)) k) ∧ (Pl.steps (Pl.roffs (plr l)) k).length ≤ 12
  fast : ∀ k, k < n → 0 ≤ (Pl.ru (plr l) k).2 ∧ (Pl.ru (plr l) k).2 ≤ 100000
theorem roffs_len (l : List (MOff × Int)) : (Pl.roffs (plr l)).length = l.length := by unfold Pl.roffs plr; simp
theorem rgood_of {l : List (MOff × Int)} {n : Nat} (hn : l.length = n) (h : Pl.rcheck (plr l) = 0) : RGood l n := by
  obtain ⟨h1, h2⟩ := Pl.rcheck_ok h
  obtain ⟨g1, _⟩ := Pl.oall_good h1
  rw [roffs_len, hn] at g1
  exact ⟨by omega, fun k hk => Pl.steps_good h1 k (by rw [roffs_len, hn]; exact hk), fun k hk => h2 k (by rw [plr_len, hn]; exact hk)⟩
theorem held_at {l : List (MOff × Int)} {n : Nat} (h : RGood l n) {k : Nat} (hk : k < n) (hl : k < l.length) (p : Int) (w2 : World) (hr : Reads w2 w2.heap.size 2 l[k].1.A l[k].1.n (pairs l[k].1.st)) (p0 : 0 ≤ p) (p1 : p ≤ 1000000) :
    Calls Try.prog 69 #[.agg #[.string l[k].1.nm, .slice l[k].1.A l[k].1.n l[k].1.c, .int .i64 l[k].2], .int .i64 p] w2 fun e w' => e = .returned (.int .i64 (Pl.heldF (Pl.ru (plr l) k).2 (Pl.steps (Pl.roffs (plr l)) k) p)) ∧ Below w2.heap.size w2 w' := by
  obtain ⟨g1, g2⟩ := h.good k hk
  rw [plr_steps hl] at g1 g2 ⊢
  rw [plr_ru hl]
  exact held_any l[k].1.nm l[k].1.A l[k].1.n l[k].1.c l[k].1.st l[k].2 p w2 hr g1 g2 p0 p1
theorem rsum_at {l : List (MOff × Int)} {n : Nat} (h : RGood l n) {k : Nat} (hk : k < n) (hl : k < l.length) (w2 : World) (hr : Reads w2 w2.heap.size 2 l[k].1.A l[k].1.n (pairs l[k].1.st)) :
    Calls Try.prog 68 #[.agg #[.string l[k].1.nm, .slice l[k].1.A l[k].1.n l[k].1.c]] w2 fun e w' => e = .returned (.int .i64 (Pl.total (Pl.steps (Pl.roffs (plr l)) k))) ∧ Below w2.heap.size w2 w' := by
  obtain ⟨g1, g2⟩ := h.good k hk
  rw [plr_steps hl] at g1 g2 ⊢
  exact osum_any l[k].1.nm l[k].1.A l[k].1.n l[k].1.c l[k].1.st w2 hr g1 (by have := hr.pair_len; omega)
def rposs (l : List Pl.RU) : Int := if Pl.rcheck l ≠ 0 then 0 else Pl.possK l l.length
set_option maxHeartbeats 3200000 in
set_option maxRecDepth 100000 in
theorem possible_any (A : Option Addr) (n c : Nat) (l : List (MOff × Int)) (w : World) (hn : n * 48 ≤ 140737488351232) (h : Units w A n l) :
    Calls Try.prog 34 #[.slice A n c] w fun e w' => e = .returned (.tuple #[.int .i64 (rposs (plr l)), .int .i64 (Pl.rcheck (plr l))]) ∧ Below w.heap.size w w' := by
  have L1 := Lib.hid h.len
  have H := Lib.hid h
  have HC := Lib.hid (rcheck_any A n c l w hn h)
  clear h
  by_cases h0 : Pl.rcheck (plr l) = 0
  · have HR := Lib.hid (rgood_of L1.out h0)
    have HX : Hid (rposs (plr l) = Pl.possK (plr l) n) := by show _ = _; unfold rposs; rw [if_neg (by simpa using h0), plr_len, L1.out]
    have hn10 := HR.out.n10
    rw [h0] at HC ⊢
    clear h0
    rw [HX.out]
    go_enter Try.func34, Try.ntmps34
    go_wp2_with fail
    refine HC.out.mono ?_
    rintro e w1 ⟨rfl, hb⟩
    have HB1 := Lib.hid hb
    clear hb
    go_wp2_with fail
    go_loopw [5, 15] (fun v i wr => ∃ k : Nat, k ≤ n ∧ i = .int .i64 k ∧ v = .int .i64 (Pl.possK (plr l) k) ∧ Hid (Below w.heap.size w wr)) (fun _ i _ => n - (intOf i).toNat)
    case atStart => exact ⟨0, Nat.zero_le _, rfl, rfl, HB1⟩
    case round =>
      clear HB1
      obtain ⟨k, hk, rfl, rfl, HB⟩ := hrel
      have hpb := Pl.possK_bd (n := k) (fun j hj => (HR.out.good j (by omega)).1) (fun j hj => HR.out.fast j (by omega))
      by_cases hlt : k < n
      · obtain ⟨b, o, rfl, hl1, c1, c2, c3⟩ := (H.out.go HB.out).at_ hlt
        have HH := Lib.hid (fun w2 hr => held_at HR.out hlt hl1 0 w2 hr (Int.le_refl 0) (by omega))
        have HS : Hid (Pl.possK (plr l) (k + 1) = Pl.possK (plr l) k + Pl.heldF (Pl.ru (plr l) k).2 (Pl.steps (Pl.roffs (plr l)) k) 0) := rfl
        have hT := Pl.least_most (P := 0) (st := Pl.steps (Pl.roffs (plr l)) k) (fun q hq => ((HR.out.good k hlt).1.step q hq).1)
        have hhb := Pl.heldF_bd (HR.out.good k hlt).1 (HR.out.fast k hlt).1 (HR.out.fast k hlt).2 (Int.le_refl 0) (by omega)
        have HIN := Lib.hid ((H.out.2 _ (List.getElem_mem hl1)).1)
        clear hT
        generalize l[k] = z at *
        obtain ⟨⟨nm, Az, nz, cz, st⟩, f⟩ := z
        simp only at c1 c2 c3 HH
        generalize Pl.heldF (Pl.ru (plr l) k).2 (Pl.steps (Pl.roffs (plr l)) k) 0 = y at *
        generalize Pl.possK (plr l) k = pk at *
        have HBN := Lib.hid (HB.out.alloc HB.out.size (.cells #[.string nm, .slice Az nz cz, .int .i64 f] 65))
        go_wp2_with fail
        refine (HH.out _ (HIN.out.2.2.go HBN.out)).mono ?_
        rintro e w3 ⟨rfl, hb⟩
        have HB3 := Lib.hid (HBN.out.trans (hb.mono HBN.out.size))
        clear hb
        go_wp2_with fail
        go_roundw
        case rel => exact ⟨k + 1, by omega, by go_num, by rw [HS.out], HB3⟩
        case measure => simp [intOf]; omega
      · have : k = n := by omega
        subst this
        go_wp2_with fail
        go_ret2
        exact ⟨rfl, HB.out⟩
  · have HX : Hid (rposs (plr l) = 0) := by show _ = _; unfold rposs; rw [if_pos h0]
    have h2 : (Pl.rcheck (plr l) != 0) = true := by simpa using h0
    rw [HX.out]
    clear h0
    generalize Pl.rcheck (plr l) = u at *
    go_enter Try.func34, Try.ntmps34
    go_wp2_with fail
    refine HC.out.mono ?_
    rintro e w1 ⟨rfl, hb⟩
    have HB1 := Lib.hid hb
    clear hb
    go_wp2_with fail
    go_ret2
    exact ⟨rfl, HB1.out⟩
set_option maxHeartbeats 3200000 in
set_option maxRecDepth 100000 in
theorem heldR_any (A B : Option Addr) (n c e' : Nat) (l : List (MOff × Int)) (ps : List Int) (w : World) (hn : n * 48 ≤ 140737488351232) (h : Units w A n l) (hp : Reads w w.heap.size 1 B n (ints ps)) (h0 : Pl.rcheck (plr l) = 0) (hps : ∀ k, k < n → 0 ≤ ps.getD k 0 ∧ ps.getD k 0 ≤ Pl.total (Pl.steps (Pl.roffs (plr l)) k)) :
    Calls Try.prog 33 #[.slice A n c, .slice B n e'] w fun e w' => e = .returned (.tuple #[.int .i64 (Pl.heldK (plr l) ps n), .int .i64 0]) ∧ Below w.heap.size w w' := by
  have L1 := Lib.hid h.len
  have H := Lib.hid h
  have HC := Lib.hid (rcheck_any A n c l w hn h)
  have HR := Lib.hid (rgood_of L1.out h0)
  have HPS := Lib.hid hps
  have hn10 := HR.out.n10
  rw [h0] at HC
  clear h h0 hps
  go_enter Try.func33, Try.ntmps33
  go_wp2_with fail
  refine HC.out.mono ?_
  rintro e w1 ⟨rfl, hb⟩
  have HB1 := Lib.hid hb
  clear hb
  go_wp2_with fail
  go_loopw [7, 22] (fun v i wr => ∃ k : Nat, k ≤ n ∧ i = .int .i64 k ∧ v = .int .i64 (Pl.heldK (plr l) ps k) ∧ Hid (Below w.heap.size w wr)) (fun _ i _ => n - (intOf i).toNat)
  case atStart => exact ⟨0, Nat.zero_le _, rfl, rfl, HB1⟩
  case round =>
    clear HB1
    obtain ⟨k, hk, rfl, rfl, HB⟩ := hrel
    have hpb := Pl.heldK_bd (n := k) (fun j hj => (HR.out.good j (by omega)).1) (fun j hj => HR.out.fast j (by omega)) (fun j hj => HPS.out j (by omega))
    by_cases hlt : k < n
    · obtain ⟨b, o, rfl, hl1, c1, c2, c3⟩ := (H.out.go HB.out).at_ hlt
      obtain ⟨b', o', rfl, hl2, q1⟩ := (hp.go HB.out).int_at hlt
      have hxe : ps.getD k 0 = ps[k] := by rw [List.getD_eq_getElem?_getD, List.getElem?_eq_getElem hl2]; rfl
      rw [← hxe] at q1
      have hpk := HPS.out k hlt
      have hT := (HR.out.good k hlt).1.sum
      have HH := Lib.hid (fun w2 hr => held_at HR.out hlt hl1 (ps.getD k 0) w2 hr hpk.1 (by omega))
      have HSM := Lib.hid (fun w2 hr => rsum_at HR.out hlt hl1 w2 hr)
      have HS : Hid (Pl.heldK (plr l) ps (k + 1) = Pl.heldK (plr l) ps k + Pl.heldF (Pl.ru (plr l) k).2 (Pl.steps (Pl.roffs (plr l)) k) (ps.getD k 0)) := rfl
      have hhb := Pl.heldF_bd (HR.out.good k hlt).1 (HR.out.fast k hlt).1 (HR.out.fast k hlt).2 hpk.1 hpk.2
      have HIN := Lib.hid ((H.out.2 _ (List.getElem_mem hl1)).1)
      obtain ⟨p0, p1⟩ := hpk
      clear hxe
      generalize l[k] = z at *
      obtain ⟨⟨nm, Az, nz, cz, st⟩, f⟩ := z
      simp only at c1 c2 c3 HH HSM
      generalize ps.getD k 0 = x at *
      generalize Pl.heldF (Pl.ru (plr l) k).2 (Pl.steps (Pl.roffs (plr l)) k) x = y at *
      generalize Pl.heldK (plr l) ps k = pk at *
      generalize Pl.total (Pl.steps (Pl.roffs (plr l)) k) = T at *
      have HBN := Lib.hid (HB.out.alloc HB.out.size (.cells #[.string nm, .slice Az nz cz, .int .i64 f] 65))
      have BN := Lib.hid (Blk.new_ wr wr.heap.size 65 #[.string nm, .slice Az nz cz, .int .i64 f] rfl)
      have q4 : (wr.alloc (.cells #[.string nm, .slice Az nz cz, .int .i64 f] 65)).cell? ⟨b', o' + k, none⟩ = some (.int .i64 x) := by rw [World.cell?_alloc_some _ _ _ (by rw [q1]; rfl)]; exact q1
      have k1 : (0 : Int) ≤ (k : Int) := by omega
      have k2 : (k : Int) < (n : Int) := by omega
      have u1 : decide (x < 0) = false := decide_eq_false (by omega)
      have u2 : decide (T < x) = false := decide_eq_false (by omega)
      go_wp2_with fail
      clear c1 c2 c3 q1 HB
      generalize wr.alloc (.cells #[.string nm, .slice Az nz cz, .int .i64 f] 65) = w2 at *
      generalize wr.heap.size = bn at *
      have r0 := Wd.cell (BN.out.cell 0)
      have r1 := Wd.cell (BN.out.cell 1)
      have r2 := Wd.cell (BN.out.cell 2)
      have s4 := Wd.cell q4
      refine wp_region_wd (by kernel_rfl) (by kernel_rfl) ?_
      repeat (go_big_quiet_step ((go_at_call 68; exact Calls.wd (HSM.out _ (HIN.out.2.2.go (HBN.out.trans ((Wd.ok _).mono HBN.out.size)))))))
      refine wpQuiet_nil ?_
      rintro _ ⟨w6, rfl⟩
      have HBN := Lib.hid (HBN.out.trans (w6.ok.mono HBN.out.size))
      have BN := Lib.hid (BN.out.go w6.ok)
      have q4 := s4 w6
      clear r0 r1 r2 s4
      generalize w6.val = w3 at *
      go_wp2_with fail
      have r0 := Wd.cell (BN.out.cell 0)
      have r1 := Wd.cell (BN.out.cell 1)
      have r2 := Wd.cell (BN.out.cell 2)
      have s4 := Wd.cell q4
      refine wp_region_wd (by kernel_rfl) (by kernel_rfl) ?_
      repeat (go_big_quiet_step ((go_at_call 69; exact Calls.wd (HH.out _ (HIN.out.2.2.go (HBN.out.trans ((Wd.ok _).mono HBN.out.size)))))))
      refine wpQuiet_nil ?_
      rintro _ ⟨w7, rfl⟩
      have HB7 := Lib.hid (HBN.out.trans (w7.ok.mono HBN.out.size))
      clear r0 r1 r2 s4 q4 BN
      generalize w7.val = w4 at *
      go_wp2_with fail
      go_roundw
      case rel => exact ⟨k + 1, by omega, by go_num, by rw [HS.out], HB7⟩
      case measure => simp [intOf]; omega
    · have : k = n := by omega
      subst this
      go_wp2_with fail
      go_ret2
      exact ⟨rfl, HB.out⟩
end Go.Proofs.Ytpbomomgjhbljaa
