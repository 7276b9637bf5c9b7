/- A call's own map of names: which names were seen. No condition. netmodel's checker of a device's name and nodes answers as its plain function says, and remembers the name. Condition: the map is the call's own, the texts read. netmodel.Branch and the small tests of numbers answer as their plain functions say. No condition. netmodel's checker of generators, loads and storages answers as its plain function says. Condition: the map is the call's own, the network reads. netmodel.Check answers as its plain function says. Condition: the network reads. -/
import Derived.Test.YtoblpcljhblnmaaGreatDoorBase
import Derived.Test.YtoblpcljhblnmaaGreatDoorPName
import Derived.Maps.OwnOps
import Derived.Maps.OwnSet
import Derived.Maps.Views
import Derived.StringKeys
import Derived.Test.YtoblpcljhblnmaaGreatDoorName
import Derived.Test.YtoblpcljhblnmaaGreatDoorQuiet
namespace Go.Proofs.YtoblpcljhblnmaaGreatDoor
open Go.RowKit Go.Maps
set_option maxRecDepth 100000
theorem name_keyed : Keyed Tryz.prog 9 := string_keyed Tryz.underlying9
def Seen (w : World) (b n : Nat) (seen : List (List UInt8)) : Prop :=
  ∃ D : DataW Unit, w.ownsMap Tryz.prog 9 (plainElem Tryz.prog 4) b n D ∧ ∀ s : ByteArray, D.atKey (.string s.data.toList) (.lit (.bool false)) = .lit (.bool (decide (s.data.toList ∈ seen)))
theorem elem_bool (x : Bool) : (plainElem Tryz.prog 4 (.bool x) : Option (DataW Unit × List MemPlace)) = some (.lit (.bool x), []) := by
  unfold plainElem
  rw [Tryz.underlying4]
theorem elem_bool_inv {v : Value} {d : DataW Unit} {p : List MemPlace} (h : plainElem Tryz.prog 4 v = some (d, p)) : ∃ x, v = .bool x ∧ d = .lit (.bool x) := by
  unfold plainElem at h
  rw [Tryz.underlying4] at h
  cases v <;> simp at h
  exact ⟨_, rfl, h.1.symm⟩
theorem zero_bool (w : World) : (zeroValue 4).run Tryz.prog w = .ok (.bool false) w := by kernel_rfl
theorem Seen.made (w : World) : Seen (w.alloc (.map #[] 0)) w.heap.size 0 [] := ⟨_, World.ownsMap_made _ _ _ _, fun s => by simp; rfl⟩
theorem Seen.look {w : World} {b n : Nat} {seen : List (List UInt8)} (h : Seen w b n seen) (s : ByteArray) (hs : s.size ≤ maxLen) : (Instr.lookup 184 (.map (some b)) (.string s) false).run Tryz.prog w = .ok (.bool (decide (s.data.toList ∈ seen))) w := by
  obtain ⟨D, hown, hat⟩ := h
  obtain ⟨v, ps, hrun, hv⟩ := hown.lookup name_keyed Tryz.underlying184 (zero_bool w) (elem_bool false) (WideMaps.keyOf_string_mk (s := s) Tryz.underlying9 hs)
  obtain ⟨x, rfl, hx⟩ := elem_bool_inv hv
  rw [hat s] at hx
  injection hx with hx
  injection hx with hx
  rw [hx]
  exact hrun
theorem Seen.kept {w w' : World} {b n : Nat} {seen : List (List UInt8)} {row : Option Nat} (h : Seen w b n seen) (hg : w.grownBy w' row) (hne : some b ≠ row) : Seen w' b n seen := by
  obtain ⟨D, hown, hat⟩ := h
  exact ⟨D, hown.kept hg hne, hat⟩
theorem Seen.lt {w : World} {b n : Nat} {seen : List (List UInt8)} (h : Seen w b n seen) : b < w.heap.size := by
  obtain ⟨D, hown, _⟩ := h
  exact hown.lt
theorem Seen.go {w w' : World} {b n : Nat} {seen : List (List UInt8)} (h : Seen w b n seen) (hb : Below w.heap.size w w') : Seen w' b n seen := h.kept (row := none) ⟨hb.os, hb.tape, hb.output, hb.size, fun i hi _ => hb.block i hi⟩ (by simp)
theorem Seen.alloc {w : World} {b n : Nat} {seen : List (List UInt8)} (h : Seen w b n seen) (o : Obj) : Seen (w.alloc o) b n seen := h.kept (World.grownBy_alloc w o none) (by simp)
theorem Seen.put {w : World} {b n : Nat} {seen : List (List UInt8)} (h : Seen w b n seen) (hn : n < maxLen) (s : ByteArray) (hs : s.size ≤ maxLen) :
    ∃ w', (Instr.mapUpdate 184 (.map (some b)) (.string s) (.bool true)).run Tryz.prog w = .ok () w' ∧ Seen w' b (n + 1) (s.data.toList :: seen) ∧ w.grownBy w' (some b) := by
  obtain ⟨D, hown, hat⟩ := h
  obtain ⟨w', hrun, h1, h2⟩ := hown.update name_keyed Tryz.underlying184 hn (WideMaps.keyOf_string_mk (s := s) Tryz.underlying9 hs) (elem_bool true)
  refine ⟨w', hrun, ⟨_, h1, fun t => ?_⟩, h2⟩
  by_cases ht : t.data.toList = s.data.toList
  · rw [ht, Maps.atKey_put_same hown.isMap (by trivial)]
    simp
  · rw [Maps.atKey_put_other (by intro e; injection e with e; exact ht e), hat t]
    simp [ht]
end Go.Proofs.YtoblpcljhblnmaaGreatDoor
namespace Go.Proofs.YtoblpcljhblnmaaGreatDoor
open Go.RowKit
theorem Reads.grown2 {w w' : World} {B size n : Nat} {A : Option Addr} {xs : List Value} {b : Nat} (h : Reads w B size A n xs) (hg : w.grownBy w' (some b)) (hB : B ≤ w.heap.size) (hb : ∀ ad, A = some ad → ad.block ≠ b) : Reads w' B size A n xs :=
  ⟨h.1, fun hn => by
    obtain ⟨ad, e, hlt, hc⟩ := h.2 hn
    refine ⟨ad, e, hlt, fun j u hu => ?_⟩
    rw [World.cell?_of_block (hg.block _ (by rw [block_of_add]; omega) (by rw [block_of_add]; intro h; injection h with h; exact hb ad e h))]
    exact hc j u hu⟩
theorem grownBy_below {w w' : World} {r : Option Nat} (h : Below w.heap.size w w') : w.grownBy w' r := ⟨h.os, h.tape, h.output, h.size, fun i hi _ => h.block i hi⟩
theorem grownBy_drewN {w w' : World} {r : Option Nat} (h : w.grownBy w' r) (n : Nat) : w.grownBy (w'.drewN n) r := ⟨h.os, h.tape, h.output, h.size, h.block⟩
theorem Seen.drewN {w : World} {b n : Nat} {seen : List (List UInt8)} (h : Seen w b n seen) (k : Nat) : Seen (w.drewN k) b n seen := h.kept (row := none) ⟨rfl, rfl, rfl, Nat.le_refl _, fun _ _ _ => rfl⟩ (by simp)
set_option maxHeartbeats 1600000 in
set_option maxRecDepth 100000 in
theorem device_any (b n BB : Nat) (A : Option Addr) (k c : Nat) (nodes : List ByteArray) (seen : List (List UInt8)) (nm : ByteArray) (D : Option Addr) (m mc : Nat) (ats : List ByteArray) (w : World)
    (hs : Seen w b n seen) (hn : n < 1000000) (hBB : BB ≤ b) (hr : Reads w BB 1 A k (txts nodes)) (hk : k ≤ 9223372036854775807) (ha : Reads w w.heap.size 1 D m (txts ats)) (hm : m ≤ 2) (hD : ∀ ad, D = some ad → ad.block ≠ b) (hsz : nm.size ≤ maxLen) :
    Calls Tryz.prog 97 #[.agg #[.map (some b), .slice A k c], .string nm, .slice D m mc] w fun e w' => e = .returned (.int .i64 (Pl.devE nodes seen nm ats)) ∧ w.grownBy w' (some b) ∧ (Pl.devE nodes seen nm ats = 0 → Seen w' b (n + 1) (Pl.lst nm :: seen)) := by
  have HN := Lib.hid (fun w => name_any nm w (by unfold maxLen at hsz; omega))
  have HE : Hid (Pl.devE nodes seen nm ats = if Pl.nameB nm = false then 5 else if Pl.lst nm ∈ seen then 7 else if ats.all (Pl.inB nodes) = false then 6 else if ats.length = 2 ∧ Pl.lst (ats.getD 0 ByteArray.empty) = Pl.lst (ats.getD 1 ByteArray.empty) then 3 else 0) := by show _ = _; unfold Pl.devE; rfl
  generalize Pl.devE nodes seen nm ats = R at *
  have A0 := (Below.refl w.heap.size w).alloc (Nat.le_refl _) (.cells #[.map (some b), .slice A k c] 186)
  have B0 := Lib.hid (Blk.new_ w w.heap.size 186 #[.map (some b), .slice A k c] rfl)
  have S0 := Lib.hid (hs.alloc (.cells #[.map (some b), .slice A k c] 186))
  have HBB := Lib.hid hBB
  have R0 := Lib.hid (hr.below (A0.mono (by have := hs.lt; omega)))
  have D0 := Lib.hid (ha.go A0)
  have F0 := Lib.hid A0
  have HDB := Lib.hid hD
  have HBL := Lib.hid hs.lt
  clear hs hr ha A0 hD hBB
  have HSZ := Lib.hid hsz
  clear hsz
  go_enter Tryz.func97, Tryz.ntmps97
  go_wp2_with fail
  refine (HN.out _).mono ?_
  rintro e w1 ⟨rfl, hb⟩
  have F1 := Lib.hid (F0.out.trans (hb.mono F0.out.size))
  have B1 := Lib.hid (B0.out.go hb)
  have S1 := Lib.hid (S0.out.go hb)
  have R1 := Lib.hid (R0.out.below (hb.mono (by have := HBL.out; have := HBB.out; simp; omega)))
  have D1 := Lib.hid (D0.out.go hb)
  clear hb HN B0 S0 R0 D0 F0
  have c1 := B1.out.cell
  have hl := S1.out.look nm HSZ.out
  cases hnm : Pl.nameB nm
  · rw [hnm, if_pos rfl] at HE
    go_wp2_with fail
    go_ret
    exact ⟨by rw [HE.out]; rfl, grownBy_below F1.out, fun h => by rw [HE.out] at h; omega⟩
  · rw [hnm, if_neg (by simp)] at HE
    by_cases hin : Pl.lst nm ∈ seen
    · rw [if_pos hin] at HE
      rw [show nm.data.toList = Pl.lst nm from rfl, decide_eq_true hin] at hl
      go_wp2_with fail
      go_ret
      exact ⟨by rw [HE.out]; rfl, grownBy_below F1.out, fun h => by rw [HE.out] at h; omega⟩
    · rw [if_neg hin] at HE
      rw [show nm.data.toList = Pl.lst nm from rfl, decide_eq_false hin] at hl
      obtain ⟨w2, hup, S2, hg⟩ := S1.out.put (by unfold maxLen; omega) nm HSZ.out
      go_wp2_with fail
      have G2 := Lib.hid ((grownBy_below (r := some b) F1.out).trans hg)
      have R2 := Lib.hid (R1.out.grown hg (by have := HBL.out; have := HBB.out; have := F1.out.size; omega) (by intro g h; injection h with h; have := HBB.out; omega))
      have D2 := Lib.hid (D1.out.grown2 hg (Nat.le_refl _) HDB.out)
      have B2 := Lib.hid (B1.out.grown hg (by intro h; injection h with h; have := HBL.out; omega))
      have Q2 := Lib.hid (fun (_ : R = 0) => S2)
      clear hl hg hup c1 B1 S1 R1 D1 F1 S2
      have HL := Lib.hid (txts_len D2.out)
      have HLR := Lib.hid (txts_len R2.out)
      go_loop [8, 23, 24, 25, 26, 27, 28, 29, 30, 31] (fun _ i _ _ _ _ _ _ _ _ => ∃ j : Nat, j ≤ m ∧ i = .int .i64 j ∧ Hid (∀ q (hq : q < ats.length), q < j → Pl.inB nodes ats[q] = true)) (fun _ i _ _ _ _ _ _ _ _ => m - (intOf i).toNat)
      case atStart => exact ⟨0, Nat.zero_le _, rfl, Lib.hid (fun q _ h => absurd h (by omega))⟩
      case round =>
        obtain ⟨j, hj, rfl, hall⟩ := hrel
        by_cases hlt : j < m
        · obtain ⟨bb, o, rfl, _, hl2, hc⟩ := txts_at D2.out hlt
          have q1 := B2.out.cell 1
          simp at q1
          have HX := Lib.hid (contains_txt A k c nodes ats[j] w2 BB hk R2.out)
          cases hin2 : Pl.inB nodes ats[j]
          · have HF : Hid (ats.all (Pl.inB nodes) = false) := by
              show _ = _
              rw [List.all_eq_false]
              exact ⟨ats[j], List.getElem_mem hl2, by simp [hin2]⟩
            rw [HF.out, if_pos rfl] at HE
            rw [hin2] at HX
            generalize ats[j] = aj at *
            go_wp2_with fail
            refine HX.out.mono ?_
            rintro e w3 ⟨rfl, rfl⟩
            go_wp2_with fail
            go_ret
            exact ⟨by rw [HE.out]; rfl, G2.out, fun h => by rw [HE.out] at h; omega⟩
          · rw [hin2] at HX
            have HI := Lib.hid hin2
            have HN2 : Hid (∀ q (hq : q < ats.length), q < j + 1 → Pl.inB nodes ats[q] = true) := by
              intro q hq hqj
              by_cases e : q = j
              · subst e; exact HI.out
              · exact hall.out q hq (by omega)
            clear hin2 HI hall
            generalize ats[j] = aj at *
            go_wp2_with fail
            refine HX.out.mono ?_
            rintro e w3 ⟨rfl, rfl⟩
            go_wp2_with fail
            go_round
            case rel => exact ⟨j + 1, by omega, by go_num, HN2⟩
            case measure => simp [intOf]; omega
        · have HF : Hid (ats.all (Pl.inB nodes) = true) := by
            show _ = _
            rw [List.all_eq_true]
            intro x hx
            obtain ⟨q, hq, rfl⟩ := List.getElem_of_mem hx
            exact hall.out q hq (by have := HL.out; omega)
          rw [HF.out, if_neg (by simp)] at HE
          by_cases hm2 : m = 2
          · subst hm2
            obtain ⟨bb, o, rfl, _, h0, hc0⟩ := txts_at D2.out (k := 0) (by omega)
            obtain ⟨bb', o', e, _, h1, hc1⟩ := txts_at D2.out (k := 1) (by omega)
            injection e with e; injection e with e1 e2; subst e1 e2
            have hL2 : ats.length = 2 := HL.out
            have e0 : ats.getD 0 ByteArray.empty = ats[0] := by simp [List.getD_eq_getElem?_getD, hL2]
            have e1 : ats.getD 1 ByteArray.empty = ats[1] := by simp [List.getD_eq_getElem?_getD, hL2]
            rw [e0, e1] at HE
            clear e0 e1
            have HL2 := Lib.hid hL2
            clear hL2 HF hall
            rw [Nat.add_zero] at hc0
            generalize ats[0] = a0 at *
            generalize ats[1] = a1 at *
            by_cases heq : Pl.lst a0 = Pl.lst a1
            · rw [if_pos ⟨HL2.out, heq⟩] at HE
              have : a0 = a1 := Pl.lst_inj heq
              subst this
              clear heq
              go_wp2_with fail
              go_quiet (fail)
              all_goals go_wp2_with fail
              go_ret
              exact ⟨by rw [HE.out]; rfl, grownBy_drewN G2.out _, fun h => by rw [HE.out] at h; omega⟩
            · rw [if_neg (fun h => heq h.2)] at HE
              have hne : (a0.toList == a1.toList) = false := by
                rw [beq_eq_false_iff_ne, ByteArray.toList_eq, ByteArray.toList_eq]
                exact heq
              clear heq
              go_wp2_with fail
              go_quiet (fail)
              all_goals go_wp2_with fail
              go_ret
              exact ⟨by rw [HE.out]; rfl, grownBy_drewN G2.out _, fun h => (Q2.out h).drewN _⟩
          · have hd : ((m : Int) == 2) = false := by rw [beq_eq_false_iff_ne]; omega
            rw [if_neg (by have := HL.out; omega)] at HE
            clear HF hall
            go_wp2_with fail
            go_quiet (fail)
            all_goals go_wp2_with fail
            go_ret
            exact ⟨by rw [HE.out]; rfl, grownBy_drewN G2.out _, fun h => (Q2.out h).drewN _⟩
end Go.Proofs.YtoblpcljhblnmaaGreatDoor
namespace Go.Proofs.YtoblpcljhblnmaaGreatDoor
open Go.RowKit
set_option maxRecDepth 100000
theorem nout_any (n lo hi : Int) (w : World) : Calls Tryz.prog 145 #[.int .i64 n, .int .i64 lo, .int .i64 hi] w fun e w' => e = .returned (.bool (Pl.outN n lo hi)) ∧ w' = w := by
  have HE : Hid (Pl.outN n lo hi = (decide (n < lo) || decide (hi < n))) := rfl
  generalize Pl.outN n lo hi = R at *
  by_cases h1 : n < lo
  · rw [decide_eq_true h1] at HE
    go_enter Tryz.func145, Tryz.ntmps145
    go_wp2_with fail
    go_ret
    exact ⟨by rw [HE.out]; rfl, rfl⟩
  · rw [decide_eq_false h1] at HE
    by_cases h2 : hi < n
    · rw [decide_eq_true h2] at HE
      go_enter Tryz.func145, Tryz.ntmps145
      go_wp2_with fail
      go_ret
      exact ⟨by rw [HE.out]; rfl, rfl⟩
    · rw [decide_eq_false h2] at HE
      go_enter Tryz.func145, Tryz.ntmps145
      go_wp2_with fail
      go_ret
      exact ⟨by rw [HE.out]; rfl, rfl⟩
theorem npermitted_any (n : Int) (w : World) : Calls Tryz.prog 146 #[.int .i64 n] w fun e w' => e = .returned (.bool (!Pl.outN n 0 100000)) ∧ w' = w := by
  have HO := Lib.hid (fun w => nout_any n 0 100000 w)
  generalize Pl.outN n 0 100000 = R at *
  go_enter Tryz.func146, Tryz.ntmps146
  go_wp2_with fail
  refine (HO.out _).mono ?_
  rintro e w1 ⟨rfl, rfl⟩
  go_wp2_with fail
  go_ret
  exact ⟨by cases R <;> rfl, rfl⟩
theorem or6 (a b c d e f : Bool) : a = true ∨ (a = false ∧ b = true) ∨ (a = false ∧ b = false ∧ c = true) ∨ (a = false ∧ b = false ∧ c = false ∧ d = true) ∨ (a = false ∧ b = false ∧ c = false ∧ d = false ∧ e = true) ∨ (a = false ∧ b = false ∧ c = false ∧ d = false ∧ e = false ∧ f = true) ∨ (a = false ∧ b = false ∧ c = false ∧ d = false ∧ e = false ∧ f = false) := by
  cases a <;> cases b <;> cases c <;> cases d <;> cases e <;> cases f <;> simp
set_option maxHeartbeats 1600000 in
theorem nbranch_any (b : Pl.Bra) (w : World) : Calls Tryz.prog 98 #[.agg #[.string b.name, .string b.from_, .string b.to_, .int .i64 b.x, .int .i64 b.tap, .int .i64 b.shift, .int .i64 b.limit, .int .i64 b.short, .int .i64 b.hold]] w fun e w' => e = .returned (.int .i64 (Pl.braE b)) ∧ Below w.heap.size w w' := by
  have HE : Hid (Pl.braE b = if (Pl.outN b.x 1 10000 || Pl.outN b.tap 500 1500 || Pl.outN b.shift (-1000) 1000 || Pl.outN b.limit 0 100000 || Pl.outN b.short b.limit 100000 || Pl.outN b.hold 0 200000) = true then 4 else 0) := rfl
  generalize Pl.braE b = R at *
  obtain ⟨nm, fr, to_, x, tap, shift, limit, short, hold⟩ := b
  simp only at *
  have H1 := Lib.hid (fun w => nout_any x 1 10000 w)
  have H2 := Lib.hid (fun w => nout_any tap 500 1500 w)
  have H3 := Lib.hid (fun w => nout_any shift (-1000) 1000 w)
  have H4 := Lib.hid (fun w => nout_any limit 0 100000 w)
  have H5 := Lib.hid (fun w => nout_any short limit 100000 w)
  have H6 := Lib.hid (fun w => nout_any hold 0 200000 w)
  have A0 := Lib.hid ((Below.refl w.heap.size w).alloc (Nat.le_refl _) (.cells #[.string nm, .string fr, .string to_, .int .i64 x, .int .i64 tap, .int .i64 shift, .int .i64 limit, .int .i64 short, .int .i64 hold] 53))
  generalize Pl.outN x 1 10000 = o1 at *
  generalize Pl.outN tap 500 1500 = o2 at *
  generalize Pl.outN shift (-1000) 1000 = o3 at *
  generalize Pl.outN limit 0 100000 = o4 at *
  generalize Pl.outN short limit 100000 = o5 at *
  generalize Pl.outN hold 0 200000 = o6 at *
  go_enter Tryz.func98, Tryz.ntmps98
  rcases or6 o1 o2 o3 o4 o5 o6 with rfl | ⟨rfl, rfl⟩ | ⟨rfl, rfl, rfl⟩ | ⟨rfl, rfl, rfl, rfl⟩ | ⟨rfl, rfl, rfl, rfl, rfl⟩ | ⟨rfl, rfl, rfl, rfl, rfl, rfl⟩ | ⟨rfl, rfl, rfl, rfl, rfl, rfl⟩
  all_goals
    go_wp2_with (go_at_call 145; (first | (with_reducible refine (H1.out _).mono ?_) | (with_reducible refine (H2.out _).mono ?_) | (with_reducible refine (H3.out _).mono ?_) | (with_reducible refine (H4.out _).mono ?_) | (with_reducible refine (H5.out _).mono ?_) | (with_reducible refine (H6.out _).mono ?_)); rintro e w1 ⟨rfl, rfl⟩)
    go_ret
    exact ⟨by rw [HE.out]; rfl, A0.out⟩
end Go.Proofs.YtoblpcljhblnmaaGreatDoor
namespace Go.Proofs.YtoblpcljhblnmaaGreatDoor
open Go.RowKit
set_option maxRecDepth 100000
theorem below_grow {w w' : World} {b B : Nat} (h : w.grownBy w' (some b)) (hB : B ≤ b) (hB2 : B ≤ w.heap.size) : Below B w w' := ⟨h.os, h.tape, h.output, h.size, fun i hi => h.block i (by omega) (by intro e; injection e with e; omega)⟩
theorem or1 (a : Bool) : a = true ∨ a = false := by cases a <;> simp
theorem or3 (a b c : Bool) : a = true ∨ (a = false ∧ b = true) ∨ (a = false ∧ b = false ∧ c = true) ∨ (a = false ∧ b = false ∧ c = false) := by
  cases a <;> cases b <;> cases c <;> simp
theorem gen_at {w : World} {B : Nat} {A : Option Addr} {n : Nat} {l : List Pl.Gen} (h : Elems genC 5 w B A n l) {k : Nat} (hk : k < n) :
    ∃ b o, A = some ⟨b, o, none⟩ ∧ ∃ hl : k < l.length, w.cell? ⟨b, o + k * 5, none⟩ = some (.string (l[k]'hl).name) ∧ w.cell? ⟨b, o + k * 5 + 1, none⟩ = some (.string (l[k]'hl).node) ∧ w.cell? ⟨b, o + k * 5 + 2, none⟩ = some (.int .i64 (l[k]'hl).least) ∧ w.cell? ⟨b, o + k * 5 + 3, none⟩ = some (.int .i64 (l[k]'hl).most) ∧ w.cell? ⟨b, o + k * 5 + 4, none⟩ = some (.int .i64 (l[k]'hl).ramp) := by
  obtain ⟨b, o, rfl, _, hl, hc⟩ := Elems.at_ (dec := genC) (size := 5) (fun _ => rfl) (by decide) h hk
  exact ⟨b, o, rfl, hl, hc 0 (by omega), hc 1 (by omega), hc 2 (by omega), hc 3 (by omega), hc 4 (by omega)⟩
theorem loa_at {w : World} {B : Nat} {A : Option Addr} {n : Nat} {l : List Pl.Loa} (h : Elems loaC 3 w B A n l) {k : Nat} (hk : k < n) :
    ∃ b o, A = some ⟨b, o, none⟩ ∧ ∃ hl : k < l.length, w.cell? ⟨b, o + k * 3, none⟩ = some (.string (l[k]'hl).name) ∧ w.cell? ⟨b, o + k * 3 + 1, none⟩ = some (.string (l[k]'hl).node) ∧ w.cell? ⟨b, o + k * 3 + 2, none⟩ = some (.int .i64 (l[k]'hl).demand) := by
  obtain ⟨b, o, rfl, _, hl, hc⟩ := Elems.at_ (dec := loaC) (size := 3) (fun _ => rfl) (by decide) h hk
  exact ⟨b, o, rfl, hl, hc 0 (by omega), hc 1 (by omega), hc 2 (by omega)⟩
theorem sto_at {w : World} {B : Nat} {A : Option Addr} {n : Nat} {l : List Pl.Sto} (h : Elems stoC 5 w B A n l) {k : Nat} (hk : k < n) :
    ∃ b o, A = some ⟨b, o, none⟩ ∧ ∃ hl : k < l.length, w.cell? ⟨b, o + k * 5, none⟩ = some (.string (l[k]'hl).name) ∧ w.cell? ⟨b, o + k * 5 + 1, none⟩ = some (.string (l[k]'hl).node) ∧ w.cell? ⟨b, o + k * 5 + 2, none⟩ = some (.int .i64 (l[k]'hl).charge) ∧ w.cell? ⟨b, o + k * 5 + 3, none⟩ = some (.int .i64 (l[k]'hl).discharge) ∧ w.cell? ⟨b, o + k * 5 + 4, none⟩ = some (.int .i64 (l[k]'hl).capacity) := by
  obtain ⟨b, o, rfl, _, hl, hc⟩ := Elems.at_ (dec := stoC) (size := 5) (fun _ => rfl) (by decide) h hk
  exact ⟨b, o, rfl, hl, hc 0 (by omega), hc 1 (by omega), hc 2 (by omega), hc 3 (by omega), hc 4 (by omega)⟩
theorem devs_cons (nodes : List ByteArray) (seen : List (List UInt8)) (d : Pl.Dev) (l : List Pl.Dev) :
    Pl.devs nodes seen (d :: l) = if Pl.devE nodes seen d.name d.at_ ≠ 0 then Pl.devE nodes seen d.name d.at_ else if d.bad = true then 4 else Pl.devs nodes (Pl.lst d.name :: seen) l := rfl
theorem device_go (b n BB : Nat) (A : Option Addr) (k c : Nat) (nodes : List ByteArray) (seen : List (List UInt8)) (nm : ByteArray) (m : Nat) (ats : List ByteArray) (o : Obj) (t : TypeId) (w : World) (g : Nat) (hg : g = w.heap.size + 1) (cs : Array Value) (hcs : cs.toList = txts ats) (hmm : ats.length = m)
    (hs : Seen w b n seen) (hn : n < 1000000) (hBB : BB ≤ b) (hr : Reads w BB 1 A k (txts nodes)) (hk : k ≤ 9223372036854775807) (hm : m ≤ 2) (hsz : nm.size ≤ maxLen) :
    Calls Tryz.prog 97 #[.agg #[.map (some b), .slice A k c], .string nm, .slice (some ⟨g, 0, none⟩) m m] ((w.alloc o).alloc (.cells cs t)) fun e w' => e = .returned (.int .i64 (Pl.devE nodes seen nm ats)) ∧ w.grownBy w' (some b) ∧ (∀ g t cs, g ≠ b → Blk (w.alloc o) g t cs → Blk w' g t cs) ∧ (Pl.devE nodes seen nm ats = 0 → Seen w' b (n + 1) (Pl.lst nm :: seen)) := by
  have hb := hs.lt
  have h1 : Below BB w ((w.alloc o).alloc (.cells cs t)) := (((Below.refl _ _).alloc (by omega) _).alloc (by simp; omega) _)
  have hcz : cs.size = m := by rw [← Array.length_toList, hcs]; simpa [txts] using hmm
  refine (device_any b n BB A k c nodes seen nm (some ⟨g, 0, none⟩) m m ats _ ((hs.alloc o).alloc _) hn hBB (hr.below h1) hk ?_ hm ?_ hsz).mono ?_
  · have := Reads.lit (w.alloc o) cs t m 1 g (by simp [hg]) (by omega)
    rwa [hcs] at this
  · intro ad h; injection h with h; subst h; show g ≠ b; omega
  · rintro e w' ⟨he, hgr, hsn⟩
    refine ⟨he, ((World.grownBy_alloc w o _).trans (World.grownBy_alloc _ _ _)).trans hgr, fun g t' cs' hg' hB => ?_, hsn⟩
    exact (hB.alloc _).grown hgr (by intro h; injection h with h; exact hg' h)
set_option maxHeartbeats 3200000 in
theorem ends_any (b n BB : Nat) (M : MNet) (seen : List (List UInt8)) (w : World) (hs : Seen w b n seen) (hn : n < 900000) (hBB : BB ≤ b) (hM : NetIn w BB M) (ng : M.n3 ≤ 10) (nl : M.n4 ≤ 12) (ns : M.n5 ≤ 4) :
    Calls Tryz.prog 99 #[.agg #[.map (some b), .slice M.A0 M.n0 M.c0], vNet M] w fun e w' => e = .returned (.int .i64 (Pl.devs M.N.nodes seen (Pl.ends M.N))) ∧ Below BB w w' := by
  obtain ⟨N, A0, n0, c0, A1, n1, c1, A2, n2, c2, A3, n3, c3, A4, n4, c4, A5, n5, c5⟩ := M
  simp only at *
  unfold vNet netC
  simp only
  have HM := Lib.hid hM
  have HS := Lib.hid hs
  have HBB := Lib.hid hBB
  have HBL := Lib.hid hs.lt
  clear hM hs hBB
  have HE : Hid (Pl.devs N.nodes seen (Pl.ends N) = Pl.devs N.nodes seen (N.gens.map Pl.dGen ++ (N.loads.map Pl.dLoa ++ N.stores.map Pl.dSto))) := by show _ = _; unfold Pl.ends; rfl
  generalize Pl.devs N.nodes seen (Pl.ends N) = R at *
  have B0 := Lib.hid ((Blk.new_ w w.heap.size 186 #[.map (some b), .slice A0 n0 c0] rfl).alloc (.cells #[.slice A0 n0 c0, .slice A1 n1 c1, .slice A2 n2 c2, .slice A3 n3 c3, .slice A4 n4 c4, .slice A5 n5 c5] 29))
  have B1 := Lib.hid (Blk.new_ (w.alloc (.cells #[.map (some b), .slice A0 n0 c0] 186)) (w.heap.size + 1) 29 #[.slice A0 n0 c0, .slice A1 n1 c1, .slice A2 n2 c2, .slice A3 n3 c3, .slice A4 n4 c4, .slice A5 n5 c5] (by simp))
  have G0 := Lib.hid ((World.grownBy_alloc w (.cells #[.map (some b), .slice A0 n0 c0] 186) (some b)).trans (World.grownBy_alloc _ (.cells #[.slice A0 n0 c0, .slice A1 n1 c1, .slice A2 n2 c2, .slice A3 n3 c3, .slice A4 n4 c4, .slice A5 n5 c5] 29) (some b)))
  have S0 := Lib.hid ((HS.out.alloc (.cells #[.map (some b), .slice A0 n0 c0] 186)).alloc (.cells #[.slice A0 n0 c0, .slice A1 n1 c1, .slice A2 n2 c2, .slice A3 n3 c3, .slice A4 n4 c4, .slice A5 n5 c5] 29))
  go_enter Tryz.func99, Tryz.ntmps99
  go_wp2_with fail
  have NB0 : Hid (w.heap.size ≠ b) := by show _ ≠ _; have := HBL.out; omega
  have NB1 : Hid (w.heap.size + 1 ≠ b) := by show _ ≠ _; have := HBL.out; omega
  have HW1 : Hid (BB ≤ ((w.alloc (.cells #[.map (some b), .slice A0 n0 c0] 186)).alloc (.cells #[.slice A0 n0 c0, .slice A1 n1 c1, .slice A2 n2 c2, .slice A3 n3 c3, .slice A4 n4 c4, .slice A5 n5 c5] 29)).heap.size) := by show _ ≤ _; have := HBL.out; have := HBB.out; simp; omega
  have HM1 := Lib.hid (HM.out.below (below_grow G0.out HBB.out (by have := HBL.out; have := HBB.out; omega)))
  have HGB := Lib.hid (below_grow G0.out HBB.out (by have := HBL.out; have := HBB.out; omega))
  clear HS HM
  generalize (w.alloc (.cells #[.map (some b), .slice A0 n0 c0] 186)).alloc (.cells #[.slice A0 n0 c0, .slice A1 n1 c1, .slice A2 n2 c2, .slice A3 n3 c3, .slice A4 n4 c4, .slice A5 n5 c5] 29) = w1 at *
  have HT0 : Hid (∃ T, T = N.loads.map Pl.dLoa ++ N.stores.map Pl.dSto ∧ R = Pl.devs N.nodes seen ((N.gens.drop 0).map Pl.dGen ++ T)) := ⟨_, rfl, by rw [HE.out]; simp⟩
  obtain ⟨T0, HTe0, HEe0⟩ := HT0.out
  have HTe0 := Lib.hid HTe0
  have HEe0 := Lib.hid HEe0
  clear HE HT0
  go_loopw [17] (fun s wr => ∃ (i : Nat) (sn : List (List UInt8)), i ≤ n3 ∧ s = .int .i64 i ∧ Hid (w1.grownBy wr (some b)) ∧ Hid (Seen wr b (n + i) sn) ∧ Hid (R = Pl.devs N.nodes sn ((N.gens.drop i).map Pl.dGen ++ T0))) (fun s _ => n3 - (intOf s).toNat)
  case atStart => exact ⟨0, seen, Nat.zero_le _, rfl, World.grownBy.refl _ _, S0.out, HEe0.out⟩
  case round =>
    obtain ⟨i0, sn0, hi, rfl, HG0, HSn0, HEi⟩ := hrel
    clear HEe0
    by_cases hlt : i0 < n3
    · have HMr := Lib.hid (HM1.out.below (below_grow HG0.out HBB.out HW1.out))
      obtain ⟨bb, o, rfl, hl, q0, q1, q2, q3, q4⟩ := gen_at HMr.out.r3 hlt
      simp only at hl q0 q1 q2 q3 q4
      have HDR : Hid (R = Pl.devs N.nodes sn0 (Pl.dGen N.gens[i0] :: ((N.gens.drop (i0 + 1)).map Pl.dGen ++ T0))) := by
        show _ = _
        rw [HEi.out, List.drop_eq_getElem_cons hl]
        rfl
      rw [devs_cons] at HDR
      have hz : N.gens[i0].name.size ≤ maxLen := (HM1.out.sz.names (Pl.dGen N.gens[i0]) (by unfold Pl.allDevs Pl.ends; simp only [List.mem_append]; exact .inr (.inr (.inr (.inl (List.mem_map_of_mem (List.getElem_mem hl))))))).1
      have HZ := Lib.hid hz
      clear hz HEi
      unfold Pl.dGen Pl.genOut at HDR
      simp only at HDR
      generalize N.gens[i0] = x at *
      obtain ⟨nm, nd, l1, l2, l3⟩ := x
      simp only at *
      have B0r := Lib.hid (B0.out.grown HG0.out (by intro h; injection h with h; exact NB0.out h))
      have HC := Lib.hid (device_go b (n + i0) BB A0 n0 c0 N.nodes sn0 nm 1 [nd] (.cells #[.string nm, .string nd, .int .i64 l1, .int .i64 l2, .int .i64 l3] 64) 9 wr (wr.heap.size + 1) rfl #[.string nd] rfl rfl HSn0.out (by omega) HBB.out HMr.out.r0 HMr.out.z0 (by omega) HZ.out)
      have k0 := B0r.out.cell
      have lt0 := B0r.out.lt
      go_wp2_with fail
      generalize Pl.devE N.nodes sn0 nm [nd] = dv at *
      refine HC.out.mono ?_
      rintro e w2 ⟨rfl, hg, hbk, hsn⟩
      have G2 := Lib.hid (HG0.out.trans hg)
      have BX := Lib.hid (hbk wr.heap.size _ _ (by have := HSn0.out.lt; omega) (Blk.new_ wr wr.heap.size 64 #[.string nm, .string nd, .int .i64 l1, .int .i64 l2, .int .i64 l3] rfl))
      have S2 := Lib.hid hsn
      clear hg hbk hsn HC k0 lt0 q0 q1 q2 q3 q4 B0r
      by_cases hdv : dv = 0
      · subst hdv
        rw [if_neg (by simp)] at HDR
        have S3 := Lib.hid (S2.out rfl)
        have k2 := BX.out.cell 2
        have k3 := BX.out.cell 3
        have k4 := BX.out.cell 4
        simp at k2 k3 k4
        have P1 := Lib.hid (fun w => npermitted_any l1 w)
        have P2 := Lib.hid (fun w => nout_any l2 l1 100000 w)
        have P3 := Lib.hid (fun w => npermitted_any l3 w)
        generalize Pl.outN l1 0 100000 = o1 at *
        generalize Pl.outN l2 l1 100000 = o2 at *
        generalize Pl.outN l3 0 100000 = o3 at *
        rcases or3 o1 o2 o3 with rfl | ⟨rfl, rfl⟩ | ⟨rfl, rfl, rfl⟩ | ⟨rfl, rfl, rfl⟩
        all_goals
          go_wp2_with (first
            | (go_at_call 145; with_reducible refine (P2.out _).mono ?_; rintro e w3 ⟨rfl, rfl⟩)
            | (go_at_call 146; (first | (with_reducible refine (P1.out _).mono ?_) | (with_reducible refine (P3.out _).mono ?_)); rintro e w3 ⟨rfl, rfl⟩))
        · go_ret
          exact ⟨by rw [HDR.out]; rfl, HGB.out.trans (below_grow G2.out HBB.out HW1.out)⟩
        · go_ret
          exact ⟨by rw [HDR.out]; rfl, HGB.out.trans (below_grow G2.out HBB.out HW1.out)⟩
        · go_ret
          exact ⟨by rw [HDR.out]; rfl, HGB.out.trans (below_grow G2.out HBB.out HW1.out)⟩
        · go_roundw
          case rel => exact ⟨i0 + 1, Pl.lst nm :: sn0, by omega, by go_num, G2.out, S3.out, by rw [HDR.out]; rfl⟩
          case measure => simp [intOf]; omega
      · have hdv2 : (dv != 0) = true := by simpa using hdv
        rw [if_pos hdv] at HDR
        clear hdv
        go_wp2_with fail
        go_ret
        exact ⟨by rw [HDR.out]; rfl, HGB.out.trans (below_grow G2.out HBB.out HW1.out)⟩
    · have hi2 : i0 = n3 := by omega
      have HX1 : Hid (R = Pl.devs N.nodes sn0 (N.loads.map Pl.dLoa ++ N.stores.map Pl.dSto)) := by
        show _ = _
        rw [HEi.out, HTe0.out, List.drop_of_length_le (by have := HM1.out.r3.2; simp only at this; omega)]
        rfl
      clear HEi hi2
      have B1r := Lib.hid (B1.out.grown HG0.out (by intro h; injection h with h; exact NB1.out h))
      have k0 := B1r.out.cell
      go_wp2_with fail
      clear k0 B1r
      have HT1 : Hid (∃ T, T = N.stores.map Pl.dSto ∧ R = Pl.devs N.nodes sn0 ((N.loads.drop 0).map Pl.dLoa ++ T)) := ⟨_, rfl, by rw [HX1.out]; simp⟩
      obtain ⟨T1, HTe1, HEe1⟩ := HT1.out
      have HTe1 := Lib.hid HTe1
      have HEe1 := Lib.hid HEe1
      clear HX1 HT1
      go_loopw [52] (fun s wr => ∃ (i : Nat) (sn : List (List UInt8)), i ≤ n4 ∧ s = .int .i64 i ∧ Hid (w1.grownBy wr (some b)) ∧ Hid (Seen wr b ((n + i0) + i) sn) ∧ Hid (R = Pl.devs N.nodes sn ((N.loads.drop i).map Pl.dLoa ++ T1))) (fun s _ => n4 - (intOf s).toNat)
      case atStart => exact ⟨0, sn0, Nat.zero_le _, rfl, HG0.out, HSn0.out, HEe1.out⟩
      case round =>
        obtain ⟨i1, sn1, hi, rfl, HG1, HSn1, HEi⟩ := hrel
        clear HEe1
        by_cases hlt : i1 < n4
        · have HMr := Lib.hid (HM1.out.below (below_grow HG1.out HBB.out HW1.out))
          obtain ⟨bb, o, rfl, hl, q0, q1, q2⟩ := loa_at HMr.out.r4 hlt
          simp only at hl q0 q1 q2
          have HDR : Hid (R = Pl.devs N.nodes sn1 (Pl.dLoa N.loads[i1] :: ((N.loads.drop (i1 + 1)).map Pl.dLoa ++ T1))) := by
            show _ = _
            rw [HEi.out, List.drop_eq_getElem_cons hl]
            rfl
          rw [devs_cons] at HDR
          have hz : N.loads[i1].name.size ≤ maxLen := (HM1.out.sz.names (Pl.dLoa N.loads[i1]) (by unfold Pl.allDevs Pl.ends; simp only [List.mem_append]; exact .inr (.inr (.inr (.inr (.inl (List.mem_map_of_mem (List.getElem_mem hl)))))))).1
          have HZ := Lib.hid hz
          clear hz HEi
          unfold Pl.dLoa Pl.loaOut at HDR
          simp only at HDR
          generalize N.loads[i1] = x at *
          obtain ⟨nm, nd, l1⟩ := x
          simp only at *
          have B0r := Lib.hid (B0.out.grown HG1.out (by intro h; injection h with h; exact NB0.out h))
          have HC := Lib.hid (device_go b ((n + i0) + i1) BB A0 n0 c0 N.nodes sn1 nm 1 [nd] (.cells #[.string nm, .string nd, .int .i64 l1] 67) 9 wr (wr.heap.size + 1) rfl #[.string nd] rfl rfl HSn1.out (by omega) HBB.out HMr.out.r0 HMr.out.z0 (by omega) HZ.out)
          have k0 := B0r.out.cell
          have lt0 := B0r.out.lt
          go_wp2_with fail
          generalize Pl.devE N.nodes sn1 nm [nd] = dv at *
          refine HC.out.mono ?_
          rintro e w2 ⟨rfl, hg, hbk, hsn⟩
          have G2 := Lib.hid (HG1.out.trans hg)
          have BX := Lib.hid (hbk wr.heap.size _ _ (by have := HSn1.out.lt; omega) (Blk.new_ wr wr.heap.size 67 #[.string nm, .string nd, .int .i64 l1] rfl))
          have S2 := Lib.hid hsn
          clear hg hbk hsn HC k0 lt0 q0 q1 q2 B0r
          by_cases hdv : dv = 0
          · subst hdv
            rw [if_neg (by simp)] at HDR
            have S3 := Lib.hid (S2.out rfl)
            have k2 := BX.out.cell 2
            simp at k2
            have P1 := Lib.hid (fun w => npermitted_any l1 w)
            generalize Pl.outN l1 0 100000 = o1 at *
            rcases or1 o1 with rfl | rfl
            all_goals
              go_wp2_with (first
                | (go_at_call 146; (first | (with_reducible refine (P1.out _).mono ?_)); rintro e w3 ⟨rfl, rfl⟩))
            · go_ret
              exact ⟨by rw [HDR.out]; rfl, HGB.out.trans (below_grow G2.out HBB.out HW1.out)⟩
            · go_roundw
              case rel => exact ⟨i1 + 1, Pl.lst nm :: sn1, by omega, by go_num, G2.out, S3.out, by rw [HDR.out]; rfl⟩
              case measure => simp [intOf]; omega
          · have hdv2 : (dv != 0) = true := by simpa using hdv
            rw [if_pos hdv] at HDR
            clear hdv
            go_wp2_with fail
            go_ret
            exact ⟨by rw [HDR.out]; rfl, HGB.out.trans (below_grow G2.out HBB.out HW1.out)⟩
        · have hi2 : i1 = n4 := by omega
          have HX2 : Hid (R = Pl.devs N.nodes sn1 (N.stores.map Pl.dSto)) := by
            show _ = _
            rw [HEi.out, HTe1.out, List.drop_of_length_le (by have := HM1.out.r4.2; simp only at this; omega)]
            rfl
          clear HEi hi2
          have B1r := Lib.hid (B1.out.grown HG1.out (by intro h; injection h with h; exact NB1.out h))
          have k0 := B1r.out.cell
          go_wp2_with fail
          clear k0 B1r
          have HT2 : Hid (∃ T, T = ([] : List Pl.Dev) ∧ R = Pl.devs N.nodes sn1 ((N.stores.drop 0).map Pl.dSto ++ T)) := ⟨_, rfl, by rw [HX2.out]; simp⟩
          obtain ⟨T2, HTe2, HEe2⟩ := HT2.out
          have HTe2 := Lib.hid HTe2
          have HEe2 := Lib.hid HEe2
          clear HX2 HT2
          go_loopw [74] (fun s wr => ∃ (i : Nat) (sn : List (List UInt8)), i ≤ n5 ∧ s = .int .i64 i ∧ Hid (w1.grownBy wr (some b)) ∧ Hid (Seen wr b (((n + i0) + i1) + i) sn) ∧ Hid (R = Pl.devs N.nodes sn ((N.stores.drop i).map Pl.dSto ++ T2))) (fun s _ => n5 - (intOf s).toNat)
          case atStart => exact ⟨0, sn1, Nat.zero_le _, rfl, HG1.out, HSn1.out, HEe2.out⟩
          case round =>
            obtain ⟨i2, sn2, hi, rfl, HG2, HSn2, HEi⟩ := hrel
            clear HEe2
            by_cases hlt : i2 < n5
            · have HMr := Lib.hid (HM1.out.below (below_grow HG2.out HBB.out HW1.out))
              obtain ⟨bb, o, rfl, hl, q0, q1, q2, q3, q4⟩ := sto_at HMr.out.r5 hlt
              simp only at hl q0 q1 q2 q3 q4
              have HDR : Hid (R = Pl.devs N.nodes sn2 (Pl.dSto N.stores[i2] :: ((N.stores.drop (i2 + 1)).map Pl.dSto ++ T2))) := by
                show _ = _
                rw [HEi.out, List.drop_eq_getElem_cons hl]
                rfl
              rw [devs_cons] at HDR
              have hz : N.stores[i2].name.size ≤ maxLen := (HM1.out.sz.names (Pl.dSto N.stores[i2]) (by unfold Pl.allDevs Pl.ends; simp only [List.mem_append]; exact .inr (.inr (.inr (.inr (.inr (List.mem_map_of_mem (List.getElem_mem hl)))))))).1
              have HZ := Lib.hid hz
              clear hz HEi
              unfold Pl.dSto Pl.stoOut at HDR
              simp only at HDR
              generalize N.stores[i2] = x at *
              obtain ⟨nm, nd, l1, l2, l3⟩ := x
              simp only at *
              have B0r := Lib.hid (B0.out.grown HG2.out (by intro h; injection h with h; exact NB0.out h))
              have HC := Lib.hid (device_go b (((n + i0) + i1) + i2) BB A0 n0 c0 N.nodes sn2 nm 1 [nd] (.cells #[.string nm, .string nd, .int .i64 l1, .int .i64 l2, .int .i64 l3] 245) 9 wr (wr.heap.size + 1) rfl #[.string nd] rfl rfl HSn2.out (by omega) HBB.out HMr.out.r0 HMr.out.z0 (by omega) HZ.out)
              have k0 := B0r.out.cell
              have lt0 := B0r.out.lt
              go_wp2_with fail
              generalize Pl.devE N.nodes sn2 nm [nd] = dv at *
              refine HC.out.mono ?_
              rintro e w2 ⟨rfl, hg, hbk, hsn⟩
              have G2 := Lib.hid (HG2.out.trans hg)
              have BX := Lib.hid (hbk wr.heap.size _ _ (by have := HSn2.out.lt; omega) (Blk.new_ wr wr.heap.size 245 #[.string nm, .string nd, .int .i64 l1, .int .i64 l2, .int .i64 l3] rfl))
              have S2 := Lib.hid hsn
              clear hg hbk hsn HC k0 lt0 q0 q1 q2 q3 q4 B0r
              by_cases hdv : dv = 0
              · subst hdv
                rw [if_neg (by simp)] at HDR
                have S3 := Lib.hid (S2.out rfl)
                have k2 := BX.out.cell 2
                have k3 := BX.out.cell 3
                have k4 := BX.out.cell 4
                simp at k2 k3 k4
                have P1 := Lib.hid (fun w => npermitted_any l1 w)
                have P2 := Lib.hid (fun w => npermitted_any l2 w)
                have P3 := Lib.hid (fun w => npermitted_any l3 w)
                generalize Pl.outN l1 0 100000 = o1 at *
                generalize Pl.outN l2 0 100000 = o2 at *
                generalize Pl.outN l3 0 100000 = o3 at *
                rcases or3 o1 o2 o3 with rfl | ⟨rfl, rfl⟩ | ⟨rfl, rfl, rfl⟩ | ⟨rfl, rfl, rfl⟩
                all_goals
                  go_wp2_with (first
                    | (go_at_call 146; (first | (with_reducible refine (P1.out _).mono ?_) | (with_reducible refine (P2.out _).mono ?_) | (with_reducible refine (P3.out _).mono ?_)); rintro e w3 ⟨rfl, rfl⟩))
                · go_ret
                  exact ⟨by rw [HDR.out]; rfl, HGB.out.trans (below_grow G2.out HBB.out HW1.out)⟩
                · go_ret
                  exact ⟨by rw [HDR.out]; rfl, HGB.out.trans (below_grow G2.out HBB.out HW1.out)⟩
                · go_ret
                  exact ⟨by rw [HDR.out]; rfl, HGB.out.trans (below_grow G2.out HBB.out HW1.out)⟩
                · go_roundw
                  case rel => exact ⟨i2 + 1, Pl.lst nm :: sn2, by omega, by go_num, G2.out, S3.out, by rw [HDR.out]; rfl⟩
                  case measure => simp [intOf]; omega
              · have hdv2 : (dv != 0) = true := by simpa using hdv
                rw [if_pos hdv] at HDR
                clear hdv
                go_wp2_with fail
                go_ret
                exact ⟨by rw [HDR.out]; rfl, HGB.out.trans (below_grow G2.out HBB.out HW1.out)⟩
            · have hi2 : i2 = n5 := by omega
              have HX : Hid (R = 0) := by
                show _ = _
                rw [HEi.out, HTe2.out, List.drop_of_length_le (by have := HM1.out.r5.2; simp only at this; omega)]
                rfl
              clear hi2
              go_wp2_with fail
              go_ret
              exact ⟨by rw [HX.out]; rfl, HGB.out.trans (below_grow HG2.out HBB.out HW1.out)⟩
end Go.Proofs.YtoblpcljhblnmaaGreatDoor
namespace Go.Proofs.YtoblpcljhblnmaaGreatDoor
open Go.RowKit
set_option maxRecDepth 100000
theorem swi_at {w : World} {B : Nat} {A : Option Addr} {n : Nat} {l : List Pl.Swi} (h : Elems swiC 5 w B A n l) {k : Nat} (hk : k < n) :
    ∃ b o, A = some ⟨b, o, none⟩ ∧ ∃ hl : k < l.length, w.cell? ⟨b, o + k * 5, none⟩ = some (.string (l[k]'hl).name) ∧ w.cell? ⟨b, o + k * 5 + 1, none⟩ = some (.string (l[k]'hl).a) ∧ w.cell? ⟨b, o + k * 5 + 2, none⟩ = some (.string (l[k]'hl).b) ∧ w.cell? ⟨b, o + k * 5 + 3, none⟩ = some (.bool (l[k]'hl).breaker) ∧ w.cell? ⟨b, o + k * 5 + 4, none⟩ = some (.bool (l[k]'hl).opened) := by
  obtain ⟨b, o, rfl, _, hl, hc⟩ := Elems.at_ (dec := swiC) (size := 5) (fun _ => rfl) (by decide) h hk
  exact ⟨b, o, rfl, hl, hc 0 (by omega), hc 1 (by omega), hc 2 (by omega), hc 3 (by omega), hc 4 (by omega)⟩
theorem bra_at {w : World} {B : Nat} {A : Option Addr} {n : Nat} {l : List Pl.Bra} (h : Elems braC 9 w B A n l) {k : Nat} (hk : k < n) :
    ∃ b o, A = some ⟨b, o, none⟩ ∧ ∃ hl : k < l.length, w.cell? ⟨b, o + k * 9, none⟩ = some (.string (l[k]'hl).name) ∧ w.cell? ⟨b, o + k * 9 + 1, none⟩ = some (.string (l[k]'hl).from_) ∧ w.cell? ⟨b, o + k * 9 + 2, none⟩ = some (.string (l[k]'hl).to_) ∧ w.cell? ⟨b, o + k * 9 + 3, none⟩ = some (.int .i64 (l[k]'hl).x) ∧ w.cell? ⟨b, o + k * 9 + 4, none⟩ = some (.int .i64 (l[k]'hl).tap) ∧ w.cell? ⟨b, o + k * 9 + 5, none⟩ = some (.int .i64 (l[k]'hl).shift) ∧ w.cell? ⟨b, o + k * 9 + 6, none⟩ = some (.int .i64 (l[k]'hl).limit) ∧ w.cell? ⟨b, o + k * 9 + 7, none⟩ = some (.int .i64 (l[k]'hl).short) ∧ w.cell? ⟨b, o + k * 9 + 8, none⟩ = some (.int .i64 (l[k]'hl).hold) := by
  obtain ⟨b, o, rfl, _, hl, hc⟩ := Elems.at_ (dec := braC) (size := 9) (fun _ => rfl) (by decide) h hk
  exact ⟨b, o, rfl, hl, hc 0 (by omega), hc 1 (by omega), hc 2 (by omega), hc 3 (by omega), hc 4 (by omega), hc 5 (by omega), hc 6 (by omega), hc 7 (by omega), hc 8 (by omega)⟩
theorem device_nil (b n BB : Nat) (A : Option Addr) (k c : Nat) (nodes : List ByteArray) (seen : List (List UInt8)) (nm : ByteArray) (w : World)
    (hs : Seen w b n seen) (hn : n < 1000000) (hBB : BB ≤ b) (hr : Reads w BB 1 A k (txts nodes)) (hk : k ≤ 9223372036854775807) (hsz : nm.size ≤ maxLen) :
    Calls Tryz.prog 97 #[.agg #[.map (some b), .slice A k c], .string nm, .slice none 0 0] w fun e w' => e = .returned (.int .i64 (Pl.devE nodes seen nm [])) ∧ w.grownBy w' (some b) ∧ (Pl.devE nodes seen nm [] = 0 → Seen w' b (n + 1) (Pl.lst nm :: seen)) :=
  device_any b n BB A k c nodes seen nm none 0 0 [] w hs hn hBB hr hk Reads.none_ (by omega) (fun _ h => by cases h) hsz
theorem Pl.big_eq (N : Pl.Net) : Pl.big N = (decide (24 < N.nodes.length) || decide (32 < N.switches.length) || decide (24 < N.branches.length) || decide (10 < N.gens.length) || decide (12 < N.loads.length) || decide (4 < N.stores.length)) := rfl
set_option maxHeartbeats 3200000 in
theorem netcheck_any (M : MNet) (w : World) (hM : NetIn w w.heap.size M) :
    Calls Tryz.prog 52 #[vNet M] w fun e w' => e = .returned (.int .i64 (Pl.netE M.N)) ∧ Below w.heap.size w w' := by
  have l0 := txts_len hM.r0
  have l1 := hM.r1.2
  have l2 := hM.r2.2
  have l3 := hM.r3.2
  have l4 := hM.r4.2
  have l5 := hM.r5.2
  have HE : Hid (Pl.netE M.N = if Pl.big M.N then 2 else Pl.devs M.N.nodes [] (Pl.allDevs M.N)) := rfl
  rw [Pl.big_eq, l0, l1, l2, l3, l4, l5] at HE
  unfold Pl.allDevs at HE
  have HEnd : Hid (∀ (b n : Nat) (sn : List (List UInt8)) (w1 : World), Seen w1 b n sn → n < 900000 → w.heap.size ≤ b → NetIn w1 w.heap.size M → M.n3 ≤ 10 → M.n4 ≤ 12 → M.n5 ≤ 4 → Calls Tryz.prog 99 #[.agg #[.map (some b), .slice M.A0 M.n0 M.c0], vNet M] w1 fun e w' => e = .returned (.int .i64 (Pl.devs M.N.nodes sn (Pl.ends M.N))) ∧ Below w.heap.size w1 w') := fun b n sn w1 h1 h2 h3 h4 h5 h6 h7 => ends_any b n w.heap.size M sn w1 h1 h2 h3 h4 h5 h6 h7
  have HR : Hid (∃ R, R = Pl.netE M.N) := ⟨_, rfl⟩
  generalize Pl.netE M.N = R at *
  clear HR
  obtain ⟨N, A0, n0, c0, A1, n1, c1, A2, n2, c2, A3, n3, c3, A4, n4, c4, A5, n5, c5⟩ := M
  simp only at *
  unfold vNet netC at *
  simp only at *
  have HM := Lib.hid hM
  have HL2 := Lib.hid l2
  have HL1 := Lib.hid l1
  have HL0 := Lib.hid l0
  clear hM l0 l1 l2 l3 l4 l5
  have A0' := Lib.hid ((Below.refl w.heap.size w).alloc (Nat.le_refl _) (.cells #[.slice A0 n0 c0, .slice A1 n1 c1, .slice A2 n2 c2, .slice A3 n3 c3, .slice A4 n4 c4, .slice A5 n5 c5] 29))
  have B0 := Lib.hid (Blk.new_ w w.heap.size 29 #[.slice A0 n0 c0, .slice A1 n1 c1, .slice A2 n2 c2, .slice A3 n3 c3, .slice A4 n4 c4, .slice A5 n5 c5] rfl)
  go_enter Tryz.func52, Tryz.ntmps52
  generalize hb0 : decide (24 < n0) = b0 at HE
  generalize hb1 : decide (32 < n1) = b1 at HE
  generalize hb2 : decide (24 < n2) = b2 at HE
  generalize hb3 : decide (10 < n3) = b3 at HE
  generalize hb4 : decide (12 < n4) = b4 at HE
  generalize hb5 : decide (4 < n5) = b5 at HE
  have g0 : decide ((24 : Int) < (n0 : Int)) = b0 := by rw [← hb0]; apply decide_eq_decide.2; omega
  have g1 : decide ((32 : Int) < (n1 : Int)) = b1 := by rw [← hb1]; apply decide_eq_decide.2; omega
  have g2 : decide ((24 : Int) < (n2 : Int)) = b2 := by rw [← hb2]; apply decide_eq_decide.2; omega
  have g3 : decide ((10 : Int) < (n3 : Int)) = b3 := by rw [← hb3]; apply decide_eq_decide.2; omega
  have g4 : decide ((12 : Int) < (n4 : Int)) = b4 := by rw [← hb4]; apply decide_eq_decide.2; omega
  have g5 : decide ((4 : Int) < (n5 : Int)) = b5 := by rw [← hb5]; apply decide_eq_decide.2; omega
  rcases or6 b0 b1 b2 b3 b4 b5 with rfl | ⟨rfl, rfl⟩ | ⟨rfl, rfl, rfl⟩ | ⟨rfl, rfl, rfl, rfl⟩ | ⟨rfl, rfl, rfl, rfl, rfl⟩ | ⟨rfl, rfl, rfl, rfl, rfl, rfl⟩ | ⟨rfl, rfl, rfl, rfl, rfl, rfl⟩
  iterate 6
    · clear hb0 hb1 hb2 hb3 hb4 hb5
      go_wp2_with fail
      go_ret
      exact ⟨by rw [HE.out]; rfl, A0'.out⟩
  · rw [if_neg (by simp)] at HE
    have HN := Lib.hid (And.intro (of_decide_eq_false hb0) (And.intro (of_decide_eq_false hb1) (And.intro (of_decide_eq_false hb2) (And.intro (of_decide_eq_false hb3) (And.intro (of_decide_eq_false hb4) (of_decide_eq_false hb5))))))
    clear hb0 hb1 hb2 hb3 hb4 hb5
    have hmm : ∀ w : World, (Instr.makeMap 184 none).run Tryz.prog w = .ok (.map (some w.heap.size)) (w.alloc (.map #[] 0)) := fun w => run_makeMap _ w
    go_wp2_with fail
    clear hmm
    have SM := Lib.hid ((Seen.made (w.alloc (.cells #[.slice A0 n0 c0, .slice A1 n1 c1, .slice A2 n2 c2, .slice A3 n3 c3, .slice A4 n4 c4, .slice A5 n5 c5] 29))).alloc (.cells #[.map (some (w.heap.size + 1)), .slice A0 n0 c0] 186))
    have A1' := Lib.hid ((A0'.out.alloc (by simp) (.map #[] 0)).alloc (by simp; omega) (.cells #[.map (some (w.heap.size + 1)), .slice A0 n0 c0] 186))
    have B1 := Lib.hid (Blk.new_ ((w.alloc (.cells #[.slice A0 n0 c0, .slice A1 n1 c1, .slice A2 n2 c2, .slice A3 n3 c3, .slice A4 n4 c4, .slice A5 n5 c5] 29)).alloc (.map #[] 0)) (w.heap.size + 1 + 1) 186 #[.map (some (w.heap.size + 1)), .slice A0 n0 c0] (by simp))
    have B0' := Lib.hid ((B0.out.alloc (.map #[] 0)).alloc (.cells #[.map (some (w.heap.size + 1)), .slice A0 n0 c0] 186))
    have SM : Hid (Seen (((w.alloc (.cells #[.slice A0 n0 c0, .slice A1 n1 c1, .slice A2 n2 c2, .slice A3 n3 c3, .slice A4 n4 c4, .slice A5 n5 c5] 29)).alloc (.map #[] 0)).alloc (.cells #[.map (some (w.heap.size + 1)), .slice A0 n0 c0] 186)) (w.heap.size + 1) 0 []) := by
      have := SM.out
      simp only [World.size_alloc] at this
      exact this
    have HBL : Hid (w.heap.size < w.heap.size + 1) := Nat.lt_succ_self _
    have HM1 := Lib.hid (HM.out.below A1'.out)
    have HW1 := Lib.hid A1'.out.size
    clear A0' B0
    generalize ((w.alloc (.cells #[.slice A0 n0 c0, .slice A1 n1 c1, .slice A2 n2 c2, .slice A3 n3 c3, .slice A4 n4 c4, .slice A5 n5 c5] 29)).alloc (.map #[] 0)).alloc (.cells #[.map (some (w.heap.size + 1)), .slice A0 n0 c0] 186) = w1 at *
    have HT0 : Hid (∃ T, T = N.switches.map Pl.dSwi ++ (N.branches.map Pl.dBra ++ Pl.ends N) ∧ R = Pl.devs N.nodes [] ((N.nodes.drop 0).map Pl.dNode ++ T)) := ⟨_, rfl, by rw [HE.out]; simp⟩
    obtain ⟨T0, HTe0, HEe0⟩ := HT0.out
    have HTe0 := Lib.hid HTe0
    have HEe0 := Lib.hid HEe0
    clear HE HT0
    go_loopw [55] (fun s wr => ∃ (i : Nat) (sn : List (List UInt8)), i ≤ n0 ∧ s = .int .i64 i ∧ Hid (w1.grownBy wr (some (w.heap.size + 1))) ∧ Hid (Seen wr (w.heap.size + 1) (0 + i) sn) ∧ Hid (R = Pl.devs N.nodes sn ((N.nodes.drop i).map Pl.dNode ++ T0))) (fun s _ => n0 - (intOf s).toNat)
    case atStart => exact ⟨0, [], Nat.zero_le _, rfl, World.grownBy.refl _ _, SM.out, HEe0.out⟩
    case round =>
      obtain ⟨i0, sn0, hi, rfl, HG0, HSn0, HEi⟩ := hrel
      clear HEe0
      have hN := HN.out
      by_cases hlt : i0 < n0
      · have HMr := Lib.hid (HM1.out.below (below_grow HG0.out (Nat.le_succ _) HW1.out))
        obtain ⟨bb, o, rfl, _, hl, q0⟩ := txts_at HMr.out.r0 hlt
        simp only at hl q0
        have HDR : Hid (R = Pl.devs N.nodes sn0 (Pl.dNode N.nodes[i0] :: ((N.nodes.drop (i0 + 1)).map Pl.dNode ++ T0))) := by
          show _ = _
          rw [HEi.out, List.drop_eq_getElem_cons hl]
          rfl
        rw [devs_cons] at HDR
        have hz : (Pl.dNode N.nodes[i0]).name.size ≤ maxLen := (HM1.out.sz.names (Pl.dNode N.nodes[i0]) (by unfold Pl.allDevs; simp only [List.mem_append]; exact .inl (List.mem_map_of_mem (List.getElem_mem hl)))).1
        have HZ := Lib.hid hz
        clear hz HEi
        have B1r := Lib.hid (B1.out.grown HG0.out (by intro h; injection h with h; omega))
        have k0 := B1r.out.cell
        have lt0 := B1r.out.lt
        unfold Pl.dNode at HDR HZ
        simp only at HDR HZ
        generalize N.nodes[i0] = nm at *
        have HC := Lib.hid (device_nil (w.heap.size + 1) (0 + i0) w.heap.size (some ⟨bb, o, none⟩) n0 c0 N.nodes sn0 nm wr HSn0.out (by omega) (Nat.le_succ _) HMr.out.r0 HMr.out.z0 HZ.out)
        go_wp2_with fail
        generalize Pl.devE N.nodes sn0 nm [] = dv at *
        refine HC.out.mono ?_
        rintro e w2 ⟨rfl, hg, hsn⟩
        have G2 := Lib.hid (HG0.out.trans hg)
        have S2 := Lib.hid hsn
        clear hg hsn HC k0 lt0 q0 B1r
        by_cases hdv : dv = 0
        · subst hdv
          rw [if_neg (by simp)] at HDR
          have S3 := Lib.hid (S2.out rfl)
          clear S2
          rw [if_neg (by simp)] at HDR
          go_wp2_with fail
          go_roundw
          case rel => exact ⟨i0 + 1, Pl.lst nm :: sn0, by omega, by go_num, G2.out, S3.out, by rw [HDR.out]; rfl⟩
          case measure => simp [intOf]; omega
        · have hdv2 : (dv != 0) = true := by simpa using hdv
          rw [if_pos hdv] at HDR
          clear hdv
          go_wp2_with fail
          go_ret
          exact ⟨by rw [HDR.out]; rfl, A1'.out.trans (below_grow G2.out (Nat.le_succ _) HW1.out)⟩
      · have hi2 : i0 = n0 := by omega
        have HX1 : Hid (R = Pl.devs N.nodes sn0 (N.switches.map Pl.dSwi ++ (N.branches.map Pl.dBra ++ Pl.ends N))) := by
          show _ = _
          rw [HEi.out, HTe0.out, List.drop_of_length_le (by have := HL0.out; omega)]
          rfl
        clear HEi hi2
        have B0r := Lib.hid (B0'.out.grown HG0.out (by intro h; injection h with h; omega))
        have k0 := B0r.out.cell
        go_wp2_with fail
        clear k0 B0r
        have HT1 : Hid (∃ T, T = N.branches.map Pl.dBra ++ Pl.ends N ∧ R = Pl.devs N.nodes sn0 ((N.switches.drop 0).map Pl.dSwi ++ T)) := ⟨_, rfl, by rw [HX1.out]; simp⟩
        obtain ⟨T1, HTe1, HEe1⟩ := HT1.out
        have HTe1 := Lib.hid HTe1
        have HEe1 := Lib.hid HEe1
        clear HX1 HT1
        go_loopw [69] (fun s wr => ∃ (i : Nat) (sn : List (List UInt8)), i ≤ n1 ∧ s = .int .i64 i ∧ Hid (w1.grownBy wr (some (w.heap.size + 1))) ∧ Hid (Seen wr (w.heap.size + 1) ((0 + i0) + i) sn) ∧ Hid (R = Pl.devs N.nodes sn ((N.switches.drop i).map Pl.dSwi ++ T1))) (fun s _ => n1 - (intOf s).toNat)
        case atStart => exact ⟨0, sn0, Nat.zero_le _, rfl, HG0.out, HSn0.out, HEe1.out⟩
        case round =>
          obtain ⟨i1, sn1, hi, rfl, HG1, HSn1, HEi⟩ := hrel
          clear HEe1
          have hN := HN.out
          by_cases hlt : i1 < n1
          · have HMr := Lib.hid (HM1.out.below (below_grow HG1.out (Nat.le_succ _) HW1.out))
            obtain ⟨bb, o, rfl, hl, q0, q1, q2, q3, q4⟩ := swi_at HMr.out.r1 hlt
            simp only at hl q0 q1 q2 q3 q4
            have HDR : Hid (R = Pl.devs N.nodes sn1 (Pl.dSwi N.switches[i1] :: ((N.switches.drop (i1 + 1)).map Pl.dSwi ++ T1))) := by
              show _ = _
              rw [HEi.out, List.drop_eq_getElem_cons hl]
              rfl
            rw [devs_cons] at HDR
            have hz : (Pl.dSwi N.switches[i1]).name.size ≤ maxLen := (HM1.out.sz.names (Pl.dSwi N.switches[i1]) (by unfold Pl.allDevs; simp only [List.mem_append]; exact .inr (.inl (List.mem_map_of_mem (List.getElem_mem hl))))).1
            have HZ := Lib.hid hz
            clear hz HEi
            have B1r := Lib.hid (B1.out.grown HG1.out (by intro h; injection h with h; omega))
            have k0 := B1r.out.cell
            have lt0 := B1r.out.lt
            unfold Pl.dSwi at HDR HZ
            simp only at HDR HZ
            generalize N.switches[i1] = x at *
            obtain ⟨nm, fr, to_, br, op⟩ := x
            simp only at *
            have HC := Lib.hid (device_go (w.heap.size + 1) ((0 + i0) + i1) w.heap.size A0 n0 c0 N.nodes sn1 nm 2 [fr, to_] (.cells #[.string nm, .string fr, .string to_, .bool br, .bool op] 189) 9 wr (wr.heap.size + 1) rfl #[.string fr, .string to_] rfl rfl HSn1.out (by omega) (Nat.le_succ _) HMr.out.r0 HMr.out.z0 (by omega) HZ.out)
            go_wp2_with fail
            generalize Pl.devE N.nodes sn1 nm [fr, to_] = dv at *
            refine HC.out.mono ?_
            rintro e w2 ⟨rfl, hg, hbk, hsn⟩
            have G2 := Lib.hid (HG1.out.trans hg)
            have BX := Lib.hid (hbk wr.heap.size _ _ (by have := HSn1.out.lt; omega) (Blk.new_ wr wr.heap.size 189 #[.string nm, .string fr, .string to_, .bool br, .bool op] rfl))
            have S2 := Lib.hid hsn
            clear hg hbk hsn HC k0 lt0 q0 q1 q2 q3 q4 B1r
            by_cases hdv : dv = 0
            · subst hdv
              rw [if_neg (by simp)] at HDR
              have S3 := Lib.hid (S2.out rfl)
              clear S2
              rw [if_neg (by simp)] at HDR
              go_wp2_with fail
              go_roundw
              case rel => exact ⟨i1 + 1, Pl.lst nm :: sn1, by omega, by go_num, G2.out, S3.out, by rw [HDR.out]; rfl⟩
              case measure => simp [intOf]; omega
            · have hdv2 : (dv != 0) = true := by simpa using hdv
              rw [if_pos hdv] at HDR
              clear hdv
              go_wp2_with fail
              go_ret
              exact ⟨by rw [HDR.out]; rfl, A1'.out.trans (below_grow G2.out (Nat.le_succ _) HW1.out)⟩
          · have hi2 : i1 = n1 := by omega
            have HX2 : Hid (R = Pl.devs N.nodes sn1 (N.branches.map Pl.dBra ++ Pl.ends N)) := by
              show _ = _
              rw [HEi.out, HTe1.out, List.drop_of_length_le (by have := HL1.out; omega)]
              rfl
            clear HEi hi2
            have B0r := Lib.hid (B0'.out.grown HG1.out (by intro h; injection h with h; omega))
            have k0 := B0r.out.cell
            go_wp2_with fail
            clear k0 B0r
            have HT2 : Hid (∃ T, T = Pl.ends N ∧ R = Pl.devs N.nodes sn1 ((N.branches.drop 0).map Pl.dBra ++ T)) := ⟨_, rfl, by rw [HX2.out]; simp⟩
            obtain ⟨T2, HTe2, HEe2⟩ := HT2.out
            have HTe2 := Lib.hid HTe2
            have HEe2 := Lib.hid HEe2
            clear HX2 HT2
            go_loopw [89] (fun s wr => ∃ (i : Nat) (sn : List (List UInt8)), i ≤ n2 ∧ s = .int .i64 i ∧ Hid (w1.grownBy wr (some (w.heap.size + 1))) ∧ Hid (Seen wr (w.heap.size + 1) (((0 + i0) + i1) + i) sn) ∧ Hid (R = Pl.devs N.nodes sn ((N.branches.drop i).map Pl.dBra ++ T2))) (fun s _ => n2 - (intOf s).toNat)
            case atStart => exact ⟨0, sn1, Nat.zero_le _, rfl, HG1.out, HSn1.out, HEe2.out⟩
            case round =>
              obtain ⟨i2, sn2, hi, rfl, HG2, HSn2, HEi⟩ := hrel
              clear HEe2
              have hN := HN.out
              by_cases hlt : i2 < n2
              · have HMr := Lib.hid (HM1.out.below (below_grow HG2.out (Nat.le_succ _) HW1.out))
                obtain ⟨bb, o, rfl, hl, q0, q1, q2, q3, q4, q5, q6, q7, q8⟩ := bra_at HMr.out.r2 hlt
                simp only at hl q0 q1 q2 q3 q4 q5 q6 q7 q8
                have HDR : Hid (R = Pl.devs N.nodes sn2 (Pl.dBra N.branches[i2] :: ((N.branches.drop (i2 + 1)).map Pl.dBra ++ T2))) := by
                  show _ = _
                  rw [HEi.out, List.drop_eq_getElem_cons hl]
                  rfl
                rw [devs_cons] at HDR
                have hz : (Pl.dBra N.branches[i2]).name.size ≤ maxLen := (HM1.out.sz.names (Pl.dBra N.branches[i2]) (by unfold Pl.allDevs; simp only [List.mem_append]; exact .inr (.inr (.inl (List.mem_map_of_mem (List.getElem_mem hl)))))).1
                have HZ := Lib.hid hz
                clear hz HEi
                have B1r := Lib.hid (B1.out.grown HG2.out (by intro h; injection h with h; omega))
                have k0 := B1r.out.cell
                have lt0 := B1r.out.lt
                unfold Pl.dBra at HDR HZ
                simp only at HDR HZ
                have HBr := Lib.hid (fun w => nbranch_any N.branches[i2] w)
                have HBe : Hid (Pl.braE N.branches[i2] = if Pl.braOut N.branches[i2] = true then 4 else 0) := rfl
                generalize N.branches[i2] = x at *
                generalize Pl.braOut x = bo at *
                generalize Pl.braE x = be at *
                obtain ⟨nm, fr, to_, x, tap, shift, limit, short, hold⟩ := x
                simp only at *
                have HC := Lib.hid (device_go (w.heap.size + 1) (((0 + i0) + i1) + i2) w.heap.size A0 n0 c0 N.nodes sn2 nm 2 [fr, to_] (.cells #[.string nm, .string fr, .string to_, .int .i64 x, .int .i64 tap, .int .i64 shift, .int .i64 limit, .int .i64 short, .int .i64 hold] 53) 9 wr (wr.heap.size + 1) rfl #[.string fr, .string to_] rfl rfl HSn2.out (by omega) (Nat.le_succ _) HMr.out.r0 HMr.out.z0 (by omega) HZ.out)
                go_wp2_with fail
                generalize Pl.devE N.nodes sn2 nm [fr, to_] = dv at *
                refine HC.out.mono ?_
                rintro e w2 ⟨rfl, hg, hbk, hsn⟩
                have G2 := Lib.hid (HG2.out.trans hg)
                have BX := Lib.hid (hbk wr.heap.size _ _ (by have := HSn2.out.lt; omega) (Blk.new_ wr wr.heap.size 53 #[.string nm, .string fr, .string to_, .int .i64 x, .int .i64 tap, .int .i64 shift, .int .i64 limit, .int .i64 short, .int .i64 hold] rfl))
                have S2 := Lib.hid hsn
                clear hg hbk hsn HC k0 lt0 q0 q1 q2 q3 q4 q5 q6 q7 q8 B1r
                by_cases hdv : dv = 0
                · subst hdv
                  rw [if_neg (by simp)] at HDR
                  have S3 := Lib.hid (S2.out rfl)
                  clear S2
                  have k0 := BX.out.cell 0
                  have k1 := BX.out.cell 1
                  have k2 := BX.out.cell 2
                  have k3 := BX.out.cell 3
                  have k4 := BX.out.cell 4
                  have k5 := BX.out.cell 5
                  have k6 := BX.out.cell 6
                  have k7 := BX.out.cell 7
                  have k8 := BX.out.cell 8
                  simp at k0 k1 k2 k3 k4 k5 k6 k7 k8
                  go_wp2_with fail
                  refine (HBr.out _).mono ?_
                  rintro e w3 ⟨rfl, hb⟩
                  have G3 := Lib.hid (G2.out.trans (grownBy_below (r := some (w.heap.size + 1)) hb))
                  have S4 := Lib.hid (S3.out.go hb)
                  clear hb k0 k1 k2 k3 k4 k5 k6 k7 k8 HBr BX
                  cases bo
                  · rw [if_neg (by simp)] at HBe HDR
                    have hbe : be = 0 := HBe.out
                    subst hbe
                    go_wp2_with fail
                    go_roundw
                    case rel => exact ⟨i2 + 1, Pl.lst nm :: sn2, by omega, by go_num, G3.out, S4.out, by rw [HDR.out]; rfl⟩
                    case measure => simp [intOf]; omega
                  · rw [if_pos rfl] at HBe HDR
                    have hbe : be = 4 := HBe.out
                    subst hbe
                    go_wp2_with fail
                    go_ret
                    exact ⟨by rw [HDR.out]; rfl, A1'.out.trans (below_grow G3.out (Nat.le_succ _) HW1.out)⟩
                · have hdv2 : (dv != 0) = true := by simpa using hdv
                  rw [if_pos hdv] at HDR
                  clear hdv
                  go_wp2_with fail
                  go_ret
                  exact ⟨by rw [HDR.out]; rfl, A1'.out.trans (below_grow G2.out (Nat.le_succ _) HW1.out)⟩
              · have hi2 : i2 = n2 := by omega
                have HX3 : Hid (R = Pl.devs N.nodes sn2 (Pl.ends N)) := by
                  show _ = _
                  rw [HEi.out, HTe2.out, List.drop_of_length_le (by have := HL2.out; omega)]
                  rfl
                clear HEi hi2
                have B0r := Lib.hid (B0'.out.grown HG2.out (by intro h; injection h with h; omega))
                have k0 := B0r.out.cell
                have B1r := Lib.hid (B1.out.grown HG2.out (by intro h; injection h with h; omega))
                have j0 := B1r.out.cell
                have HMr := Lib.hid (HM1.out.below (below_grow HG2.out (Nat.le_succ _) HW1.out))
                have HC := Lib.hid (HEnd.out (w.heap.size + 1) (((0 + i0) + i1) + i2) sn2 wr HSn2.out (by omega) (Nat.le_succ _) HMr.out (by omega) (by omega) (by omega))
                go_wp2_with fail
                refine HC.out.mono ?_
                rintro e w2 ⟨rfl, hb⟩
                have G2 := Lib.hid (A1'.out.trans ((below_grow HG2.out (Nat.le_succ _) HW1.out).trans hb))
                clear hb HC k0 j0
                go_wp2_with fail
                go_ret
                exact ⟨by rw [HX3.out]; rfl, G2.out⟩
end Go.Proofs.YtoblpcljhblnmaaGreatDoor
