/- append of a whole slice onto a row of the call's own, the source nil, empty or not. No condition. A call's own map of names: which names were seen. No condition. netmodel's checker of a device's name and nodes answers as its plain function says, and remembers the name. Condition: the map is the call's own, the texts read. netmodel.Branch and the small tests of numbers answer as their plain functions say. No condition. -/
import Derived.Test.YtpamgeemmbbkkaaBase
import Derived.Maps.AppendAt
import Derived.Deep.AppendLies
import Derived.RegionTactic
import Derived.OwnWalk
import Derived.Test.YtpamgeemmbbkkaaPName
import Derived.Maps.OwnOps
import Derived.Maps.OwnSet
import Derived.Maps.Views
import Derived.StringKeys
import Derived.Test.YtpamgeemmbbkkaaNet
import Derived.Test.YtpamgeemmbbkkaaName
import Derived.Test.YtpamgeemmbbkkaaBlk02
namespace Go.Proofs.Ytpamgeemmbbkkaa
open Go.RowKit
section
variable {P : Program} (w : World)

theorem run_append_of_nil (base : Nat) (t ty e : TypeId) (i : TypeInfo) (size : Nat) (ht : P.underlying t = some (.slice e)) (hi : P.info? e = some i)
    (v : Value) (n : Nat) (xs : List Value) (hown : w.ownsRow base e size v n xs) (c : Nat) : (Builtin.append_ #[t, t] ty #[v, .slice none 0 c]).run P w = .ok v w := by
  rcases hown.2 with ⟨rfl, rfl⟩ | ⟨g, cap, cur, rfl, _, _, hnc, _⟩
  · simp [Builtin.append_, run_underlying ht, sizeOf, typeInfo, hi, Builtin.lenOf, Builtin.firstCells]
  · simp [Builtin.append_, run_underlying ht, sizeOf, typeInfo, hi, Builtin.lenOf, Builtin.firstCells, hnc, storeCells]

theorem run_append_any (base : Nat) (t ty e : TypeId) (i : TypeInfo) (z : Value) (size bytes : Nat) (ht : P.underlying t = some (.slice e)) (hi : P.info? e = some i) (hz : i.zero = some z)
    (hsize : i.size = size) (hby : i.bytes = bytes) (hzs : z.cells.size = size) (hsz : 0 < size)
    (v : Value) (n : Nat) (xs : List Value) (hown : w.ownsRow base e size v n xs)
    (B : Nat) (A : Option Addr) (m c : Nat) (news : List Value) (hr : Reads w B size A m news) (h1 : ∀ u ∈ news, u.oneCell' = true)
    (h63 : n + m ≤ maxLen) (hbytes : (n + m) * bytes ≤ 140737488355328) (hbase : base ≤ w.heap.size) :
    ∃ v' w', (Builtin.append_ #[t, t] ty #[v, .slice A m c]).run P w = .ok v' w' ∧ w'.ownsRow base e size v' (n + m) (xs ++ news) ∧ w.grownBy w' v.ownBlock ∧
      (v'.ownBlock = v.ownBlock ∨ v'.ownBlock = some w.heap.size) := by
  rcases A with _ | ad
  · have hm : m = 0 := by
      rcases Nat.eq_zero_or_pos m with h0 | h0
      · exact h0
      · obtain ⟨ad, h, _⟩ := hr.2 h0
        cases h
    subst hm
    have hn : news = [] := List.eq_nil_of_length_eq_zero (by simpa using hr.1)
    subst hn
    exact ⟨v, w, run_append_of_nil w base t ty e i size ht hi v n xs hown c, by simpa using hown, World.grownBy.refl w _, .inl rfl⟩
  · have hcells : ∀ j u, news[j]? = some u → w.cell? (ad.add j) = some u := by
      intro j u hu
      rcases Nat.eq_zero_or_pos m with h0 | h0
      · subst h0
        have hn : news = [] := List.eq_nil_of_length_eq_zero (by simpa using hr.1)
        subst hn
        simp at hu
      · obtain ⟨ad', h, _, hc⟩ := hr.2 h0
        injection h with h
        subst h
        exact hc j u hu
    obtain ⟨v', w', hrun, h2, h3, _, h5⟩ := run_append_own_at (P := P) w base t ty e i z size bytes ht hi hz hsize hby hzs hsz v n xs hown ad m c news hr.1 hcells h1 h63 hbytes hbase
    exact ⟨v', w', hrun, h2, h3, h5⟩

theorem wp_append_any {o : Oper} {a : Act} {K : Act → World → Prop} {Q : Exit → Act → World → Prop} (s x : Operand) (t : TypeId)
    (ho : o.op = .call { callee := .builtin .append, args := #[s, x], argTypes := #[t, t] })
    (base : Nat) (e : TypeId) (i : TypeInfo) (z : Value) (size bytes : Nat) (ht : P.underlying t = some (.slice e)) (hi : P.info? e = some i) (hz : i.zero = some z)
    (hsize : i.size = size) (hby : i.bytes = bytes) (hzs : z.cells.size = size) (hsz : 0 < size)
    (v : Value) (n : Nat) (xs : List Value) (hs : a.eval s = v) (hown : w.ownsRow base e size v n xs)
    (B : Nat) (A : Option Addr) (m c : Nat) (news : List Value) (hx : a.eval x = .slice A m c) (hr : Reads w B size A m news) (h1 : ∀ u ∈ news, u.oneCell' = true)
    (h63 : n + m ≤ maxLen) (hbytes : (n + m) * bytes ≤ 140737488355328) (hbase : base ≤ w.heap.size)
    (h : ∀ v' w', w'.ownsRow base e size v' (n + m) (xs ++ news) → w.grownBy w' v.ownBlock → (v'.ownBlock = v.ownBlock ∨ v'.ownBlock = some w.heap.size) → K (a.put o.dst v') w') : o.wp P a w K Q := by
  obtain ⟨v', w', hrun, h2, h3, h4⟩ := run_append_any (P := P) w base t o.type e i z size bytes ht hi hz hsize hby hzs hsz v n xs hown B A m c news hr h1 h63 hbytes hbase
  unfold Oper.wp execOp
  simp only [ho, resolve, invoke, builtin, Sem.run_bind, Sem.run_pure, Result.andThen_ok, List.map_toArray, List.map_cons, List.map_nil, hs, hx, hrun]
  exact h v' w' h2 h3 h4

theorem wpList_append_any {ops : Array Oper} {rest : List Oper} {o : Oper} {a : Act} {Q : Exit → Act → World → Prop} (hgd : o.guard = none) (s x : Operand) (t : TypeId)
    (ho : o.op = .call { callee := .builtin .append, args := #[s, x], argTypes := #[t, t] })
    (base : Nat) (e : TypeId) (i : TypeInfo) (z : Value) (size bytes : Nat) (ht : P.underlying t = some (.slice e)) (hi : P.info? e = some i) (hz : i.zero = some z)
    (hsize : i.size = size) (hby : i.bytes = bytes) (hzs : z.cells.size = size) (hsz : 0 < size)
    (v : Value) (n : Nat) (xs : List Value) (hs : a.eval s = v) (hown : w.ownsRow base e size v n xs)
    (B : Nat) (A : Option Addr) (m c : Nat) (news : List Value) (hx : a.eval x = .slice A m c) (hr : Reads w B size A m news) (h1 : ∀ u ∈ news, u.oneCell' = true)
    (h63 : n + m ≤ maxLen) (hbytes : (n + m) * bytes ≤ 140737488355328) (hbase : base ≤ w.heap.size)
    (h : ∀ v' w', w'.ownsRow base e size v' (n + m) (xs ++ news) → w.grownBy w' v.ownBlock → (v'.ownBlock = v.ownBlock ∨ v'.ownBlock = some w.heap.size) → wpList P ops Q rest (a.put o.dst v') w') : wpList P ops Q (o :: rest) a w :=
  wpList_plain hgd fun _ hK => wp_append_any w s x t ho base e i z size bytes ht hi hz hsize hby hzs hsz v n xs hs hown B A m c news hx hr h1 h63 hbytes hbase fun v' w' h2 h3 h4 => hK _ _ (h v' w' h2 h3 h4)

/-- the same under a guard that is met -/
theorem wpList_append_any_if {ops : Array Oper} {rest : List Oper} {o : Oper} {a : Act} {Q : Exit → Act → World → Prop} (hw : Region.wanted o (yielded ops a.tmps) = true) (s x : Operand) (t : TypeId)
    (ho : o.op = .call { callee := .builtin .append, args := #[s, x], argTypes := #[t, t] })
    (base : Nat) (e : TypeId) (i : TypeInfo) (z : Value) (size bytes : Nat) (ht : P.underlying t = some (.slice e)) (hi : P.info? e = some i) (hz : i.zero = some z)
    (hsize : i.size = size) (hby : i.bytes = bytes) (hzs : z.cells.size = size) (hsz : 0 < size)
    (v : Value) (n : Nat) (xs : List Value) (hs : a.eval s = v) (hown : w.ownsRow base e size v n xs)
    (B : Nat) (A : Option Addr) (m c : Nat) (news : List Value) (hx : a.eval x = .slice A m c) (hr : Reads w B size A m news) (h1 : ∀ u ∈ news, u.oneCell' = true)
    (h63 : n + m ≤ maxLen) (hbytes : (n + m) * bytes ≤ 140737488355328) (hbase : base ≤ w.heap.size)
    (h : ∀ v' w', w'.ownsRow base e size v' (n + m) (xs ++ news) → w.grownBy w' v.ownBlock → (v'.ownBlock = v.ownBlock ∨ v'.ownBlock = some w.heap.size) → wpList P ops Q rest (a.put o.dst v') w') : wpList P ops Q (o :: rest) a w := by
  unfold wpList
  rw [if_pos hw]
  exact Or.inl (wp_append_any w s x t ho base e i z size bytes ht hi hz hsize hby hzs hsz v n xs hs hown B A m c news hx hr h1 h63 hbytes hbase h)

theorem step_append_any {ops : Array Oper} {o : Oper} {a : Act} {K : Act → World → Prop} {Q : Exit → Act → World → Prop} {E : Prop} (hgd : o.guard = none) (s x : Operand) (t : TypeId)
    (ho : o.op = .call { callee := .builtin .append, args := #[s, x], argTypes := #[t, t] })
    (base : Nat) (e : TypeId) (i : TypeInfo) (z : Value) (size bytes : Nat) (ht : P.underlying t = some (.slice e)) (hi : P.info? e = some i) (hz : i.zero = some z)
    (hsize : i.size = size) (hby : i.bytes = bytes) (hzs : z.cells.size = size) (hsz : 0 < size)
    (v : Value) (n : Nat) (xs : List Value) (hs : a.eval s = v) (hown : w.ownsRow base e size v n xs)
    (B : Nat) (A : Option Addr) (m c : Nat) (news : List Value) (hx : a.eval x = .slice A m c) (hr : Reads w B size A m news) (h1 : ∀ u ∈ news, u.oneCell' = true)
    (h63 : n + m ≤ maxLen) (hbytes : (n + m) * bytes ≤ 140737488355328) (hbase : base ≤ w.heap.size)
    (h : ∀ v' w', w'.ownsRow base e size v' (n + m) (xs ++ news) → w.grownBy w' v.ownBlock → (v'.ownBlock = v.ownBlock ∨ v'.ownBlock = some w.heap.size) → K (a.put o.dst v') w') :
    if Region.wanted o (yielded ops a.tmps) = true then Oper.wp P o a w K Q else E := by
  have hw : Region.wanted o (yielded ops a.tmps) = true := by simp [Region.wanted, hgd]
  rw [if_pos hw]
  exact wp_append_any w s x t ho base e i z size bytes ht hi hz hsize hby hzs hsz v n xs hs hown B A m c news hx hr h1 h63 hbytes hbase h
end
end Go.Proofs.Ytpamgeemmbbkkaa
namespace Go.Proofs.Ytpamgeemmbbkkaa
open Go.RowKit Go.Maps
set_option maxRecDepth 100000
theorem name_keyed : Keyed Try.prog 9 := string_keyed Try.underlying9
/-- the map at block b holds true at the names of the list, and nothing else -/
def Seen (w : World) (b n : Nat) (seen : List (List UInt8)) : Prop :=
  ∃ D : DataW Unit, w.ownsMap Try.prog 9 (plainElem Try.prog 4) b n D ∧ ∀ s : ByteArray, D.atKey (.string s.data.toList) (.lit (.bool false)) = .lit (.bool (decide (s.data.toList ∈ seen)))
theorem elem_bool (x : Bool) : (plainElem Try.prog 4 (.bool x) : Option (DataW Unit × List MemPlace)) = some (.lit (.bool x), []) := by
  unfold plainElem
  rw [Try.underlying4]
theorem elem_bool_inv {v : Value} {d : DataW Unit} {p : List MemPlace} (h : plainElem Try.prog 4 v = some (d, p)) : ∃ x, v = .bool x ∧ d = .lit (.bool x) := by
  unfold plainElem at h
  rw [Try.underlying4] at h
  cases v <;> simp at h
  exact ⟨_, rfl, h.1.symm⟩
theorem zero_bool (w : World) : (zeroValue 4).run Try.prog w = .ok (.bool false) w := by kernel_rfl
theorem Seen.made (w : World) : Seen (w.alloc (.map #[] 0)) w.heap.size 0 [] := ⟨_, World.ownsMap_made _ _ _ _, fun s => by simp; rfl⟩
theorem Seen.look {w : World} {b n : Nat} {seen : List (List UInt8)} (h : Seen w b n seen) (s : ByteArray) (hs : s.size ≤ maxLen) : (Instr.lookup 121 (.map (some b)) (.string s) false).run Try.prog w = .ok (.bool (decide (s.data.toList ∈ seen))) w := by
  obtain ⟨D, hown, hat⟩ := h
  obtain ⟨v, ps, hrun, hv⟩ := hown.lookup name_keyed Try.underlying121 (zero_bool w) (elem_bool false) (WideMaps.keyOf_string_mk (s := s) Try.underlying9 hs)
  obtain ⟨x, rfl, hx⟩ := elem_bool_inv hv
  rw [hat s] at hx
  injection hx with hx
  injection hx with hx
  rw [hx]
  exact hrun
theorem Seen.kept {w w' : World} {b n : Nat} {seen : List (List UInt8)} {row : Option Nat} (h : Seen w b n seen) (hg : w.grownBy w' row) (hne : some b ≠ row) : Seen w' b n seen := by
  obtain ⟨D, hown, hat⟩ := h
  exact ⟨D, hown.kept hg hne, hat⟩
theorem Seen.lt {w : World} {b n : Nat} {seen : List (List UInt8)} (h : Seen w b n seen) : b < w.heap.size := by
  obtain ⟨D, hown, _⟩ := h
  exact hown.lt
theorem Seen.go {w w' : World} {b n : Nat} {seen : List (List UInt8)} (h : Seen w b n seen) (hb : Below w.heap.size w w') : Seen w' b n seen := h.kept (row := none) ⟨hb.os, hb.tape, hb.output, hb.size, fun i hi _ => hb.block i hi⟩ (by simp)
theorem Seen.alloc {w : World} {b n : Nat} {seen : List (List UInt8)} (h : Seen w b n seen) (o : Obj) : Seen (w.alloc o) b n seen := h.kept (World.grownBy_alloc w o none) (by simp)
theorem Seen.drew {w : World} {b n : Nat} {seen : List (List UInt8)} (h : Seen w b n seen) : Seen w.drew b n seen := h
theorem Seen.put {w : World} {b n : Nat} {seen : List (List UInt8)} (h : Seen w b n seen) (hn : n < maxLen) (s : ByteArray) (hs : s.size ≤ maxLen) :
    ∃ w', (Instr.mapUpdate 121 (.map (some b)) (.string s) (.bool true)).run Try.prog w = .ok () w' ∧ Seen w' b (n + 1) (s.data.toList :: seen) ∧ w.grownBy w' (some b) := by
  obtain ⟨D, hown, hat⟩ := h
  obtain ⟨w', hrun, h1, h2⟩ := hown.update name_keyed Try.underlying121 hn (WideMaps.keyOf_string_mk (s := s) Try.underlying9 hs) (elem_bool true)
  refine ⟨w', hrun, ⟨_, h1, fun t => ?_⟩, h2⟩
  by_cases ht : t.data.toList = s.data.toList
  · rw [ht, Maps.atKey_put_same hown.isMap (by trivial)]
    simp
  · rw [Maps.atKey_put_other (by intro e; injection e with e; exact ht e), hat t]
    simp [ht]
end Go.Proofs.Ytpamgeemmbbkkaa
namespace Go.Proofs.Ytpamgeemmbbkkaa
open Go.RowKit
theorem Reads.grown2 {w w' : World} {B size n : Nat} {A : Option Addr} {xs : List Value} {b : Nat} (h : Reads w B size A n xs) (hg : w.grownBy w' (some b)) (hB : B ≤ w.heap.size) (hb : ∀ ad, A = some ad → ad.block ≠ b) : Reads w' B size A n xs :=
  ⟨h.1, fun hn => by
    obtain ⟨ad, e, hlt, hc⟩ := h.2 hn
    refine ⟨ad, e, hlt, fun j u hu => ?_⟩
    rw [World.cell?_of_block (hg.block _ (by rw [block_of_add]; omega) (by rw [block_of_add]; intro h; injection h with h; exact hb ad e h))]
    exact hc j u hu⟩
theorem grownBy_below {w w' : World} {r : Option Nat} (h : Below w.heap.size w w') : w.grownBy w' r := ⟨h.os, h.tape, h.output, h.size, fun i hi _ => h.block i hi⟩
theorem grownBy_drewN {w w' : World} {r : Option Nat} (h : w.grownBy w' r) (n : Nat) : w.grownBy (w'.drewN n) r := ⟨h.os, h.tape, h.output, h.size, h.block⟩
theorem Seen.drewN {w : World} {b n : Nat} {seen : List (List UInt8)} (h : Seen w b n seen) (k : Nat) : Seen (w.drewN k) b n seen := h.kept (row := none) ⟨rfl, rfl, rfl, Nat.le_refl _, fun _ _ _ => rfl⟩ (by simp)
set_option maxHeartbeats 1600000 in
set_option maxRecDepth 100000 in
theorem device_any (b n BB : Nat) (A : Option Addr) (k c : Nat) (nodes : List ByteArray) (seen : List (List UInt8)) (nm : ByteArray) (D : Option Addr) (m mc : Nat) (ats : List ByteArray) (w : World)
    (hs : Seen w b n seen) (hn : n < 1000000) (hBB : BB ≤ b) (hr : Reads w BB 1 A k (txts nodes)) (hk : k ≤ 9223372036854775807) (ha : Reads w w.heap.size 1 D m (txts ats)) (hm : m ≤ 2) (hD : ∀ ad, D = some ad → ad.block ≠ b) (hsz : nm.size ≤ maxLen) :
    Calls Try.prog 52 #[.agg #[.map (some b), .slice A k c], .string nm, .slice D m mc] w fun e w' => e = .returned (.int .i64 (Pl.devE nodes seen nm ats)) ∧ w.grownBy w' (some b) ∧ (Pl.devE nodes seen nm ats = 0 → Seen w' b (n + 1) (Pl.lst nm :: seen)) := by
  have HN := Lib.hid (fun w => name_any nm w (by unfold maxLen at hsz; omega))
  have HE : Hid (Pl.devE nodes seen nm ats = if Pl.nameB nm = false then 5 else if Pl.lst nm ∈ seen then 7 else if ats.all (Pl.inB nodes) = false then 6 else if ats.length = 2 ∧ Pl.lst (ats.getD 0 ByteArray.empty) = Pl.lst (ats.getD 1 ByteArray.empty) then 3 else 0) := by show _ = _; unfold Pl.devE; rfl
  generalize Pl.devE nodes seen nm ats = R at *
  have A0 := (Below.refl w.heap.size w).alloc (Nat.le_refl _) (.cells #[.map (some b), .slice A k c] 123)
  have B0 := Lib.hid (Blk.new_ w w.heap.size 123 #[.map (some b), .slice A k c] rfl)
  have S0 := Lib.hid (hs.alloc (.cells #[.map (some b), .slice A k c] 123))
  have HBB := Lib.hid hBB
  have R0 := Lib.hid (hr.below (A0.mono (by have := hs.lt; omega)))
  have D0 := Lib.hid (ha.go A0)
  have F0 := Lib.hid A0
  have HDB := Lib.hid hD
  have HBL := Lib.hid hs.lt
  clear hs hr ha A0 hD hBB
  have HSZ := Lib.hid hsz
  clear hsz
  go_enter Try.func52, Try.ntmps52
  go_wp2_with fail
  refine (HN.out _).mono ?_
  rintro e w1 ⟨rfl, hb⟩
  have F1 := Lib.hid (F0.out.trans (hb.mono F0.out.size))
  have B1 := Lib.hid (B0.out.go hb)
  have S1 := Lib.hid (S0.out.go hb)
  have R1 := Lib.hid (R0.out.below (hb.mono (by have := HBL.out; have := HBB.out; simp; omega)))
  have D1 := Lib.hid (D0.out.go hb)
  clear hb HN B0 S0 R0 D0 F0
  have c1 := B1.out.cell
  have hl := S1.out.look nm HSZ.out
  cases hnm : Pl.nameB nm
  · rw [hnm, if_pos rfl] at HE
    go_wp2_with fail
    go_ret
    exact ⟨by rw [HE.out]; rfl, grownBy_below F1.out, fun h => by rw [HE.out] at h; omega⟩
  · rw [hnm, if_neg (by simp)] at HE
    by_cases hin : Pl.lst nm ∈ seen
    · rw [if_pos hin] at HE
      rw [show nm.data.toList = Pl.lst nm from rfl, decide_eq_true hin] at hl
      go_wp2_with fail
      go_ret
      exact ⟨by rw [HE.out]; rfl, grownBy_below F1.out, fun h => by rw [HE.out] at h; omega⟩
    · rw [if_neg hin] at HE
      rw [show nm.data.toList = Pl.lst nm from rfl, decide_eq_false hin] at hl
      obtain ⟨w2, hup, S2, hg⟩ := S1.out.put (by unfold maxLen; omega) nm HSZ.out
      go_wp2_with fail
      have G2 := Lib.hid ((grownBy_below (r := some b) F1.out).trans hg)
      have R2 := Lib.hid (R1.out.grown hg (by have := HBL.out; have := HBB.out; have := F1.out.size; omega) (by intro g h; injection h with h; have := HBB.out; omega))
      have D2 := Lib.hid (D1.out.grown2 hg (Nat.le_refl _) HDB.out)
      have B2 := Lib.hid (B1.out.grown hg (by intro h; injection h with h; have := HBL.out; omega))
      have Q2 := Lib.hid (fun (_ : R = 0) => S2)
      clear hl hg hup c1 B1 S1 R1 D1 F1 S2
      have HL := Lib.hid (txts_len D2.out)
      have HLR := Lib.hid (txts_len R2.out)
      go_loop [8, 23, 24, 25, 26, 27, 28, 29, 30, 31] (fun _ i _ _ _ _ _ _ _ _ => ∃ j : Nat, j ≤ m ∧ i = .int .i64 j ∧ Hid (∀ q (hq : q < ats.length), q < j → Pl.inB nodes ats[q] = true)) (fun _ i _ _ _ _ _ _ _ _ => m - (intOf i).toNat)
      case atStart => exact ⟨0, Nat.zero_le _, rfl, Lib.hid (fun q _ h => absurd h (by omega))⟩
      case round =>
        obtain ⟨j, hj, rfl, hall⟩ := hrel
        by_cases hlt : j < m
        · obtain ⟨bb, o, rfl, _, hl2, hc⟩ := txts_at D2.out hlt
          have q1 := B2.out.cell 1
          simp at q1
          have HX := Lib.hid (contains_txt A k c nodes ats[j] w2 BB hk R2.out)
          cases hin2 : Pl.inB nodes ats[j]
          · have HF : Hid (ats.all (Pl.inB nodes) = false) := by
              show _ = _
              rw [List.all_eq_false]
              exact ⟨ats[j], List.getElem_mem hl2, by simp [hin2]⟩
            rw [HF.out, if_pos rfl] at HE
            rw [hin2] at HX
            generalize ats[j] = aj at *
            go_wp2_with fail
            refine HX.out.mono ?_
            rintro e w3 ⟨rfl, rfl⟩
            go_wp2_with fail
            go_ret
            exact ⟨by rw [HE.out]; rfl, G2.out, fun h => by rw [HE.out] at h; omega⟩
          · rw [hin2] at HX
            have HI := Lib.hid hin2
            have HN2 : Hid (∀ q (hq : q < ats.length), q < j + 1 → Pl.inB nodes ats[q] = true) := by
              intro q hq hqj
              by_cases e : q = j
              · subst e; exact HI.out
              · exact hall.out q hq (by omega)
            clear hin2 HI hall
            generalize ats[j] = aj at *
            go_wp2_with fail
            refine HX.out.mono ?_
            rintro e w3 ⟨rfl, rfl⟩
            go_wp2_with fail
            go_round
            case rel => exact ⟨j + 1, by omega, by go_num, HN2⟩
            case measure => simp [intOf]; omega
        · have HF : Hid (ats.all (Pl.inB nodes) = true) := by
            show _ = _
            rw [List.all_eq_true]
            intro x hx
            obtain ⟨q, hq, rfl⟩ := List.getElem_of_mem hx
            exact hall.out q hq (by have := HL.out; omega)
          rw [HF.out, if_neg (by simp)] at HE
          by_cases hm2 : m = 2
          · subst hm2
            obtain ⟨bb, o, rfl, _, h0, hc0⟩ := txts_at D2.out (k := 0) (by omega)
            obtain ⟨bb', o', e, _, h1, hc1⟩ := txts_at D2.out (k := 1) (by omega)
            injection e with e; injection e with e1 e2; subst e1 e2
            have hL2 : ats.length = 2 := HL.out
            have e0 : ats.getD 0 ByteArray.empty = ats[0] := by simp [List.getD_eq_getElem?_getD, hL2]
            have e1 : ats.getD 1 ByteArray.empty = ats[1] := by simp [List.getD_eq_getElem?_getD, hL2]
            rw [e0, e1] at HE
            clear e0 e1
            have HL2 := Lib.hid hL2
            clear hL2 HF hall
            rw [Nat.add_zero] at hc0
            generalize ats[0] = a0 at *
            generalize ats[1] = a1 at *
            by_cases heq : Pl.lst a0 = Pl.lst a1
            · rw [if_pos ⟨HL2.out, heq⟩] at HE
              have : a0 = a1 := Pl.lst_inj heq
              subst this
              clear heq
              go_wp2_with fail
              go_quiet (fail)
              all_goals go_wp2_with fail
              go_ret
              exact ⟨by rw [HE.out]; rfl, grownBy_drewN G2.out _, fun h => by rw [HE.out] at h; omega⟩
            · rw [if_neg (fun h => heq h.2)] at HE
              have hne : (a0.toList == a1.toList) = false := by
                rw [beq_eq_false_iff_ne, ByteArray.toList_eq, ByteArray.toList_eq]
                exact heq
              clear heq
              go_wp2_with fail
              go_quiet (fail)
              all_goals go_wp2_with fail
              go_ret
              exact ⟨by rw [HE.out]; rfl, grownBy_drewN G2.out _, fun h => (Q2.out h).drewN _⟩
          · have hd : ((m : Int) == 2) = false := by rw [beq_eq_false_iff_ne]; omega
            rw [if_neg (by have := HL.out; omega)] at HE
            clear HF hall
            go_wp2_with fail
            go_quiet (fail)
            all_goals go_wp2_with fail
            go_ret
            exact ⟨by rw [HE.out]; rfl, grownBy_drewN G2.out _, fun h => (Q2.out h).drewN _⟩
end Go.Proofs.Ytpamgeemmbbkkaa
namespace Go.Proofs.Ytpamgeemmbbkkaa
open Go.RowKit
set_option maxRecDepth 100000
theorem nout_any (n lo hi : Int) (w : World) : Calls Try.prog 90 #[.int .i64 n, .int .i64 lo, .int .i64 hi] w fun e w' => e = .returned (.bool (Pl.outN n lo hi)) ∧ w' = w := by
  have HE : Hid (Pl.outN n lo hi = (decide (n < lo) || decide (hi < n))) := rfl
  generalize Pl.outN n lo hi = R at *
  by_cases h1 : n < lo
  · rw [decide_eq_true h1] at HE
    go_enter Try.func90, Try.ntmps90
    go_wp2_with fail
    go_ret
    exact ⟨by rw [HE.out]; rfl, rfl⟩
  · rw [decide_eq_false h1] at HE
    by_cases h2 : hi < n
    · rw [decide_eq_true h2] at HE
      go_enter Try.func90, Try.ntmps90
      go_wp2_with fail
      go_ret
      exact ⟨by rw [HE.out]; rfl, rfl⟩
    · rw [decide_eq_false h2] at HE
      go_enter Try.func90, Try.ntmps90
      go_wp2_with fail
      go_ret
      exact ⟨by rw [HE.out]; rfl, rfl⟩
theorem npermitted_any (n : Int) (w : World) : Calls Try.prog 91 #[.int .i64 n] w fun e w' => e = .returned (.bool (!Pl.outN n 0 100000)) ∧ w' = w := by
  have HO := Lib.hid (fun w => nout_any n 0 100000 w)
  generalize Pl.outN n 0 100000 = R at *
  go_enter Try.func91, Try.ntmps91
  go_wp2_with fail
  refine (HO.out _).mono ?_
  rintro e w1 ⟨rfl, rfl⟩
  go_wp2_with fail
  go_ret
  exact ⟨by cases R <;> rfl, rfl⟩
theorem or6 (a b c d e f : Bool) : a = true ∨ (a = false ∧ b = true) ∨ (a = false ∧ b = false ∧ c = true) ∨ (a = false ∧ b = false ∧ c = false ∧ d = true) ∨ (a = false ∧ b = false ∧ c = false ∧ d = false ∧ e = true) ∨ (a = false ∧ b = false ∧ c = false ∧ d = false ∧ e = false ∧ f = true) ∨ (a = false ∧ b = false ∧ c = false ∧ d = false ∧ e = false ∧ f = false) := by
  cases a <;> cases b <;> cases c <;> cases d <;> cases e <;> cases f <;> simp
set_option maxHeartbeats 1600000 in
theorem nbranch_any (b : Pl.Bra) (w : World) : Calls Try.prog 53 #[.agg #[.string b.name, .string b.from_, .string b.to_, .int .i64 b.x, .int .i64 b.tap, .int .i64 b.shift, .int .i64 b.limit, .int .i64 b.short, .int .i64 b.hold]] w fun e w' => e = .returned (.int .i64 (Pl.braE b)) ∧ Below w.heap.size w w' := by
  have HE : Hid (Pl.braE b = if (Pl.outN b.x 1 10000 || Pl.outN b.tap 500 1500 || Pl.outN b.shift (-1000) 1000 || Pl.outN b.limit 0 100000 || Pl.outN b.short b.limit 100000 || Pl.outN b.hold 0 200000) = true then 4 else 0) := rfl
  generalize Pl.braE b = R at *
  obtain ⟨nm, fr, to_, x, tap, shift, limit, short, hold⟩ := b
  simp only at *
  have H1 := Lib.hid (fun w => nout_any x 1 10000 w)
  have H2 := Lib.hid (fun w => nout_any tap 500 1500 w)
  have H3 := Lib.hid (fun w => nout_any shift (-1000) 1000 w)
  have H4 := Lib.hid (fun w => nout_any limit 0 100000 w)
  have H5 := Lib.hid (fun w => nout_any short limit 100000 w)
  have H6 := Lib.hid (fun w => nout_any hold 0 200000 w)
  have A0 := Lib.hid ((Below.refl w.heap.size w).alloc (Nat.le_refl _) (.cells #[.string nm, .string fr, .string to_, .int .i64 x, .int .i64 tap, .int .i64 shift, .int .i64 limit, .int .i64 short, .int .i64 hold] 42))
  generalize Pl.outN x 1 10000 = o1 at *
  generalize Pl.outN tap 500 1500 = o2 at *
  generalize Pl.outN shift (-1000) 1000 = o3 at *
  generalize Pl.outN limit 0 100000 = o4 at *
  generalize Pl.outN short limit 100000 = o5 at *
  generalize Pl.outN hold 0 200000 = o6 at *
  go_enter Try.func53, Try.ntmps53
  rcases or6 o1 o2 o3 o4 o5 o6 with rfl | ⟨rfl, rfl⟩ | ⟨rfl, rfl, rfl⟩ | ⟨rfl, rfl, rfl, rfl⟩ | ⟨rfl, rfl, rfl, rfl, rfl⟩ | ⟨rfl, rfl, rfl, rfl, rfl, rfl⟩ | ⟨rfl, rfl, rfl, rfl, rfl, rfl⟩
  all_goals
    go_wp2_with (go_at_call 90; (first | (with_reducible refine (H1.out _).mono ?_) | (with_reducible refine (H2.out _).mono ?_) | (with_reducible refine (H3.out _).mono ?_) | (with_reducible refine (H4.out _).mono ?_) | (with_reducible refine (H5.out _).mono ?_) | (with_reducible refine (H6.out _).mono ?_)); rintro e w1 ⟨rfl, rfl⟩)
    go_ret
    exact ⟨by rw [HE.out]; rfl, A0.out⟩
end Go.Proofs.Ytpamgeemmbbkkaa
