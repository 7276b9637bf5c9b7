/- netmodel.find and Find, zone.branch and CheckPlace answer as their plain functions say. Condition: the network reads. -/
import Derived.Test.YtpamgeemmbbkkaaIdxFn
namespace Go.Proofs.Ytpamgeemmbbkkaa
open Go.RowKit
set_option maxRecDepth 100000
theorem lt_of_cell9 {w : World} {b o : Nat} {v : Value} (h : w.cell? ⟨b, o, none⟩ = some v) : b < w.heap.size := by
  rcases Nat.lt_or_ge b w.heap.size with hlt | hge
  · exact hlt
  · unfold World.cell? at h
    rw [Array.getElem?_eq_none hge] at h
    cases h
theorem enters_zbr1 : ∀ args w, Sem.run Try.prog (callFunc 56 args) w = .ok (.enter 56 args) w := by intro args w; go_simp
theorem zbr1_any (nm : ByteArray) (bo : Nat) (x : Pl.Bra) (w : World) (hc : w.cell? ⟨bo, 0, none⟩ = some (.string nm)) :
    Calls Try.prog 56 #[.agg #[.string x.name, .string x.from_, .string x.to_, .int .i64 x.x, .int .i64 x.tap, .int .i64 x.shift, .int .i64 x.limit, .int .i64 x.short, .int .i64 x.hold], .pointer (some ⟨bo, 0, none⟩)] w fun e w' => e = .returned (.bool (x.name.toList == nm.toList)) ∧ Below w.heap.size w w' := by
  have HX : Hid (∃ nn : ByteArray, nn = x.name) := ⟨_, rfl⟩
  obtain ⟨nn, hnn⟩ := HX.out
  rw [← hnn]
  clear hnn HX
  have lt := lt_of_cell9 hc
  go_enter Try.func56, Try.ntmps56
  go_wp2_with fail
  all_goals
    go_ret
    exact ⟨rfl, (Below.refl _ _).alloc (Nat.le_refl _) _⟩
/-- the search by name -/
theorem zbr_idx (A : Option Addr) (n c : Nat) (l : List Pl.Bra) (nm : ByteArray) (bo : Nat) (w : World) (hn : n ≤ 9223372036854775807) (hc : w.cell? ⟨bo, 0, none⟩ = some (.string nm)) (h : Elems braC 9 w w.heap.size A n l) :
    Calls Try.prog 55 #[.slice A n c, .func (.func 56) #[] #[.pointer (some ⟨bo, 0, none⟩)]] w fun e w' => e = .returned (.int .i64 (Pl.idxOf (fun z : Pl.Bra => z.name.toList == nm.toList) l)) ∧ Below w.heap.size w w' :=
  idxfn_bra 56 #[.pointer (some ⟨bo, 0, none⟩)] _ enters_zbr1 A n c l w hn h fun x w' hb => zbr1_any nm bo x w' (by rw [hb.cell (p := ⟨bo, 0, none⟩) (lt_of_cell9 hc)]; exact hc)
theorem enters_find1 : ∀ args w, Sem.run Try.prog (callFunc 62 args) w = .ok (.enter 62 args) w := by intro args w; go_simp
theorem find1_any (nm : ByteArray) (bo : Nat) (x : Pl.Swi) (w : World) (hc : w.cell? ⟨bo, 0, none⟩ = some (.string nm)) :
    Calls Try.prog 62 #[.agg #[.string x.name, .string x.a, .string x.b, .bool x.breaker, .bool x.opened], .pointer (some ⟨bo, 0, none⟩)] w fun e w' => e = .returned (.bool (x.name.toList == nm.toList)) ∧ Below w.heap.size w w' := by
  have HX : Hid (∃ nn : ByteArray, nn = x.name) := ⟨_, rfl⟩
  obtain ⟨nn, hnn⟩ := HX.out
  rw [← hnn]
  clear hnn HX
  have lt := lt_of_cell9 hc
  go_enter Try.func62, Try.ntmps62
  go_wp2_with fail
  all_goals
    go_ret
    exact ⟨rfl, (Below.refl _ _).alloc (Nat.le_refl _) _⟩
/-- the search by name -/
theorem find1_idx (A : Option Addr) (n c : Nat) (l : List Pl.Swi) (nm : ByteArray) (bo : Nat) (w : World) (hn : n ≤ 9223372036854775807) (hc : w.cell? ⟨bo, 0, none⟩ = some (.string nm)) (h : Elems swiC 5 w w.heap.size A n l) :
    Calls Try.prog 61 #[.slice A n c, .func (.func 62) #[] #[.pointer (some ⟨bo, 0, none⟩)]] w fun e w' => e = .returned (.int .i64 (Pl.idxOf (fun z : Pl.Swi => z.name.toList == nm.toList) l)) ∧ Below w.heap.size w w' :=
  idxfn_swi 62 #[.pointer (some ⟨bo, 0, none⟩)] _ enters_find1 A n c l w hn h fun x w' hb => find1_any nm bo x w' (by rw [hb.cell (p := ⟨bo, 0, none⟩) (lt_of_cell9 hc)]; exact hc)
theorem enters_find2 : ∀ args w, Sem.run Try.prog (callFunc 63 args) w = .ok (.enter 63 args) w := by intro args w; go_simp
theorem find2_any (nm : ByteArray) (bo : Nat) (x : Pl.Bra) (w : World) (hc : w.cell? ⟨bo, 0, none⟩ = some (.string nm)) :
    Calls Try.prog 63 #[.agg #[.string x.name, .string x.from_, .string x.to_, .int .i64 x.x, .int .i64 x.tap, .int .i64 x.shift, .int .i64 x.limit, .int .i64 x.short, .int .i64 x.hold], .pointer (some ⟨bo, 0, none⟩)] w fun e w' => e = .returned (.bool (x.name.toList == nm.toList)) ∧ Below w.heap.size w w' := by
  have HX : Hid (∃ nn : ByteArray, nn = x.name) := ⟨_, rfl⟩
  obtain ⟨nn, hnn⟩ := HX.out
  rw [← hnn]
  clear hnn HX
  have lt := lt_of_cell9 hc
  go_enter Try.func63, Try.ntmps63
  go_wp2_with fail
  all_goals
    go_ret
    exact ⟨rfl, (Below.refl _ _).alloc (Nat.le_refl _) _⟩
/-- the search by name -/
theorem find2_idx (A : Option Addr) (n c : Nat) (l : List Pl.Bra) (nm : ByteArray) (bo : Nat) (w : World) (hn : n ≤ 9223372036854775807) (hc : w.cell? ⟨bo, 0, none⟩ = some (.string nm)) (h : Elems braC 9 w w.heap.size A n l) :
    Calls Try.prog 55 #[.slice A n c, .func (.func 63) #[] #[.pointer (some ⟨bo, 0, none⟩)]] w fun e w' => e = .returned (.int .i64 (Pl.idxOf (fun z : Pl.Bra => z.name.toList == nm.toList) l)) ∧ Below w.heap.size w w' :=
  idxfn_bra 63 #[.pointer (some ⟨bo, 0, none⟩)] _ enters_find2 A n c l w hn h fun x w' hb => find2_any nm bo x w' (by rw [hb.cell (p := ⟨bo, 0, none⟩) (lt_of_cell9 hc)]; exact hc)
theorem enters_find3 : ∀ args w, Sem.run Try.prog (callFunc 65 args) w = .ok (.enter 65 args) w := by intro args w; go_simp
theorem find3_any (nm : ByteArray) (bo : Nat) (x : Pl.Gen) (w : World) (hc : w.cell? ⟨bo, 0, none⟩ = some (.string nm)) :
    Calls Try.prog 65 #[.agg #[.string x.name, .string x.node, .int .i64 x.least, .int .i64 x.most, .int .i64 x.ramp], .pointer (some ⟨bo, 0, none⟩)] w fun e w' => e = .returned (.bool (x.name.toList == nm.toList)) ∧ Below w.heap.size w w' := by
  have HX : Hid (∃ nn : ByteArray, nn = x.name) := ⟨_, rfl⟩
  obtain ⟨nn, hnn⟩ := HX.out
  rw [← hnn]
  clear hnn HX
  have lt := lt_of_cell9 hc
  go_enter Try.func65, Try.ntmps65
  go_wp2_with fail
  all_goals
    go_ret
    exact ⟨rfl, (Below.refl _ _).alloc (Nat.le_refl _) _⟩
/-- the search by name -/
theorem find3_idx (A : Option Addr) (n c : Nat) (l : List Pl.Gen) (nm : ByteArray) (bo : Nat) (w : World) (hn : n ≤ 9223372036854775807) (hc : w.cell? ⟨bo, 0, none⟩ = some (.string nm)) (h : Elems genC 5 w w.heap.size A n l) :
    Calls Try.prog 64 #[.slice A n c, .func (.func 65) #[] #[.pointer (some ⟨bo, 0, none⟩)]] w fun e w' => e = .returned (.int .i64 (Pl.idxOf (fun z : Pl.Gen => z.name.toList == nm.toList) l)) ∧ Below w.heap.size w w' :=
  idxfn_gen 65 #[.pointer (some ⟨bo, 0, none⟩)] _ enters_find3 A n c l w hn h fun x w' hb => find3_any nm bo x w' (by rw [hb.cell (p := ⟨bo, 0, none⟩) (lt_of_cell9 hc)]; exact hc)
theorem enters_find4 : ∀ args w, Sem.run Try.prog (callFunc 67 args) w = .ok (.enter 67 args) w := by intro args w; go_simp
theorem find4_any (nm : ByteArray) (bo : Nat) (x : Pl.Loa) (w : World) (hc : w.cell? ⟨bo, 0, none⟩ = some (.string nm)) :
    Calls Try.prog 67 #[.agg #[.string x.name, .string x.node, .int .i64 x.demand], .pointer (some ⟨bo, 0, none⟩)] w fun e w' => e = .returned (.bool (x.name.toList == nm.toList)) ∧ Below w.heap.size w w' := by
  have HX : Hid (∃ nn : ByteArray, nn = x.name) := ⟨_, rfl⟩
  obtain ⟨nn, hnn⟩ := HX.out
  rw [← hnn]
  clear hnn HX
  have lt := lt_of_cell9 hc
  go_enter Try.func67, Try.ntmps67
  go_wp2_with fail
  all_goals
    go_ret
    exact ⟨rfl, (Below.refl _ _).alloc (Nat.le_refl _) _⟩
/-- the search by name -/
theorem find4_idx (A : Option Addr) (n c : Nat) (l : List Pl.Loa) (nm : ByteArray) (bo : Nat) (w : World) (hn : n ≤ 9223372036854775807) (hc : w.cell? ⟨bo, 0, none⟩ = some (.string nm)) (h : Elems loaC 3 w w.heap.size A n l) :
    Calls Try.prog 66 #[.slice A n c, .func (.func 67) #[] #[.pointer (some ⟨bo, 0, none⟩)]] w fun e w' => e = .returned (.int .i64 (Pl.idxOf (fun z : Pl.Loa => z.name.toList == nm.toList) l)) ∧ Below w.heap.size w w' :=
  idxfn_loa 67 #[.pointer (some ⟨bo, 0, none⟩)] _ enters_find4 A n c l w hn h fun x w' hb => find4_any nm bo x w' (by rw [hb.cell (p := ⟨bo, 0, none⟩) (lt_of_cell9 hc)]; exact hc)
theorem enters_find5 : ∀ args w, Sem.run Try.prog (callFunc 69 args) w = .ok (.enter 69 args) w := by intro args w; go_simp
theorem find5_any (nm : ByteArray) (bo : Nat) (x : Pl.Sto) (w : World) (hc : w.cell? ⟨bo, 0, none⟩ = some (.string nm)) :
    Calls Try.prog 69 #[.agg #[.string x.name, .string x.node, .int .i64 x.charge, .int .i64 x.discharge, .int .i64 x.capacity], .pointer (some ⟨bo, 0, none⟩)] w fun e w' => e = .returned (.bool (x.name.toList == nm.toList)) ∧ Below w.heap.size w w' := by
  have HX : Hid (∃ nn : ByteArray, nn = x.name) := ⟨_, rfl⟩
  obtain ⟨nn, hnn⟩ := HX.out
  rw [← hnn]
  clear hnn HX
  have lt := lt_of_cell9 hc
  go_enter Try.func69, Try.ntmps69
  go_wp2_with fail
  all_goals
    go_ret
    exact ⟨rfl, (Below.refl _ _).alloc (Nat.le_refl _) _⟩
/-- the search by name -/
theorem find5_idx (A : Option Addr) (n c : Nat) (l : List Pl.Sto) (nm : ByteArray) (bo : Nat) (w : World) (hn : n ≤ 9223372036854775807) (hc : w.cell? ⟨bo, 0, none⟩ = some (.string nm)) (h : Elems stoC 5 w w.heap.size A n l) :
    Calls Try.prog 68 #[.slice A n c, .func (.func 69) #[] #[.pointer (some ⟨bo, 0, none⟩)]] w fun e w' => e = .returned (.int .i64 (Pl.idxOf (fun z : Pl.Sto => z.name.toList == nm.toList) l)) ∧ Below w.heap.size w w' :=
  idxfn_sto 69 #[.pointer (some ⟨bo, 0, none⟩)] _ enters_find5 A n c l w hn h fun x w' hb => find5_any nm bo x w' (by rw [hb.cell (p := ⟨bo, 0, none⟩) (lt_of_cell9 hc)]; exact hc)
def Pl.idxSwi (N : Pl.Net) (nm : ByteArray) : Int := Pl.idxOf (fun z : Pl.Swi => z.name.toList == nm.toList) N.switches
def Pl.idxBra (N : Pl.Net) (nm : ByteArray) : Int := Pl.idxOf (fun z : Pl.Bra => z.name.toList == nm.toList) N.branches
def Pl.idxGen (N : Pl.Net) (nm : ByteArray) : Int := Pl.idxOf (fun z : Pl.Gen => z.name.toList == nm.toList) N.gens
def Pl.idxLoa (N : Pl.Net) (nm : ByteArray) : Int := Pl.idxOf (fun z : Pl.Loa => z.name.toList == nm.toList) N.loads
def Pl.idxSto (N : Pl.Net) (nm : ByteArray) : Int := Pl.idxOf (fun z : Pl.Sto => z.name.toList == nm.toList) N.stores
/-- netmodel.find: what a name denotes -/
def Pl.findK (N : Pl.Net) (nm : ByteArray) : ByteArray × Int :=
  if 0 ≤ Pl.idxS N.nodes nm then (⟨#[110, 111, 100, 101]⟩, Pl.idxS N.nodes nm)
  else if 0 ≤ Pl.idxSwi N nm then (⟨#[115, 119, 105, 116, 99, 104]⟩, Pl.idxSwi N nm)
  else if 0 ≤ Pl.idxBra N nm then (⟨#[98, 114, 97, 110, 99, 104]⟩, Pl.idxBra N nm)
  else if 0 ≤ Pl.idxGen N nm then (⟨#[103, 101, 110]⟩, Pl.idxGen N nm)
  else if 0 ≤ Pl.idxLoa N nm then (⟨#[108, 111, 97, 100]⟩, Pl.idxLoa N nm)
  else if 0 ≤ Pl.idxSto N nm then (⟨#[115, 116, 111, 114, 101]⟩, Pl.idxSto N nm)
  else (⟨#[]⟩, -1)
theorem Pl.idxOf_ge {α : Type} (p : α → Bool) (l : List α) : -1 ≤ Pl.idxOf p l := by
  unfold Pl.idxOf
  cases l.findIdx? p <;> simp <;> omega
set_option maxHeartbeats 3200000 in
theorem find_any (M : MNet) (nm : ByteArray) (w : World) (hM : NetIn w w.heap.size M) :
    Calls Try.prog 37 #[vNet M, .string nm] w fun e w' => e = .returned (.tuple #[.string (Pl.findK M.N nm).1, .int .i64 (Pl.findK M.N nm).2]) ∧ Below w.heap.size w w' := by
  have HE : Hid (Pl.findK M.N nm = if 0 ≤ Pl.idxS M.N.nodes nm then (⟨#[110, 111, 100, 101]⟩, Pl.idxS M.N.nodes nm) else if 0 ≤ Pl.idxSwi M.N nm then (⟨#[115, 119, 105, 116, 99, 104]⟩, Pl.idxSwi M.N nm) else if 0 ≤ Pl.idxBra M.N nm then (⟨#[98, 114, 97, 110, 99, 104]⟩, Pl.idxBra M.N nm) else if 0 ≤ Pl.idxGen M.N nm then (⟨#[103, 101, 110]⟩, Pl.idxGen M.N nm) else if 0 ≤ Pl.idxLoa M.N nm then (⟨#[108, 111, 97, 100]⟩, Pl.idxLoa M.N nm) else if 0 ≤ Pl.idxSto M.N nm then (⟨#[115, 116, 111, 114, 101]⟩, Pl.idxSto M.N nm) else (⟨#[]⟩, -1)) := rfl
  have C0 := Lib.hid (fun (w1 : World) (hb : Below w.heap.size w w1) => index_txt M.A0 M.n0 M.c0 M.N.nodes nm w1 w.heap.size hM.z0 ((hM.below hb).r0))
  have C1 := Lib.hid (fun (w1 : World) (hb : Below w.heap.size w w1) (hc : w1.cell? ⟨w.heap.size + 1, 0, none⟩ = some (.string nm)) => find1_idx M.A1 M.n1 M.c1 M.N.switches nm (w.heap.size + 1) w1 hM.z1 hc ((hM.below hb).r1.more hb.size))
  have C2 := Lib.hid (fun (w1 : World) (hb : Below w.heap.size w w1) (hc : w1.cell? ⟨w.heap.size + 1, 0, none⟩ = some (.string nm)) => find2_idx M.A2 M.n2 M.c2 M.N.branches nm (w.heap.size + 1) w1 hM.z2 hc ((hM.below hb).r2.more hb.size))
  have C3 := Lib.hid (fun (w1 : World) (hb : Below w.heap.size w w1) (hc : w1.cell? ⟨w.heap.size + 1, 0, none⟩ = some (.string nm)) => find3_idx M.A3 M.n3 M.c3 M.N.gens nm (w.heap.size + 1) w1 hM.z3 hc ((hM.below hb).r3.more hb.size))
  have C4 := Lib.hid (fun (w1 : World) (hb : Below w.heap.size w w1) (hc : w1.cell? ⟨w.heap.size + 1, 0, none⟩ = some (.string nm)) => find4_idx M.A4 M.n4 M.c4 M.N.loads nm (w.heap.size + 1) w1 hM.z4 hc ((hM.below hb).r4.more hb.size))
  have C5 := Lib.hid (fun (w1 : World) (hb : Below w.heap.size w w1) (hc : w1.cell? ⟨w.heap.size + 1, 0, none⟩ = some (.string nm)) => find5_idx M.A5 M.n5 M.c5 M.N.stores nm (w.heap.size + 1) w1 hM.z5 hc ((hM.below hb).r5.more hb.size))
  change Hid (∀ (w1 : World), Below w.heap.size w w1 → (w1.cell? ⟨w.heap.size + 1, 0, none⟩ = some (.string nm)) → Calls Try.prog _ _ w1 fun e w' => e = .returned (.int .i64 (Pl.idxSwi M.N nm)) ∧ _) at C1
  change Hid (∀ (w1 : World), Below w.heap.size w w1 → (w1.cell? ⟨w.heap.size + 1, 0, none⟩ = some (.string nm)) → Calls Try.prog _ _ w1 fun e w' => e = .returned (.int .i64 (Pl.idxBra M.N nm)) ∧ _) at C2
  change Hid (∀ (w1 : World), Below w.heap.size w w1 → (w1.cell? ⟨w.heap.size + 1, 0, none⟩ = some (.string nm)) → Calls Try.prog _ _ w1 fun e w' => e = .returned (.int .i64 (Pl.idxGen M.N nm)) ∧ _) at C3
  change Hid (∀ (w1 : World), Below w.heap.size w w1 → (w1.cell? ⟨w.heap.size + 1, 0, none⟩ = some (.string nm)) → Calls Try.prog _ _ w1 fun e w' => e = .returned (.int .i64 (Pl.idxLoa M.N nm)) ∧ _) at C4
  change Hid (∀ (w1 : World), Below w.heap.size w w1 → (w1.cell? ⟨w.heap.size + 1, 0, none⟩ = some (.string nm)) → Calls Try.prog _ _ w1 fun e w' => e = .returned (.int .i64 (Pl.idxSto M.N nm)) ∧ _) at C5
  generalize Pl.findK M.N nm = R at *
  obtain ⟨R1, R2⟩ := R
  simp only at *
  generalize Pl.idxS M.N.nodes nm = i0 at *
  generalize Pl.idxSwi M.N nm = i1 at *
  generalize Pl.idxBra M.N nm = i2 at *
  generalize Pl.idxGen M.N nm = i3 at *
  generalize Pl.idxLoa M.N nm = i4 at *
  generalize Pl.idxSto M.N nm = i5 at *
  clear hM
  obtain ⟨N, A0, n0, c0, A1, n1, c1, A2, n2, c2, A3, n3, c3, A4, n4, c4, A5, n5, c5⟩ := M
  unfold vNet netC at *
  simp only at *
  have F0 := Lib.hid (((Below.refl w.heap.size w).alloc (Nat.le_refl _) (.cells #[.slice A0 n0 c0, .slice A1 n1 c1, .slice A2 n2 c2, .slice A3 n3 c3, .slice A4 n4 c4, .slice A5 n5 c5] 29)).alloc (by simp) (.cells #[.string nm] 9))
  have B0 := Lib.hid ((Blk.new_ w w.heap.size 29 #[.slice A0 n0 c0, .slice A1 n1 c1, .slice A2 n2 c2, .slice A3 n3 c3, .slice A4 n4 c4, .slice A5 n5 c5] rfl).alloc (.cells #[.string nm] 9))
  have B1 := Lib.hid (Blk.new_ (w.alloc (.cells #[.slice A0 n0 c0, .slice A1 n1 c1, .slice A2 n2 c2, .slice A3 n3 c3, .slice A4 n4 c4, .slice A5 n5 c5] 29)) (w.heap.size + 1) 9 #[.string nm] (by simp))
  go_enter Try.func37, Try.ntmps37
  go_wp2_with fail
  refine (C0.out _ F0.out).mono ?_
  rintro e w1 ⟨rfl, rfl⟩
  clear C0
  by_cases h0 : 0 ≤ i0
  · rw [if_pos h0] at HE
    go_wp2_with fail
    go_ret2
    injection HE.out with e1 e2
    exact ⟨by rw [e1, e2]; rfl, F0.out⟩
  · rw [if_neg h0] at HE
    have k0 := B0.out.cell
    go_wp2_with fail
    refine (C1.out _ F0.out (B1.out.cell 0)).mono ?_
    rintro e w2 ⟨rfl, hb⟩
    have F1 := Lib.hid (F0.out.trans (hb.mono F0.out.size))
    have B0 := Lib.hid (B0.out.go hb)
    have B1 := Lib.hid (B1.out.go hb)
    clear hb k0 C1
    by_cases h1 : 0 ≤ i1
    · rw [if_pos h1] at HE
      go_wp2_with fail
      go_ret2
      injection HE.out with e1 e2
      exact ⟨by rw [e1, e2]; rfl, F1.out⟩
    · rw [if_neg h1] at HE
      have k0 := B0.out.cell
      go_wp2_with fail
      refine (C2.out _ F1.out (B1.out.cell 0)).mono ?_
      rintro e w3 ⟨rfl, hb⟩
      have F2 := Lib.hid (F1.out.trans (hb.mono F1.out.size))
      have B0 := Lib.hid (B0.out.go hb)
      have B1 := Lib.hid (B1.out.go hb)
      clear hb k0 C2
      by_cases h2 : 0 ≤ i2
      · rw [if_pos h2] at HE
        go_wp2_with fail
        go_ret2
        injection HE.out with e1 e2
        exact ⟨by rw [e1, e2]; rfl, F2.out⟩
      · rw [if_neg h2] at HE
        have k0 := B0.out.cell
        go_wp2_with fail
        refine (C3.out _ F2.out (B1.out.cell 0)).mono ?_
        rintro e w4 ⟨rfl, hb⟩
        have F3 := Lib.hid (F2.out.trans (hb.mono F2.out.size))
        have B0 := Lib.hid (B0.out.go hb)
        have B1 := Lib.hid (B1.out.go hb)
        clear hb k0 C3
        by_cases h3 : 0 ≤ i3
        · rw [if_pos h3] at HE
          go_wp2_with fail
          go_ret2
          injection HE.out with e1 e2
          exact ⟨by rw [e1, e2]; rfl, F3.out⟩
        · rw [if_neg h3] at HE
          have k0 := B0.out.cell
          go_wp2_with fail
          refine (C4.out _ F3.out (B1.out.cell 0)).mono ?_
          rintro e w5 ⟨rfl, hb⟩
          have F4 := Lib.hid (F3.out.trans (hb.mono F3.out.size))
          have B0 := Lib.hid (B0.out.go hb)
          have B1 := Lib.hid (B1.out.go hb)
          clear hb k0 C4
          by_cases h4 : 0 ≤ i4
          · rw [if_pos h4] at HE
            go_wp2_with fail
            go_ret2
            injection HE.out with e1 e2
            exact ⟨by rw [e1, e2]; rfl, F4.out⟩
          · rw [if_neg h4] at HE
            have k0 := B0.out.cell
            go_wp2_with fail
            refine (C5.out _ F4.out (B1.out.cell 0)).mono ?_
            rintro e w6 ⟨rfl, hb⟩
            have F5 := Lib.hid (F4.out.trans (hb.mono F4.out.size))
            have B0 := Lib.hid (B0.out.go hb)
            have B1 := Lib.hid (B1.out.go hb)
            clear hb k0 C5
            by_cases h5 : 0 ≤ i5
            · rw [if_pos h5] at HE
              go_wp2_with fail
              go_ret2
              injection HE.out with e1 e2
              exact ⟨by rw [e1, e2]; rfl, F5.out⟩
            · rw [if_neg h5] at HE
              go_wp2_with fail
              go_ret2
              injection HE.out with e1 e2
              exact ⟨by rw [e1, e2]; rfl, F5.out⟩
end Go.Proofs.Ytpamgeemmbbkkaa
