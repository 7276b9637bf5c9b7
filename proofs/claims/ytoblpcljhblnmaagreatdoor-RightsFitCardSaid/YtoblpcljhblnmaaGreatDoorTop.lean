/- Plain laws for topology.Get: buses and islands of a network; nothing of the program stands here. station.edges, station.Buses: the edges of switches, and the buses of the nodes. Condition: the network reads and passes netmodel.Check. topology.Get: buses and islands of a network. Condition: the network reads and passes netmodel.Check. -/
import Derived.Test.YtoblpcljhblnmaaGreatDoorQuiet
import Derived.Test.YtoblpcljhblnmaaGreatDoorGraph
import Derived.Test.YtoblpcljhblnmaaGreatDoorNetChk
import Derived.Test.YtoblpcljhblnmaaGreatDoorMid
namespace Go.Proofs.YtoblpcljhblnmaaGreatDoor.Pl
def nodeAt (zs : List ByteArray) (x : ByteArray) : Int := idxOf (fun z => decide (lst z = lst x)) zs
theorem nodeAt_in {zs : List ByteArray} {x : ByteArray} (h : x ∈ zs) : 0 ≤ nodeAt zs x ∧ nodeAt zs x < zs.length := by
  unfold nodeAt idxOf
  cases hf : zs.findIdx? (fun z => decide (lst z = lst x)) with
  | none =>
    rw [List.findIdx?_eq_none_iff] at hf
    have := hf x h
    simp at this
  | some i =>
    rw [List.findIdx?_eq_some_iff_getElem] at hf
    obtain ⟨hi, _⟩ := hf
    exact ⟨Int.natCast_nonneg _, by show (i : Int) < _; omega⟩
def swE (N : Net) (o : Bool) : List (Int × Int) := (N.switches.filter fun s => s.opened == o).map fun s => (nodeAt N.nodes s.a, nodeAt N.nodes s.b)
theorem swE_in {N : Net} (h : NetOk N) (o : Bool) : EdgesIn N.nodes.length (swE N o) := by
  intro x hx
  unfold swE at hx
  obtain ⟨s, hs, rfl⟩ := List.mem_map.1 hx
  obtain ⟨a, b, _⟩ := h.swi s (List.mem_filter.1 hs).1
  have h1 := nodeAt_in a
  have h2 := nodeAt_in b
  exact ⟨h1.1, h1.2, h2.1, h2.2⟩
theorem swE_len {N : Net} (h : NetOk N) (o : Bool) : (swE N o).length ≤ 32 := by
  unfold swE
  rw [List.length_map]
  exact Nat.le_trans (List.length_filter_le _ _) h.ns
def brE (N : Net) (bus : List Int) : List (Int × Int) := N.branches.map fun b => (lab bus (nodeAt N.nodes b.from_), lab bus (nodeAt N.nodes b.to_))
def many (bus : List Int) : Int := bus.foldl (fun m b => max m (b + 1)) 0
theorem many_snoc (bus : List Int) (b : Int) : many (bus ++ [b]) = max (many bus) (b + 1) := by unfold many; rw [List.foldl_append]; rfl
theorem many_bd {m : Nat} : ∀ l : List Int, (∀ x ∈ l, 0 ≤ x ∧ x < m) → 0 ≤ many l ∧ many l ≤ m := by
  intro l
  induction l using snocInd with
  | h0 => intro _; unfold many; simp
  | h1 l b ih =>
    intro hb
    have := ih fun x hx => hb x (List.mem_append_left _ hx)
    have := hb b (by simp)
    rw [many_snoc]
    omega
theorem many_eq {E : List (Int × Int)} {wo : Int} {n m : Nat} {bus : List Int} (h : GOut E wo n m n bus) : many bus = m := by
  have hlab : ∀ k (hk : k < bus.length), 0 ≤ bus[k] ∧ bus[k] < m := fun k hk => by
    have hn := h.len
    have h1 := h.low (k : Int) (by omega) (by omega)
    have h2 := h.rng (k : Int) (by omega) (by omega)
    rw [lab_at hk] at h1 h2
    omega
  have hle := @many_bd m
  have hge : ∀ l : List Int, ∀ x ∈ l, x + 1 ≤ many l := by
    intro l
    induction l using snocInd with
    | h0 => intro x hx; cases hx
    | h1 l b ih =>
      intro x hx
      rw [many_snoc]
      rw [List.mem_append, List.mem_singleton] at hx
      rcases hx with hx | hx
      · have := ih x hx; omega
      · omega
  have h1 := hle bus fun x hx => by
    obtain ⟨k, hk, rfl⟩ := List.getElem_of_mem hx
    exact hlab k hk
  rcases Nat.eq_zero_or_pos m with h0 | h0
  · omega
  · obtain ⟨v, v0, v1, e, _⟩ := h.all ((m : Int) - 1) (by omega) (by omega)
    have hn := h.len
    have hv : v.toNat < bus.length := by omega
    have e2 : lab bus v = bus[v.toNat] := by
      have := lab_at hv
      rwa [Int.toNat_of_nonneg v0] at this
    have := hge bus bus[v.toNat] (List.getElem_mem hv)
    omega
structure TopOk (N : Net) (bus isl : List Int) (mb mi : Nat) : Prop where
  buses : GOut (swE N false) (-1) N.nodes.length mb N.nodes.length bus
  isles : GOut (brE N bus) (-1) mb mi mb isl
theorem GOut.at_ {E : List (Int × Int)} {wo : Int} {n m : Nat} {out : List Int} (h : GOut E wo n m n out) {v : Int} (h0 : 0 ≤ v) (h1 : v < n) : 0 ≤ lab out v ∧ lab out v < m := by
  have := h.low v h0 h1
  rcases h.rng v h0 h1 with r | r
  · omega
  · exact r
theorem brE_in {N : Net} (h : NetOk N) {bus : List Int} {mb : Nat} (hb : GOut (swE N false) (-1) N.nodes.length mb N.nodes.length bus) : EdgesIn mb (brE N bus) := by
  intro x hx
  unfold brE at hx
  obtain ⟨b, hbm, rfl⟩ := List.mem_map.1 hx
  obtain ⟨a, c, _⟩ := h.bra b hbm
  have h1 := nodeAt_in a
  have h2 := nodeAt_in c
  have h3 := hb.at_ h1.1 h1.2
  have h4 := hb.at_ h2.1 h2.2
  exact ⟨h3.1, h3.2, h4.1, h4.2⟩
theorem lab_zero {E : List (Int × Int)} {wo : Int} {n m : Nat} {out : List Int} (h : GOut E wo n m n out) (hn : 0 < n) : lab out 0 = 0 := by
  have h0 := h.at_ (v := 0) (by omega) (by omega)
  obtain ⟨v, v0, v1, e, ho⟩ := h.all (lab out 0) h0.1 h0.2
  have hm : 0 < (m : Int) := by omega
  obtain ⟨u, u0, u1, e2, ho2⟩ := h.all 0 (by omega) hm
  rcases Int.lt_or_eq_of_le u0 with c | c
  · have := ho2 0 (by omega) c
    omega
  · rw [← c] at e2; exact e2
theorem lnk_none {wo a b : Int} (h : Lnk [] wo a b) : a = b := by
  induction h with
  | refl => rfl
  | fwd _ k _ he => simp at he
  | bwd _ k _ he => simp at he
theorem two_free {wo : Int} {m : Nat} {out : List Int} (h : GOut [] wo 2 m 2 out) : out = [0, 1] ∧ m = 2 := by
  have e0 := lab_zero h (by omega)
  have h1 := h.at_ (v := 1) (by omega) (by omega)
  have hm := h.few
  have hne : lab out 1 ≠ 0 := fun e => by
    have := lnk_none (h.same 0 1 (by omega) (by omega) (by omega) (by omega) (by rw [e0, e]) (by omega))
    omega
  have hl := h.len
  match out, hl with
  | [a, b], _ =>
    have ea : a = 0 := e0
    have eb : lab [a, b] 1 = b := rfl
    rw [eb] at h1 hne
    have : b = 1 := by omega
    rw [ea, this]
    exact ⟨rfl, by omega⟩
end Go.Proofs.YtoblpcljhblnmaaGreatDoor.Pl
namespace Go.Proofs.YtoblpcljhblnmaaGreatDoor
open Go.RowKit
set_option maxRecDepth 100000
theorem indexb_any (A : Option Addr) (n c : Nat) (zs : List ByteArray) (nm : ByteArray) (w : World) (B : Nat) (hn : n ≤ 9223372036854775807) (h : Reads w B 1 A n (txts zs)) :
    Calls Tryz.prog 23 #[.slice A n c, .string nm] w fun e w' => e = .returned (.int .i64 (Pl.nodeAt zs nm)) ∧ Below w.heap.size w w' := by
  refine (index_txt A n c zs nm w B hn h).mono ?_
  rintro e w' ⟨h1, rfl⟩
  exact ⟨h1, Below.refl _ _⟩
theorem below_oneS (w : World) (o : Obj) : Below w.heap.size w (w.alloc o) := (Below.refl _ w).alloc (Nat.le_refl _) o
theorem own_lt9 {w : World} {base size n : Nat} {e : TypeId} {v : Value} {xs : List Value} (h : w.ownsRow base e size v n xs) {g : Nat} (hg : v.ownBlock = some g) : base ≤ g ∧ g < w.heap.size := by
  rcases h.2 with ⟨h2, _⟩ | ⟨g', cap, cur, rfl, hb, hh, _⟩
  · rw [h2] at hg; cases hg
  · have : g' = g := by simpa [Value.ownBlock] using hg
    subst this
    exact ⟨hb, (Array.getElem?_eq_some_iff.1 hh).1⟩
def Apart (v v' : Value) : Prop := ∀ g, v.ownBlock = some g → v'.ownBlock ≠ some g
theorem Apart.symm {v v' : Value} (h : Apart v v') : Apart v' v := fun g h1 h2 => h g h2 h1
theorem own_apart {w w' : World} {base size n : Nat} {e : TypeId} {u v : Value} {xs : List Value} (h : w.ownsRow base e size v n xs) (hg : w.grownBy w' u.ownBlock) (ha : Apart u v) : w'.ownsRow base e size v n xs := by
  refine h.kept hg ?_
  cases hv : v.ownBlock with
  | none => exact .inl rfl
  | some k => exact .inr (fun e => ha k e.symm hv)
theorem Apart.next {w : World} {base size n : Nat} {e : TypeId} {u u' v : Value} {xs : List Value} (ha : Apart u v) (hv : w.ownsRow base e size v n xs) (h : u'.ownBlock = u.ownBlock ∨ u'.ownBlock = some w.heap.size) : Apart u' v := by
  intro g h1 h2
  rcases h with h | h
  · exact ha g (by rw [← h]; exact h1) h2
  · rw [h] at h1
    injection h1 with h1
    have := (own_lt9 hv h2).2
    omega
theorem info_e2 : (Tryz.prog.info? 223).map (fun i => (i.zero, i.size, i.bytes)) = some (some (.agg #[.int .i64 0, .int .i64 0]), 2, 16) := by kernel_rfl
theorem blk_readsE {w : World} {g : Nat} {t : TypeId} {cs : Array Value} {size : Nat} (h : Blk w g t cs) (hs : cs.size = size) : Reads w w.heap.size size (some ⟨g, 0, none⟩) 1 cs.toList := by
  refine ⟨by simp [hs], fun _ => ⟨_, rfl, Blk.lt h, fun j u hu => ?_⟩⟩
  rw [Srt.addr_add, Blk.cell h j]
  simpa using hu
theorem edgs2_snoc (E : List (Int × Int)) (a b : Int) : edgs2 E ++ [.int .i64 a, .int .i64 b] = edgs2 (E ++ [(a, b)]) := by unfold edgs2; rw [List.flatMap_append]; rfl
def SEdgesSaid (E : List (Int × Int)) (w : World) (e : Ending) (w' : World) : Prop :=
  ∃ (A : Option Addr) (n c : Nat) (v : Value), e = .returned (.tuple #[.slice A n c, v]) ∧ Reads w' w'.heap.size 2 A n (edgs2 E) ∧ Below w.heap.size w w'
set_option maxHeartbeats 6400000 in
theorem sedges_any (M : MNet) (w : World) (hM : NetIn w w.heap.size M) (hs : M.n1 ≤ 1000) (op : Bool) :
    Calls Tryz.prog 170 #[vNet M, .bool op] w (SEdgesSaid (Pl.swE M.N op) w) := by
  obtain ⟨N, A0, n0, c0, A1, n1, c1, A2, n2, c2, A3, n3, c3, A4, n4, c4, A5, n5, c5⟩ := M
  unfold vNet netC at *
  simp only at *
  have HL1 : Hid (N.switches.length = n1) := hM.r1.2
  have z0 : n0 ≤ 9223372036854775807 := hM.z0
  have hA := Blk.new_ w w.heap.size 29 #[.slice A0 n0 c0, .slice A1 n1 c1, .slice A2 n2 c2, .slice A3 n3 c3, .slice A4 n4 c4, .slice A5 n5 c5] rfl
  have hD := (Below.refl w.heap.size w).alloc (Nat.le_refl _) (.cells #[.slice A0 n0 c0, .slice A1 n1 c1, .slice A2 n2 c2, .slice A3 n3 c3, .slice A4 n4 c4, .slice A5 n5 c5] 29)
  have hsz : (w.alloc (.cells #[.slice A0 n0 c0, .slice A1 n1 c1, .slice A2 n2 c2, .slice A3 n3 c3, .slice A4 n4 c4, .slice A5 n5 c5] 29)).heap.size = w.heap.size + 1 := by simp
  have BN1 := Lib.hid hA
  have HM1 := Lib.hid (hM.go hD)
  have D0 := Lib.hid hD
  have ca := hA.cell
  have la := hA.lt
  obtain ⟨i0, hi0, hz0, hz1, hz2⟩ := info_parts info_e2
  obtain ⟨j0, ji0, jz0, jz1, jz2⟩ := info_parts info_int
  clear hM hA hD
  go_enter Tryz.func170, Tryz.ntmps170
  go_wp2_with fail
  generalize w.alloc (.cells #[.slice A0 n0 c0, .slice A1 n1 c1, .slice A2 n2 c2, .slice A3 n3 c3, .slice A4 n4 c4, .slice A5 n5 c5] 29) = w1 at *
  obtain ⟨bn, hbn⟩ : ∃ bn : Nat, bn = w.heap.size := ⟨_, rfl⟩
  have HBN := Lib.hid hbn
  rw [← hbn] at BN1 ⊢
  have hbb : bn < w1.heap.size := by rw [hbn]; exact la
  clear ca la hbn hsz
  have OL0 : Hid (w1.ownsRow w1.heap.size 223 2 (.slice none 0 0) 0 (edgs2 [])) := World.ownsRow_nil _ _ _ _
  have OW0 : Hid (w1.ownsRow w1.heap.size 3 1 (.slice none 0 0) 0 []) := World.ownsRow_nil _ _ _ _
  go_loopw [6, 7, 13] (fun lv wv i wr => ∃ (k : Nat) (Al : Option Addr) (nl cl : Nat) (Aw : Option Addr) (nw cw : Nat) (xs : List Value), k ≤ n1 ∧ i = .int .i64 k ∧ lv = .slice Al nl cl ∧ wv = .slice Aw nw cw ∧ nl ≤ k ∧ nw ≤ k ∧ Hid (wr.ownsRow w1.heap.size 223 2 (.slice Al nl cl) nl (edgs2 (((N.switches.take k).filter fun s => s.opened == op).map fun s => (Pl.nodeAt N.nodes s.a, Pl.nodeAt N.nodes s.b)))) ∧
      Hid (wr.ownsRow w1.heap.size 3 1 (.slice Aw nw cw) nw xs) ∧ Hid (Apart (.slice Al nl cl) (.slice Aw nw cw)) ∧ Hid (Below w1.heap.size w1 wr)) (fun _ _ i _ => n1 - (intOf i).toNat)
  case atStart => exact ⟨0, none, 0, 0, none, 0, 0, [], Nat.zero_le _, rfl, rfl, rfl, Nat.le_refl _, Nat.le_refl _, by simpa using OL0, OW0, (fun g h => by simp [Value.ownBlock] at h), Lib.hid (Below.refl _ _)⟩
  case round =>
    clear OL0 OW0
    obtain ⟨k, Al, nl, cl, Aw, nw, cw, xs, hk, rfl, rfl, rfl, hnl, hnw, OL, OW, HAP, D1⟩ := hrel
    have HM := Lib.hid (HM1.out.go D1.out)
    have BN := Lib.hid (BN1.out.below D1.out hbb)
    by_cases hlt : k < n1
    · obtain ⟨b, o, rfl, hl, q0, q1, q2, q3, q4⟩ := swi_at HM.out.r1 (k := k) hlt
      have HT : Hid (N.switches.take (k + 1) = N.switches.take k ++ [N.switches[k]]) := by show _ = _; rw [List.take_succ_eq_append_getElem hl]
      generalize N.switches[k] = s at *
      have hkn : (k : Int) < (n1 : Int) := by omega
      have hb5 := (Below.refl wr.heap.size wr).alloc (Nat.le_refl _) (.cells #[.string s.name, .string s.a, .string s.b, .bool s.breaker, .bool s.opened] 189)
      have BS := Lib.hid (Blk.new_ wr wr.heap.size 189 #[.string s.name, .string s.a, .string s.b, .bool s.breaker, .bool s.opened] rfl)
      have HLB : Hid (∀ g, (Value.slice Al nl cl).ownBlock = some g → g < wr.heap.size) := fun g hg => (own_lt9 OL.out hg).2
      have cs := BS.out.cell
      have ls := BS.out.lt
      by_cases hop : s.opened = op
      · subst hop
        go_upto_region 7 with fail
        clear cs ls q0 q1 q2 q3 q4
        replace OL := Lib.hid (own_go OL.out hb5)
        replace OW := Lib.hid (own_go OW.out hb5)
        replace D1 := Lib.hid (D1.out.trans (hb5.mono D1.out.size))
        replace BN := Lib.hid (BN.out.go hb5)
        replace HM := Lib.hid (HM.out.go hb5)
        obtain ⟨bs, e1, h5⟩ : ∃ bs : Nat, bs = wr.heap.size ∧ wr.heap.size ≤ bs := ⟨_, rfl, Nat.le_refl _⟩
        rw [← e1] at BS HLB
        rw [← e1]
        clear e1 hb5
        generalize wr.alloc (.cells #[.string s.name, .string s.a, .string s.b, .bool s.breaker, .bool s.opened] 189) = wa at *
        obtain ⟨ia, hia⟩ : ∃ x, x = Pl.nodeAt N.nodes s.a := ⟨_, rfl⟩
        obtain ⟨ib, hib⟩ : ∃ x, x = Pl.nodeAt N.nodes s.b := ⟨_, rfl⟩
        have HIA := Lib.hid (fun (W : World) (B : Nat) (h : Reads W B 1 A0 n0 (txts N.nodes)) => indexb_any A0 n0 c0 N.nodes s.a W B z0 h)
        have HIB := Lib.hid (fun (W : World) (B : Nat) (h : Reads W B 1 A0 n0 (txts N.nodes)) => indexb_any A0 n0 c0 N.nodes s.b W B z0 h)
        rw [← hia] at HIA
        rw [← hib] at HIB
        obtain ⟨E, hE⟩ : ∃ E, E = ((N.switches.take k).filter fun z => z.opened == s.opened).map fun s => (Pl.nodeAt N.nodes s.a, Pl.nodeAt N.nodes s.b) := ⟨_, rfl⟩
        rw [← hE] at OL
        have HEE : Hid (((N.switches.take (k + 1)).filter fun z => z.opened == s.opened).map (fun s => (Pl.nodeAt N.nodes s.a, Pl.nodeAt N.nodes s.b)) = E ++ [(ia, ib)]) := by
          show _ = _
          rw [HT.out, List.filter_append, List.map_append, ← hE, hia, hib]
          simp
        clear hE hia hib
        have hb5 := (Below.refl wa.heap.size wa).drew
        replace BN := Lib.hid (BN.out.go hb5)
        replace BS := Lib.hid (BS.out.go hb5)
        replace HM := Lib.hid (HM.out.go hb5)
        replace OL := Lib.hid (own_go OL.out hb5)
        replace OW := Lib.hid (own_go OW.out hb5)
        replace D1 := Lib.hid (D1.out.trans (hb5.mono D1.out.size))
        clear hb5
        have HB0 := Lib.hid (Below.refl wa.drew.heap.size wa.drew)
        have hlt_BN := BN.out.lt
        have hlt_BS := BS.out.lt
        have hlt_D1 := D1.out.size
        generalize hw9 : wa.drew = w7 at *
        have hSw : (fun w' : World => Blk w' (bn) 29 #[.slice A0 n0 c0, .slice (some ⟨b, o, none⟩) n1 c1, .slice A2 n2 c2, .slice A3 n3 c3, .slice A4 n4 c4, .slice A5 n5 c5] ∧ Blk w' (bs) 189 #[.string s.name, .string s.a, .string s.b, .bool s.breaker, .bool s.opened] ∧ True) w7 := ⟨BN.out.go HB0.out, BS.out.go HB0.out, trivial⟩
        refine wp_region_mid (fun w' : World => Blk w' (bn) 29 #[.slice A0 n0 c0, .slice (some ⟨b, o, none⟩) n1 c1, .slice A2 n2 c2, .slice A3 n3 c3, .slice A4 n4 c4, .slice A5 n5 c5] ∧ Blk w' (bs) 189 #[.string s.name, .string s.a, .string s.b, .bool s.breaker, .bool s.opened] ∧ True) 15 (by kernel_rfl) ?_
        rw [hw9]
        clear hw9
        refine Tk.go [(0, [13, 14]), (1, [2, 5, 10, 11, 12, 13, 14]), (2, [5, 10, 11, 12, 13, 14]), (3, [4, 5, 10, 11, 12, 13, 14]), (4, [5, 10, 11, 12, 13, 14]), (6, [7, 10, 11, 12, 13, 14]), (7, [10, 11, 12, 13, 14]), (8, [9, 10, 11, 12, 13, 14]), (9, [10, 11, 12, 13, 14])] ?_
        iterate 9 (refine Tk.cons rfl (by kernel_rfl) (fun _ _ _ h => h) hSw (by kernel_rfl) (fun w' hSx => by have c0 := hSx.1.cell; have l0 := hSx.1.lt; have c1 := hSx.2.1.cell; have l1 := hSx.2.1.lt; go_simp; first | done | with_reducible rfl) ?_; simp only [Act.put, List.setIfInBounds_toArray])
        refine Tk.nil ?_
        refine wpAnyM_ready [5] (by kernel_rfl) (by simp) ?_
        refine AllReadyM.cons (by rfl) (fun K hK => ?_) AllReadyM.nil
        go_simp
        refine (HIA.out w7 _ (HM.out.go HB0.out).r0).mono ?_
        rintro e wq1 ⟨rfl, hb5⟩
        replace HB0 := Lib.hid (Below.trans HB0.out (hb5.mono HB0.out.size))
        clear hb5
        clear hSw
        have hSw : (fun w' : World => Blk w' (bn) 29 #[.slice A0 n0 c0, .slice (some ⟨b, o, none⟩) n1 c1, .slice A2 n2 c2, .slice A3 n3 c3, .slice A4 n4 c4, .slice A5 n5 c5] ∧ Blk w' (bs) 189 #[.string s.name, .string s.a, .string s.b, .bool s.breaker, .bool s.opened] ∧ True) wq1 := ⟨BN.out.go HB0.out, BS.out.go HB0.out, trivial⟩
        refine hK.out _ _ hSw ?_
        clear hK K
        refine wpAnyM_ready [10] (by kernel_rfl) (by simp) ?_
        refine AllReadyM.cons (by rfl) (fun K hK => ?_) AllReadyM.nil
        go_simp
        refine (HIB.out wq1 _ (HM.out.go HB0.out).r0).mono ?_
        rintro e wq2 ⟨rfl, hb5⟩
        replace HB0 := Lib.hid (Below.trans HB0.out (hb5.mono HB0.out.size))
        clear hb5
        clear hSw
        have hSw : (fun w' : World => Blk w' (bn) 29 #[.slice A0 n0 c0, .slice (some ⟨b, o, none⟩) n1 c1, .slice A2 n2 c2, .slice A3 n3 c3, .slice A4 n4 c4, .slice A5 n5 c5] ∧ Blk w' (bs) 189 #[.string s.name, .string s.a, .string s.b, .bool s.breaker, .bool s.opened] ∧ True) wq2 := ⟨BN.out.go HB0.out, BS.out.go HB0.out, trivial⟩
        refine hK.out _ _ hSw ?_
        clear hK K
        refine wpAnyM_takeB 11 [12, 13, 14] rfl (by kernel_rfl) (by kernel_rfl) (by kernel_rfl) (by kernel_rfl) (by kernel_rfl) (fun _ _ _ h => h) hSw (by kernel_rfl) (fun w' hSx => by have c0 := hSx.1.cell; have l0 := hSx.1.lt; have c1 := hSx.2.1.cell; have l1 := hSx.2.1.lt; go_simp; first | done | with_reducible rfl) ?_
        simp only [Act.put]
        refine wpAnyM_ready [12] (by kernel_rfl) (by simp) ?_
        refine AllReadyM.cons (by rfl) (fun K hK => ?_) AllReadyM.nil
        go_simp
        have hb5 := below_oneS wq2 (.cells #[.int .i64 ia, .int .i64 ib] 223)
        obtain ⟨gb, hg2⟩ : ∃ g : Nat, g = wq2.heap.size := ⟨_, rfl⟩
        have BX := Lib.hid (Blk.new_ wq2 gb 223 #[.int .i64 ia, .int .i64 ib] hg2)
        have hS_BX : w7.heap.size ≤ gb := by have := HB0.out.size; omega
        rw [← hg2]
        replace HB0 := Lib.hid (Below.trans HB0.out (hb5.mono HB0.out.size))
        clear hb5 hg2
        generalize wq2.alloc (.cells #[.int .i64 ia, .int .i64 ib] 223) = wq3 at *
        clear hSw
        have hSw : (fun w' : World => Blk w' (bn) 29 #[.slice A0 n0 c0, .slice (some ⟨b, o, none⟩) n1 c1, .slice A2 n2 c2, .slice A3 n3 c3, .slice A4 n4 c4, .slice A5 n5 c5] ∧ Blk w' (bs) 189 #[.string s.name, .string s.a, .string s.b, .bool s.breaker, .bool s.opened] ∧ True) wq3 := ⟨BN.out.go HB0.out, BS.out.go HB0.out, trivial⟩
        refine hK.out _ _ hSw ?_
        clear hK K
        refine wpAnyM_ready [13] (by kernel_rfl) (by simp) ?_
        refine AllReadyM.cons (by rfl) (fun K hK => ?_) AllReadyM.nil
        replace BN := Lib.hid (BN.out.go HB0.out)
        replace BS := Lib.hid (BS.out.go HB0.out)
        replace HM := Lib.hid (HM.out.go HB0.out)
        replace OL := Lib.hid (own_go OL.out HB0.out)
        replace OW := Lib.hid (own_go OW.out HB0.out)
        replace D1 := Lib.hid (D1.out.trans (HB0.out.mono D1.out.size))
        refine step_append_any _ (by rfl) _ _ _ (by rfl) w1.heap.size 223 i0 _ 2 16 Tryz.underlying222 hi0 hz0 hz1 hz2 rfl (by decide) (.slice Al nl cl) nl (edgs2 E) (by rfl) OL.out wq3.heap.size (some ⟨gb, 0, none⟩) 1 1 [.int .i64 ia, .int .i64 ib] (by rfl) (by have := blk_readsE (size := 2) BX.out rfl; simpa using this) (by simp [Value.oneCell']) (by unfold maxLen; omega) (by omega) D1.out.size ?_
        intro v' wq4 hown3 hg3 hob3
        have OW2 := Lib.hid (own_apart OW.out hg3 HAP.out)
        have HAP2 := Lib.hid (HAP.out.next OW.out hob3)
        have D2 := Lib.hid (below_grown D1.out hg3 OL.out (Nat.le_refl _) D1.out.size)
        have BS2 := Lib.hid (BS.out.grown hg3 (fun h9 => by have := HLB.out _ h9.symm; omega))
        obtain ⟨Al2, cl2, rfl, _⟩ := own_slice hown3
        rw [edgs2_snoc] at hown3
        have OL2 := Lib.hid hown3
        clear hown3 hg3 hob3 OL OW HAP D1 BS BN HM BX
        have BN := Lib.hid (BN1.out.below D2.out hbb)
        have OL := OL2
        have OW := OW2
        have HAP := HAP2
        have D1 := D2
        have BS := BS2
        clear OL2 OW2 HAP2 D2 BS2
        replace HB0 := Lib.hid (Below.refl wq4.heap.size wq4)
        clear hSw
        have hSw : (fun w' : World => Blk w' (bn) 29 #[.slice A0 n0 c0, .slice (some ⟨b, o, none⟩) n1 c1, .slice A2 n2 c2, .slice A3 n3 c3, .slice A4 n4 c4, .slice A5 n5 c5] ∧ Blk w' (bs) 189 #[.string s.name, .string s.a, .string s.b, .bool s.breaker, .bool s.opened] ∧ True) wq4 := ⟨BN.out, BS.out, trivial⟩
        refine hK.out _ _ hSw ?_
        clear hK K
        refine wpAnyM_takeB 14 [] rfl (by kernel_rfl) (by kernel_rfl) (by kernel_rfl) (by kernel_rfl) (by kernel_rfl) (fun _ _ _ h => h) hSw (by kernel_rfl) (fun w' hSx => by have c0 := hSx.1.cell; have l0 := hSx.1.lt; have c1 := hSx.2.1.cell; have l1 := hSx.2.1.lt; go_simp; first | done | with_reducible rfl) ?_
        simp only [Act.put]
        refine wpAnyM_done (by kernel_rfl) ?_ _
        simp only [List.getElem_toArray, List.getElem_cons_succ, List.getElem_cons_zero]
        clear HB0 hSw
        have hbk := below_oneS wq4 (.cells #[.int .i64 (k : Int)] 3)
        have OLk := Lib.hid (own_go OL.out hbk)
        have OWk := Lib.hid (own_go OW.out hbk)
        have Dk := Lib.hid (D1.out.trans (hbk.mono D1.out.size))
        have RK : Hid (Reads (wq4.alloc (.cells #[.int .i64 (k : Int)] 3)) (wq4.heap.size + 1) 1 (some ⟨wq4.heap.size, 0, none⟩) 1 [.int .i64 (k : Int)]) := by
          show Reads _ _ _ _ _ _
          have := blk_readsE (size := 1) (Blk.new_ wq4 wq4.heap.size 3 #[.int .i64 (k : Int)] rfl) rfl
          simpa using this
        have hs9 : w1.heap.size ≤ (wq4.alloc (.cells #[.int .i64 (k : Int)] 3)).heap.size := Dk.out.size
        clear hbk OL OW D1 BN BS
        go_wp2_with (at_builtin; go_must (refine wpList_append_any _ rfl (.tmp 36) (.tmp 38) 57 rfl w1.heap.size 3 j0 _ 1 8 Tryz.underlying57 ji0 jz0 jz1 jz2 rfl (by decide) (.slice Aw nw cw) nw xs rfl OWk.out (wq4.heap.size + 1) (some ⟨wq4.heap.size, 0, none⟩) 1 1 [.int .i64 (k : Int)] rfl RK.out (by simp [Value.oneCell']) (by unfold maxLen; omega) (by omega) hs9 ?_); intro v' w3 hown3 hg3 hob3; have OL3 := Lib.hid (own_apart OLk.out hg3 HAP.out.symm); have HAP3 := Lib.hid (HAP.out.symm.next OLk.out hob3).symm; have D3 := Lib.hid (below_grown Dk.out hg3 OWk.out (Nat.le_refl _) Dk.out.size); obtain ⟨Aw2, cw2, rfl, _⟩ := own_slice hown3; have OW3 := Lib.hid hown3; clear hown3 hg3 hob3)
        go_roundw
        case rel => exact ⟨k + 1, Al2, nl + 1, cl2, Aw2, nw + 1, cw2, xs ++ [.int .i64 (k : Int)], by omega, by go_num, rfl, rfl, by omega, by omega, by show World.ownsRow _ _ _ _ _ _ _; rw [HEE.out]; exact OL3.out, OW3, HAP3, D3⟩
        case measure => simp [intOf]; omega
      · have hop2 : (s.opened == op) = false := by simpa using hop
        have HEE : Hid (((N.switches.take (k + 1)).filter fun s => s.opened == op).map (fun s => (Pl.nodeAt N.nodes s.a, Pl.nodeAt N.nodes s.b)) = ((N.switches.take k).filter fun s => s.opened == op).map (fun s => (Pl.nodeAt N.nodes s.a, Pl.nodeAt N.nodes s.b))) := by
          show _ = _
          rw [HT.out, List.filter_append, List.map_append]
          simp [hop]
        have OL2 := Lib.hid (own_go OL.out hb5)
        have OW2 := Lib.hid (own_go OW.out hb5)
        have D2 := Lib.hid (D1.out.trans (hb5.mono D1.out.size))
        clear hop hb5
        go_wp2_with fail
        go_roundw
        case rel => exact ⟨k + 1, Al, nl, cl, Aw, nw, cw, xs, by omega, by go_num, rfl, rfl, by omega, by omega, by show World.ownsRow _ _ _ _ _ _ _; rw [HEE.out]; exact OL2.out, OW2.out, HAP, D2⟩
        case measure => simp [intOf]; omega
    · have : k = n1 := by omega
      subst this
      have hT : N.switches.take k = N.switches := List.take_of_length_le (by rw [HL1.out]; exact Nat.le_refl _)
      rw [hT] at OL
      go_wp2_with fail
      go_ret2
      refine ⟨Al, nl, cl, _, rfl, Reads.of_own OL.out, D0.out.trans (D1.out.mono D0.out.size)⟩
def BusesSaid (N : Pl.Net) (n : Nat) (w : World) (e : Ending) (w' : World) : Prop :=
  ∃ (g : Nat) (out : List Int) (m : Nat), e = .returned (.slice (some ⟨g, 0, none⟩) n n) ∧ w.heap.size ≤ g ∧ IBlk w' g 3 out ∧ Pl.GOut (Pl.swE N false) (-1) n m n out ∧ Below w.heap.size w w'
theorem buses_any (M : MNet) (w : World) (hM : NetIn w w.heap.size M) (hok : Pl.NetOk M.N) :
    Calls Tryz.prog 129 #[vNet M] w (BusesSaid M.N M.n0 w) := by
  have HSE := Lib.hid (fun (W : World) (h : NetIn W W.heap.size M) => sedges_any M W h (by have := hM.r1.2; have := hok.ns; omega) false)
  have HEI := Lib.hid (Pl.swE_in hok false)
  have hl0 := txts_len hM.r0
  rw [hl0] at HEI
  have HEL := Lib.hid (Pl.swE_len hok false)
  have hn24 : M.n0 ≤ 24 := by have := hok.nn; omega
  obtain ⟨N, A0, n0, c0, A1, n1, c1, A2, n2, c2, A3, n3, c3, A4, n4, c4, A5, n5, c5⟩ := M
  unfold vNet netC at *
  simp only at *
  have hA := Blk.new_ w w.heap.size 29 #[.slice A0 n0 c0, .slice A1 n1 c1, .slice A2 n2 c2, .slice A3 n3 c3, .slice A4 n4 c4, .slice A5 n5 c5] rfl
  have hD := (Below.refl w.heap.size w).alloc (Nat.le_refl _) (.cells #[.slice A0 n0 c0, .slice A1 n1 c1, .slice A2 n2 c2, .slice A3 n3 c3, .slice A4 n4 c4, .slice A5 n5 c5] 29)
  have BN := Lib.hid hA
  have HM := Lib.hid (hM.go hD)
  have D := Lib.hid hD
  have ca := hA.cell
  have la := hA.lt
  unfold BusesSaid
  generalize Pl.swE N false = E at *
  clear hM hA hD hok
  go_enter Tryz.func129, Tryz.ntmps129
  go_wp2_with fail
  obtain ⟨bn, hbn⟩ : ∃ bn : Nat, bn = w.heap.size := ⟨_, rfl⟩
  rw [← hbn] at BN ⊢
  clear ca la hbn
  generalize w.alloc (.cells #[.slice A0 n0 c0, .slice A1 n1 c1, .slice A2 n2 c2, .slice A3 n3 c3, .slice A4 n4 c4, .slice A5 n5 c5] 29) = w1 at *
  refine (HSE.out w1 HM.out).mono ?_
  rintro e w2 ⟨Al, nl, cl, v, rfl, hrd, hb5⟩
  replace BN := Lib.hid (BN.out.go hb5)
  replace D := Lib.hid (D.out.trans (hb5.mono D.out.size))
  have HRD := Lib.hid hrd
  have cb := BN.out.cell
  have lb := BN.out.lt
  have hnl : nl ≤ 64 := by have := edgs2_n hrd; have := HEL.out; omega
  clear hb5 hrd HSE
  go_wp2_with fail
  refine (comp_any n0 Al nl cl E w2 hn24 hnl HRD.out HEI.out).mono ?_
  rintro e w3 ⟨g, out, m, rfl, hg, hi, hgo, hb5⟩
  have hgw : w.heap.size ≤ g := Nat.le_trans D.out.size hg
  have IB := Lib.hid hi
  have GO := Lib.hid hgo
  replace D := Lib.hid (D.out.trans (hb5.mono D.out.size))
  clear hb5 hi hgo hg cb lb
  go_wp2_with fail
  go_ret
  exact ⟨g, out, m, rfl, hgw, IB.out, GO.out, D.out⟩
end Go.Proofs.YtoblpcljhblnmaaGreatDoor
namespace Go.Proofs.YtoblpcljhblnmaaGreatDoor
open Go.RowKit
set_option maxRecDepth 100000
def TopSaid (N : Pl.Net) (n : Nat) (w : World) (e : Ending) (w' : World) : Prop :=
  ∃ (gb gi : Nat) (bus isl : List Int) (mb mi : Nat), e = .returned (.agg #[.slice (some ⟨gb, 0, none⟩) n n, .slice (some ⟨gi, 0, none⟩) mb mb]) ∧ IBlk w' gb 3 bus ∧ IBlk w' gi 3 isl ∧ Pl.TopOk N bus isl mb mi ∧ Below w.heap.size w w'
set_option maxHeartbeats 6400000 in
theorem topget_any (M : MNet) (w : World) (hM : NetIn w w.heap.size M) (hok : Pl.NetOk M.N) :
    Calls Tryz.prog 87 #[vNet M] w (TopSaid M.N M.n0 w) := by
  have HBU := Lib.hid (fun (W : World) (h : NetIn W W.heap.size M) => buses_any M W h hok)
  have HOK := Lib.hid hok
  have hl0 := txts_len hM.r0
  have hn24 : M.n0 ≤ 24 := by have := hok.nn; omega
  have hb24 : M.n2 ≤ 24 := by have := hM.r2.2; have := hok.nb; omega
  have HL2 : Hid (M.N.branches.length = M.n2) := hM.r2.2
  have HL0 := Lib.hid hl0
  obtain ⟨N, A0, n0, c0, A1, n1, c1, A2, n2, c2, A3, n3, c3, A4, n4, c4, A5, n5, c5⟩ := M
  unfold vNet netC at *
  simp only at *
  have z0 : n0 ≤ 9223372036854775807 := hM.z0
  have hA := (Blk.new_ w w.heap.size 29 #[.slice A0 n0 c0, .slice A1 n1 c1, .slice A2 n2 c2, .slice A3 n3 c3, .slice A4 n4 c4, .slice A5 n5 c5] rfl).alloc (.cells #[.slice none 0 0, .slice none 0 0] 170)
  have hR := Blk.new_ (w.alloc (.cells #[.slice A0 n0 c0, .slice A1 n1 c1, .slice A2 n2 c2, .slice A3 n3 c3, .slice A4 n4 c4, .slice A5 n5 c5] 29)) (w.heap.size + 1) 170 #[.slice none 0 0, .slice none 0 0] (by simp)
  have hD := ((Below.refl w.heap.size w).alloc (Nat.le_refl _) (.cells #[.slice A0 n0 c0, .slice A1 n1 c1, .slice A2 n2 c2, .slice A3 n3 c3, .slice A4 n4 c4, .slice A5 n5 c5] 29)).alloc (by simp) (.cells #[.slice none 0 0, .slice none 0 0] 170)
  have BN := Lib.hid hA
  have BR := Lib.hid hR
  have HM := Lib.hid (hM.go hD)
  have D := Lib.hid hD
  have ca := hA.cell
  have la := hA.lt
  obtain ⟨i0, hi0, hz0, hz1, hz2⟩ := info_parts info_e2
  clear hM hA hR hD hok hl0
  go_enter Tryz.func87, Tryz.ntmps87
  go_wp2_with fail
  generalize (w.alloc (.cells #[.slice A0 n0 c0, .slice A1 n1 c1, .slice A2 n2 c2, .slice A3 n3 c3, .slice A4 n4 c4, .slice A5 n5 c5] 29)).alloc (.cells #[.slice none 0 0, .slice none 0 0] 170) = w1 at *
  obtain ⟨bn, br, e1, e2, hw1, hw2⟩ : ∃ bn br : Nat, bn = w.heap.size ∧ br = w.heap.size + 1 ∧ w.heap.size ≤ br ∧ bn ≠ br := ⟨_, _, rfl, rfl, by omega, by omega⟩
  rw [← e1] at BN
  rw [← e2] at BR
  rw [← e2, ← e1]
  clear ca la e1 e2
  refine (HBU.out w1 HM.out).mono ?_
  rintro e w2 ⟨gb, bus, mb, rfl, hgb, hib, hgo, hb5⟩
  have lbr1 : br < w1.heap.size := BR.out.lt
  have IB := Lib.hid hib
  have GO := Lib.hid hgo
  replace BN := Lib.hid (BN.out.go hb5)
  replace BR := Lib.hid (BR.out.go hb5)
  replace HM := Lib.hid (HM.out.go hb5)
  replace D := Lib.hid (D.out.trans (hb5.mono D.out.size))
  have hne1 : br ≠ gb := by omega
  have lgb := IB.out.lt
  have lbr := BR.out.lt
  clear hb5 hib hgo HBU lbr1 hgb
  have hb5 := below_oneS w2 (.cells #[.slice (some ⟨gb, 0, none⟩) n0 n0, .slice none 0 0] 170)
  have BT := Lib.hid (Blk.new_ w2 w2.heap.size 170 #[.slice (some ⟨gb, 0, none⟩) n0 n0, .slice none 0 0] rfl)
  have cbt := BT.out.cell
  have lbt := BT.out.lt
  have hbl9 : bus.length = n0 := by rw [GO.out.len]
  have HBL := Lib.hid hbl9
  have HBB : Hid (∀ x ∈ bus, 0 ≤ x ∧ x < mb) := fun x hx => by
    obtain ⟨k, hk, rfl⟩ := List.getElem_of_mem hx
    have h1 := GO.out.at_ (v := (k : Int)) (by omega) (by rw [GO.out.len] at hk; omega)
    rwa [Pl.lab_at hk] at h1
  have hmb : mb ≤ 24 := by have := GO.out.few; have := HL0.out; omega
  clear hbl9
  go_wp2_with fail
  replace BN := Lib.hid (BN.out.go hb5)
  replace BR := Lib.hid (BR.out.go hb5)
  replace HM := Lib.hid (HM.out.go hb5)
  replace IB := Lib.hid (IB.out.go hb5)
  replace D := Lib.hid (D.out.trans (hb5.mono D.out.size))
  obtain ⟨bt, e1, h5, h6⟩ : ∃ bt : Nat, bt = w2.heap.size ∧ gb < bt ∧ br < bt := ⟨_, rfl, lgb, lbr⟩
  rw [← e1] at BT
  rw [← e1]
  clear e1 hb5 cbt lbt lgb lbr
  generalize w2.alloc (.cells #[.slice (some ⟨gb, 0, none⟩) n0 n0, .slice none 0 0] 170) = w3 at *
  go_loopw [4, 16] (fun mv i wr => ∃ k : Nat, k ≤ n0 ∧ i = .int .i64 k ∧ mv = .int .i64 (Pl.many (bus.take k)) ∧ w3 = wr) (fun _ i _ => n0 - (intOf i).toNat)
  case atStart => exact ⟨0, Nat.zero_le _, rfl, by simp [Pl.many], rfl⟩
  case round =>
    obtain ⟨k, hk, rfl, rfl, rfl⟩ := hrel
    by_cases hlt : k < n0
    · have hkb : k < bus.length := by rw [HBL.out]; exact hlt
      have c1 := IB.out.cell k hkb
      have HT : Hid (Pl.many (bus.take (k + 1)) = max (Pl.many (bus.take k)) (bus.getD k 0 + 1)) := by
        show _ = _
        rw [List.take_succ_eq_append_getElem hkb, Pl.many_snoc, List.getD_eq_getElem?_getD, List.getElem?_eq_getElem hkb]
        rfl
      have hxb := HBB.out _ (List.getElem_mem hkb)
      have hmm := Pl.many_bd (m := mb) (bus.take k) (fun x hx => HBB.out x (List.mem_of_mem_take hx))
      have HXE : bus[k] = bus.getD k 0 := by rw [List.getD_eq_getElem?_getD, List.getElem?_eq_getElem hkb]; rfl
      rw [HXE] at hxb
      clear HXE hkb
      generalize bus.getD k 0 = x at *
      generalize Pl.many (bus.take k) = mm at *
      have hkn : (k : Int) < (n0 : Int) := by omega
      go_wp2_with fail
      go_roundw
      case rel => exact ⟨k + 1, by omega, by go_num, by rw [HT.out], trivial⟩
      case measure => simp [intOf]; omega
    · have : k = n0 := by omega
      subst this
      have hmany : Pl.many (bus.take k) = mb := by
        rw [List.take_of_length_le (by rw [HBL.out]; exact Nat.le_refl _)]
        exact Pl.many_eq GO.out
      rw [hmany]
      clear hmany
      have BN4 := BN
      have BT4 := BT
      have BR4 := BR
      have HM4 := HM
      have IB4 : Hid (Blk w3 gb 3 (ints bus).toArray) := IB
      have D4 := D
      have OL0 : Hid (w3.ownsRow w3.heap.size 223 2 (.slice none 0 0) 0 (edgs2 [])) := World.ownsRow_nil _ _ _ _
      have cbn := BN.out.cell
      have lbn := BN.out.lt
      clear BN BT BR HM IB D
      go_wp2_with fail
      clear cbn lbn
      go_loopw [7, 28] (fun lv i wr => ∃ (k : Nat) (Al : Option Addr) (cl : Nat), k ≤ n2 ∧ i = .int .i64 k ∧ lv = .slice Al k cl ∧ Hid (wr.ownsRow w3.heap.size 223 2 (.slice Al k cl) k (edgs2 ((N.branches.take k).map fun b => (Pl.lab bus (Pl.nodeAt N.nodes b.from_), Pl.lab bus (Pl.nodeAt N.nodes b.to_))))) ∧ Hid (Below w3.heap.size w3 wr)) (fun _ i _ => n2 - (intOf i).toNat)
      case atStart => exact ⟨0, none, 0, Nat.zero_le _, rfl, rfl, by simpa using OL0, Lib.hid (Below.refl _ _)⟩
      case round =>
        clear OL0
        obtain ⟨j, Al, cl, hj, rfl, rfl, OL, D1⟩ := hrel
        have HM := Lib.hid (HM4.out.go D1.out)
        have BN := Lib.hid (BN4.out.go D1.out)
        have BT := Lib.hid (BT4.out.go D1.out)
        have IB := Lib.hid (Blk.go IB4.out D1.out)
        by_cases hlt2 : j < n2
        · obtain ⟨b, o, rfl, hl, q0, q1, q2, q3, q4, q5, q6, q7, q8⟩ := bra_at HM.out.r2 (k := j) hlt2
          have HT : Hid (N.branches.take (j + 1) = N.branches.take j ++ [N.branches[j]]) := by show _ = _; rw [List.take_succ_eq_append_getElem hl]
          obtain ⟨hfa, hfb, _⟩ := HOK.out.bra _ (List.getElem_mem hl)
          generalize N.branches[j] = z at *
          have hna := Pl.nodeAt_in hfa
          have hnb := Pl.nodeAt_in hfb
          rw [HL0.out] at hna hnb
          obtain ⟨ia, hia⟩ : ∃ x, x = Pl.nodeAt N.nodes z.from_ := ⟨_, rfl⟩
          obtain ⟨ib, hib⟩ : ∃ x, x = Pl.nodeAt N.nodes z.to_ := ⟨_, rfl⟩
          have HIA := Lib.hid (fun (W : World) (B : Nat) (h : Reads W B 1 A0 k (txts N.nodes)) => indexb_any A0 k c0 N.nodes z.from_ W B z0 h)
          have HIB := Lib.hid (fun (W : World) (B : Nat) (h : Reads W B 1 A0 k (txts N.nodes)) => indexb_any A0 k c0 N.nodes z.to_ W B z0 h)
          rw [← hia] at HIA hna
          rw [← hib] at HIB hnb
          obtain ⟨hia0, hia1⟩ := hna
          obtain ⟨hib0, hib1⟩ := hnb
          have hia2 : ia.toNat < bus.length := by rw [HBL.out]; omega
          have hib2 : ib.toNat < bus.length := by rw [HBL.out]; omega
          obtain ⟨xa, hxa⟩ : ∃ x, x = Pl.lab bus ia := ⟨_, rfl⟩
          obtain ⟨xb, hxb⟩ : ∃ x, x = Pl.lab bus ib := ⟨_, rfl⟩
          have HXA : Hid (bus.getD ia.toNat 0 = xa) := by
            show _ = _
            rw [hxa]
            unfold Pl.lab
            rw [List.getD_eq_getElem?_getD, List.getD_eq_getElem?_getD, List.getElem?_eq_getElem hia2]
            rfl
          have HXB : Hid (bus.getD ib.toNat 0 = xb) := by
            show _ = _
            rw [hxb]
            unfold Pl.lab
            rw [List.getD_eq_getElem?_getD, List.getD_eq_getElem?_getD, List.getElem?_eq_getElem hib2]
            rfl
          obtain ⟨E, hE⟩ : ∃ E, E = (N.branches.take j).map fun b => (Pl.lab bus (Pl.nodeAt N.nodes b.from_), Pl.lab bus (Pl.nodeAt N.nodes b.to_)) := ⟨_, rfl⟩
          rw [← hE] at OL
          have HEE : Hid ((N.branches.take (j + 1)).map (fun b => (Pl.lab bus (Pl.nodeAt N.nodes b.from_), Pl.lab bus (Pl.nodeAt N.nodes b.to_))) = E ++ [(xa, xb)]) := by
            show _ = _
            rw [HT.out, List.map_append, ← hE, hxa, hxb, hia, hib]
            rfl
          have HLB : Hid (∀ g, (Value.slice Al j cl).ownBlock = some g → g < wr.heap.size) := fun g hg => (own_lt9 OL.out hg).2
          have hkn : (j : Int) < (n2 : Int) := by omega
          have hb5 := below_oneS wr (.cells #[.string z.name, .string z.from_, .string z.to_, .int .i64 z.x, .int .i64 z.tap, .int .i64 z.shift, .int .i64 z.limit, .int .i64 z.short, .int .i64 z.hold] 53)
          have BB := Lib.hid (Blk.new_ wr wr.heap.size 53 #[.string z.name, .string z.from_, .string z.to_, .int .i64 z.x, .int .i64 z.tap, .int .i64 z.shift, .int .i64 z.limit, .int .i64 z.short, .int .i64 z.hold] rfl)
          have cs := BB.out.cell
          have ls := BB.out.lt
          clear hE hxa hxb hia hib hfa hfb hl HT
          go_upto_region 12 with fail
          clear cs ls q0 q1 q2 q3 q4 q5 q6 q7 q8
          replace OL := Lib.hid (own_go OL.out hb5)
          replace D1 := Lib.hid (D1.out.trans (hb5.mono D1.out.size))
          replace BN := Lib.hid (BN.out.go hb5)
          replace BT := Lib.hid (BT.out.go hb5)
          replace IB := Lib.hid (Blk.go IB.out hb5)
          replace HM := Lib.hid (HM.out.go hb5)
          obtain ⟨bb, e1, h7⟩ : ∃ bb : Nat, bb = wr.heap.size ∧ wr.heap.size ≤ bb := ⟨_, rfl, Nat.le_refl _⟩
          rw [← e1] at BB HLB
          rw [← e1]
          clear e1 hb5
          generalize wr.alloc (.cells #[.string z.name, .string z.from_, .string z.to_, .int .i64 z.x, .int .i64 z.tap, .int .i64 z.shift, .int .i64 z.limit, .int .i64 z.short, .int .i64 z.hold] 53) = wa at *
          have hb5 := (Below.refl wa.heap.size wa).drew
          replace BN := Lib.hid (BN.out.go hb5)
          replace BT := Lib.hid (BT.out.go hb5)
          replace BB := Lib.hid (BB.out.go hb5)
          replace IB := Lib.hid (IB.out.go hb5)
          replace HM := Lib.hid (HM.out.go hb5)
          replace OL := Lib.hid (own_go OL.out hb5)
          replace D1 := Lib.hid (D1.out.trans (hb5.mono D1.out.size))
          clear hb5
          have HB0 := Lib.hid (Below.refl wa.drew.heap.size wa.drew)
          have hlt_BN := BN.out.lt
          have hlt_BT := BT.out.lt
          have hlt_BB := BB.out.lt
          have hlt_IB := IB.out.lt
          have hlt_D1 := D1.out.size
          generalize hw9 : wa.drew = w7 at *
          have hSw : (fun w' : World => Blk w' (bn) 29 #[.slice A0 k c0, .slice A1 n1 c1, .slice (some ⟨b, o, none⟩) n2 c2, .slice A3 n3 c3, .slice A4 n4 c4, .slice A5 n5 c5] ∧ Blk w' (bt) 170 #[.slice (some ⟨gb, 0, none⟩) k k, .slice none 0 0] ∧ Blk w' (bb) 53 #[.string z.name, .string z.from_, .string z.to_, .int .i64 z.x, .int .i64 z.tap, .int .i64 z.shift, .int .i64 z.limit, .int .i64 z.short, .int .i64 z.hold] ∧ Blk w' (gb) 3 (ints bus).toArray ∧ True) w7 := ⟨BN.out.go HB0.out, BT.out.go HB0.out, BB.out.go HB0.out, IB.out.go HB0.out, trivial⟩
          refine wp_region_mid (fun w' : World => Blk w' (bn) 29 #[.slice A0 k c0, .slice A1 n1 c1, .slice (some ⟨b, o, none⟩) n2 c2, .slice A3 n3 c3, .slice A4 n4 c4, .slice A5 n5 c5] ∧ Blk w' (bt) 170 #[.slice (some ⟨gb, 0, none⟩) k k, .slice none 0 0] ∧ Blk w' (bb) 53 #[.string z.name, .string z.from_, .string z.to_, .int .i64 z.x, .int .i64 z.tap, .int .i64 z.shift, .int .i64 z.limit, .int .i64 z.short, .int .i64 z.hold] ∧ Blk w' (gb) 3 (ints bus).toArray ∧ True) 23 (by kernel_rfl) ?_
          rw [hw9]
          clear hw9
          refine Tk.go [(0, [21, 22]), (1, [2, 8, 9, 19, 20, 21, 22]), (2, [8, 9, 19, 20, 21, 22]), (3, [4, 7, 8, 9, 16, 17, 18, 19, 20, 21, 22]), (4, [7, 8, 9, 16, 17, 18, 19, 20, 21, 22]), (5, [6, 7, 8, 9, 16, 17, 18, 19, 20, 21, 22]), (6, [7, 8, 9, 16, 17, 18, 19, 20, 21, 22]), (10, [11, 17, 18, 19, 20, 21, 22]), (11, [17, 18, 19, 20, 21, 22]), (12, [13, 16, 17, 18, 19, 20, 21, 22]), (13, [16, 17, 18, 19, 20, 21, 22]), (14, [15, 16, 17, 18, 19, 20, 21, 22]), (15, [16, 17, 18, 19, 20, 21, 22])] ?_
          iterate 13 (refine Tk.cons rfl (by kernel_rfl) (fun _ _ _ h => h) hSw (by kernel_rfl) (fun w' hSx => by have c0 := hSx.1.cell; have l0 := hSx.1.lt; have c1 := hSx.2.1.cell; have l1 := hSx.2.1.lt; have c2 := hSx.2.2.1.cell; have l2 := hSx.2.2.1.lt; have c3 := hSx.2.2.2.1.cell; have l3 := hSx.2.2.2.1.lt; have c8 := IBlk.cell (g := gb) (t := 3) (os := bus) hSx.2.2.2.1 ia.toNat hia2; rw [HXA.out] at c8; have c9 := IBlk.cell (g := gb) (t := 3) (os := bus) hSx.2.2.2.1 ib.toNat hib2; rw [HXB.out] at c9; clear c3; go_simp; first | done | with_reducible rfl) ?_; simp only [Act.put, List.setIfInBounds_toArray])
          refine Tk.nil ?_
          refine wpAnyM_ready [7] (by kernel_rfl) (by simp) ?_
          refine AllReadyM.cons (by rfl) (fun K hK => ?_) AllReadyM.nil
          go_simp
          refine (HIA.out w7 _ (HM.out.go HB0.out).r0).mono ?_
          rintro e wq1 ⟨rfl, hb5⟩
          replace HB0 := Lib.hid (Below.trans HB0.out (hb5.mono HB0.out.size))
          clear hb5
          clear hSw
          have hSw : (fun w' : World => Blk w' (bn) 29 #[.slice A0 k c0, .slice A1 n1 c1, .slice (some ⟨b, o, none⟩) n2 c2, .slice A3 n3 c3, .slice A4 n4 c4, .slice A5 n5 c5] ∧ Blk w' (bt) 170 #[.slice (some ⟨gb, 0, none⟩) k k, .slice none 0 0] ∧ Blk w' (bb) 53 #[.string z.name, .string z.from_, .string z.to_, .int .i64 z.x, .int .i64 z.tap, .int .i64 z.shift, .int .i64 z.limit, .int .i64 z.short, .int .i64 z.hold] ∧ Blk w' (gb) 3 (ints bus).toArray ∧ True) wq1 := ⟨BN.out.go HB0.out, BT.out.go HB0.out, BB.out.go HB0.out, IB.out.go HB0.out, trivial⟩
          refine hK.out _ _ hSw ?_
          clear hK K
          refine Tk.go [(8, [9, 19, 20, 21, 22]), (9, [19, 20, 21, 22])] ?_
          iterate 2 (refine Tk.cons rfl (by kernel_rfl) (fun _ _ _ h => h) hSw (by kernel_rfl) (fun w' hSx => by have c0 := hSx.1.cell; have l0 := hSx.1.lt; have c1 := hSx.2.1.cell; have l1 := hSx.2.1.lt; have c2 := hSx.2.2.1.cell; have l2 := hSx.2.2.1.lt; have c3 := hSx.2.2.2.1.cell; have l3 := hSx.2.2.2.1.lt; have c8 := IBlk.cell (g := gb) (t := 3) (os := bus) hSx.2.2.2.1 ia.toNat hia2; rw [HXA.out] at c8; have c9 := IBlk.cell (g := gb) (t := 3) (os := bus) hSx.2.2.2.1 ib.toNat hib2; rw [HXB.out] at c9; clear c3; go_simp; first | done | with_reducible rfl) ?_; simp only [Act.put, List.setIfInBounds_toArray])
          refine Tk.nil ?_
          refine wpAnyM_ready [16] (by kernel_rfl) (by simp) ?_
          refine AllReadyM.cons (by rfl) (fun K hK => ?_) AllReadyM.nil
          go_simp
          refine (HIB.out wq1 _ (HM.out.go HB0.out).r0).mono ?_
          rintro e wq2 ⟨rfl, hb5⟩
          replace HB0 := Lib.hid (Below.trans HB0.out (hb5.mono HB0.out.size))
          clear hb5
          clear hSw
          have hSw : (fun w' : World => Blk w' (bn) 29 #[.slice A0 k c0, .slice A1 n1 c1, .slice (some ⟨b, o, none⟩) n2 c2, .slice A3 n3 c3, .slice A4 n4 c4, .slice A5 n5 c5] ∧ Blk w' (bt) 170 #[.slice (some ⟨gb, 0, none⟩) k k, .slice none 0 0] ∧ Blk w' (bb) 53 #[.string z.name, .string z.from_, .string z.to_, .int .i64 z.x, .int .i64 z.tap, .int .i64 z.shift, .int .i64 z.limit, .int .i64 z.short, .int .i64 z.hold] ∧ Blk w' (gb) 3 (ints bus).toArray ∧ True) wq2 := ⟨BN.out.go HB0.out, BT.out.go HB0.out, BB.out.go HB0.out, IB.out.go HB0.out, trivial⟩
          refine hK.out _ _ hSw ?_
          clear hK K
          refine Tk.go [(17, [18, 19, 20, 21, 22]), (18, [19, 20, 21, 22]), (19, [20, 21, 22])] ?_
          iterate 3 (refine Tk.cons rfl (by kernel_rfl) (fun _ _ _ h => h) hSw (by kernel_rfl) (fun w' hSx => by have c0 := hSx.1.cell; have l0 := hSx.1.lt; have c1 := hSx.2.1.cell; have l1 := hSx.2.1.lt; have c2 := hSx.2.2.1.cell; have l2 := hSx.2.2.1.lt; have c3 := hSx.2.2.2.1.cell; have l3 := hSx.2.2.2.1.lt; have c8 := IBlk.cell (g := gb) (t := 3) (os := bus) hSx.2.2.2.1 ia.toNat hia2; rw [HXA.out] at c8; have c9 := IBlk.cell (g := gb) (t := 3) (os := bus) hSx.2.2.2.1 ib.toNat hib2; rw [HXB.out] at c9; clear c3; go_simp; first | done | with_reducible rfl) ?_; simp only [Act.put, List.setIfInBounds_toArray])
          refine Tk.nil ?_
          refine wpAnyM_ready [20] (by kernel_rfl) (by simp) ?_
          refine AllReadyM.cons (by rfl) (fun K hK => ?_) AllReadyM.nil
          go_simp
          have hb5 := below_oneS wq2 (.cells #[.int .i64 xa, .int .i64 xb] 223)
          obtain ⟨gx, hg2⟩ : ∃ g : Nat, g = wq2.heap.size := ⟨_, rfl⟩
          have BX := Lib.hid (Blk.new_ wq2 gx 223 #[.int .i64 xa, .int .i64 xb] hg2)
          have hS_BX : w7.heap.size ≤ gx := by have := HB0.out.size; omega
          rw [← hg2]
          replace HB0 := Lib.hid (Below.trans HB0.out (hb5.mono HB0.out.size))
          clear hb5 hg2
          generalize wq2.alloc (.cells #[.int .i64 xa, .int .i64 xb] 223) = wq3 at *
          clear hSw
          have hSw : (fun w' : World => Blk w' (bn) 29 #[.slice A0 k c0, .slice A1 n1 c1, .slice (some ⟨b, o, none⟩) n2 c2, .slice A3 n3 c3, .slice A4 n4 c4, .slice A5 n5 c5] ∧ Blk w' (bt) 170 #[.slice (some ⟨gb, 0, none⟩) k k, .slice none 0 0] ∧ Blk w' (bb) 53 #[.string z.name, .string z.from_, .string z.to_, .int .i64 z.x, .int .i64 z.tap, .int .i64 z.shift, .int .i64 z.limit, .int .i64 z.short, .int .i64 z.hold] ∧ Blk w' (gb) 3 (ints bus).toArray ∧ True) wq3 := ⟨BN.out.go HB0.out, BT.out.go HB0.out, BB.out.go HB0.out, IB.out.go HB0.out, trivial⟩
          refine hK.out _ _ hSw ?_
          clear hK K
          refine wpAnyM_ready [21] (by kernel_rfl) (by simp) ?_
          refine AllReadyM.cons (by rfl) (fun K hK => ?_) AllReadyM.nil
          replace BN := Lib.hid (BN.out.go HB0.out)
          replace BT := Lib.hid (BT.out.go HB0.out)
          replace BB := Lib.hid (BB.out.go HB0.out)
          replace IB := Lib.hid (IB.out.go HB0.out)
          replace HM := Lib.hid (HM.out.go HB0.out)
          replace OL := Lib.hid (own_go OL.out HB0.out)
          replace D1 := Lib.hid (D1.out.trans (HB0.out.mono D1.out.size))
          refine step_append_any _ (by rfl) _ _ _ (by rfl) w3.heap.size 223 i0 _ 2 16 Tryz.underlying222 hi0 hz0 hz1 hz2 rfl (by decide) (.slice Al j cl) j (edgs2 E) (by rfl) OL.out wq3.heap.size (some ⟨gx, 0, none⟩) 1 1 [.int .i64 xa, .int .i64 xb] (by rfl) (by have := blk_readsE (size := 2) BX.out rfl; simpa using this) (by simp [Value.oneCell']) (by unfold maxLen; omega) (by omega) D1.out.size ?_
          intro v' wq4 hown3 hg3 hob3
          have D2 := Lib.hid (below_grown D1.out hg3 OL.out (Nat.le_refl _) D1.out.size)
          have BB2 := Lib.hid (BB.out.grown hg3 (fun h9 => by have := HLB.out _ h9.symm; omega))
          obtain ⟨Al2, cl2, rfl, _⟩ := own_slice hown3
          rw [edgs2_snoc] at hown3
          have OL2 := Lib.hid hown3
          clear hown3 hg3 hob3 OL D1 BB BN BT IB HM BX
          have BN := Lib.hid (BN4.out.go D2.out)
          have BT := Lib.hid (BT4.out.go D2.out)
          have IB := Lib.hid (Blk.go IB4.out D2.out)
          have OL := OL2
          have D1 := D2
          have BB := BB2
          clear OL2 D2 BB2
          replace HB0 := Lib.hid (Below.refl wq4.heap.size wq4)
          clear hSw
          have hSw : (fun w' : World => Blk w' (bn) 29 #[.slice A0 k c0, .slice A1 n1 c1, .slice (some ⟨b, o, none⟩) n2 c2, .slice A3 n3 c3, .slice A4 n4 c4, .slice A5 n5 c5] ∧ Blk w' (bt) 170 #[.slice (some ⟨gb, 0, none⟩) k k, .slice none 0 0] ∧ Blk w' (bb) 53 #[.string z.name, .string z.from_, .string z.to_, .int .i64 z.x, .int .i64 z.tap, .int .i64 z.shift, .int .i64 z.limit, .int .i64 z.short, .int .i64 z.hold] ∧ Blk w' (gb) 3 (ints bus).toArray ∧ True) wq4 := ⟨BN.out, BT.out, BB.out, IB.out, trivial⟩
          refine hK.out _ _ hSw ?_
          clear hK K
          refine wpAnyM_takeB 22 [] rfl (by kernel_rfl) (by kernel_rfl) (by kernel_rfl) (by kernel_rfl) (by kernel_rfl) (fun _ _ _ h => h) hSw (by kernel_rfl) (fun w' hSx => by have c0 := hSx.1.cell; have l0 := hSx.1.lt; have c1 := hSx.2.1.cell; have l1 := hSx.2.1.lt; have c2 := hSx.2.2.1.cell; have l2 := hSx.2.2.1.lt; have c3 := hSx.2.2.2.1.cell; have l3 := hSx.2.2.2.1.lt; have c8 := IBlk.cell (g := gb) (t := 3) (os := bus) hSx.2.2.2.1 ia.toNat hia2; rw [HXA.out] at c8; have c9 := IBlk.cell (g := gb) (t := 3) (os := bus) hSx.2.2.2.1 ib.toNat hib2; rw [HXB.out] at c9; clear c3; go_simp; first | done | with_reducible rfl) ?_
          simp only [Act.put]
          refine wpAnyM_done (by kernel_rfl) ?_ _
          simp only [List.getElem_toArray, List.getElem_cons_succ, List.getElem_cons_zero]
          clear HB0 hSw
          go_wp2_with fail
          go_roundw
          case rel => exact ⟨j + 1, Al2, cl2, by omega, by go_num, rfl, by show World.ownsRow _ _ _ _ _ _ _; rw [HEE.out]; exact OL.out, D1⟩
          case measure => simp [intOf]; omega
        · have : j = n2 := by omega
          subst this
          have hT : N.branches.take j = N.branches := List.take_of_length_le (by rw [HL2.out]; exact Nat.le_refl _)
          rw [hT] at OL
          have GO2 := GO.out
          rw [← HL0.out] at GO2
          have HBE := Lib.hid (Pl.brE_in HOK.out GO2)
          have HG2 := Lib.hid GO2
          have HRD := Lib.hid (Reads.of_own OL.out)
          clear hT GO2 OL
          go_wp2_with fail
          refine (comp_any mb Al j cl (Pl.brE N bus) wr hmb (by omega) HRD.out HBE.out).mono ?_
          rintro e wz ⟨gi, isl, mi, rfl, hgi, hii, hgo, hb5⟩
          have II := Lib.hid hii
          have GI := Lib.hid hgo
          have lt1 := BT.out.lt
          have BRz := Lib.hid ((BR4.out.go D1.out).go hb5)
          have lt2 := (BR4.out.go D1.out).lt
          have lt3 := Blk.lt IB.out
          have BTz := Lib.hid (BT.out.go hb5)
          have IBz : Hid (IBlk wz gb 3 bus) := Blk.go IB.out hb5
          have Dz := Lib.hid ((D4.out.trans (D1.out.mono D4.out.size)).trans (hb5.mono (D4.out.trans (D1.out.mono D4.out.size)).size))
          have hbt9 : w.heap.size ≤ bt := by omega
          clear hb5 hii hgo BT BN IB HM
          have cbt := BTz.out.cell
          have fbt := BTz.out.frozen
          have lbt := BTz.out.lt
          have cbr := BRz.out.cell
          have fbr := BRz.out.frozen
          have lbr := BRz.out.lt
          have hn1 : bt ≠ br := by omega
          have hn2 : gi ≠ bt := by omega
          have hn3 : gi ≠ br := by omega
          have hn4 : gb ≠ bt := by omega
          go_wp2_with fail
          have k4 := (((BRz.out.far (p := ⟨bt, 1, none⟩) (by simp; omega) (.slice (some ⟨gi, 0, none⟩) mb mb)).set_ 0 (.slice (some ⟨gb, 0, none⟩) k k)).set_ 1 (.slice (some ⟨gi, 0, none⟩) mb mb)).cell
          refine bodyPost_ret (v := .agg #[.slice (some ⟨gb, 0, none⟩) k k, .slice (some ⟨gi, 0, none⟩) mb mb]) (by simp [results, Tryz.results87, go_sem, k4]) rfl ⟨gb, gi, bus, isl, mb, mi, rfl, ?_, ?_, ⟨HG2.out, GI.out⟩, ?_⟩
          · exact ((Blk.far IBz.out hn4 _).far hne1.symm _).far hne1.symm _
          · exact ((Blk.far II.out hn2 _).far hn3 _).far hn3 _
          · exact ((Dz.out.setCell (p := ⟨bt, 1, none⟩) hbt9 _).setCell (p := ⟨br, 0, none⟩) hw1 _).setCell (p := ⟨br, 1, none⟩) hw1 _
end Go.Proofs.YtoblpcljhblnmaaGreatDoor
