/- choose's least gives the breakers that leave the set that a last search reaches. Condition: the network is a good one and reads, the place is on a branch. -/
import Derived.Test.YtpamgeemmbbkkaaPush
import Derived.Test.YtpamgeemmbbkkaaPFieldB
namespace Go.Proofs.Ytpamgeemmbbkkaa
open Go.RowKit
set_option maxRecDepth 100000
theorem info_txt : (Try.prog.info? 9).map (fun i => (i.zero, i.size, i.bytes)) = some (some (.string ⟨#[]⟩), 1, 16) := by kernel_rfl
theorem cut_snoc (S : Int → Bool) (E : List Pl.Edg) (k : Nat) (hk : k < E.length) : (Pl.cutF S (E.take (k + 1))).map Pl.Edg.name = (Pl.cutF S (E.take k)).map Pl.Edg.name ++ (if (E[k].breaker && Pl.leaves S E[k]) = true then [E[k].name] else []) := by
  unfold Pl.cutF
  rw [List.take_succ_eq_append_getElem hk, List.filter_append, List.map_append]
  congr 1
  by_cases h : (E[k].breaker && Pl.leaves S E[k]) = true
  · simp [h]
  · simp [h]
set_option maxHeartbeats 6400000 in
theorem least_any (M : MNet) (br : ByteArray) (part : Int) (b : Pl.Bra) (w : World) (hM : NetIn w w.heap.size M) (hok : Pl.NetOk M.N) (hp : Pl.PlaceOk M.N br part b)
    (HFO : Hid (∀ w1, NetIn w1 w1.heap.size M → Calls Try.prog 35 #[vNet M, .slice none 0 0, vPlace br part] w1 fun e w' => ∃ g, e = .returned (.pointer (some ⟨g, 0, none⟩)) ∧ FieldOwn w' w1.heap.size g (Pl.fEdges M.N [] br part) (Pl.fSrc M.N) (Pl.fPlace M.N [] br part) (M.N.nodes.length + 1) ∧ Below w1.heap.size w1 w')) :
    Calls Try.prog 33 #[vNet M, vPlace br part] w fun e w' => ∃ (P : Value) (A : Option Addr) (m c : Nat) (out : List ByteArray) (is : Bool), e = .returned (.tuple #[P, .slice A m c, .bool is]) ∧ Pl.Leasted (Pl.fEdges M.N [] br part) (Pl.fSrc M.N) (Pl.fPlace M.N [] br part) (M.N.nodes.length + 1) out is ∧ (is = true → Reads w' w'.heap.size 1 A m (txts out)) ∧ (is = false → m = 0) ∧ m ≤ 1000 ∧ Below w.heap.size w w' := by
  have hf := Pl.field_ok (open_ := []) hok hp
  have hel := Pl.fEdges_len (open_ := []) (br := br) (part := part) hok
  have h0 := Pl.Flo.zero (src := Pl.fSrc M.N) (place := Pl.fPlace M.N [] br part) (n := M.N.nodes.length + 1) (Pl.fEdges_flow (N := M.N) (open_ := []) (br := br) (part := part))
  have hnn := hok.nn
  generalize Pl.fEdges M.N [] br part = E0 at *
  generalize Pl.fSrc M.N = src at *
  generalize Pl.fPlace M.N [] br part = place at *
  generalize hn : M.N.nodes.length + 1 = n at *
  have hn25 : n ≤ 25 := by omega
  have HFK := Lib.hid hf
  have HF0 := Lib.hid h0
  have F0 := Lib.hid (((Below.refl w.heap.size w).alloc (Nat.le_refl _) (.cells (netC M) 29)).alloc (by simp) (.cells #[.string br, .int .i64 part] 34))
  have B0 := Lib.hid ((Blk.new_ w w.heap.size 29 (netC M) rfl).alloc (.cells #[.string br, .int .i64 part] 34))
  have P0 := Lib.hid (Blk.new_ (w.alloc (.cells (netC M) 29)) (w.heap.size + 1) 34 #[.string br, .int .i64 part] (by simp))
  have HFX := Lib.hid (fun (w1 : World) (hb : Below w.heap.size w w1) => HFO.out w1 (hM.go hb))
  clear hf h0 hok hp HFO hn hM
  unfold vNet vPlace at *
  obtain ⟨N, A0, n0, c0, A1, n1, c1, A2, n2, c2, A3, n3, c3, A4, n4, c4, A5, n5, c5⟩ := M
  unfold netC at *
  simp only at *
  clear hnn
  have k0 := B0.out.cell
  have k1 := P0.out.cell
  go_enter Try.func33, Try.ntmps33
  go_wp2_with fail
  refine (HFX.out _ F0.out).mono ?_
  rintro e w1 ⟨gf, rfl, hfo, hb1⟩
  have F1 := Lib.hid (F0.out.trans (hb1.mono F0.out.size))
  have hB1 := hb1.size
  have O1 := Lib.hid (hfo)
  have HPU := Lib.hid (push_any _ gf E0 src place n w1 hb1.size hfo HFK.out (by omega) (by omega) HF0.out)
  have HBB : Hid (w.heap.size ≤ w.heap.size + 1 + 1) := by show _ ≤ _; omega
  clear hb1 hfo k0 k1 B0 P0 HFX O1 hB1
  go_wp2_with fail
  refine HPU.out.mono ?_
  rintro e w2 ⟨E, is, rfl, hfo, hpu, hb2⟩
  have F2 : Hid (Below w.heap.size w w2) := F1.out.trans (hb2.mono F0.out.size)
  have HPD := Lib.hid hpu
  have O2 := Lib.hid hfo
  clear hfo hpu hb2 HPU
  cases is
  · go_wp2_with fail
    go_ret3
    exact ⟨_, none, 0, 0, [], false, rfl, ⟨E, HPD.out, (fun h => by cases h)⟩, (fun h => by cases h), fun _ => rfl, by omega, F2.out⟩
  · obtain ⟨hsh, K, hfl, hk⟩ := HPD.out
    rw [if_pos rfl] at hk
    have hoE := HFK.out.shp hsh
    have hlE : E.length = E0.length := by have := congrArg List.length hsh; simpa using this
    have HSR := Lib.hid (search_any gf E src place n w2 (O2.out.in_ (by omega) (by omega) (flo_bound hfl)) hoE)
    have HK := Lib.hid hk.2
    have HOE := Lib.hid hoE
    clear hsh hfl hk hoE
    go_wp2_with fail
    refine HSR.out.mono ?_
    rintro e w3 ⟨g4, by_, at_, rfl, hg4, hi4, hs4, hb4⟩
    have F3 : Hid (Below w.heap.size w w3) := F2.out.trans (hb4.mono F2.out.size)
    have O3 := Lib.hid (O2.out.go hb4)
    have I3 := Lib.hid hi4
    have hlt : at_ < 0 := (Pl.Searched.iff hs4).2 HK.out
    obtain ⟨o, ht, hdn⟩ := hs4
    have hdn : Pl.Done E src o o.length := by
      rcases hdn with ⟨_, h⟩ | ⟨h, _⟩
      · exact h
      · exact absurd (ht.inn _ h).1 (by omega)
    have HT := Lib.hid ht
    have HOR : Hid (∀ v, v ∈ o ↔ Pl.Rch E place v) := fun v => ⟨ht.rch v, fun h => (Pl.Done.closed ht hdn v h).1⟩
    clear hg4 hi4 hlt hdn ht hb4 HSR F2 O2 HK
    obtain ⟨Ae, gs, ne, ce, h1, h2, h3, h4, h5, h6, h7, h8⟩ := O3.out
    have K3 := Lib.hid h1
    have E3 : Hid (Elems edgC 5 w3 w3.heap.size Ae ne E) := ⟨Reads.of_own h2, h3⟩
    have HNE := Lib.hid h3
    have hne : ne ≤ 80 := by omega
    have kf := h1.cell
    clear h1 h2 h3 h4 h5 h6 h7 h8
    go_wp2_with fail
    clear kf
    have G3 : Hid (Below w3.heap.size w3 w3) := Below.refl _ _
    have R3 : Hid (w3.ownsRow w3.heap.size 9 1 (.slice none 0 0) 0 (txts [])) := World.ownsRow_nil _ _ _ _
    go_loopw [10, 29] (fun v i wr => ∃ (k m : Nat) (A : Option Addr) (c : Nat), k ≤ ne ∧ m ≤ k ∧ i = .int .i64 k ∧ v = .slice A m c ∧ Hid (wr.ownsRow w3.heap.size 9 1 (.slice A m c) m (txts ((Pl.cutF (fun v => decide (v ∈ o)) (E.take k)).map Pl.Edg.name))) ∧ Hid (Below w3.heap.size w3 wr)) (fun _ i _ => ne - (intOf i).toNat)
    case atStart => exact ⟨0, 0, none, 0, Nat.zero_le _, Nat.zero_le _, rfl, rfl, R3, G3⟩
    case round =>
      clear R3 G3
      obtain ⟨k, m, A, c, hk, hmk, rfl, rfl, OR, GR⟩ := hrel
      by_cases hkn : k < ne
      · obtain ⟨be, oe, rfl, hle, q0, q1, q2, q3, q4⟩ := edg_at (E3.out.below GR.out) hkn
        have hends := HOE.out.ends E[k] (List.getElem_mem hle)
        have HCS := Lib.hid (cut_snoc (fun v => decide (v ∈ o)) E k hle)
        have IR := Lib.hid (I3.out.go GR.out)
        generalize hed : E[k] = ed at *
        obtain ⟨ea, eb, enm, ebr, efl⟩ := ed
        simp only at *
        clear hed
        obtain ⟨ha0, ha1, hb0, hb1, _⟩ := hends
        have hlen := HT.out.len
        have ta : (ea.toNat : Int) = ea := by omega
        have tb : (eb.toNat : Int) = eb := by omega
        have ca := IR.out.cell ea.toNat (by omega)
        have cb := IR.out.cell eb.toNat (by omega)
        have HLV : Hid (Pl.leaves (fun v => decide (v ∈ o)) ⟨ea, eb, enm, ebr, efl⟩ = ((by_.getD ea.toNat 0 == -1) != (by_.getD eb.toNat 0 == -1))) := by
          have one : ∀ x : Int, 0 ≤ x → x < n → decide (x ∈ o) = !(by_.getD x.toNat 0 == -1) := by
            intro x h0 h1
            have := HT.out.out x.toNat (by omega)
            rw [show ((x.toNat : Nat) : Int) = x by omega] at this
            have hx : x.toNat < by_.length := by omega
            have hg : by_.getD x.toNat 0 = by_[x.toNat] := by rw [List.getD_eq_getElem?_getD, List.getElem?_eq_getElem hx]; rfl
            rw [List.getElem?_eq_getElem hx] at this
            rw [hg]
            by_cases hm : x ∈ o
            · have h2 : ¬ by_[x.toNat] = -1 := fun e => (this.2 (by rw [e])) hm
              simp [hm, h2]
            · have h2 := this.1 hm
              injection h2 with h2
              simp [hm, h2]
          show Pl.leaves _ _ = _
          unfold Pl.leaves
          simp only
          rw [one ea ha0 ha1, one eb hb0 hb1]
          cases (by_.getD ea.toNat 0 == -1) <;> cases (by_.getD eb.toNat 0 == -1) <;> rfl
        generalize by_.getD ea.toNat 0 = va at *
        generalize by_.getD eb.toNat 0 = vb at *
        have X1 := Lib.hid (Blk.new_ wr wr.heap.size 132 #[.int .i64 ea, .int .i64 eb, .string enm, .bool ebr, .int .i64 efl] rfl)
        have A1 := (Below.refl wr.heap.size wr).alloc (Nat.le_refl _) (.cells #[.int .i64 ea, .int .i64 eb, .string enm, .bool ebr, .int .i64 efl] 132)
        have OR1 := Lib.hid (own_go OR.out A1)
        have IR1 := Lib.hid (IR.out.go A1)
        have GR1 := Lib.hid (GR.out.alloc GR.out.size (.cells #[.int .i64 ea, .int .i64 eb, .string enm, .bool ebr, .int .i64 efl] 132))
        have hlb : wr.heap.size < wr.heap.size + 1 := Nat.lt_succ_self _
        have hg4 : g4 < wr.heap.size := IR.out.lt
        clear A1 hlen
        cases ebr
        · simp only [Bool.false_and, Bool.false_eq_true, if_false, List.append_nil] at HCS
          go_wp2_with fail
          go_quiet (fail)
          have OR2 := Lib.hid (own_go OR1.out (below_drewN_s (Below.refl (wr.alloc (.cells #[.int .i64 ea, .int .i64 eb, .string enm, .bool false, .int .i64 efl] 132)).heap.size _) nq))
          have GR2 := Lib.hid (below_drewN_s GR1.out nq)
          go_wp2_with fail
          go_roundw
          case rel => exact ⟨k + 1, m, A, c, by omega, by omega, by go_num, rfl, by rw [HCS.out]; exact OR2, GR2⟩
          case measure => simp [intOf]; omega
        · generalize hlv : Pl.leaves (fun v => decide (v ∈ o)) ⟨ea, eb, enm, true, efl⟩ = lv at *
          clear hlv
          go_wp2_with fail
          go_quiet (fail)
          have OR2 := Lib.hid (own_go OR1.out (below_drewN_s (Below.refl (wr.alloc (.cells #[.int .i64 ea, .int .i64 eb, .string enm, .bool true, .int .i64 efl] 132)).heap.size _) nq))
          have GR2 := Lib.hid (below_drewN_s GR1.out nq)
          have X2 := Lib.hid (X1.out.drewN nq)
          clear OR1 GR1 X1 IR1 q0 q1 q2 q3 q4 ca cb hlb hg4 OR GR IR
          generalize ((wr.alloc (.cells #[.int .i64 ea, .int .i64 eb, .string enm, .bool true, .int .i64 efl] 132)).drewN nq) = w5 at *
          have hxl : wr.heap.size < w5.heap.size := X2.out.lt
          cases lv
          · simp only [Bool.and_false, Bool.false_eq_true, if_false, List.append_nil] at HCS
            generalize hva : (va == -1) = xa at *
            generalize hvb : (vb == -1) = xb at *
            have xc := X2.out.cell
            cases xa <;> cases xb
            all_goals first
              | exact absurd HLV.out (by decide)
              | (go_wp2_with fail
                 go_roundw
                 case rel => exact ⟨k + 1, m, A, c, by omega, by omega, by go_num, rfl, by rw [HCS.out]; exact OR2, GR2⟩
                 case measure => simp [intOf]; omega)
          · simp only [Bool.and_true, if_true] at HCS
            generalize hva : (va == -1) = xa at *
            generalize hvb : (vb == -1) = xb at *
            have xc := X2.out.cell
            obtain ⟨j0, hj0, hjz0, hjz1, hjz2⟩ := info_parts info_txt
            generalize ((Pl.cutF (fun v => decide (v ∈ o)) (E.take k)).map Pl.Edg.name) = zs at *
            cases xa <;> cases xb
            all_goals first
              | exact absurd HLV.out (by decide)
              | (go_wp2_with (at_builtin; go_must (refine wpList_append_any _ rfl (.tmp 50) (.tmp 53) 22 rfl w3.heap.size 9 j0 _ 1 16 Try.underlying22 hj0 hjz0 hjz1 hjz2 rfl (by decide) (.slice A m c) m (txts zs) rfl (own_go OR2.out ((Below.refl w5.heap.size w5).alloc (Nat.le_refl _) (.cells #[.string enm] 9))) (w5.heap.size + 1) (some ⟨w5.heap.size, 0, none⟩) 1 1 [.string enm] rfl (by have := Reads.lit w5 #[.string enm] 9 1 1 w5.heap.size rfl rfl; simpa using this) (by intro u hu; simp at hu; subst hu; rfl) (by unfold maxLen; omega) (by omega) (by have := GR2.out.size; simp; omega) ?_); intro v' w6 hown6 hg6 _; obtain ⟨A6, c6, rfl, _⟩ := own_slice hown6; have G6 := Lib.hid (below_grown (GR2.out.alloc GR2.out.size (.cells #[.string enm] 9)) hg6 (own_go OR2.out ((Below.refl w5.heap.size w5).alloc (Nat.le_refl _) (.cells #[.string enm] 9))) (Nat.le_refl _) (by have := GR2.out.size; simp; omega)); have O6 := Lib.hid hown6; clear hown6 hg6)
                 go_roundw
                 case rel => exact ⟨k + 1, m + 1, A6, c6, by omega, by omega, by go_num, rfl, by rw [HCS.out]; unfold txts at *; rw [List.map_append]; exact O6, G6⟩
                 case measure => simp [intOf]; omega)
      · have hke : k = ne := by omega
        have he : E.take k = E := List.take_of_length_le (by have := HNE.out; omega)
        rw [he] at OR
        have F4 : Hid (Below w.heap.size w wr) := F3.out.trans (GR.out.mono F3.out.size)
        have HLE : Hid (Pl.Leasted E0 src place n ((Pl.cutF (fun v => decide (v ∈ o)) E).map Pl.Edg.name) true) := ⟨E, HPD.out, fun _ => ⟨o, HOR.out, rfl⟩⟩
        clear he hke
        go_wp2_with fail
        go_ret3
        exact ⟨_, A, m, c, _, true, rfl, HLE.out, (fun _ => Reads.of_own OR.out), (fun h => by cases h), by omega, F4.out⟩
end Go.Proofs.Ytpamgeemmbbkkaa
