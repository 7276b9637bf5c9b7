/- ledger.Recover finds what its plain words say. Condition: the library's tables lie as they are laid. ledger.Read gives what its plain words say. Condition: the library's tables lie as they are laid. slices.Equal at entries (equal lists); the entry of the laws' first check. Condition: the entries lie in memory as the words say. -/
import Derived.Test.YtibhgcldogfonaaGreatDoorLedE
import Derived.Lib.SplitLaws
import Derived.Deep.RegionHeld3
namespace Go.Proofs.YtibhgcldogfonaaGreatDoor
open Go.RowKit
namespace Pl
theorem split_le (sep : List UInt8) (k : Nat) (s : List UInt8) : ∀ p ∈ Lib.splitK sep 0 k s, p.length ≤ s.length := by
  induction k generalizing s with
  | zero => intro p hp; rw [Lib.splitK, List.mem_singleton] at hp; rw [hp]; exact Nat.le_refl _
  | succ k ih =>
    intro p hp
    rw [Lib.splitK] at hp
    split at hp
    · rw [List.mem_singleton] at hp; rw [hp]; exact Nat.le_refl _
    · rcases List.mem_cons.1 hp with hp | hp
      · rw [hp, List.length_take]; omega
      · have := ih _ p hp
        rw [List.length_drop] at this
        omega
theorem words_le {line : List UInt8} {w : ByteArray} (h : w ∈ words line) : (bl w).length ≤ line.length := by
  have := split_le [32] (Lib.count line [32]) line (bl w) (by rw [← words_bytes]; exact List.mem_map.2 ⟨w, h, rfl⟩)
  exact this
theorem words_len (line : List UInt8) : (words line).length = Lib.countB ⟨line.toArray⟩ ⟨#[32]⟩ + 1 := Lib.splitB_all ⟨#[32]⟩ (by decide) 0 _ ⟨line.toArray⟩ rfl
theorem cut_le (r : List UInt8) (c : UInt8) : (Lib.cut r [c]).1.length ≤ r.length := by
  unfold Lib.cut
  split
  · simp only [List.length_take]; omega
  · exact Nat.le_refl _
end Pl
theorem step_append_any_if {P : Program} (w : World) {ops : Array Oper} {o : Oper} {a : Act} {K : Act → World → Prop} {Q : Exit → Act → World → Prop} {E : Prop} (hw : Region.wanted o (yielded ops a.tmps) = true) (s x : Operand) (t : TypeId)
    (ho : o.op = .call { callee := .builtin .append, args := #[s, x], argTypes := #[t, t] })
    (base : Nat) (e : TypeId) (i : TypeInfo) (z : Value) (size bytes : Nat) (ht : P.underlying t = some (.slice e)) (hi : P.info? e = some i) (hz : i.zero = some z)
    (hsize : i.size = size) (hby : i.bytes = bytes) (hzs : z.cells.size = size) (hsz : 0 < size)
    (v : Value) (n : Nat) (xs : List Value) (hs : a.eval s = v) (hown : w.ownsRow base e size v n xs)
    (B : Nat) (A : Option Addr) (m c : Nat) (news : List Value) (hx : a.eval x = .slice A m c) (hr : Reads w B size A m news) (h1 : ∀ u ∈ news, u.oneCell' = true)
    (h63 : n + m ≤ maxLen) (hbytes : (n + m) * bytes ≤ 140737488355328) (hbase : base ≤ w.heap.size)
    (h : ∀ v' w', w'.ownsRow base e size v' (n + m) (xs ++ news) → w.grownBy w' v.ownBlock → (v'.ownBlock = v.ownBlock ∨ v'.ownBlock = some w.heap.size) → K (a.put o.dst v') w') :
    if Region.wanted o (yielded ops a.tmps) = true then Oper.wp P o a w K Q else E := by
  rw [if_pos hw]
  exact wp_append_any w s x t ho base e i z size bytes ht hi hz hsize hby hzs hsz v n xs hs hown B A m c news hx hr h1 h63 hbytes hbase h
theorem ent_block {w : World} {g : Nat} {t : TypeId} {a b : ByteArray} {n : Int} (h : Blk w g t #[.string a, .string b, .int .i64 n]) : Reads w w.heap.size 3 (some ⟨g, 0, none⟩) 1 [.string a, .string b, .int .i64 n] := by
  refine ⟨rfl, fun _ => ⟨_, rfl, Blk.lt h, fun j u hu => ?_⟩⟩
  rw [Srt.addr_add, Blk.cell h j]
  simpa using hu
/-- what Recover returns -/
def RecSaid (S : List UInt8) (w : World) (e : Ending) (w' : World) : Prop :=
  ∃ (out : List Pl.LE) (A : Option Addr) (c : Nat) (k er : Int), e = .returned (.tuple #[.slice A out.length c, .int .i64 k, .int .i64 er]) ∧ (131072 < S.length → er = 2 ∧ out = [] ∧ k = 0) ∧ (S.length ≤ 131072 → er = 0 ∧ Pl.RecP S out k) ∧ w'.ownsRow w.heap.size 38 3 (.slice A out.length c) out.length (ents out) ∧ (∀ x ∈ out, EntIn x) ∧ Below w.heap.size w w'
set_option maxHeartbeats 6400000 in
set_option maxRecDepth 100000 in
theorem recover_any (S : List UInt8) (w : World) (hl : LW w) : Calls Tryz.prog 25 #[txt S] w (RecSaid S w) := by
  have HLW := Lib.hid hl
  clear hl
  have hsz : (⟨S.toArray⟩ : ByteArray).size = S.length := by rw [size_bl, Pl.bl_mk]
  unfold txt
  by_cases hbig : 131072 < S.length
  · have hb2 : (131072 : Int) < ((⟨S.toArray⟩ : ByteArray).size : Int) := by rw [hsz]; omega
    go_enter Tryz.func25, Tryz.ntmps25
    go_wp2_with fail
    go_ret3
    exact ⟨[], none, 0, 0, 2, rfl, fun _ => ⟨rfl, rfl, rfl⟩, fun h => absurd hbig (by omega), World.ownsRow_nil _ _ _ _, fun x hx => absurd hx (by simp), Below.refl _ _⟩
  · have hb2 : ¬ (131072 : Int) < ((⟨S.toArray⟩ : ByteArray).size : Int) := by rw [hsz]; omega
    have HBIG : Hid (S.length ≤ 131072) := by show _ ≤ _; omega
    have HSZ := Lib.hid hsz
    clear hbig hsz
    go_enter Tryz.func25, Tryz.ntmps25
    go_wp2_with fail
    have BS : Hid (Blk (w.alloc (.cells #[.int .i64 1, .int .i64 0] 63)) w.heap.size 63 #[.int .i64 (Pl.chkL Pl.s0 []).1, .int .i64 (Pl.chkL Pl.s0 []).2]) := Blk.new_ _ _ _ _ rfl
    have HB0 := Lib.hid ((Below.refl w.heap.size w).alloc (Nat.le_refl _) (.cells #[.int .i64 1, .int .i64 0] 63))
    generalize w.alloc (.cells #[.int .i64 1, .int .i64 0] 63) = w2 at *
    clear hb2
    go_loopw [5, 6] (fun v i wr => ∃ (o : List Pl.LE) (Ao : Option Addr) (co : Nat) (r : List UInt8), v = .slice Ao o.length co ∧ i = .int .i64 ((Pl.textS Pl.s0 o).length : Nat) ∧ Hid (Pl.lcheck o = 0) ∧ Hid (S = Pl.textS Pl.s0 o ++ r) ∧ Hid (Blk wr w.heap.size 63 #[.int .i64 (Pl.chkL Pl.s0 o).1, .int .i64 (Pl.chkL Pl.s0 o).2]) ∧ Hid (wr.ownsRow (w.heap.size + 1) 38 3 (.slice Ao o.length co) o.length (ents o)) ∧ Hid (∀ x ∈ o, EntIn x) ∧ Hid (Below w.heap.size w wr)) (fun _ i _ => S.length - (intOf i).toNat)
    case atStart => exact ⟨[], none, 0, S, rfl, rfl, Pl.lcheck_nil, rfl, BS, World.ownsRow_nil _ _ _ _, fun x hx => absurd hx (by simp), HB0⟩
    case round =>
      clear BS HB0
      obtain ⟨o, Ao, co, r, rfl, rfl, HOK, HSR, BS, OW, HEI, HB⟩ := hrel
      have hlen : S.length = (Pl.textS Pl.s0 o).length + r.length := by rw [HSR.out, List.length_append]
      have hbig := HBIG.out
      have hsz2 := HSZ.out
      have hsl : ∀ W, (Instr.slice 9 (.string ⟨S.toArray⟩) (some (.int .i64 ((Pl.textS Pl.s0 o).length : Nat))) none none).run Tryz.prog W = .ok (.string ⟨r.toArray⟩) W := fun W => by
        rw [run_slice_string_l W 9 ⟨S.toArray⟩ Tryz.underlying9 .i64 _ (by omega) (by omega)]
        congr 2
        apply Pl.bl_inj
        unfold Pl.bl
        rw [Go.Lib.extract_to_end]
        simp only [Int.toNat_natCast]
        rw [HSR.out]
        simp
      have HCUT := Lib.hid (fun (w : World) h => cut_any r 10 (by omega) w h)
      have HSPL := Lib.hid (fun (w : World) h => split_any (Lib.cut r [10]).1 32 (by have := Pl.cut_le r 10; omega) w h)
      have HPT : Hid (Pl.one o r (Pl.chkL Pl.s0 o) = none → Pl.RecP S o ((Pl.textS Pl.s0 o).length : Nat)) := fun h => ⟨HOK.out, r, HSR.out, rfl, h⟩
      have HONE : Hid (Pl.one o r (Pl.chkL Pl.s0 o) = if (Lib.cut r [10]).2.2 = false ∨ (Pl.words (Lib.cut r [10]).1).length ≠ 4 then none else
        match Lib.atoiAll (Pl.bl ((Pl.words (Lib.cut r [10]).1).getD 2 ByteArray.empty)) with
        | .ok n => if Pl.lineS (Pl.chkL Pl.s0 o) (Pl.entryOf (Pl.words (Lib.cut r [10]).1) n) = (Lib.cut r [10]).1 ++ [10] ∧ Pl.lcheck (o ++ [Pl.entryOf (Pl.words (Lib.cut r [10]).1) n]) = 0 then some (Pl.entryOf (Pl.words (Lib.cut r [10]).1) n) else none
        | _ => none) := rfl
      have HWL := Lib.hid (Pl.words_len (Lib.cut r [10]).1)
      have HWB := Lib.hid (fun x hx => Pl.words_le (line := (Lib.cut r [10]).1) (w := x) hx)
      have hcl := Pl.cut_le r 10
      have HWD : Hid (Lib.splitB ⟨#[32]⟩ 0 (Lib.countB ⟨((Lib.cut r [10]).1).toArray⟩ ⟨#[32]⟩) ⟨((Lib.cut r [10]).1).toArray⟩ = Pl.words (Lib.cut r [10]).1) := rfl
      rw [HWD.out] at HSPL
      generalize Pl.words (Lib.cut r [10]).1 = ws at *
      rw [← HWL.out] at HSPL
      generalize Lib.cut r [10] = ct at *
      obtain ⟨cl, ca, cb⟩ := ct
      simp only at HCUT HSPL HONE HWB hcl
      have HCL : Hid (cl.length ≤ 131072) := by show _ ≤ _; omega
      clear HWD HWL hlen hsz2 hbig hcl
      unfold txt at HCUT HSPL
      go_wp2_with fail
      refine (HCUT.out wr (HLW.out.go HB.out)).mono ?_
      rintro e w3 ⟨rfl, hb⟩
      have HB3 := Lib.hid (HB.out.trans (hb.mono HB.out.size))
      have BS3 := Lib.hid (BS.out.go hb)
      have OW3 := Lib.hid (own_go OW.out hb)
      clear hb BS OW HB HCUT hsl
      go_wp2_with fail
      refine (HSPL.out w3 (HLW.out.go HB3.out)).mono ?_
      rintro e w4 ⟨rfl, rfl⟩
      have AL : Hid (Below w3.heap.size w3 (w3.alloc (.cells (ws.map Value.string).toArray 9))) := (Below.refl _ _).alloc (Nat.le_refl _) _
      have HB4 := Lib.hid (HB3.out.trans (AL.out.mono HB3.out.size))
      have BS4 := Lib.hid (BS3.out.go AL.out)
      have OW4 := Lib.hid (own_go OW3.out AL.out)
      have BW := Lib.hid (Blk.new_ w3 w3.heap.size 9 (ws.map Value.string).toArray rfl)
      have HG3 : Hid (w.heap.size + 1 ≤ w3.heap.size) := BS3.out.lt
      clear AL BS3 OW3 HB3 HSPL
      generalize w3.alloc (.cells (ws.map Value.string).toArray 9) = wa at *
      generalize w3.heap.size = gw at *
      by_cases hbad : cb = false ∨ ws.length ≠ 4
      · rw [if_pos hbad] at HONE
        have HRP := Lib.hid (HPT.out HONE.out)
        have fin : ∀ W, Below wa.heap.size wa W → RecSaid S w (.returned (.tuple #[.slice Ao o.length co, .int .i64 ((Pl.textS Pl.s0 o).length : Nat), .int .i64 0])) W := fun W hb => ⟨o, Ao, co, _, 0, rfl, fun h => absurd HBIG.out (by omega), fun _ => ⟨rfl, HRP.out⟩, own_base (own_go OW4.out hb) (Nat.le_succ _), HEI.out, HB4.out.trans (hb.mono HB4.out.size)⟩
        have HFIN := Lib.hid fin
        clear fin
        cases cb
        · go_wp2_with fail
          go_ret3
          exact HFIN.out _ (Below.refl _ _)
        · have h4 : ws.length ≠ 4 := by
            rcases hbad with h | h
            · cases h
            · exact h
          have h4b : ((ws.length : Int) != 4) = true := by rw [bne_iff_ne]; omega
          clear hbad h4
          go_wp2_with fail
          go_ret3
          exact HFIN.out _ (Below.refl _ _)
      · rw [if_neg hbad] at HONE
        have h4 : ws.length = 4 := by
          by_cases h : ws.length = 4
          · exact h
          · exact absurd (Or.inr h) hbad
        have hcb : cb = true := by
          cases cb
          · exact absurd (Or.inl rfl) hbad
          · rfl
        clear hbad
        subst hcb
        obtain ⟨ba, bb, bc, bd, rfl⟩ : ∃ a b c d, ws = [a, b, c, d] := by
          match ws, h4 with
          | [a, b, c, d], _ => exact ⟨a, b, c, d, rfl⟩
        clear h4
        have la := HWB.out ba (by simp)
        have lb := HWB.out bb (by simp)
        have lc := HWB.out bc (by simp)
        have hcl := HCL.out
        rw [← size_bl] at la lb lc
        have HSA : Hid (ba.size ≤ 131072) := by show _ ≤ _; omega
        have HSB : Hid (bb.size ≤ 131072) := by show _ ≤ _; omega
        have HAT := Lib.hid (fun (w : World) h => atoi_any bc (by omega) w h)
        unfold AtoiSaid at HAT
        have eN : ∀ n, Pl.entryOf [ba, bb, bc, bd] n = (ba, bb, n) := fun _ => rfl
        have eC : ([ba, bb, bc, bd] : List ByteArray).getD 2 ByteArray.empty = bc := rfl
        simp only [eN, eC] at HONE
        clear eN eC la lb lc hcl HWB
        have q0 := BW.out.cell 0
        have q1 := BW.out.cell 1
        have q2 := BW.out.cell 2
        simp only [List.map_cons, List.map_nil] at q0 q1 q2
        have lw := BW.out.lt
        go_wp2_with fail
        refine (HAT.out wa (HLW.out.go HB4.out)).mono ?_
        rintro e w5 ⟨n, ev, rfl, n0, n1, hev, hb⟩
        have HEV := Lib.hid hev
        have HB5 := Lib.hid (HB4.out.trans (hb.mono HB4.out.size))
        have BS5 := Lib.hid (BS4.out.go hb)
        have OW5 := Lib.hid (own_go OW4.out hb)
        have BW5 := Lib.hid (BW.out.go hb)
        have HG5 : Hid (w.heap.size + 1 ≤ w5.heap.size) := BS5.out.lt
        clear hb hev BS4 OW4 HB4 BW q0 q1 q2 lw HAT HG3
        have q0 := BW5.out.cell 0
        have q1 := BW5.out.cell 1
        simp only [List.map_cons, List.map_nil] at q0 q1
        go_wp2_with fail
        have hso := Pl.chkL_ok Pl.s0_ok o
        have hein : EntIn (ba, bb, n) := ⟨Nat.le_trans HSA.out (by omega), Nat.le_trans HSB.out (by omega), n0, n1⟩
        have HEN := Lib.hid hein
        have HLN := Lib.hid (fun (w : World) h => line_any (Pl.chkL Pl.s0 o) (ba, bb, n) w hso hein (Nat.le_trans HSA.out (by show (131072 : Nat) ≤ 200000; omega)) (Nat.le_trans HSB.out (by show (131072 : Nat) ≤ 200000; omega)) h)
        simp only at HLN
        clear hso hein
        have AL : Hid (Below w5.heap.size w5 (w5.alloc (.cells #[.string ba, .string bb, .int .i64 n] 38)).drew) := ((Below.refl _ _).alloc (Nat.le_refl _) _).drew
        have HB6 := Lib.hid (HB5.out.trans (AL.out.mono HB5.out.size))
        have BS6 := Lib.hid (BS5.out.go AL.out)
        have OW6 := Lib.hid (own_go OW5.out AL.out)
        have BX6 : Hid (Blk (w5.alloc (.cells #[.string ba, .string bb, .int .i64 n] 38)).drew w5.heap.size 38 #[.string ba, .string bb, .int .i64 n]) := Blk.drew (Blk.new_ _ _ _ _ rfl)
        have z0 : (w5.alloc (.cells #[.string ⟨#[]⟩, .string ⟨#[]⟩, .int .i64 0] 38)).cell? ⟨gw, 0, none⟩ = some (.string ba) := by rw [World.cell?_alloc_some _ _ _ (by rw [q0]; rfl)]; exact q0
        have z1 : (w5.alloc (.cells #[.string ⟨#[]⟩, .string ⟨#[]⟩, .int .i64 0] 38)).cell? ⟨gw, 1, none⟩ = some (.string bb) := by rw [World.cell?_alloc_some _ _ _ (by rw [q1]; rfl)]; exact q1
        go_region
        clear z0 z1
        clear q0 q1 AL HB5 BS5 OW5 BW5
        generalize (w5.alloc (.cells #[.string ba, .string bb, .int .i64 n] 38)).drew = w6 at *
        generalize w5.heap.size = gx at *
        have s0 := BS6.out.cell 0
        have s1 := BS6.out.cell 1
        have x0 := BX6.out.cell 0
        have x1 := BX6.out.cell 1
        have x2 := BX6.out.cell 2
        go_wp2_with fail
        refine (HLN.out w6 (HLW.out.go HB6.out)).mono ?_
        rintro e w7 ⟨rfl, hb⟩
        have HB7 := Lib.hid (HB6.out.trans (hb.mono HB6.out.size))
        have BS7 := Lib.hid (BS6.out.go hb)
        have BX7 := Lib.hid (BX6.out.go hb)
        have OW7 := Lib.hid (own_go OW6.out hb)
        clear hb s0 s1 x0 x1 x2 BS6 BX6 OW6 HB6 HLN
        go_wp2_with fail
        have HB8 := Lib.hid (HB7.out.alloc HB7.out.size (.cells #[.int .i64 (Pl.chkN (Pl.chkL Pl.s0 o) (ba, bb, n)).1, .int .i64 (Pl.chkN (Pl.chkL Pl.s0 o) (ba, bb, n)).2] 63))
        have BS8 := Lib.hid (BS7.out.alloc (.cells #[.int .i64 (Pl.chkN (Pl.chkL Pl.s0 o) (ba, bb, n)).1, .int .i64 (Pl.chkN (Pl.chkL Pl.s0 o) (ba, bb, n)).2] 63))
        have BX8 := Lib.hid (BX7.out.alloc (.cells #[.int .i64 (Pl.chkN (Pl.chkL Pl.s0 o) (ba, bb, n)).1, .int .i64 (Pl.chkN (Pl.chkL Pl.s0 o) (ba, bb, n)).2] 63))
        have OW8 := Lib.hid (own_go OW7.out ((Below.refl w7.heap.size w7).alloc (Nat.le_refl _) (.cells #[.int .i64 (Pl.chkN (Pl.chkL Pl.s0 o) (ba, bb, n)).1, .int .i64 (Pl.chkN (Pl.chkL Pl.s0 o) (ba, bb, n)).2] 63)))
        have BN8 : Hid (Blk (w7.alloc (.cells #[.int .i64 (Pl.chkN (Pl.chkL Pl.s0 o) (ba, bb, n)).1, .int .i64 (Pl.chkN (Pl.chkL Pl.s0 o) (ba, bb, n)).2] 63)) w7.heap.size 63 #[.int .i64 (Pl.chkN (Pl.chkL Pl.s0 o) (ba, bb, n)).1, .int .i64 (Pl.chkN (Pl.chkL Pl.s0 o) (ba, bb, n)).2]) := Blk.new_ _ _ _ _ rfl
        have HG7 : Hid (w.heap.size + 1 ≤ w7.heap.size) := BS7.out.lt
        have HGN : Hid (∀ g, (Value.slice Ao o.length co).ownBlock = some g → w.heap.size + 1 ≤ g ∧ g < w7.heap.size) := fun g hg => OW7.out.lt g hg
        have hgx : w.heap.size ≠ gx := by have := HG5.out; omega
        clear HB7 BS7 BX7 OW7
        generalize w7.alloc (.cells #[.int .i64 (Pl.chkN (Pl.chkL Pl.s0 o) (ba, bb, n)).1, .int .i64 (Pl.chkN (Pl.chkL Pl.s0 o) (ba, bb, n)).2] 63) = w8 at *
        generalize w7.heap.size = gn at *
        have HNX : Hid (Pl.chkL Pl.s0 (o ++ [(ba, bb, n)]) = Pl.chkN (Pl.chkL Pl.s0 o) (ba, bb, n)) := Pl.chkL_snoc _ _ _
        have HTS : Hid (Pl.textS Pl.s0 (o ++ [(ba, bb, n)]) = Pl.textS Pl.s0 o ++ Pl.lineS (Pl.chkL Pl.s0 o) (ba, bb, n)) := Pl.textS_snoc _ _ _
        have HOSM : Hid (Pl.one o r (Pl.chkL Pl.s0 o) = some (ba, bb, n) → ∃ tail, r = Pl.lineS (Pl.chkL Pl.s0 o) (ba, bb, n) ++ tail) := fun h => (Pl.one_some h).2
        have fin : ∀ W, Pl.one o r (Pl.chkL Pl.s0 o) = none → Below w8.heap.size w8 W → RecSaid S w (.returned (.tuple #[.slice Ao o.length co, .int .i64 ((Pl.textS Pl.s0 o).length : Nat), .int .i64 0])) W := fun W hone hb => ⟨o, Ao, co, _, 0, rfl, fun h => absurd HBIG.out (by omega), fun _ => ⟨rfl, HPT.out hone⟩, own_base (own_go OW8.out hb) (Nat.le_succ _), HEI.out, HB8.out.trans (hb.mono HB8.out.size)⟩
        have HFIN := Lib.hid fin
        have hlnl : (Pl.lineS (Pl.chkL Pl.s0 o) (ba, bb, n)).length ≤ 500000 := by
          have hs := Pl.chk_ok (Pl.chkL_ok Pl.s0_ok o) (Pl.lineT (ba, bb, n))
          obtain ⟨h1, h2, h3, h4⟩ := hs
          have l3 := itoa_len (n := n) n0 n1
          have l4 := itoa_len (n := Pl.sumK (Pl.chkL Pl.s0 o) (ba, bb, n)) (by unfold Pl.sumK Pl.chkN; omega) (by unfold Pl.sumK Pl.chkN; omega)
          have ha := HSA.out
          have hb := HSB.out
          rw [size_bl] at ha hb
          unfold Pl.lineS Pl.line0 Pl.lineT
          simp only [List.length_append, List.length_cons, List.length_nil]
          omega
        have HLNL := Lib.hid hlnl
        clear fin hlnl
        have hcl := HCL.out
        have ha1 : ∀ W, (Op.stringOp .add ⟨cl.toArray⟩ ⟨#[10]⟩).run Tryz.prog W = .ok (.string ⟨(cl ++ [10]).toArray⟩) W := fun W => by
          rw [run_string_add_sum _ _ _ (by rw [size_bl, size_bl, Pl.bl_mk]; show _ + 1 ≤ _; omega)]
          exact congrArg (fun v => Result.ok v W) (txt_of (by rw [bl_app]; rfl))
        clear hcl
        rcases HEV.out with ⟨hat, rfl⟩ | ⟨hat, te, pe, rfl⟩
        · rw [hat] at HONE
          simp only at HONE
          generalize hLN : Pl.lineS (Pl.chkL Pl.s0 o) (ba, bb, n) = ln at *
          have HLNE := Lib.hid hLN
          clear hat hLN
          unfold txt
          by_cases heq : ln = cl ++ [10]
          · have HEQ := Lib.hid heq
            obtain ⟨i0, hi0, hz0, hz1, hz2⟩ := info_parts info_ent
            have hol : o.length ≤ 256 := (Pl.lcheck_ok.1 HOK.out).1
            have HRDO : Hid (Reads w8 w8.heap.size 3 Ao o.length (ents o)) := Reads.of_own OW8.out
            have HCLN := Lib.hid (fun (w : World) h => clone_ents Ao o.length co o w (by omega) h)
            unfold CloneSaidE at HCLN
            have HCK : Hid (∀ (A : Option Addr) (c : Nat) (w : World), w.ownsRow w8.heap.size 38 3 (.slice A (o.length + 1) c) (o.length + 1) (ents o ++ [.string ba, .string bb, .int .i64 n]) → Calls Tryz.prog 21 #[.slice A (o.length + 1) c] w fun e w' => e = .returned (.int .i64 (Pl.lcheck (o ++ [(ba, bb, n)]))) ∧ Below w.heap.size w w') := fun A c w h => by
              refine lcheck_any A (o.length + 1) c (o ++ [(ba, bb, n)]) w ⟨?_, fun x hx => ?_⟩
              · rw [ents_append]
                exact Reads.of_own h
              · rcases List.mem_append.1 hx with hx | hx
                · exact HEI.out x hx
                · rw [List.mem_singleton.1 hx]; exact HEN.out
            subst heq
            have hee : (((⟨(cl ++ [10]).toArray⟩ : ByteArray).toList == (⟨(cl ++ [10]).toArray⟩ : ByteArray).toList)) = true := by simp
            generalize hR : Pl.lcheck (o ++ [(ba, bb, n)]) = R at *
            have HR := Lib.hid hR
            clear hR
            by_cases hR0 : R = 0
            · subst hR0
              rw [if_pos ⟨rfl, rfl⟩] at HONE
              have hcur : Hid (Below w8.heap.size w8 w8.drew) := (Below.refl _ _).drew
              have HSF : Hid (∀ w', Below w8.heap.size w8 w' → (∀ j, w'.cell? ⟨gx, j, none⟩ = #[.string ba, .string bb, .int .i64 n][j]?)) := fun w' hb => (BX8.out.go hb).cell
              go_region_held3 (fun w' => ∀ j, w'.cell? ⟨gx, j, none⟩ = #[.string ba, .string bb, .int .i64 n][j]?)
                (first
                  | exact HSF.out _ hcur.out
                  | exact HSF.out _ (((Below.refl w8.heap.size w8).alloc (Nat.le_refl _) _).drew)
                  | exact HSF.out _ (hcur.out.alloc hcur.out.size _))
                (first
                  | (go_at_call 41; with_reducible refine (HCLN.out _ (HRDO.out.go hcur.out)).mono ?_; rintro e wz ⟨Ac, cc, rfl, hoc, hbz⟩; have oc := Lib.hid (own_base hoc hcur.out.size); have hcur := Lib.hid (hcur.out.trans (hbz.mono hcur.out.size)); clear hoc hbz)
                  | (go_at_call 41; refine (HCLN.out _ (HRDO.out.go (((Below.refl w8.heap.size w8).alloc (Nat.le_refl _) (.cells #[.string ba, .string bb, .int .i64 n] 38)).drew))).mono ?_; rintro e wz ⟨Ac, cc, rfl, hoc, hbz⟩; have b131 := Lib.hid (((Blk.new_ w8 w8.heap.size 38 #[.string ba, .string bb, .int .i64 n] rfl).drew).go hbz); have oc := Lib.hid (own_base hoc (show w8.heap.size ≤ _ by simp)); have hcur := Lib.hid ((((Below.refl w8.heap.size w8).alloc (Nat.le_refl _) (.cells #[.string ba, .string bb, .int .i64 n] 38)).drew).trans (hbz.mono (show w8.heap.size ≤ _ by simp))); clear hoc hbz)
                  | (refine step_append_any_if _ (by rfl) _ _ _ (by rfl) w8.heap.size 38 i0 _ 3 40 Tryz.underlying31 hi0 hz0 hz1 hz2 rfl (by decide) (.slice Ac o.length cc) o.length (ents o) (by rfl) (own_go oc.out ((Below.refl wz.heap.size wz).alloc (Nat.le_refl _) (.cells #[.string ba, .string bb, .int .i64 n] 38))) (wz.heap.size + 1) (some ⟨wz.heap.size, 0, none⟩) 1 1 [.string ba, .string bb, .int .i64 n] (by rfl) (by have := Reads.lit wz #[.string ba, .string bb, .int .i64 n] 38 1 3 wz.heap.size rfl rfl; simpa using this) (by intro u hu; simp at hu; rcases hu with rfl | rfl | rfl <;> rfl) (by unfold maxLen; omega) (by omega) (by have := hcur.out.size; simp; omega) ?_; intro v' w3 hown3 hg3 _; obtain ⟨A3, c3, rfl, _⟩ := own_slice hown3; have o3 := Lib.hid hown3; have hcur := Lib.hid (below_grown (hcur.out.alloc hcur.out.size (.cells #[.string ba, .string bb, .int .i64 n] 38)) hg3 (own_go oc.out ((Below.refl wz.heap.size wz).alloc (Nat.le_refl _) (.cells #[.string ba, .string bb, .int .i64 n] 38))) (Nat.le_refl _) (by have := hcur.out.size; simp; omega)); clear hown3 hg3)
                  | (refine step_append_any_if _ (by rfl) _ _ _ (by rfl) w8.heap.size 38 i0 _ 3 40 Tryz.underlying31 hi0 hz0 hz1 hz2 rfl (by decide) (.slice Ac o.length cc) o.length (ents o) (by rfl) oc.out wz.heap.size (some ⟨w8.heap.size, 0, none⟩) 1 1 [.string ba, .string bb, .int .i64 n] (by rfl) (by have := ent_block b131.out; simpa using this) (by intro u hu; simp at hu; rcases hu with rfl | rfl | rfl <;> rfl) (by unfold maxLen; omega) (by omega) hcur.out.size ?_; intro v' w3 hown3 hg3 _; obtain ⟨A3, c3, rfl, _⟩ := own_slice hown3; have o3 := Lib.hid hown3; have hcur := Lib.hid (below_grown hcur.out hg3 oc.out (Nat.le_refl _) hcur.out.size); clear hown3 hg3)
                  | (go_at_call 21; refine (HCK.out _ _ _ o3.out).mono ?_; rintro e w4 ⟨rfl, hb4⟩; have hcur := Lib.hid (hcur.out.trans (hb4.mono hcur.out.size)); clear hb4))
              all_goals
                have HBE := Lib.hid (HB8.out.trans (hcur.out.mono HB8.out.size))
                have BSE := Lib.hid (BS8.out.go hcur.out)
                have BXE := Lib.hid (BX8.out.go hcur.out)
                have OWE := Lib.hid (own_go OW8.out hcur.out)
                have BNE := Lib.hid (BN8.out.go hcur.out)
                clear hcur o3 oc HSF HB8 BS8 BX8 OW8 BN8 HRDO HCLN HCK HFIN
                generalize w4 = we at *
                obtain ⟨tail, htail⟩ := HOSM.out HONE.out
                have HSR2 : Hid (S = Pl.textS Pl.s0 (o ++ [(ba, bb, n)]) ++ tail) := by
                  show _ = _
                  rw [HTS.out, HSR.out, htail]
                  simp
                have HCLEN : Hid ((Pl.textS Pl.s0 (o ++ [(ba, bb, n)])).length = (Pl.textS Pl.s0 o).length + (cl.length + 1)) := by
                  show _ = _
                  rw [HTS.out]
                  simp
                have hlen2 : (Pl.textS Pl.s0 o).length + (cl.length + 1) ≤ S.length := by
                  have := congrArg List.length HSR2.out
                  rw [List.length_append, HCLEN.out] at this
                  omega
                have hbig := HBIG.out
                have HLE2 := Lib.hid hlen2
                have hts : (((⟨(cl ++ [10]).toArray⟩ : ByteArray).size : Nat) : Int) = (cl.length : Int) + 1 := by rw [size_bl, Pl.bl_mk]; simp
                have hww : IntKind.i64.wrap (((Pl.textS Pl.s0 o).length : Nat) + ((cl.length : Int) + 1)) = ((Pl.textS Pl.s0 o).length : Nat) + ((cl.length : Int) + 1) := IntWalk.i64_in _ (by omega)
                rw [← HNX.out] at BNE
                generalize hnx : Pl.chkL Pl.s0 (o ++ [(ba, bb, n)]) = nx at *
                obtain ⟨na, nb⟩ := nx
                have HNXE := Lib.hid hnx
                clear hnx
                simp only at BNE
                clear htail hlen2 hbig
                have x0 := BXE.out.cell 0
                have x1 := BXE.out.cell 1
                have x2 := BXE.out.cell 2
                go_wp2_with (at_builtin; go_must (refine wpList_append_any _ rfl (.tmp 80) (.tmp 82) 31 rfl (w.heap.size + 1) 38 i0 _ 3 40 Tryz.underlying31 hi0 hz0 hz1 hz2 rfl (by decide) (.slice Ao o.length co) o.length (ents o) rfl (own_go OWE.out ((Below.refl we.heap.size we).alloc (Nat.le_refl _) (.cells #[.string ba, .string bb, .int .i64 n] 38))) (we.heap.size + 1) (some ⟨we.heap.size, 0, none⟩) 1 1 [.string ba, .string bb, .int .i64 n] rfl (by have := Reads.lit we #[.string ba, .string bb, .int .i64 n] 38 1 3 we.heap.size rfl rfl; simpa using this) (by intro u hu; simp at hu; rcases hu with rfl | rfl | rfl <;> rfl) (by unfold maxLen; omega) (by omega) (by have := BSE.out.lt; simp; omega) ?_); intro v' w11 hown11 hg11 _; obtain ⟨A11, c11, rfl, _⟩ := own_slice hown11; have HO11 := Lib.hid hown11; have HG11 := Lib.hid hg11; clear hown11 hg11; have BS11 := Lib.hid ((BSE.out.alloc (.cells #[.string ba, .string bb, .int .i64 n] 38)).grown HG11.out (fun e => by have := (HGN.out _ e.symm).1; omega)); have BN11 := Lib.hid ((BNE.out.alloc (.cells #[.string ba, .string bb, .int .i64 n] 38)).grown HG11.out (fun e => by have := (HGN.out _ e.symm).2; omega)); have HB11 := Lib.hid (below_grown (HBE.out.alloc HBE.out.size (.cells #[.string ba, .string bb, .int .i64 n] 38)) HG11.out (own_go OWE.out ((Below.refl we.heap.size we).alloc (Nat.le_refl _) (.cells #[.string ba, .string bb, .int .i64 n] 38))) (Nat.le_succ _) (by have := HBE.out.size; simp; omega)); have y0 := BN11.out.cell 0; have y1 := BN11.out.cell 1; have u0 := BS11.out.cell 0; have u1 := BS11.out.cell 1; have f0 := BS11.out.frozen 0; have f1 := BS11.out.frozen 1; have lu := BS11.out.lt)
                go_roundw
                case rel =>
                  have ho1 : (o ++ [((ba, bb, n) : Pl.LE)]).length = o.length + 1 := by simp
                  refine ⟨o ++ [(ba, bb, n)], A11, c11, tail, by rw [ho1], vint (by rw [HCLEN.out]; push_cast; omega), HR.out, HSR2, ?_, ?_, fun x hx => ?_, (HB11.out.setCell (p := ⟨w.heap.size, 0, none⟩) (Nat.le_refl _) _).setCell (p := ⟨w.heap.size, 1, none⟩) (Nat.le_refl _) _⟩
                  · rw [HNXE.out]
                    exact (BS11.out.set_ 0 (.int .i64 na)).set_ 1 (.int .i64 nb)
                  · rw [ho1, ents_append]
                    exact own_far (own_far HO11.out (p := ⟨w.heap.size, 0, none⟩) (Nat.lt_succ_self _) _) (p := ⟨w.heap.size, 1, none⟩) (Nat.lt_succ_self _) _
                  · rcases List.mem_append.1 hx with hx | hx
                    · exact HEI.out x hx
                    · rw [List.mem_singleton.1 hx]; exact HEN.out
                case measure =>
                  have := HLE2.out
                  simp [intOf]
                  omega
            · rw [if_neg (fun h => hR0 h.2)] at HONE
              have hR1 : (R != 0) = true := by simpa using hR0
              have hcur : Hid (Below w8.heap.size w8 w8.drew) := (Below.refl _ _).drew
              have HSF : Hid (∀ w', Below w8.heap.size w8 w' → (∀ j, w'.cell? ⟨gx, j, none⟩ = #[.string ba, .string bb, .int .i64 n][j]?)) := fun w' hb => (BX8.out.go hb).cell
              go_region_held3 (fun w' => ∀ j, w'.cell? ⟨gx, j, none⟩ = #[.string ba, .string bb, .int .i64 n][j]?)
                (first
                  | exact HSF.out _ hcur.out
                  | exact HSF.out _ (((Below.refl w8.heap.size w8).alloc (Nat.le_refl _) _).drew)
                  | exact HSF.out _ (hcur.out.alloc hcur.out.size _))
                (first
                  | (go_at_call 41; with_reducible refine (HCLN.out _ (HRDO.out.go hcur.out)).mono ?_; rintro e wz ⟨Ac, cc, rfl, hoc, hbz⟩; have oc := Lib.hid (own_base hoc hcur.out.size); have hcur := Lib.hid (hcur.out.trans (hbz.mono hcur.out.size)); clear hoc hbz)
                  | (go_at_call 41; refine (HCLN.out _ (HRDO.out.go (((Below.refl w8.heap.size w8).alloc (Nat.le_refl _) (.cells #[.string ba, .string bb, .int .i64 n] 38)).drew))).mono ?_; rintro e wz ⟨Ac, cc, rfl, hoc, hbz⟩; have b131 := Lib.hid (((Blk.new_ w8 w8.heap.size 38 #[.string ba, .string bb, .int .i64 n] rfl).drew).go hbz); have oc := Lib.hid (own_base hoc (show w8.heap.size ≤ _ by simp)); have hcur := Lib.hid ((((Below.refl w8.heap.size w8).alloc (Nat.le_refl _) (.cells #[.string ba, .string bb, .int .i64 n] 38)).drew).trans (hbz.mono (show w8.heap.size ≤ _ by simp))); clear hoc hbz)
                  | (refine step_append_any_if _ (by rfl) _ _ _ (by rfl) w8.heap.size 38 i0 _ 3 40 Tryz.underlying31 hi0 hz0 hz1 hz2 rfl (by decide) (.slice Ac o.length cc) o.length (ents o) (by rfl) (own_go oc.out ((Below.refl wz.heap.size wz).alloc (Nat.le_refl _) (.cells #[.string ba, .string bb, .int .i64 n] 38))) (wz.heap.size + 1) (some ⟨wz.heap.size, 0, none⟩) 1 1 [.string ba, .string bb, .int .i64 n] (by rfl) (by have := Reads.lit wz #[.string ba, .string bb, .int .i64 n] 38 1 3 wz.heap.size rfl rfl; simpa using this) (by intro u hu; simp at hu; rcases hu with rfl | rfl | rfl <;> rfl) (by unfold maxLen; omega) (by omega) (by have := hcur.out.size; simp; omega) ?_; intro v' w3 hown3 hg3 _; obtain ⟨A3, c3, rfl, _⟩ := own_slice hown3; have o3 := Lib.hid hown3; have hcur := Lib.hid (below_grown (hcur.out.alloc hcur.out.size (.cells #[.string ba, .string bb, .int .i64 n] 38)) hg3 (own_go oc.out ((Below.refl wz.heap.size wz).alloc (Nat.le_refl _) (.cells #[.string ba, .string bb, .int .i64 n] 38))) (Nat.le_refl _) (by have := hcur.out.size; simp; omega)); clear hown3 hg3)
                  | (refine step_append_any_if _ (by rfl) _ _ _ (by rfl) w8.heap.size 38 i0 _ 3 40 Tryz.underlying31 hi0 hz0 hz1 hz2 rfl (by decide) (.slice Ac o.length cc) o.length (ents o) (by rfl) oc.out wz.heap.size (some ⟨w8.heap.size, 0, none⟩) 1 1 [.string ba, .string bb, .int .i64 n] (by rfl) (by have := ent_block b131.out; simpa using this) (by intro u hu; simp at hu; rcases hu with rfl | rfl | rfl <;> rfl) (by unfold maxLen; omega) (by omega) hcur.out.size ?_; intro v' w3 hown3 hg3 _; obtain ⟨A3, c3, rfl, _⟩ := own_slice hown3; have o3 := Lib.hid hown3; have hcur := Lib.hid (below_grown hcur.out hg3 oc.out (Nat.le_refl _) hcur.out.size); clear hown3 hg3)
                  | (go_at_call 21; refine (HCK.out _ _ _ o3.out).mono ?_; rintro e w4 ⟨rfl, hb4⟩; have hcur := Lib.hid (hcur.out.trans (hb4.mono hcur.out.size)); clear hb4))
              all_goals
                have hok9 := hcur.out
                go_wp2_with fail
                go_ret3
                exact HFIN.out _ HONE.out hok9
          · have hBne : (⟨ln.toArray⟩ : ByteArray) ≠ ⟨(cl ++ [10]).toArray⟩ := fun e => heq (congrArg Pl.bl e)
            rw [if_neg (fun h => heq h.1)] at HONE
            generalize (⟨ln.toArray⟩ : ByteArray) = lnB at *
            generalize (⟨(cl ++ [10]).toArray⟩ : ByteArray) = clB at *
            have hne := str_ne hBne
            have hne2 := str_ne2 hBne
            refine wp_region_wd (by kernel_rfl) (by kernel_rfl) ?_
            repeat (go_big_quiet_step (fail))
            refine wpQuiet_nil ?_
            rintro _ ⟨w9, rfl⟩
            have hok9 := w9.ok
            generalize w9.val = w10 at *
            go_wp2_with fail
            go_ret3
            exact HFIN.out _ HONE.out hok9
        · have hone : Pl.one o r (Pl.chkL Pl.s0 o) = none := by
            rw [HONE.out]
            cases hh : Lib.atoiAll (Pl.bl bc) with
            | ok v => exact absurd hh (hat v)
            | «syntax» => rfl
            | range => rfl
          have HON := Lib.hid hone
          clear hone hat
          refine wp_region_wd (by kernel_rfl) (by kernel_rfl) ?_
          repeat (go_big_quiet_step (fail))
          refine wpQuiet_nil ?_
          rintro _ ⟨w9, rfl⟩
          have hok9 := w9.ok
          generalize w9.val = w10 at *
          go_wp2_with fail
          go_ret3
          exact HFIN.out _ HON.out hok9
end Go.Proofs.YtibhgcldogfonaaGreatDoor
namespace Go.Proofs.YtibhgcldogfonaaGreatDoor
open Go.RowKit
/-- what Read returns -/
def ReadSaid (S : List UInt8) (w : World) (e : Ending) (w' : World) : Prop :=
  ∃ (out : List Pl.LE) (A : Option Addr) (c : Nat) (er : Int), e = .returned (.tuple #[.slice A out.length c, .int .i64 er]) ∧ (er = 0 → Pl.lcheck out = 0 ∧ S = Pl.textS Pl.s0 out) ∧ (er ≠ 0 → out = []) ∧ (∀ l, Pl.lcheck l = 0 → S = Pl.textS Pl.s0 l → er = 0 ∧ out = l) ∧ w'.ownsRow w.heap.size 38 3 (.slice A out.length c) out.length (ents out) ∧ (∀ x ∈ out, EntIn x) ∧ Below w.heap.size w w'
theorem Pl.text_short {l : List Pl.LE} (h : Pl.lcheck l = 0) : (Pl.textS Pl.s0 l).length ≤ 15360 := by
  obtain ⟨h1, h2, _⟩ := Pl.lcheck_ok.1 h
  have := Pl.textS_len Pl.s0_ok h2
  omega
set_option maxHeartbeats 1600000 in
set_option maxRecDepth 100000 in
theorem read_any (S : List UInt8) (w : World) (hl : LW w) : Calls Tryz.prog 9 #[txt S] w (ReadSaid S w) := by
  have HREC := Lib.hid (recover_any S w hl)
  unfold RecSaid at HREC
  have hsz : (⟨S.toArray⟩ : ByteArray).size = S.length := by rw [size_bl, Pl.bl_mk]
  unfold txt at HREC ⊢
  go_enter Tryz.func9, Tryz.ntmps9
  go_wp2_with fail
  refine (HREC.out).mono ?_
  rintro e w2 ⟨out, A, c, k, er, rfl, hbig, hsmall, hown, hein, hb⟩
  have HO := Lib.hid hown
  have HE := Lib.hid hein
  have HB := Lib.hid hb
  have HBIG := Lib.hid hbig
  have HSM := Lib.hid hsmall
  clear hown hein hb hbig hsmall HREC
  by_cases hb2 : 131072 < S.length
  · obtain ⟨rfl, rfl, rfl⟩ := HBIG.out hb2
    go_wp2_with fail
    go_ret2
    refine ⟨[], none, 0, 2, rfl, fun h => absurd h (by decide), fun _ => rfl, fun l h1 h2 => ?_, World.ownsRow_nil _ _ _ _, fun x hx => absurd hx (by simp), HB.out⟩
    have := Pl.text_short h1
    rw [h2] at hb2
    omega
  · obtain ⟨rfl, hrec⟩ := HSM.out (by omega)
    have HR := Lib.hid hrec
    obtain ⟨h0, r, hr, hk, _⟩ := hrec
    have hlen : S.length = (Pl.textS Pl.s0 out).length + r.length := by
      have := congrArg List.length hr
      rwa [List.length_append] at this
    by_cases hr0 : r = []
    · have hge : ¬ k < (S.length : Int) := by
        rw [hlen, hk, hr0]
        simp
      have HRD : Hid (S = Pl.textS Pl.s0 out) := by show _ = _; rw [hr, hr0, List.append_nil]
      have H0 := Lib.hid h0
      clear hlen hk hr hb2 h0
      go_wp2_with fail
      go_ret2
      refine ⟨out, A, c, 0, rfl, fun _ => ⟨H0.out, HRD.out⟩, fun h => absurd rfl h, fun l h1 h2 => ⟨rfl, ?_⟩, HO.out, HE.out, HB.out⟩
      exact (Pl.rec_done (tail := []) HR.out h1 (by rw [List.append_nil]; exact h2) (by simp)).1
    · have hlt : k < (S.length : Int) := by
        have := List.length_pos_iff.2 hr0
        rw [hlen, hk]
        omega
      have HLEN := Lib.hid hlen
      have HK := Lib.hid hk
      have HR0 := Lib.hid hr0
      clear hlen hk hr hb2 h0 hr0
      go_wp2_with fail
      go_ret2
      refine ⟨[], none, 0, 13, rfl, fun h => absurd h (by decide), fun _ => rfl, fun l h1 h2 => ?_, World.ownsRow_nil _ _ _ _, fun x hx => absurd hx (by simp), HB.out⟩
      exfalso
      obtain ⟨e1, e2⟩ := Pl.rec_done (tail := []) HR.out h1 (by rw [List.append_nil]; exact h2) (by simp)
      have := HLEN.out
      rw [e1, ← h2] at this
      exact HR0.out (List.eq_nil_of_length_eq_zero (by omega))
end Go.Proofs.YtibhgcldogfonaaGreatDoor
namespace Go.Proofs.YtibhgcldogfonaaGreatDoor
open Go.RowKit
set_option maxHeartbeats 800000 in
theorem eqle_any (A B : Option Addr) (n m c d : Nat) (x y : List Pl.LE) (w : World) (hn : n ≤ 1000000000000000) (hx : Ents w A n x) (hy : Ents w B m y) (hxy : x = y) :
    Calls Tryz.prog 11 #[.slice A n c, .slice B m d] w fun e w' => e = .returned (.bool true) ∧ Below w.heap.size w w' := by
  subst hxy
  have hnm : m = n := by have := hx.len; have := hy.len; omega
  subst hnm
  have e0 : ((m : Int) != (m : Int)) = false := by simp
  have HX := Lib.hid hx
  have HY := Lib.hid hy
  clear hx hy
  go_enter Tryz.func11, Tryz.ntmps11
  go_wp2_with fail
  go_loopw [13] (fun i wr => ∃ k : Nat, k ≤ m ∧ i = .int .i64 k ∧ Below w.heap.size w wr) (fun i _ => m - (intOf i).toNat)
  case atStart => exact ⟨0, Nat.zero_le _, rfl, Below.refl _ _⟩
  case round =>
    obtain ⟨k, hk, rfl, hb⟩ := hrel
    have HB := Lib.hid hb
    by_cases hlt : k < m
    · obtain ⟨b, o, rfl, hl1, c1, c2, c3, _⟩ := (HX.out.go hb).at_ hlt
      obtain ⟨b', o', rfl, hl2, d1, d2, d3, _⟩ := (HY.out.go hb).at_ hlt
      clear hb
      generalize x[k] = z at *
      obtain ⟨z0, z1, z2⟩ := z
      simp only at c1 c2 c3 d1 d2 d3
      have ez : (z2 != z2) = false := by simp
      go_wp2_with fail
      go_region
      go_wp2_with fail
      go_roundw
      case rel => exact ⟨k + 1, by omega, by go_num, HB.out.drew⟩
      case measure => simp [intOf]; omega
    · go_wp2_with fail
      go_ret
      exact ⟨rfl, HB.out⟩
namespace Pl
/-- the entry of the laws' first check -/
def lAB : List LE := [(⟨#[65]⟩, ⟨#[66]⟩, 5)]
theorem lAB_ok : lcheck lAB = 0 := by
  rw [lcheck_ok]
  refine ⟨by decide, fun x hx => ?_, ?_⟩
  · rw [List.mem_singleton.1 hx]
    decide +kernel
  · have h : (accL lAB).length ≤ (nmsL lAB).length := nodup_len (accL_nodup lAB) fun x hx => accL_mem.1 hx
    exact Nat.le_trans h (by decide)
theorem lAB_text : ∃ r, textS s0 lAB = [65, 32, 66, 32, 53, 32] ++ r := by
  refine ⟨Go.Lib.itoa (sumK s0 (⟨#[65]⟩, ⟨#[66]⟩, 5)) ++ [10], ?_⟩
  have h5 : Go.Lib.itoa 5 = [53] := by decide +kernel
  unfold lAB textS textS lineS line0 lineT
  rw [h5]
  simp only [List.append_assoc, List.append_nil]
  rfl
end Pl
theorem lAB_in : ∀ x ∈ Pl.lAB, EntIn x := fun x hx => by rw [List.mem_singleton.1 hx]; exact ⟨by decide, by decide, by decide, by decide⟩
theorem lAB_ents (w : World) : Ents (w.alloc (.cells #[.string ⟨#[65]⟩, .string ⟨#[66]⟩, .int .i64 5] 38)) (some ⟨w.heap.size, 0, none⟩) 1 Pl.lAB := by
  refine ⟨?_, lAB_in⟩
  have := Reads.lit w #[.string ⟨#[65]⟩, .string ⟨#[66]⟩, .int .i64 5] 38 1 3 w.heap.size rfl rfl
  simpa [ents, ecells, Pl.lAB] using this
theorem lAB_pre {S : List UInt8} (h : S = Pl.textS Pl.s0 Pl.lAB) : Go.Lib.hasPrefix S [65, 32, 66, 32, 53, 32] = true := by
  obtain ⟨r, hr⟩ := Pl.lAB_text
  rw [h, hr]
  simp [Go.Lib.hasPrefix]
end Go.Proofs.YtibhgcldogfonaaGreatDoor
