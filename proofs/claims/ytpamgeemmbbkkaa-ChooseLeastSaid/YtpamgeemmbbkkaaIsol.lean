/- choose's Isolated and Least answer as the plain law says. Condition: the network reads, the opened names read. -/
import Derived.Test.YtpamgeemmbbkkaaLeast
namespace Go.Proofs.Ytpamgeemmbbkkaa
open Go.RowKit
set_option maxRecDepth 100000
theorem placeE_ok {N : Pl.Net} {br : ByteArray} {part : Int} (h : Pl.placeE N br part = 0) : Pl.NetOk N ∧ ∃ b, Pl.PlaceOk N br part b := by
  unfold Pl.placeE at h
  split at h
  · rename_i h1; exact absurd h h1
  · rename_i h1
    split at h
    · omega
    · rename_i h2
      split at h
      · omega
      · rename_i h3
        refine ⟨Pl.netE_ok (by simpa using h1), ?_⟩
        have h4 : ∃ b ∈ N.branches, (b.name.toList == br.toList) = true := by
          unfold Pl.idxBra Pl.idxOf at h2
          cases e : N.branches.findIdx? (fun z => z.name.toList == br.toList) with
          | none => rw [e] at h2; simp at h2
          | some i =>
            rw [List.findIdx?_eq_some_iff_getElem] at e
            obtain ⟨hi, h5, _⟩ := e
            exact ⟨_, List.getElem_mem hi, h5⟩
        obtain ⟨b, hb, hn⟩ := h4
        refine ⟨b, hb, ?_, by omega, by omega⟩
        rw [beq_iff_eq, ByteArray.toList_eq, ByteArray.toList_eq] at hn
        exact Pl.lst_inj hn
/-- is it a switch's name? -/
def Pl.swB (N : Pl.Net) (s : ByteArray) : Bool := decide ((Pl.findE N s).2.2 = 0) && ((Pl.findE N s).1.toList == ([115, 119, 105, 116, 99, 104] : List UInt8))
/-- what Isolated answers -/
def Pl.IsolSaid (N : Pl.Net) (open_ : List ByteArray) (br : ByteArray) (part : Int) (is : Bool) (e : Int) : Prop :=
  (Pl.placeE N br part ≠ 0 → e = Pl.placeE N br part ∧ is = false) ∧
  (Pl.placeE N br part = 0 → open_.all (Pl.swB N) = false → e = 6 ∧ is = false) ∧
  (Pl.placeE N br part = 0 → open_.all (Pl.swB N) = true → e = 0 ∧ (is = true ↔ ∀ v, Pl.Rch (Pl.fEdges N open_ br part) (Pl.fPlace N open_ br part) v → (Pl.fSrc N)[v.toNat]? ≠ some true))
set_option maxHeartbeats 6400000 in
theorem isolated_any (M : MNet) (Ao : Option Addr) (no co : Nat) (open_ : List ByteArray) (br : ByteArray) (part : Int) (w : World) (hM : NetIn w w.heap.size M) (ho : Reads w w.heap.size 1 Ao no (txts open_)) (hno : no ≤ 9223372036854775807)
    (HFO : Hid (∀ w1, NetIn w1 w1.heap.size M → Pl.NetOk M.N → Reads w1 w1.heap.size 1 Ao no (txts open_) → Calls Try.prog 35 #[vNet M, .slice Ao no co, vPlace br part] w1 fun e w' => ∃ g, e = .returned (.pointer (some ⟨g, 0, none⟩)) ∧ FieldOwn w' w1.heap.size g (Pl.fEdges M.N open_ br part) (Pl.fSrc M.N) (Pl.fPlace M.N open_ br part) (M.N.nodes.length + 1) ∧ Below w1.heap.size w1 w')) :
    Calls Try.prog 18 #[vNet M, .slice Ao no co, vPlace br part] w fun e w' => ∃ is er, e = .returned (.tuple #[.bool is, .int .i64 er]) ∧ Pl.IsolSaid M.N open_ br part is er ∧ Below w.heap.size w w' := by
  have F0 := Lib.hid (((Below.refl w.heap.size w).alloc (Nat.le_refl _) (.cells (netC M) 29)).alloc (by simp) (.cells #[.string br, .int .i64 part] 34))
  have B0 := Lib.hid ((Blk.new_ w w.heap.size 29 (netC M) rfl).alloc (.cells #[.string br, .int .i64 part] 34))
  have P0 := Lib.hid (Blk.new_ (w.alloc (.cells (netC M) 29)) (w.heap.size + 1) 34 #[.string br, .int .i64 part] (by simp))
  have C0 := Lib.hid (fun (w1 : World) (hb : Below w.heap.size w w1) => placeE_any M br part w1 (hM.go hb))
  have C1 := Lib.hid (fun (x : ByteArray) (w1 : World) (hb : Below w.heap.size w w1) => findE_any M x w1 (hM.go hb))
  have C2 := Lib.hid (fun (w1 : World) (hb : Below w.heap.size w w1) (hok : Pl.NetOk M.N) => HFO.out w1 (hM.go hb) hok (ho.go hb))
  have HO := Lib.hid ho
  have HL := Lib.hid (txts_len ho)
  have HPK := Lib.hid (fun h => placeE_ok (N := M.N) (br := br) (part := part) h)
  clear hM ho HFO
  unfold vNet vPlace at *
  obtain ⟨N, A0, n0, c0, A1, n1, c1, A2, n2, c2, A3, n3, c3, A4, n4, c4, A5, n5, c5⟩ := M
  unfold netC at *
  simp only at *
  have HIS : Hid (∀ is e, Pl.IsolSaid N open_ br part is e ↔ (Pl.placeE N br part ≠ 0 → e = Pl.placeE N br part ∧ is = false) ∧ (Pl.placeE N br part = 0 → open_.all (Pl.swB N) = false → e = 6 ∧ is = false) ∧ (Pl.placeE N br part = 0 → open_.all (Pl.swB N) = true → e = 0 ∧ (is = true ↔ ∀ v, Pl.Rch (Pl.fEdges N open_ br part) (Pl.fPlace N open_ br part) v → (Pl.fSrc N)[v.toNat]? ≠ some true))) := fun _ _ => Iff.rfl
  generalize hpe : Pl.placeE N br part = pe at *
  clear hpe
  have k0 := B0.out.cell
  have k1 := P0.out.cell
  go_enter Try.func18, Try.ntmps18
  go_wp2_with fail
  refine (C0.out _ F0.out).mono ?_
  rintro e w1 ⟨rfl, hb⟩
  have F1 := Lib.hid (F0.out.trans (hb.mono F0.out.size))
  have B1 := Lib.hid (B0.out.go hb)
  have P1 := Lib.hid (P0.out.go hb)
  clear hb k0 k1 C0 B0 P0 F0
  by_cases h0 : pe = 0
  · obtain ⟨hok, b, hpk⟩ := HPK.out h0
    have HOK := Lib.hid hok
    have HBP := Lib.hid hpk
    have h02 : (pe != 0) = false := by simp [h0]
    have HPE := Lib.hid h0
    clear h0 hok hpk HPK
    go_wp2_with fail
    go_loopw [24] (fun i wr => ∃ k : Nat, k ≤ no ∧ i = .int .i64 k ∧ Hid ((open_.take k).all (Pl.swB N) = true) ∧ Hid (Below w.heap.size w wr) ∧ Hid (Below w1.heap.size w1 wr)) (fun i _ => no - (intOf i).toNat)
    case atStart => exact ⟨0, Nat.zero_le _, rfl, rfl, F1, Below.refl _ _⟩
    case round =>
      obtain ⟨k, hk, rfl, HAL, FR, GR⟩ := hrel
      have BR := Lib.hid (B1.out.go GR.out)
      have PR := Lib.hid (P1.out.go GR.out)
      have kb := BR.out.cell
      have kp := PR.out.cell
      by_cases hkn : k < no
      · obtain ⟨bo, oo, rfl, _, hlk, ck⟩ := txts_at (HO.out.go FR.out) hkn
        have HCK := Lib.hid (C1.out open_[k] wr FR.out)
        have HAK : Hid ((open_.take (k + 1)).all (Pl.swB N) = ((open_.take k).all (Pl.swB N) && Pl.swB N open_[k])) := by
          show _ = _
          rw [List.take_succ_eq_append_getElem hlk, List.all_append]; simp
        have HBAD : Hid (Pl.swB N open_[k] = false → open_.all (Pl.swB N) = false) := fun h => by
          rw [List.all_eq_false]
          exact ⟨_, List.getElem_mem hlk, by simp [h]⟩
        have HSW : Hid (Pl.swB N open_[k] = (decide ((Pl.findE N open_[k]).2.2 = 0) && ((Pl.findE N open_[k]).1.toList == ([115, 119, 105, 116, 99, 104] : List UInt8)))) := rfl
        generalize open_[k] = ok at *
        generalize Pl.swB N ok = sw at *
        generalize Pl.findE N ok = R at *
        obtain ⟨R1, R2, R3⟩ := R
        simp only at *
        go_wp2_with fail
        refine HCK.out.mono ?_
        rintro e w2 ⟨rfl, hb⟩
        have FS := Lib.hid (FR.out.trans (hb.mono FR.out.size))
        have GS := Lib.hid (GR.out.trans (hb.mono GR.out.size))
        clear hb kb kp HCK
        by_cases h3 : R3 = 0
        · have h32 : (R3 != 0) = false := by simp [h3]
          rw [h3] at HSW
          clear h3
          cases hsx : (R1.toList == ([115, 119, 105, 116, 99, 104] : List UInt8))
          · rw [hsx] at HSW
            have hs := HBAD.out (by rw [HSW.out]; rfl)
            have HSX := Lib.hid hs
            clear hs
            go_wp2_with fail
            go_ret2
            exact ⟨false, 6, rfl, (HIS.out _ _).2 ⟨fun h => absurd HPE.out h, fun _ _ => ⟨rfl, rfl⟩, fun _ h => by rw [HSX.out] at h; cases h⟩, FS.out⟩
          · rw [hsx] at HSW
            have HS1 : Hid (sw = true) := by show _ = _; rw [HSW.out]; rfl
            go_wp2_with fail
            go_roundw
            case rel => exact ⟨k + 1, by omega, by go_num, by show _ = _; rw [HAK.out, HAL.out, HS1.out]; rfl, FS, GS⟩
            case measure => simp [intOf]; omega
        · have h32 : (R3 != 0) = true := by simp [h3]
          have hs := HBAD.out (by rw [HSW.out]; simp [h3])
          have HSX := Lib.hid hs
          clear hs h3
          go_wp2_with fail
          go_ret2
          exact ⟨false, 6, rfl, (HIS.out _ _).2 ⟨fun h => absurd HPE.out h, fun _ _ => ⟨rfl, rfl⟩, fun _ h => by rw [HSX.out] at h; cases h⟩, FS.out⟩
      · have hke : k = no := by omega
        rw [hke, List.take_of_length_le (by have := HL.out; omega)] at HAL
        clear hke
        go_wp2_with fail
        refine (C2.out _ FR.out HOK.out).mono ?_
        rintro e w2 ⟨g, rfl, hfo, hb⟩
        have F2 := Lib.hid (FR.out.trans (hb.mono FR.out.size))
        have hf := Pl.field_ok (open_ := open_) HOK.out HBP.out
        have hel := Pl.fEdges_len (open_ := open_) (br := br) (part := part) HOK.out
        have hfl := Pl.fEdges_flow (N := N) (open_ := open_) (br := br) (part := part)
        have hnn := HOK.out.nn
        have HSR := Lib.hid (search_any g _ _ _ _ w2 (hfo.in_ (by omega) (by omega) (fun e he => by rw [hfl e he]; omega)) hf)
        clear hfo hb hf hel hfl hnn kb kp
        go_wp2_with fail
        refine HSR.out.mono ?_
        rintro e w3 ⟨g4, by_, at_, rfl, hg4, hi4, hs4, hb4⟩
        have F3 := Lib.hid (F2.out.trans (hb4.mono F2.out.size))
        have HS4 := Lib.hid (Pl.Searched.iff hs4)
        clear hg4 hi4 hs4 hb4 HSR
        go_wp2_with fail
        go_ret2
        exact ⟨decide (at_ < 0), 0, rfl, (HIS.out _ _).2 ⟨fun h => absurd HPE.out h, fun _ h => (by rw [HAL.out] at h; cases h), fun _ _ => ⟨rfl, by rw [decide_eq_true_eq]; exact HS4.out⟩⟩, F3.out⟩
  · have h02 : (pe != 0) = true := by simp [h0]
    have HPE := Lib.hid h0
    clear h0
    go_wp2_with fail
    go_ret2
    exact ⟨false, pe, rfl, (HIS.out _ _).2 ⟨fun _ => ⟨rfl, rfl⟩, fun h => absurd h HPE.out, fun h => absurd h HPE.out⟩, F1.out⟩
/-- what Least answers -/
def Pl.LeastSaid (N : Pl.Net) (br : ByteArray) (part : Int) (m : Nat) (out : List ByteArray) (e : Int) : Prop :=
  (Pl.placeE N br part ≠ 0 → e = Pl.placeE N br part ∧ m = 0) ∧
  (Pl.placeE N br part = 0 → ∃ is, Pl.Leasted (Pl.fEdges N [] br part) (Pl.fSrc N) (Pl.fPlace N [] br part) (N.nodes.length + 1) out is ∧ (is = false → e = 8 ∧ m = 0) ∧ (is = true → e = 0 ∧ m = out.length))
set_option maxHeartbeats 3200000 in
theorem leastE_any (M : MNet) (br : ByteArray) (part : Int) (w : World) (hM : NetIn w w.heap.size M)
    (HFO : Hid (∀ w1, NetIn w1 w1.heap.size M → Pl.NetOk M.N → Calls Try.prog 35 #[vNet M, .slice none 0 0, vPlace br part] w1 fun e w' => ∃ g, e = .returned (.pointer (some ⟨g, 0, none⟩)) ∧ FieldOwn w' w1.heap.size g (Pl.fEdges M.N [] br part) (Pl.fSrc M.N) (Pl.fPlace M.N [] br part) (M.N.nodes.length + 1) ∧ Below w1.heap.size w1 w')) :
    Calls Try.prog 15 #[vNet M, vPlace br part] w fun e w' => ∃ (A : Option Addr) (m c : Nat) (out : List ByteArray) (er : Int), e = .returned (.tuple #[.slice A m c, .int .i64 er]) ∧ Pl.LeastSaid M.N br part m out er ∧ (er = 0 → Reads w' w'.heap.size 1 A m (txts out)) ∧ m ≤ 1000 ∧ Below w.heap.size w w' := by
  have F0 := Lib.hid (((Below.refl w.heap.size w).alloc (Nat.le_refl _) (.cells (netC M) 29)).alloc (by simp) (.cells #[.string br, .int .i64 part] 34))
  have B0 := Lib.hid ((Blk.new_ w w.heap.size 29 (netC M) rfl).alloc (.cells #[.string br, .int .i64 part] 34))
  have P0 := Lib.hid (Blk.new_ (w.alloc (.cells (netC M) 29)) (w.heap.size + 1) 34 #[.string br, .int .i64 part] (by simp))
  have C0 := Lib.hid (fun (w1 : World) (hb : Below w.heap.size w w1) => placeE_any M br part w1 (hM.go hb))
  have C2 := Lib.hid (fun (b : Pl.Bra) (w1 : World) (hb : Below w.heap.size w w1) (hok : Pl.NetOk M.N) (hp : Pl.PlaceOk M.N br part b) => least_any M br part b w1 (hM.go hb) hok hp (Lib.hid fun w2 h => HFO.out w2 h hok))
  have HPK := Lib.hid (fun h => placeE_ok (N := M.N) (br := br) (part := part) h)
  clear hM HFO
  unfold vNet vPlace at *
  obtain ⟨N, A0, n0, c0, A1, n1, c1, A2, n2, c2, A3, n3, c3, A4, n4, c4, A5, n5, c5⟩ := M
  unfold netC at *
  simp only at *
  have HIS : Hid (∀ m out e, Pl.LeastSaid N br part m out e ↔ (Pl.placeE N br part ≠ 0 → e = Pl.placeE N br part ∧ m = 0) ∧ (Pl.placeE N br part = 0 → ∃ is, Pl.Leasted (Pl.fEdges N [] br part) (Pl.fSrc N) (Pl.fPlace N [] br part) (N.nodes.length + 1) out is ∧ (is = false → e = 8 ∧ m = 0) ∧ (is = true → e = 0 ∧ m = out.length))) := fun _ _ _ => Iff.rfl
  generalize hpe : Pl.placeE N br part = pe at *
  clear hpe
  have k0 := B0.out.cell
  have k1 := P0.out.cell
  go_enter Try.func15, Try.ntmps15
  go_wp2_with fail
  refine (C0.out _ F0.out).mono ?_
  rintro e w1 ⟨rfl, hb⟩
  have F1 := Lib.hid (F0.out.trans (hb.mono F0.out.size))
  have B1 := Lib.hid (B0.out.go hb)
  have P1 := Lib.hid (P0.out.go hb)
  clear hb k0 k1 C0 B0 P0 F0
  by_cases h0 : pe = 0
  · obtain ⟨hok, b, hpk⟩ := HPK.out h0
    have h02 : (pe != 0) = false := by simp [h0]
    have HPE := Lib.hid h0
    have HLS := Lib.hid (C2.out b w1 F1.out hok hpk)
    have k0 := B1.out.cell
    have k1 := P1.out.cell
    clear h0 hok hpk HPK C2
    go_wp2_with fail
    refine HLS.out.mono ?_
    rintro e w2 ⟨P, A, m, c, out, is, rfl, hl, hr, hz, hm, hb⟩
    have F2 := Lib.hid (F1.out.trans (hb.mono F1.out.size))
    have HLE := Lib.hid hl
    clear hl hb k0 k1 HLS
    cases is
    · obtain rfl := hz rfl
      clear hr hz
      go_wp2_with fail
      go_ret2
      exact ⟨none, 0, 0, out, 8, rfl, (HIS.out _ _ _).2 ⟨fun h => absurd HPE.out h, fun _ => ⟨false, HLE.out, fun _ => ⟨rfl, rfl⟩, fun h => by cases h⟩⟩, (fun h => by cases h), by omega, F2.out⟩
    · have HR := Lib.hid (hr rfl)
      clear hr hz
      go_wp2_with fail
      go_ret2
      exact ⟨A, m, c, out, 0, rfl, (HIS.out _ _ _).2 ⟨fun h => absurd HPE.out h, fun _ => ⟨true, HLE.out, (fun h => by cases h), fun _ => ⟨rfl, (txts_len HR.out).symm⟩⟩⟩, fun _ => HR.out, hm, F2.out⟩
  · have h02 : (pe != 0) = true := by simp [h0]
    have HPE := Lib.hid h0
    clear h0
    go_wp2_with fail
    go_ret2
    exact ⟨none, 0, 0, [], pe, rfl, (HIS.out _ _ _).2 ⟨fun _ => ⟨rfl, rfl⟩, fun h => absurd h HPE.out⟩, fun h => absurd h HPE.out, by omega, F1.out⟩
end Go.Proofs.Ytpamgeemmbbkkaa
