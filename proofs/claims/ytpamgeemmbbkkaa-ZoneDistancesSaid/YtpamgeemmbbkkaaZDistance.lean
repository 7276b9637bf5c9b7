/- zone.Distance answers as its plain function says. Condition: the network and the relay read. -/
import Derived.Test.YtpamgeemmbbkkaaZDist
namespace Go.Proofs.Ytpamgeemmbbkkaa
open Go.RowKit
set_option maxRecDepth 100000
/-- what Distance answers -/
def DistanceSaid (N : Pl.Net) (node br : ByteArray) (zs : List (Int × Int)) (pb : ByteArray) (part d e : Int) : Prop :=
  (Pl.zchkE N node br zs pb part ≠ 0 → e = Pl.zchkE N node br zs pb part ∧ d = 0) ∧
  (Pl.zchkE N node br zs pb part = 0 → ∃ (d1 : Int) (is : Bool), (br = pb → is = true ∧ d1 = (Pl.braOf N br).x * (if Pl.lst node = Pl.lst (Pl.braOf N br).from_ then part else 1000 - part)) ∧
    (br ≠ pb → ∃ far : List Int, (∀ v : Int, 0 ≤ v → v < N.nodes.length → Pl.MinOf (Pl.WalkZ (Pl.ZE N [br, pb]) (Pl.idxT N.nodes (Pl.farEnd (Pl.braOf N br) node)) v) (Pl.farAt far v)) ∧ d1 = 1000 * (Pl.braOf N br).x + Pl.distB N far (Pl.braOf N pb) part ∧ is = decide (0 ≤ Pl.distB N far (Pl.braOf N pb) part)) ∧
    (is = true → e = 0 ∧ d = d1) ∧ (is = false → e = 8 ∧ d = 0))
theorem zchk_ok {N : Pl.Net} {node br : ByteArray} {zs : List (Int × Int)} {pb : ByteArray} {part : Int} (h : Pl.zchkE N node br zs pb part = 0) :
    Pl.NetOk N ∧ 0 ≤ Pl.idxBra N br ∧ 0 ≤ Pl.idxBra N pb ∧ (0 ≤ part ∧ part ≤ 1000) ∧ Pl.zoneE N node br zs = 0 ∧ Pl.placeE N pb part = 0 ∧ (Pl.lst node = Pl.lst (Pl.braOf N br).from_ ∨ Pl.lst node = Pl.lst (Pl.braOf N br).to_) := by
  unfold Pl.zchkE at h
  split at h
  · rename_i h1; exact absurd h h1
  · rename_i h1
    have h1 : Pl.zoneE N node br zs = 0 := by simpa using h1
    have hz := h1
    have hp := h
    unfold Pl.zoneE at h1
    split at h1
    · rename_i h2; exact absurd h1 h2
    · rename_i h2
      split at h1
      · omega
      · rename_i h3
        split at h1
        · omega
        · rename_i h4
          unfold Pl.placeE at h
          split at h
          · rename_i h5; exact absurd h5 h2
          · split at h
            · omega
            · rename_i h6
              split at h
              · omega
              · rename_i h7
                refine ⟨Pl.netE_ok (by simpa using h2), by omega, by omega, by omega, hz, hp, ?_⟩
                rcases Classical.em (Pl.lst node = Pl.lst (Pl.braOf N br).from_) with h8 | h8
                · exact .inl h8
                · rcases Classical.em (Pl.lst node = Pl.lst (Pl.braOf N br).to_) with h9 | h9
                  · exact .inr h9
                  · exact absurd (.inl ⟨h8, h9⟩) h4
set_option maxHeartbeats 1600000 in
theorem distance_any (M : MNet) (node br : ByteArray) (Az : Option Addr) (nz cz : Nat) (zs : List (Int × Int)) (pb : ByteArray) (part : Int) (w : World) (hM : NetIn w w.heap.size M) (hz : Reads w w.heap.size 2 Az nz (pairs zs)) (hnz : nz ≤ 9223372036854775807) :
    Calls Try.prog 8 #[vNet M, vRelay node br Az nz cz, vPlace pb part] w fun e w' => ∃ d er, e = .returned (.tuple #[.int .i64 d, .int .i64 er]) ∧ DistanceSaid M.N node br zs pb part d er ∧ Below w.heap.size w w' := by
  have C0 := Lib.hid (fun (w1 : World) (hb : Below w.heap.size w w1) => zchkE_any M node br Az nz cz zs pb part w1 (hM.go hb) (hz.go hb) hnz)
  have HK := Lib.hid (fun h => zchk_ok (N := M.N) (node := node) (br := br) (zs := zs) (pb := pb) (part := part) h)
  have C1 := Lib.hid (fun (h : Pl.zchkE M.N node br zs pb part = 0) (w1 : World) (hb : Below w.heap.size w w1) => dist_any M node br Az nz cz pb part w1 (hM.go hb) (HK.out h).1 (HK.out h).2.1 (HK.out h).2.2.1 (HK.out h).2.2.2.1)
  have HDS : Hid (∀ d e, DistanceSaid M.N node br zs pb part d e ↔ (Pl.zchkE M.N node br zs pb part ≠ 0 → e = Pl.zchkE M.N node br zs pb part ∧ d = 0) ∧
  (Pl.zchkE M.N node br zs pb part = 0 → ∃ (d1 : Int) (is : Bool), (br = pb → is = true ∧ d1 = (Pl.braOf M.N br).x * (if Pl.lst node = Pl.lst (Pl.braOf M.N br).from_ then part else 1000 - part)) ∧
    (br ≠ pb → ∃ far : List Int, (∀ v : Int, 0 ≤ v → v < M.N.nodes.length → Pl.MinOf (Pl.WalkZ (Pl.ZE M.N [br, pb]) (Pl.idxT M.N.nodes (Pl.farEnd (Pl.braOf M.N br) node)) v) (Pl.farAt far v)) ∧ d1 = 1000 * (Pl.braOf M.N br).x + Pl.distB M.N far (Pl.braOf M.N pb) part ∧ is = decide (0 ≤ Pl.distB M.N far (Pl.braOf M.N pb) part)) ∧
    (is = true → e = 0 ∧ d = d1) ∧ (is = false → e = 8 ∧ d = 0))) := fun _ _ => Iff.rfl
  generalize Pl.zchkE M.N node br zs pb part = ze at *
  clear hM hz HK
  unfold vNet vRelay vPlace at *
  have F0 := Lib.hid ((((Below.refl w.heap.size w).alloc (Nat.le_refl _) (.cells (netC M) 29)).alloc (by simp) (.cells #[.string node, .string br, .slice Az nz cz] 32)).alloc (by simp; omega) (.cells #[.string pb, .int .i64 part] 34))
  have B0 := Lib.hid (((Blk.new_ w w.heap.size 29 (netC M) rfl).alloc (.cells #[.string node, .string br, .slice Az nz cz] 32)).alloc (.cells #[.string pb, .int .i64 part] 34))
  have P0 := Lib.hid ((Blk.new_ (w.alloc (.cells (netC M) 29)) (w.heap.size + 1) 32 #[.string node, .string br, .slice Az nz cz] (by simp)).alloc (.cells #[.string pb, .int .i64 part] 34))
  have Q0 := Lib.hid (Blk.new_ ((w.alloc (.cells (netC M) 29)).alloc (.cells #[.string node, .string br, .slice Az nz cz] 32)) (w.heap.size + 1 + 1) 34 #[.string pb, .int .i64 part] (by simp))
  obtain ⟨N, A0, n0, c0, A1, n1, c1, A2, n2, c2, A3, n3, c3, A4, n4, c4, A5, n5, c5⟩ := M
  unfold netC at *
  simp only at *
  go_enter Try.func8, Try.ntmps8
  have k0 := B0.out.cell
  have k1 := P0.out.cell
  have k2 := Q0.out.cell
  go_wp2_with fail
  refine (C0.out _ F0.out).mono ?_
  rintro e w1 ⟨rfl, hb⟩
  have F1 := Lib.hid (F0.out.trans (hb.mono F0.out.size))
  have B1 := Lib.hid (B0.out.go hb)
  have P1 := Lib.hid (P0.out.go hb)
  have Q1 := Lib.hid (Q0.out.go hb)
  clear hb k0 k1 k2 C0 B0 P0 F0 Q0
  by_cases h0 : ze = 0
  · have HZ0 := Lib.hid h0
    have h02 : (ze != 0) = false := by simp [h0]
    clear h0
    have k0 := B1.out.cell
    have k1 := P1.out.cell
    have k2 := Q1.out.cell
    go_wp2_with fail
    refine (C1.out HZ0.out _ F1.out).mono ?_
    rintro e w2 ⟨d, is, rfl, hs, hd, hb⟩
    have F2 := Lib.hid (F1.out.trans (hb.mono F1.out.size))
    have HA : Hid (is = false → DistanceSaid N node br zs pb part 0 8) := fun hi => (HDS.out _ _).2 ⟨fun h => absurd HZ0.out h, fun _ => ⟨d, is, hs, hd, (fun h => by rw [hi] at h; cases h), fun _ => ⟨rfl, rfl⟩⟩⟩
    have HB : Hid (is = true → DistanceSaid N node br zs pb part d 0) := fun hi => (HDS.out _ _).2 ⟨fun h => absurd HZ0.out h, fun _ => ⟨d, is, hs, hd, (fun _ => ⟨rfl, rfl⟩), (fun h => by rw [hi] at h; cases h)⟩⟩
    clear hb hs hd k0 k1 k2 C1 B1 P1 Q1 F1 HDS
    cases is
    · go_wp2_with fail
      go_ret2
      exact ⟨0, 8, rfl, HA.out (by first | rfl | trivial), F2.out⟩
    · go_wp2_with fail
      go_ret2
      exact ⟨d, 0, rfl, HB.out (by first | rfl | trivial), F2.out⟩
  · have HZ0 := Lib.hid h0
    have h02 : (ze != 0) = true := by simpa using h0
    clear h0
    go_wp2_with fail
    go_ret2
    exact ⟨0, ze, rfl, (HDS.out _ _).2 ⟨fun _ => ⟨rfl, rfl⟩, fun h => absurd h HZ0.out⟩, F1.out⟩
end Go.Proofs.Ytpamgeemmbbkkaa
