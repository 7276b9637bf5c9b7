/- nat.Check answers as the plain check of numerals. No condition but the text's length. nat.two, text and Gcd answer as integers, at valid numerals. Condition: the library's tables lie as they are laid. rat.Check answers as the plain check of texts. Condition: the text's length; the library's tables lie as they are laid. rat.CheckAll, text: as the plain checks and texts. Condition: the texts read; the library's tables lie as they are laid. -/
import Derived.Test.YtoblpcljhblnmaaGreatDoorShLg
import Derived.Deep.LoopGhost
import Derived.Test.YtoblpcljhblnmaaGreatDoorLgX
namespace Go.Proofs.YtoblpcljhblnmaaGreatDoor
open Go.RowKit
set_option maxRecDepth 100000
theorem bytes_tx (l : List UInt8) (w : World) : ∃ cap w1, (convert 9 268 (.string ⟨l.toArray⟩)).run Tryz.prog w = .ok (.slice (some ⟨w.heap.size, 0, none⟩) l.length cap) w1 ∧
    (∀ k (hk : k < l.length), w1.cell? ⟨w.heap.size, k, none⟩ = some (.int .u8 (l[k].toNat : Int))) ∧ Below w.heap.size w w1 := by
  have h0 := run_bytes_of_string w 9 268 5 (⟨l.toArray⟩ : ByteArray) Tryz.underlying9 Tryz.underlying268 Tryz.underlying5
  rw [tx_size] at h0
  refine ⟨_, _, h0, fun k hk => ?_, ((Below.refl _ _).drew).alloc (Nat.le_refl _) _⟩
  have h := World.cell?_alloc_mark w.drew (bytesRow ⟨l.toArray⟩ (grownCap w l.length 0 5)) 5 ((bytesRow ⟨l.toArray⟩ (grownCap w l.length 0 5)).size, (bytesRow ⟨l.toArray⟩ (grownCap w l.length 0 5)).size + 1) k
  exact h.trans (bytesRow_at ⟨l.toArray⟩ _ k (by simpa using hk))
theorem numE_bad {l : List UInt8} {k : Nat} (hk : k < l.length) (h : ¬ Pl.Dg l[k]) : Pl.numE l = 5 := by
  unfold Pl.numE
  rw [if_pos ⟨l[k], List.getElem_mem hk, h⟩]
theorem numE_all {l : List UInt8} (h : ∀ k (hk : k < l.length), Pl.Dg l[k]) : Pl.numE l = if l = [] ∨ (1 < l.length ∧ l.head? = some 48) then 5 else if 2000 < l.length then 2 else 0 := by
  unfold Pl.numE
  rw [if_neg]
  rintro ⟨c, hc, hn⟩
  obtain ⟨k, hk, e⟩ := List.getElem_of_mem hc
  exact hn (by rw [← e]; exact h k hk)
set_option maxHeartbeats 3200000 in
theorem ncheck_any (l : List UInt8) (w : World) (hs : l.length ≤ 9223372036854775807) :
    Calls Tryz.prog 139 #[tx l] w fun e w' => e = .returned (.int .i64 (Pl.numE l)) ∧ Below w.heap.size w w' := by
  obtain ⟨cap, w1, hrun, hc, hb⟩ := bytes_tx l w
  have HC := Lib.hid hc
  have HB := Lib.hid hb
  clear hc hb
  obtain ⟨E, hE⟩ : ∃ E : Int, E = Pl.numE l := ⟨_, rfl⟩
  rw [← hE]
  have HE := Lib.hid hE
  clear hE
  go_enter Tryz.func139, Tryz.ntmps139
  go_wp2_with fail
  go_loopw [4, 8] (fun _ i wr => ∃ k : Nat, k ≤ l.length ∧ i = .int .i64 k ∧ wr = w1 ∧ Hid (∀ j (hj : j < l.length), j < k → Pl.Dg l[j])) (fun _ i _ => l.length - (intOf i).toNat)
  case atStart => exact ⟨0, Nat.zero_le _, rfl, rfl, fun j _ h => absurd h (by omega)⟩
  case round =>
    obtain ⟨k, hk, rfl, rfl, HN⟩ := hrel
    by_cases hlt : k < l.length
    · have hc := HC.out k hlt
      have HT : Hid (Pl.Dg l[k] → ∀ j (hj : j < l.length), j < k + 1 → Pl.Dg l[j]) := by
        intro h j hj hjk
        by_cases e : j = k
        · subst e; exact h
        · exact HN.out j hj (by omega)
      have HF : Hid (¬ Pl.Dg l[k] → Pl.numE l = 5) := fun h => numE_bad hlt h
      unfold Pl.Dg at HF
      have HD : Hid (48 ≤ l[k].toNat ∧ l[k].toNat ≤ 57 → Pl.Dg l[k]) := fun h => h
      have HT2 := Lib.hid (fun h => HT.out (HD.out h))
      clear HT HD
      generalize l[k].toNat = c at hc HF HT2
      by_cases h1 : c < 48
      · have e1 : decide ((c : Int) < 48) = true := decide_eq_true (by omega)
        go_wp2_with fail
        go_ret
        exact ⟨by rw [HE.out, HF.out (by omega)]; rfl, HB.out⟩
      · have e1 : decide ((c : Int) < 48) = false := decide_eq_false (by omega)
        by_cases h2 : 57 < c
        · have e2 : decide ((57 : Int) < (c : Int)) = true := decide_eq_true (by omega)
          go_wp2_with fail
          go_ret
          exact ⟨by rw [HE.out, HF.out (by omega)]; rfl, HB.out⟩
        · have e2 : decide ((57 : Int) < (c : Int)) = false := decide_eq_false (by omega)
          have HX := Lib.hid (HT2.out (by omega))
          clear HT2 HF
          go_wp2_with fail
          go_roundw
          case rel => exact ⟨k + 1, by omega, by go_num, by trivial, HX.out⟩
          case measure => simp [intOf]; omega
    · have HA := Lib.hid (numE_all (l := l) fun j hj => HN.out j hj (by omega))
      have hk2 : ¬ (k : Int) < (l.length : Int) := by omega
      clear HN
      by_cases h0 : l = []
      · subst h0
        go_wp2_with fail
        go_ret
        exact ⟨by rw [HE.out]; rfl, HB.out⟩
      · have e0 : (l == []) = false := by simpa using h0
        have H0 := Lib.hid h0
        clear h0
        by_cases h1 : 1 < l.length
        · obtain ⟨c, r, hcr⟩ : ∃ c r, l = c :: r := by
            cases l with
            | nil => exact absurd h1 (by simp)
            | cons c r => exact ⟨c, r, rfl⟩
          have hidx : ∀ W, (Instr.index 9 (.string ⟨l.toArray⟩) (.int .i64 0)).run Tryz.prog W = .ok (.int .u8 (c.toNat : Int)) W := fun W => by
            rw [run_index_string W 9 ⟨l.toArray⟩ .i64 0 Tryz.underlying9, dif_pos ⟨by omega, by rw [tx_size]; omega⟩]
            subst hcr
            rfl
          have HH : Hid (l.head? = some 48 ↔ c.toNat = 48) := by
            rw [hcr]
            constructor
            · intro e; injection e with e; rw [e]; rfl
            · intro e; have : c = 48 := UInt8.toNat_inj.1 e
              rw [this]; rfl
          have H1 := Lib.hid h1
          have e1 : (1 : Int) < (l.length : Int) := by omega
          clear hcr h1
          generalize c.toNat = d at *
          by_cases h48 : d = 48
          · have HF : Hid (Pl.numE l = 5) := by rw [HA.out, if_pos (.inr ⟨H1.out, HH.out.2 h48⟩)]; exact rfl
            subst h48
            go_wp2_with fail
            go_ret
            exact ⟨by rw [HE.out, HF.out]; rfl, HB.out⟩
          · have e3 : ((d : Int) == 48) = false := by simp; omega
            have HN : Hid (¬ (l = [] ∨ (1 < l.length ∧ l.head? = some 48))) := by
              rintro (h | h)
              · exact H0.out h
              · exact h48 (HH.out.1 h.2)
            clear h48
            by_cases h2 : 2000 < l.length
            · have e2 : (2000 : Int) < (l.length : Int) := by omega
              have HF : Hid (Pl.numE l = 2) := by rw [HA.out, if_neg HN.out, if_pos h2]; exact rfl
              clear h2
              go_wp2_with fail
              go_ret
              exact ⟨by rw [HE.out, HF.out]; rfl, HB.out⟩
            · have e2 : ¬ (2000 : Int) < (l.length : Int) := by omega
              have HF : Hid (Pl.numE l = 0) := by rw [HA.out, if_neg HN.out, if_neg h2]; exact rfl
              clear h2
              go_wp2_with fail
              go_ret
              exact ⟨by rw [HE.out, HF.out]; rfl, HB.out⟩
        · have e1 : ¬ (1 : Int) < (l.length : Int) := by omega
          have HF : Hid (Pl.numE l = 0) := by
            rw [HA.out, if_neg (by rintro (h | h); exact H0.out h; exact h1 h.1), if_neg (by omega)]
            exact rfl
          have e2 : ¬ (2000 : Int) < (l.length : Int) := by omega
          go_wp2_with fail
          go_ret
          exact ⟨by rw [HE.out, HF.out]; rfl, HB.out⟩
end Go.Proofs.YtoblpcljhblnmaaGreatDoor
namespace Go.Proofs.YtoblpcljhblnmaaGreatDoor
open Go.RowKit
set_option maxRecDepth 100000
theorem trim_num {l : List UInt8} (h : Pl.numE l = 0) : Pl.trimM l = l := by
  unfold Pl.trimM
  rw [if_neg (Pl.head_dg (Pl.numE_ok.1 h).1.2.1)]
theorem read_num {l : List UInt8} (h : Pl.numE l = 0) (w : World) : Calls Tryz.prog 96 #[tx l] w (NmSaid (Pl.natOf l : Int) w) := by
  have h1 := Pl.numE_ok.1 h
  have h2 := read_any l w (by rw [trim_num h]; exact h1.1.2.1) (by omega)
  rw [Pl.intOf_num h1.1.2.1] at h2
  exact h2
def TwoSaid (a b : List UInt8) (w : World) (e : Ending) (w' : World) : Prop :=
  ∃ x y : Nm, e = .returned (.tuple #[x.v, y.v, .int .i64 0]) ∧ NumIs w' w'.heap.size (Pl.natOf a : Int) x ∧ NumIs w' w'.heap.size (Pl.natOf b : Int) y ∧ Below w.heap.size w w'
set_option maxHeartbeats 3200000 in
theorem two_any {a b : List UInt8} (ha : Pl.numE a = 0) (hb : Pl.numE b = 0) (w : World) : Calls Tryz.prog 176 #[tx a, tx b] w (TwoSaid a b w) := by
  obtain ⟨hA, hB, hD, hsz⟩ := boxes2 w #[.bool false, .slice none 0 0] #[.bool false, .slice none 0 0] 103
  have X4 := Lib.hid hA
  have X5 := Lib.hid hB
  have D := Lib.hid hD
  have HCA := Lib.hid (fun W => ncheck_any a W (by have := (Pl.numE_ok.1 ha).2; omega))
  have HCB := Lib.hid (fun W => ncheck_any b W (by have := (Pl.numE_ok.1 hb).2; omega))
  rw [ha] at HCA
  rw [hb] at HCB
  have HRA := Lib.hid (fun W => read_num ha W)
  have HRB := Lib.hid (fun W => read_num hb W)
  have i0 : ∀ W, (Instr.index 301 (.agg #[.string ⟨a.toArray⟩, .string ⟨b.toArray⟩]) (.int .i64 0)).run Tryz.prog W = .ok (.string ⟨a.toArray⟩) W := fun W => by kernel_rfl
  have i1 : ∀ W, (Instr.index 301 (.agg #[.string ⟨a.toArray⟩, .string ⟨b.toArray⟩]) (.int .i64 1)).run Tryz.prog W = .ok (.string ⟨b.toArray⟩) W := fun W => by kernel_rfl
  clear hA hB hD hsz ha hb
  go_enter Tryz.func176, Tryz.ntmps176
  go_wp2_with fail
  generalize ((w.alloc (.cells #[.bool false, .slice none 0 0] 103)).alloc (.cells #[.bool false, .slice none 0 0] 103)) = w1 at *
  go_loopg [8, 9, 13] 3 (fun gh _ _ i wr => ∃ k : Nat, k ≤ 2 ∧ gh + k = 3 ∧ i = .int .i64 k ∧ Hid (Blk wr w.heap.size 103 #[.bool false, .slice none 0 0]) ∧ Hid (Blk wr (w.heap.size + 1) 103 #[.bool false, .slice none 0 0]) ∧ Hid (Below w.heap.size w wr))
  case atStart => exact ⟨0, by omega, rfl, rfl, X4.out, X5.out, D.out⟩
  case round =>
    clear X4 X5 D
    obtain ⟨k, hk, hg, rfl, X4, X5, D⟩ := hrel
    rcases (show k = 0 ∨ k = 1 ∨ k = 2 by omega) with rfl | rfl | rfl
    · go_wp2_with fail
      refine (HCA.out _).mono ?_
      rintro e w2 ⟨rfl, hb5⟩
      replace X4 := Lib.hid (X4.out.go hb5)
      replace X5 := Lib.hid (X5.out.go hb5)
      replace D := Lib.hid (D.out.trans (hb5.mono D.out.size))
      clear hb5
      go_wp2_with fail
      go_roundg (2)
      case measure => omega
      case rel => exact ⟨1, by omega, by omega, rfl, X4.out, X5.out, D.out⟩
    · go_wp2_with fail
      refine (HCB.out _).mono ?_
      rintro e w2 ⟨rfl, hb5⟩
      replace X4 := Lib.hid (X4.out.go hb5)
      replace X5 := Lib.hid (X5.out.go hb5)
      replace D := Lib.hid (D.out.trans (hb5.mono D.out.size))
      clear hb5
      go_wp2_with fail
      go_roundg (1)
      case measure => omega
      case rel => exact ⟨2, by omega, by omega, rfl, X4.out, X5.out, D.out⟩
    · clear i0 i1 HCA HCB
      go_wp2_with fail
      refine (HRA.out _).mono ?_
      rintro e w2 ⟨x, rfl, hx, hb5⟩
      have HX := Lib.hid hx
      replace X4 := Lib.hid (X4.out.go hb5)
      replace X5 := Lib.hid (X5.out.go hb5)
      replace D := Lib.hid (D.out.trans (hb5.mono D.out.size))
      clear hb5 hx
      go_wp2_with fail
      refine (HRB.out _).mono ?_
      rintro e w3 ⟨y, rfl, hy, hb5⟩
      have HY := Lib.hid hy
      replace X4 := Lib.hid (X4.out.go hb5)
      replace X5 := Lib.hid (X5.out.go hb5)
      replace D := Lib.hid (D.out.trans (hb5.mono D.out.size))
      replace HX := Lib.hid (HX.out.go hb5)
      clear hb5 hy
      have c4 := X4.out.cell
      have l4 := X4.out.lt
      have f4 := X4.out.frozen
      have c5 := X5.out.cell
      have l5 := X5.out.lt
      have f5 := X5.out.frozen
      go_wp2_with fail
      clear c4 l4 f4 c5 l5 f5
      replace X5 := Lib.hid (X5.out.far2 (r := w.heap.size) (by omega) (u0 := .bool x.b) (u1 := .slice x.A x.n x.c))
      replace D := Lib.hid (below_put2 D.out (r := w.heap.size) (Nat.le_refl _) (u0 := .bool x.b) (u1 := .slice x.A x.n x.c))
      replace HX := Lib.hid (HX.out.put2 X4.out noU32_new (u0 := .bool x.b) (u1 := .slice x.A x.n x.c))
      replace HY := Lib.hid (HY.out.put2 X4.out noU32_new (u0 := .bool x.b) (u1 := .slice x.A x.n x.c))
      replace X4 := Lib.hid (X4.out.put2 (u0 := .bool x.b) (u1 := .slice x.A x.n x.c))
      replace X4 := Lib.hid (X4.out.far2 (r := w.heap.size + 1) (by omega) (u0 := .bool y.b) (u1 := .slice y.A y.n y.c))
      replace D := Lib.hid (below_put2 D.out (r := w.heap.size + 1) (by omega) (u0 := .bool y.b) (u1 := .slice y.A y.n y.c))
      replace HX := Lib.hid (HX.out.put2 X5.out noU32_new (u0 := .bool y.b) (u1 := .slice y.A y.n y.c))
      replace HY := Lib.hid (HY.out.put2 X5.out noU32_new (u0 := .bool y.b) (u1 := .slice y.A y.n y.c))
      replace X5 := Lib.hid (X5.out.put2 (u0 := .bool y.b) (u1 := .slice y.A y.n y.c))
      have k4 := X4.out.cell
      have k5 := X5.out.cell
      refine bodyPost_ret (v := .tuple #[x.v, y.v, .int .i64 0]) (by simp [results, Tryz.results176, go_sem, k4, k5]) rfl ⟨x, y, rfl, HX.out, HY.out, D.out⟩
def NTextSaid (z : Int) (w : World) (e : Ending) (w' : World) : Prop :=
  ((z.natAbs < Pl.lim ∧ e = .returned (.tuple #[tx (Lib.itoa z), .int .i64 0])) ∨ (¬ z.natAbs < Pl.lim ∧ e = .returned (.tuple #[tx [], .int .i64 2]))) ∧ Below w.heap.size w w'
theorem ntext_any {z : Int} {x : Nm} {w : World} (hx : NumIs w w.heap.size z x) (hl : LV w) : Calls Tryz.prog 177 #[x.v] w (NTextSaid z w) := by
  obtain ⟨hA, hD, hsz⟩ := boxA w #[.bool x.b, .slice x.A x.n x.c] 103
  have HX := Lib.hid (hx.go hD)
  have HL := Lib.hid (hl.go hD)
  have D := Lib.hid hD
  clear hx hl hA hD hsz
  go_enter Tryz.func177, Tryz.ntmps177
  go_wp2_with fail
  generalize w.alloc (.cells #[.bool x.b, .slice x.A x.n x.c] 103) = w1 at *
  refine (text_any HX.out HL.out).mono ?_
  rintro e w2 ⟨s1, b1, rfl, hb1, hs1, hn1, hb5⟩
  have D2 := Lib.hid (D.out.trans (hb5.mono D.out.size))
  have HS1 := Lib.hid (And.intro hb1 hs1)
  clear hb5 HL HX D hb1 hs1 hn1
  cases b1 with
  | false =>
    go_wp2_with fail
    go_ret2
    exact ⟨.inr ⟨(fun h => by have h1 := HS1.out.1.2 h; first | cases h1 | exact h1 | (simp at h1)), rfl⟩, D2.out⟩
  | true =>
    have e1 := HS1.out.2 (by simp)
    subst e1
    go_wp2_with fail
    go_ret2
    exact ⟨.inl ⟨HS1.out.1.1 (by simp), rfl⟩, D2.out⟩
theorem gcd_fits {a b : Nat} (ha : a < Pl.lim) (hb : b < Pl.lim) : Nat.gcd a b < Pl.lim := by
  rcases Nat.eq_zero_or_pos b with h | h
  · rw [h, Nat.gcd_zero_right]; exact ha
  · exact Nat.lt_of_le_of_lt (Nat.gcd_le_right _ h) hb
set_option maxHeartbeats 3200000 in
theorem ngcd_any {a b : List UInt8} (ha : Pl.numE a = 0) (hb : Pl.numE b = 0) (w : World) (hl : LV w) :
    Calls Tryz.prog 140 #[tx a, tx b] w fun e w' => e = .returned (.tuple #[tx (Lib.decDigits (Nat.gcd (Pl.natOf a) (Pl.natOf b))), .int .i64 0]) ∧ Below w.heap.size w w' := by
  have HT := Lib.hid (two_any ha hb w)
  have HLA : Hid (∀ {W : World} {B : Nat} {x : Nm}, NumIs W B (Pl.natOf a : Int) x → x.n ≤ 4398046511104) := fun h => by
    rw [h.ln, Int.natAbs_natCast]
    have h1 := Pl.numE_ok.1 ha
    exact Nat.le_trans (nw_digits h1.1.2.1) (by omega)
  have HLB : Hid (∀ {W : World} {B : Nat} {x : Nm}, NumIs W B (Pl.natOf b : Int) x → x.n ≤ 4398046511104) := fun h => by
    rw [h.ln, Int.natAbs_natCast]
    have h1 := Pl.numE_ok.1 hb
    exact Nat.le_trans (nw_digits h1.1.2.1) (by omega)
  have HF := Lib.hid (gcd_fits (Pl.natOf_fits ha) (Pl.natOf_fits hb))
  have HL := Lib.hid hl
  unfold TwoSaid at HT
  generalize Pl.natOf a = u at *
  generalize Pl.natOf b = v at *
  clear ha hb hl
  go_enter Tryz.func140, Tryz.ntmps140
  go_wp2_with fail
  refine HT.out.mono ?_
  rintro e w2 ⟨x, y, rfl, hx, hy, hb5⟩
  have HX := Lib.hid hx
  have HY := Lib.hid hy
  have D := Lib.hid hb5
  clear hx hy hb5 HT
  go_upto_region 4 with fail
  obtain ⟨hP, hQ, hE, _⟩ := boxes2 w2 #[.bool x.b, .slice x.A x.n x.c] #[.bool y.b, .slice y.A y.n y.c] 103
  have X6 := Lib.hid hP
  have X7 := Lib.hid hQ
  replace HX := Lib.hid (HX.out.go hE)
  replace HY := Lib.hid (HY.out.go hE)
  replace D := Lib.hid (D.out.trans (hE.mono D.out.size))
  clear hP hQ hE
  generalize ((w2.alloc (.cells #[.bool x.b, .slice x.A x.n x.c] 103)).alloc (.cells #[.bool y.b, .slice y.A y.n y.c] 103)) = w3 at *
  have c6 := X6.out.cell
  have l6 := X6.out.lt
  have c7 := X7.out.cell
  have l7 := X7.out.lt
  go_wp2_with fail
  refine (gcd_any HX.out HY.out (HLA.out HX.out) (HLB.out HY.out)).mono ?_
  rintro e w4 ⟨g, rfl, hg, hb5⟩
  simp only [Int.natAbs_natCast] at hg
  have HG := Lib.hid hg
  replace D := Lib.hid (D.out.trans (hb5.mono D.out.size))
  clear hg hb5 c6 l6 c7 l7
  go_wp2_with fail
  refine (ntext_any HG.out (HL.out.go D.out)).mono ?_
  rintro e w5 ⟨hc, hb5⟩
  replace D := Lib.hid (D.out.trans (hb5.mono D.out.size))
  rcases hc with ⟨_, rfl⟩ | ⟨h, _⟩
  · have e1 := Pl.itoa_nat (Nat.gcd u v)
    rw [e1]
    clear e1
    go_wp2_with fail
    go_ret2
    exact ⟨rfl, D.out⟩
  · exact absurd HF.out (by rw [Int.natAbs_natCast] at h; exact h)
end Go.Proofs.YtoblpcljhblnmaaGreatDoor
namespace Go.Proofs.YtoblpcljhblnmaaGreatDoor
open Go.RowKit
set_option maxRecDepth 100000
def ratF (a b : Int) (n s l d : List UInt8) (c : Bool) : Int :=
  if a = 5 ∨ b = 5 ∨ (n = [48] ∧ s.length < l.length) then 5
  else if a ≠ 0 ∨ b ≠ 0 then 2
  else if c = true ∧ (d = [48] ∨ d = [49] ∨ Nat.gcd (Pl.natOf n) (Pl.natOf d) ≠ 1) then 3 else 0
theorem ratE_F (l : List UInt8) : Pl.ratE l = ratF (Pl.numE (Lib.cut (Pl.trimM l) [47]).1) (if (Lib.cut (Pl.trimM l) [47]).2.2 = true then Pl.numE (Lib.cut (Pl.trimM l) [47]).2.1 else 0) (Lib.cut (Pl.trimM l) [47]).1 (Pl.trimM l) l (Lib.cut (Pl.trimM l) [47]).2.1 (Lib.cut (Pl.trimM l) [47]).2.2 := by
  unfold Pl.ratE ratF
  generalize (Lib.cut (Pl.trimM l) [47]).1 = n
  generalize (Lib.cut (Pl.trimM l) [47]).2.1 = d
  cases (Lib.cut (Pl.trimM l) [47]).2.2
  · simp
  · simp
theorem ratF_a {a b : Int} {n s l d : List UInt8} {c : Bool} (h : a = 5) : ratF a b n s l d c = 5 := by unfold ratF; rw [if_pos (.inl h)]
theorem ratF_b {a b : Int} {n s l d : List UInt8} {c : Bool} (h : b = 5) : ratF a b n s l d c = 5 := by unfold ratF; rw [if_pos (.inr (.inl h))]
theorem ratF_n {a b : Int} {n s l d : List UInt8} {c : Bool} (h : n = [48]) (h2 : s.length < l.length) : ratF a b n s l d c = 5 := by unfold ratF; rw [if_pos (.inr (.inr ⟨h, h2⟩))]
theorem ratF_2 {a b : Int} {n s l d : List UInt8} {c : Bool} (h1 : a ≠ 5) (h2 : b ≠ 5) (h3 : ¬ (n = [48] ∧ s.length < l.length)) (h : a ≠ 0 ∨ b ≠ 0) : ratF a b n s l d c = 2 := by
  unfold ratF
  rw [if_neg (by rintro (h | h | h); exact h1 h; exact h2 h; exact h3 h), if_pos h]
theorem ratF_3 {n s l d : List UInt8} (h3 : ¬ (n = [48] ∧ s.length < l.length)) (h : d = [48] ∨ d = [49] ∨ Nat.gcd (Pl.natOf n) (Pl.natOf d) ≠ 1) : ratF 0 0 n s l d true = 3 := by
  unfold ratF
  rw [if_neg (by rintro (h | h | h); cases h; cases h; exact h3 h), if_neg (by simp), if_pos ⟨rfl, h⟩]
theorem ratF_0 {n s l d : List UInt8} {c : Bool} (h3 : ¬ (n = [48] ∧ s.length < l.length)) (h : c = true → d ≠ [48] ∧ d ≠ [49] ∧ Nat.gcd (Pl.natOf n) (Pl.natOf d) = 1) : ratF 0 0 n s l d c = 0 := by
  unfold ratF
  rw [if_neg (by rintro (h | h | h); cases h; cases h; exact h3 h), if_neg (by simp), if_neg]
  rintro ⟨h1, h2⟩
  obtain ⟨g1, g2, g3⟩ := h h1
  rcases h2 with h2 | h2 | h2
  · exact g1 h2
  · exact g2 h2
  · exact h2 g3
theorem cut_lens (s : List UInt8) : (Lib.cut s [47]).1.length ≤ s.length ∧ (Lib.cut s [47]).2.1.length ≤ s.length := by
  rcases Pl.cutR_cases s 47 with ⟨_, e⟩ | ⟨p, q, _, rfl, e⟩
  · rw [e]; simp
  · rw [e]; simp; omega
set_option maxHeartbeats 12800000 in
theorem rcheck_any (l : List UInt8) (w : World) (hs : l.length ≤ 9223372036854775807) (hl : LV w) :
    Calls Tryz.prog 94 #[tx l] w fun e w' => e = .returned (.int .i64 (Pl.ratE l)) ∧ Below w.heap.size w w' := by
  have HTR := Lib.hid (trim_any l w)
  have hsl : (Pl.trimM l).length ≤ l.length := by
    unfold Pl.trimM
    split
    · rw [List.length_tail]; omega
    · exact Nat.le_refl _
  have hE := ratE_F l
  have hcl := cut_lens (Pl.trimM l)
  obtain ⟨E, hE2⟩ : ∃ E : Int, E = Pl.ratE l := ⟨_, rfl⟩
  rw [← hE2] at hE ⊢
  clear hE2
  generalize Pl.trimM l = s at *
  have HCU := Lib.hid (cutl_any s 47 (by omega) w)
  have HGC : Hid (Pl.numE (Lib.cut s [47]).1 = 0 → Pl.numE (Lib.cut s [47]).2.1 = 0 → ∀ W, LV W → Calls Tryz.prog 140 #[tx (Lib.cut s [47]).1, tx (Lib.cut s [47]).2.1] W fun e w' => e = .returned (.tuple #[tx (Lib.decDigits (Nat.gcd (Pl.natOf (Lib.cut s [47]).1) (Pl.natOf (Lib.cut s [47]).2.1))), .int .i64 0]) ∧ Below W.heap.size W w') := fun h1 h2 W h3 => ngcd_any h1 h2 W h3
  generalize (Lib.cut s [47]).1 = n at *
  generalize (Lib.cut s [47]).2.1 = d at *
  generalize (Lib.cut s [47]).2.2 = c at *
  have HNA := Lib.hid (fun W => ncheck_any n W (by omega))
  have HNB := Lib.hid (fun W => ncheck_any d W (by omega))
  have hs1 : ((⟨s.toArray⟩ : ByteArray).size : Int) = (s.length : Int) := by rw [tx_size]
  have hs2 : ((⟨l.toArray⟩ : ByteArray).size : Int) = (l.length : Int) := by rw [tx_size]
  have HL := Lib.hid hl
  generalize Pl.numE n = a at *
  generalize Pl.numE d = b at *
  have HE := Lib.hid hE
  clear hE hcl hsl hl hs
  go_enter Tryz.func94, Tryz.ntmps94
  go_wp2_with fail
  refine HTR.out.mono ?_
  rintro e w' ⟨rfl, rfl⟩
  go_wp2_with fail
  refine HCU.out.mono ?_
  rintro e w2 ⟨rfl, hb5⟩
  have D := Lib.hid hb5
  clear hb5 HTR HCU
  go_wp2_with fail
  refine (HNA.out _).mono ?_
  rintro e w3 ⟨rfl, hb5⟩
  replace D := Lib.hid (D.out.trans (hb5.mono D.out.size))
  clear hb5 HNA
  cases c with
  | false =>
    rw [if_neg (by decide)] at HE
    clear HGC HNB
    by_cases ha5 : a = 5
    · have e1 : (a == 5) = true := by simpa using ha5
      have HV := Lib.hid (ratF_a (b := 0) (n := n) (s := s) (l := l) (d := d) (c := false) ha5)
      clear ha5
      go_wp2_with fail
      go_ret
      exact ⟨by rw [HE.out, HV.out]; rfl, D.out⟩
    · have e1 : (a == 5) = false := by simpa using ha5
      have HA5 := Lib.hid ha5
      clear ha5
      by_cases hn : n = [48] ∧ s.length < l.length
      · have e3 : (n == [48]) = true := by simpa using hn.1
        have e4 : (s.length : Int) < (l.length : Int) := by have := hn.2; omega
        have HV := Lib.hid (ratF_n (a := a) (b := 0) (d := d) (c := false) hn.1 hn.2)
        clear hn
        go_wp2_with fail
        go_ret
        exact ⟨by rw [HE.out, HV.out]; rfl, D.out⟩
      · have HN := Lib.hid hn
        have hT : Hid ((n == [48]) = false ∨ ((n == [48]) = true ∧ ¬ (s.length : Int) < (l.length : Int))) := by
          by_cases h : n = [48]
          · exact .inr ⟨by simpa using h, fun h2 => hn ⟨h, by omega⟩⟩
          · exact .inl (by simpa using h)
        clear hn
        by_cases ha0 : a = 0
        · subst ha0
          clear HA5
          have HV := Lib.hid (ratF_0 (c := false) (d := d) HN.out (fun h => by cases h))
          rcases hT.out with e3 | ⟨e3, e4⟩
          · clear hT
            go_wp2_with fail
            go_ret
            exact ⟨by rw [HE.out, HV.out]; rfl, D.out⟩
          · clear hT
            go_wp2_with fail
            go_ret
            exact ⟨by rw [HE.out, HV.out]; rfl, D.out⟩
        · have e5 : (a != 0) = true := by simpa using ha0
          have HV := Lib.hid (ratF_2 (b := 0) (c := false) (d := d) HA5.out (by decide) HN.out (.inl ha0))
          clear ha0
          rcases hT.out with e3 | ⟨e3, e4⟩
          · clear hT
            go_wp2_with fail
            go_ret
            exact ⟨by rw [HE.out, HV.out]; rfl, D.out⟩
          · clear hT
            go_wp2_with fail
            go_ret
            exact ⟨by rw [HE.out, HV.out]; rfl, D.out⟩
  | true =>
    rw [if_pos rfl] at HE
    go_wp2_with fail
    refine (HNB.out _).mono ?_
    rintro e w4 ⟨rfl, hb5⟩
    replace D := Lib.hid (D.out.trans (hb5.mono D.out.size))
    clear hb5 HNB
    by_cases ha5 : a = 5
    · have e1 : (a == 5) = true := by simpa using ha5
      have HV := Lib.hid (ratF_a (b := b) (n := n) (s := s) (l := l) (d := d) (c := true) ha5)
      clear ha5
      go_wp2_with fail
      go_ret
      exact ⟨by rw [HE.out, HV.out]; rfl, D.out⟩
    · have e1 : (a == 5) = false := by simpa using ha5
      have HA5 := Lib.hid ha5
      clear ha5
      by_cases hb5 : b = 5
      · have e2 : (b == 5) = true := by simpa using hb5
        have HV := Lib.hid (ratF_b (a := a) (n := n) (s := s) (l := l) (d := d) (c := true) hb5)
        clear hb5
        go_wp2_with fail
        go_ret
        exact ⟨by rw [HE.out, HV.out]; rfl, D.out⟩
      · have e2 : (b == 5) = false := by simpa using hb5
        have HB5 := Lib.hid hb5
        clear hb5
        by_cases hn : n = [48] ∧ s.length < l.length
        · have e3 : (n == [48]) = true := by simpa using hn.1
          have e4 : (s.length : Int) < (l.length : Int) := by have := hn.2; omega
          have HV := Lib.hid (ratF_n (a := a) (b := b) (d := d) (c := true) hn.1 hn.2)
          clear hn
          go_wp2_with fail
          go_ret
          exact ⟨by rw [HE.out, HV.out]; rfl, D.out⟩
        · have HN := Lib.hid hn
          have hT : Hid ((n == [48]) = false ∨ ((n == [48]) = true ∧ ¬ (s.length : Int) < (l.length : Int))) := by
            by_cases h : n = [48]
            · exact .inr ⟨by simpa using h, fun h2 => hn ⟨h, by omega⟩⟩
            · exact .inl (by simpa using h)
          clear hn
          by_cases ha0 : a = 0
          · subst ha0
            clear HA5
            by_cases hb0 : b = 0
            · subst hb0
              clear HB5
              have HG := Lib.hid (HGC.out rfl rfl w4 (HL.out.go D.out))
              clear HGC
              rcases hT.out with e3 | ⟨e3, e4⟩
              · clear hT
                go_wp2_with fail
                refine HG.out.mono ?_
                rintro e w5 ⟨rfl, hb5⟩
                replace D := Lib.hid (D.out.trans (hb5.mono D.out.size))
                clear hb5 HG
                obtain ⟨g, hg⟩ : ∃ g : List UInt8, g = Lib.decDigits (Nat.gcd (Pl.natOf n) (Pl.natOf d)) := ⟨_, rfl⟩
                rw [← hg]
                have HGE : Hid (g = [49] ↔ Nat.gcd (Pl.natOf n) (Pl.natOf d) = 1) := by rw [hg]; exact Pl.dec_eq1
                clear hg
                by_cases h48 : d = [48]
                · have f1 : (d == [48]) = true := by simpa using h48
                  have HV := Lib.hid (ratF_3 (d := d) HN.out (.inl h48))
                  clear h48
                  go_wp2_with fail
                  go_ret
                  exact ⟨by rw [HE.out, HV.out]; rfl, D.out⟩
                · have f1 : (d == [48]) = false := by simpa using h48
                  have H48 := Lib.hid h48
                  clear h48
                  by_cases h49 : d = [49]
                  · have f2 : (d == [49]) = true := by simpa using h49
                    have HV := Lib.hid (ratF_3 (d := d) HN.out (.inr (.inl h49)))
                    clear h49
                    go_wp2_with fail
                    go_ret
                    exact ⟨by rw [HE.out, HV.out]; rfl, D.out⟩
                  · have f2 : (d == [49]) = false := by simpa using h49
                    have H49 := Lib.hid h49
                    clear h49
                    by_cases hg1 : g = [49]
                    · have f3 : (g == [49]) = true := by simpa using hg1
                      have HV := Lib.hid (ratF_0 (c := true) HN.out (fun _ => ⟨H48.out, H49.out, HGE.out.1 hg1⟩))
                      clear hg1
                      go_wp2_with fail
                      go_ret
                      exact ⟨by rw [HE.out, HV.out]; rfl, D.out⟩
                    · have f3 : (g == [49]) = false := by simpa using hg1
                      have HV := Lib.hid (ratF_3 (d := d) HN.out (.inr (.inr (fun h => hg1 (HGE.out.2 h)))))
                      clear hg1
                      go_wp2_with fail
                      go_ret
                      exact ⟨by rw [HE.out, HV.out]; rfl, D.out⟩
              · clear hT
                go_wp2_with fail
                refine HG.out.mono ?_
                rintro e w5 ⟨rfl, hb5⟩
                replace D := Lib.hid (D.out.trans (hb5.mono D.out.size))
                clear hb5 HG
                obtain ⟨g, hg⟩ : ∃ g : List UInt8, g = Lib.decDigits (Nat.gcd (Pl.natOf n) (Pl.natOf d)) := ⟨_, rfl⟩
                rw [← hg]
                have HGE : Hid (g = [49] ↔ Nat.gcd (Pl.natOf n) (Pl.natOf d) = 1) := by rw [hg]; exact Pl.dec_eq1
                clear hg
                by_cases h48 : d = [48]
                · have f1 : (d == [48]) = true := by simpa using h48
                  have HV := Lib.hid (ratF_3 (d := d) HN.out (.inl h48))
                  clear h48
                  go_wp2_with fail
                  go_ret
                  exact ⟨by rw [HE.out, HV.out]; rfl, D.out⟩
                · have f1 : (d == [48]) = false := by simpa using h48
                  have H48 := Lib.hid h48
                  clear h48
                  by_cases h49 : d = [49]
                  · have f2 : (d == [49]) = true := by simpa using h49
                    have HV := Lib.hid (ratF_3 (d := d) HN.out (.inr (.inl h49)))
                    clear h49
                    go_wp2_with fail
                    go_ret
                    exact ⟨by rw [HE.out, HV.out]; rfl, D.out⟩
                  · have f2 : (d == [49]) = false := by simpa using h49
                    have H49 := Lib.hid h49
                    clear h49
                    by_cases hg1 : g = [49]
                    · have f3 : (g == [49]) = true := by simpa using hg1
                      have HV := Lib.hid (ratF_0 (c := true) HN.out (fun _ => ⟨H48.out, H49.out, HGE.out.1 hg1⟩))
                      clear hg1
                      go_wp2_with fail
                      go_ret
                      exact ⟨by rw [HE.out, HV.out]; rfl, D.out⟩
                    · have f3 : (g == [49]) = false := by simpa using hg1
                      have HV := Lib.hid (ratF_3 (d := d) HN.out (.inr (.inr (fun h => hg1 (HGE.out.2 h)))))
                      clear hg1
                      go_wp2_with fail
                      go_ret
                      exact ⟨by rw [HE.out, HV.out]; rfl, D.out⟩
            · have e5 : (b != 0) = true := by simpa using hb0
              have HV := Lib.hid (ratF_2 (a := 0) (c := true) (d := d) (by decide) HB5.out HN.out (.inr hb0))
              clear hb0
              rcases hT.out with e3 | ⟨e3, e4⟩
              · clear hT
                go_wp2_with fail
                go_ret
                exact ⟨by rw [HE.out, HV.out]; rfl, D.out⟩
              · clear hT
                go_wp2_with fail
                go_ret
                exact ⟨by rw [HE.out, HV.out]; rfl, D.out⟩
          · have e5 : (a != 0) = true := by simpa using ha0
            have HV := Lib.hid (ratF_2 (c := true) (d := d) HA5.out HB5.out HN.out (.inl ha0))
            clear ha0
            rcases hT.out with e3 | ⟨e3, e4⟩
            · clear hT
              go_wp2_with fail
              go_ret
              exact ⟨by rw [HE.out, HV.out]; rfl, D.out⟩
            · clear hT
              go_wp2_with fail
              go_ret
              exact ⟨by rw [HE.out, HV.out]; rfl, D.out⟩
end Go.Proofs.YtoblpcljhblnmaaGreatDoor
namespace Go.Proofs.YtoblpcljhblnmaaGreatDoor
open Go.RowKit
set_option maxRecDepth 100000
def txs (ls : List (List UInt8)) : List Value := ls.map tx
theorem txs_len {w : World} {B n : Nat} {A : Option Addr} {ls : List (List UInt8)} (h : Reads w B 1 A n (txs ls)) : ls.length = n := by
  have := h.1; simpa [txs] using this
theorem txs_at {w : World} {B n : Nat} {A : Option Addr} {ls : List (List UInt8)} (h : Reads w B 1 A n (txs ls)) {k : Nat} (hk : k < n) :
    ∃ b o, A = some ⟨b, o, none⟩ ∧ b < B ∧ ∃ hl : k < ls.length, w.cell? ⟨b, o + k, none⟩ = some (tx (ls[k]'hl)) := by
  obtain ⟨b, o, rfl, hb, hc⟩ := h.where_ (by omega) (by omega)
  have hl : k < ls.length := by have := txs_len h; omega
  exact ⟨b, o, rfl, hb, hl, hc k _ (by simp [txs, hl])⟩
def Pl.ratsE : List (List UInt8) → Int
  | [] => 0
  | l :: r => if Pl.ratE l ≠ 0 then Pl.ratE l else Pl.ratsE r
theorem Pl.ratsE_ok {ls : List (List UInt8)} : Pl.ratsE ls = 0 ↔ ∀ l ∈ ls, Pl.ratE l = 0 := by
  induction ls with
  | nil => simp [Pl.ratsE]
  | cons l r ih =>
    rw [Pl.ratsE]
    split
    · rename_i h
      exact ⟨fun e => absurd e h, fun e => absurd (e l (by simp)) h⟩
    · rename_i h
      have h0 : Pl.ratE l = 0 := Decidable.byContradiction h
      rw [ih]
      exact ⟨fun e x hx => by rcases List.mem_cons.1 hx with rfl | hx; exact h0; exact e x hx, fun e x hx => e x (List.mem_cons_of_mem _ hx)⟩
theorem Pl.ratsE_at {ls : List (List UInt8)} {k : Nat} (hk : k < ls.length) (h0 : ∀ l ∈ ls.take k, Pl.ratE l = 0) (h : Pl.ratE ls[k] ≠ 0) : Pl.ratsE ls = Pl.ratE ls[k] := by
  induction ls generalizing k with
  | nil => cases hk
  | cons l r ih =>
    rw [Pl.ratsE]
    cases k with
    | zero => exact if_pos h
    | succ k =>
      have e := h0 l (by simp)
      rw [if_neg (by rw [e]; simp)]
      exact ih (by simpa using hk) (fun x hx => h0 x (by simp [hx])) h
set_option maxHeartbeats 3200000 in
theorem rcheckall_any (A : Option Addr) (n c : Nat) (ls : List (List UInt8)) (w : World) (hn : n ≤ 9223372036854775807) (hr : Reads w w.heap.size 1 A n (txs ls)) (hs : ∀ l ∈ ls, l.length ≤ 9223372036854775807) (hl : LV w) :
    Calls Tryz.prog 50 #[.slice A n c] w fun e w' => e = .returned (.int .i64 (Pl.ratsE ls)) ∧ Below w.heap.size w w' := by
  have HR := Lib.hid hr
  have HS := Lib.hid hs
  have HL := Lib.hid hl
  have HN := Lib.hid (txs_len hr)
  obtain ⟨E, hE⟩ : ∃ E : Int, E = Pl.ratsE ls := ⟨_, rfl⟩
  rw [← hE]
  have HE := Lib.hid hE
  clear hr hs hl hE
  go_enter Tryz.func50, Tryz.ntmps50
  go_wp2_with fail
  go_loopw [4, 5, 8] (fun _ _ i wr => ∃ k : Nat, k ≤ n ∧ i = .int .i64 k ∧ Hid (∀ l ∈ ls.take k, Pl.ratE l = 0) ∧ Hid (Below w.heap.size w wr)) (fun _ _ i _ => n - (intOf i).toNat)
  case atStart => exact ⟨0, Nat.zero_le _, rfl, Lib.hid (by simp), Below.refl _ _⟩
  case round =>
    obtain ⟨k, hk, rfl, HZ, D⟩ := hrel
    by_cases hlt : k < n
    · obtain ⟨b, o, rfl, hb, hkl, y1⟩ := txs_at HR.out (k := k) hlt
      have y2 := (D.out.cell (p := ⟨b, o + k, none⟩) hb).trans y1
      have hbr : b < wr.heap.size := by have := D.out.size; omega
      have hk0 : (0 : Int) ≤ (k : Int) := by omega
      have hk1 : (k : Int) < (n : Int) := by omega
      have HC := Lib.hid (rcheck_any ls[k] wr (HS.out _ (List.getElem_mem hkl)) (HL.out.go D.out))
      have HF : Hid (Pl.ratE ls[k] ≠ 0 → Pl.ratsE ls = Pl.ratE ls[k]) := fun h => Pl.ratsE_at hkl HZ.out h
      have HT : Hid (Pl.ratE ls[k] = 0 → ∀ l ∈ ls.take (k + 1), Pl.ratE l = 0) := fun h l hl => by
        rw [List.take_succ_eq_append_getElem hkl] at hl
        rcases List.mem_append.1 hl with hl | hl
        · exact HZ.out l hl
        · rw [List.mem_singleton.1 hl]; exact h
      generalize ls[k] = l at y2 HC HF HT
      obtain ⟨E1, hE1⟩ : ∃ E1 : Int, E1 = Pl.ratE l := ⟨_, rfl⟩
      rw [← hE1] at HC HF HT
      clear hE1 y1 hb HZ
      go_wp2_with fail
      refine HC.out.mono ?_
      rintro e w2 ⟨rfl, hb5⟩
      replace D := Lib.hid (D.out.trans (hb5.mono D.out.size))
      clear hb5 HC y2
      by_cases h0 : E1 = 0
      · subst h0
        go_wp2_with fail
        go_roundw
        case rel => exact ⟨k + 1, by omega, by go_num, HT.out (by trivial), D⟩
        case measure => simp [intOf]; omega
      · have e1 : (E1 != 0) = true := by simpa using h0
        have HV := Lib.hid (HF.out h0)
        clear h0 HF HT
        go_wp2_with fail
        go_ret
        exact ⟨by rw [HE.out, HV.out]; rfl, D.out⟩
    · have hk2 : ¬ (k : Int) < (n : Int) := by omega
      have HV : Hid (Pl.ratsE ls = 0) := by
        refine Pl.ratsE_ok.2 fun l hl => HZ.out l ?_
        rw [List.take_of_length_le (by rw [HN.out]; omega)]
        exact hl
      go_wp2_with fail
      go_ret
      exact ⟨by rw [HE.out, HV.out]; rfl, D.out⟩
theorem Pl.rsz_fits {q : Rat} (h : Pl.Fits q) : Pl.rsz q ≤ 210 :=
  Nat.max_le.2 ⟨Pl.nw_le (Nat.lt_of_lt_of_le h.1 Pl.lim_words), Pl.nw_le (Nat.lt_of_lt_of_le h.2 Pl.lim_words)⟩
def RTxtSaid (q : Rat) (w : World) (e : Ending) (w' : World) : Prop :=
  ((Pl.Fits q ∧ e = .returned (.tuple #[tx (Pl.ratTxt q), .int .i64 0])) ∨ (¬ Pl.Fits q ∧ e = .returned (.tuple #[tx [], .int .i64 2]))) ∧ Below w.heap.size w w'
theorem rtxt_any {q : Rat} {x : Rt} {w : World} (hx : RatIs w w.heap.size q x) (hl : LV w) : Calls Tryz.prog 48 #[x.v] w (RTxtSaid q w) := by
  obtain ⟨hA, hD, hsz⟩ := boxA w #[.bool x.N.b, .slice x.N.A x.N.n x.N.c, .bool x.D.b, .slice x.D.A x.D.n x.D.c] 105
  have HX := Lib.hid (hx.go hD)
  have HL := Lib.hid (hl.go hD)
  have D := Lib.hid hD
  clear hx hl hA hD hsz
  go_enter Tryz.func48, Tryz.ntmps48
  go_wp2_with fail
  generalize w.alloc (.cells #[.bool x.N.b, .slice x.N.A x.N.n x.N.c, .bool x.D.b, .slice x.D.A x.D.n x.D.c] 105) = w1 at *
  refine (rtext_any HX.out HL.out).mono ?_
  rintro e w2 ⟨s1, b1, rfl, hb1, hs1, hb5⟩
  have D2 := Lib.hid (D.out.trans (hb5.mono D.out.size))
  have HS1 := Lib.hid (And.intro hb1 hs1)
  clear hb5 HL HX D hb1 hs1
  cases b1 with
  | false =>
    go_wp2_with fail
    go_ret2
    exact ⟨.inr ⟨(fun h => by have h1 := HS1.out.1.2 h; first | cases h1 | exact h1 | (simp at h1)), rfl⟩, D2.out⟩
  | true =>
    have e1 := HS1.out.2 (by simp)
    subst e1
    go_wp2_with fail
    go_ret2
    exact ⟨.inl ⟨HS1.out.1.1 (by simp), rfl⟩, D2.out⟩
end Go.Proofs.YtoblpcljhblnmaaGreatDoor
