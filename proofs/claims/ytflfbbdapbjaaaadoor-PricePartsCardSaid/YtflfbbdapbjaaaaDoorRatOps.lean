/- rat.CheckAll, text: as the plain checks and texts. Condition: the texts read; the library's tables lie as they are laid. -/
import Derived.Test.YtflfbbdapbjaaaaDoorRatChk
namespace Go.Proofs.YtflfbbdapbjaaaaDoor
open Go.RowKit
set_option maxRecDepth 100000
/-- texts as values -/
def txs (ls : List (List UInt8)) : List Value := ls.map tx
theorem txs_len {w : World} {B n : Nat} {A : Option Addr} {ls : List (List UInt8)} (h : Reads w B 1 A n (txs ls)) : ls.length = n := by
  have := h.1; simpa [txs] using this
theorem txs_at {w : World} {B n : Nat} {A : Option Addr} {ls : List (List UInt8)} (h : Reads w B 1 A n (txs ls)) {k : Nat} (hk : k < n) :
    ∃ b o, A = some ⟨b, o, none⟩ ∧ b < B ∧ ∃ hl : k < ls.length, w.cell? ⟨b, o + k, none⟩ = some (tx (ls[k]'hl)) := by
  obtain ⟨b, o, rfl, hb, hc⟩ := h.where_ (by omega) (by omega)
  have hl : k < ls.length := by have := txs_len h; omega
  exact ⟨b, o, rfl, hb, hl, hc k _ (by simp [txs, hl])⟩
/-- the first fault of texts -/
def Pl.ratsE : List (List UInt8) → Int
  | [] => 0
  | l :: r => if Pl.ratE l ≠ 0 then Pl.ratE l else Pl.ratsE r
theorem Pl.ratsE_ok {ls : List (List UInt8)} : Pl.ratsE ls = 0 ↔ ∀ l ∈ ls, Pl.ratE l = 0 := by
  induction ls with
  | nil => simp [Pl.ratsE]
  | cons l r ih =>
    rw [Pl.ratsE]
    split
    · rename_i h
      exact ⟨fun e => absurd e h, fun e => absurd (e l (by simp)) h⟩
    · rename_i h
      have h0 : Pl.ratE l = 0 := Decidable.byContradiction h
      rw [ih]
      exact ⟨fun e x hx => by rcases List.mem_cons.1 hx with rfl | hx; exact h0; exact e x hx, fun e x hx => e x (List.mem_cons_of_mem _ hx)⟩
theorem Pl.ratsE_at {ls : List (List UInt8)} {k : Nat} (hk : k < ls.length) (h0 : ∀ l ∈ ls.take k, Pl.ratE l = 0) (h : Pl.ratE ls[k] ≠ 0) : Pl.ratsE ls = Pl.ratE ls[k] := by
  induction ls generalizing k with
  | nil => cases hk
  | cons l r ih =>
    rw [Pl.ratsE]
    cases k with
    | zero => exact if_pos h
    | succ k =>
      have e := h0 l (by simp)
      rw [if_neg (by rw [e]; simp)]
      exact ih (by simpa using hk) (fun x hx => h0 x (by simp [hx])) h
set_option maxHeartbeats 3200000 in
theorem rcheckall_any (A : Option Addr) (n c : Nat) (ls : List (List UInt8)) (w : World) (hn : n ≤ 9223372036854775807) (hr : Reads w w.heap.size 1 A n (txs ls)) (hs : ∀ l ∈ ls, l.length ≤ 9223372036854775807) (hl : LV w) :
    Calls Tryd.prog 10 #[.slice A n c] w fun e w' => e = .returned (.int .i64 (Pl.ratsE ls)) ∧ Below w.heap.size w w' := by
  have HR := Lib.hid hr
  have HS := Lib.hid hs
  have HL := Lib.hid hl
  have HN := Lib.hid (txs_len hr)
  obtain ⟨E, hE⟩ : ∃ E : Int, E = Pl.ratsE ls := ⟨_, rfl⟩
  rw [← hE]
  have HE := Lib.hid hE
  clear hr hs hl hE
  go_enter Tryd.func10, Tryd.ntmps10
  go_wp2_with fail
  go_loopw [4, 5, 8] (fun _ _ i wr => ∃ k : Nat, k ≤ n ∧ i = .int .i64 k ∧ Hid (∀ l ∈ ls.take k, Pl.ratE l = 0) ∧ Hid (Below w.heap.size w wr)) (fun _ _ i _ => n - (intOf i).toNat)
  case atStart => exact ⟨0, Nat.zero_le _, rfl, Lib.hid (by simp), Below.refl _ _⟩
  case round =>
    obtain ⟨k, hk, rfl, HZ, D⟩ := hrel
    by_cases hlt : k < n
    · obtain ⟨b, o, rfl, hb, hkl, y1⟩ := txs_at HR.out (k := k) hlt
      have y2 := (D.out.cell (p := ⟨b, o + k, none⟩) hb).trans y1
      have hbr : b < wr.heap.size := by have := D.out.size; omega
      have hk0 : (0 : Int) ≤ (k : Int) := by omega
      have hk1 : (k : Int) < (n : Int) := by omega
      have HC := Lib.hid (rcheck_any ls[k] wr (HS.out _ (List.getElem_mem hkl)) (HL.out.go D.out))
      have HF : Hid (Pl.ratE ls[k] ≠ 0 → Pl.ratsE ls = Pl.ratE ls[k]) := fun h => Pl.ratsE_at hkl HZ.out h
      have HT : Hid (Pl.ratE ls[k] = 0 → ∀ l ∈ ls.take (k + 1), Pl.ratE l = 0) := fun h l hl => by
        rw [List.take_succ_eq_append_getElem hkl] at hl
        rcases List.mem_append.1 hl with hl | hl
        · exact HZ.out l hl
        · rw [List.mem_singleton.1 hl]; exact h
      generalize ls[k] = l at y2 HC HF HT
      obtain ⟨E1, hE1⟩ : ∃ E1 : Int, E1 = Pl.ratE l := ⟨_, rfl⟩
      rw [← hE1] at HC HF HT
      clear hE1 y1 hb HZ
      go_wp2_with fail
      refine HC.out.mono ?_
      rintro e w2 ⟨rfl, hb5⟩
      replace D := Lib.hid (D.out.trans (hb5.mono D.out.size))
      clear hb5 HC y2
      by_cases h0 : E1 = 0
      · subst h0
        go_wp2_with fail
        go_roundw
        case rel => exact ⟨k + 1, by omega, by go_num, HT.out (by trivial), D⟩
        case measure => simp [intOf]; omega
      · have e1 : (E1 != 0) = true := by simpa using h0
        have HV := Lib.hid (HF.out h0)
        clear h0 HF HT
        go_wp2_with fail
        go_ret
        exact ⟨by rw [HE.out, HV.out]; rfl, D.out⟩
    · have hk2 : ¬ (k : Int) < (n : Int) := by omega
      have HV : Hid (Pl.ratsE ls = 0) := by
        refine Pl.ratsE_ok.2 fun l hl => HZ.out l ?_
        rw [List.take_of_length_le (by rw [HN.out]; omega)]
        exact hl
      go_wp2_with fail
      go_ret
      exact ⟨by rw [HE.out, HV.out]; rfl, D.out⟩
theorem Pl.rsz_fits {q : Rat} (h : Pl.Fits q) : Pl.rsz q ≤ 210 :=
  Nat.max_le.2 ⟨Pl.nw_le (Nat.lt_of_lt_of_le h.1 Pl.lim_words), Pl.nw_le (Nat.lt_of_lt_of_le h.2 Pl.lim_words)⟩
/-- what text returns -/
def RTxtSaid (q : Rat) (w : World) (e : Ending) (w' : World) : Prop :=
  ((Pl.Fits q ∧ e = .returned (.tuple #[tx (Pl.ratTxt q), .int .i64 0])) ∨ (¬ Pl.Fits q ∧ e = .returned (.tuple #[tx [], .int .i64 2]))) ∧ Below w.heap.size w w'
theorem rtxt_any {q : Rat} {x : Rt} {w : World} (hx : RatIs w w.heap.size q x) (hl : LV w) : Calls Tryd.prog 12 #[x.v] w (RTxtSaid q w) := by
  obtain ⟨hA, hD, hsz⟩ := boxA w #[.bool x.N.b, .slice x.N.A x.N.n x.N.c, .bool x.D.b, .slice x.D.A x.D.n x.D.c] 42
  have HX := Lib.hid (hx.go hD)
  have HL := Lib.hid (hl.go hD)
  have D := Lib.hid hD
  clear hx hl hA hD hsz
  go_enter Tryd.func12, Tryd.ntmps12
  go_wp2_with fail
  generalize w.alloc (.cells #[.bool x.N.b, .slice x.N.A x.N.n x.N.c, .bool x.D.b, .slice x.D.A x.D.n x.D.c] 42) = w1 at *
  refine (rtext_any HX.out HL.out).mono ?_
  rintro e w2 ⟨s1, b1, rfl, hb1, hs1, hb5⟩
  have D2 := Lib.hid (D.out.trans (hb5.mono D.out.size))
  have HS1 := Lib.hid (And.intro hb1 hs1)
  clear hb5 HL HX D hb1 hs1
  cases b1 with
  | false =>
    go_wp2_with fail
    go_ret2
    exact ⟨.inr ⟨(fun h => by have h1 := HS1.out.1.2 h; first | cases h1 | exact h1 | (simp at h1)), rfl⟩, D2.out⟩
  | true =>
    have e1 := HS1.out.2 (by simp)
    subst e1
    go_wp2_with fail
    go_ret2
    exact ⟨.inl ⟨HS1.out.1.1 (by simp), rfl⟩, D2.out⟩
end Go.Proofs.YtflfbbdapbjaaaaDoor
