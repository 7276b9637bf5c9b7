/- nat.Check answers as the plain check of numerals. No condition but the text's length. -/
import Derived.Test.YtflfbbdapbjaaaaDoorShLgB
import Derived.Deep.LoopGhost
namespace Go.Proofs.YtflfbbdapbjaaaaDoor
open Go.RowKit
set_option maxRecDepth 100000
/-- a text as bytes: a new block that reads as the text's bytes -/
theorem bytes_tx (l : List UInt8) (w : World) : ∃ cap w1, (convert 9 81 (.string ⟨l.toArray⟩)).run Tryd.prog w = .ok (.slice (some ⟨w.heap.size, 0, none⟩) l.length cap) w1 ∧
    (∀ k (hk : k < l.length), w1.cell? ⟨w.heap.size, k, none⟩ = some (.int .u8 (l[k].toNat : Int))) ∧ Below w.heap.size w w1 := by
  have h0 := run_bytes_of_string w 9 81 5 (⟨l.toArray⟩ : ByteArray) Tryd.underlying9 Tryd.underlying81 Tryd.underlying5
  rw [tx_size] at h0
  refine ⟨_, _, h0, fun k hk => ?_, ((Below.refl _ _).drew).alloc (Nat.le_refl _) _⟩
  have h := World.cell?_alloc_mark w.drew (bytesRow ⟨l.toArray⟩ (grownCap w l.length 0 5)) 5 ((bytesRow ⟨l.toArray⟩ (grownCap w l.length 0 5)).size, (bytesRow ⟨l.toArray⟩ (grownCap w l.length 0 5)).size + 1) k
  exact h.trans (bytesRow_at ⟨l.toArray⟩ _ k (by simpa using hk))
theorem numE_bad {l : List UInt8} {k : Nat} (hk : k < l.length) (h : ¬ Pl.Dg l[k]) : Pl.numE l = 5 := by
  unfold Pl.numE
  rw [if_pos ⟨l[k], List.getElem_mem hk, h⟩]
theorem numE_all {l : List UInt8} (h : ∀ k (hk : k < l.length), Pl.Dg l[k]) : Pl.numE l = if l = [] ∨ (1 < l.length ∧ l.head? = some 48) then 5 else if 2000 < l.length then 2 else 0 := by
  unfold Pl.numE
  rw [if_neg]
  rintro ⟨c, hc, hn⟩
  obtain ⟨k, hk, e⟩ := List.getElem_of_mem hc
  exact hn (by rw [← e]; exact h k hk)
set_option maxHeartbeats 3200000 in
theorem ncheck_any (l : List UInt8) (w : World) (hs : l.length ≤ 9223372036854775807) :
    Calls Tryd.prog 31 #[tx l] w fun e w' => e = .returned (.int .i64 (Pl.numE l)) ∧ Below w.heap.size w w' := by
  obtain ⟨cap, w1, hrun, hc, hb⟩ := bytes_tx l w
  have HC := Lib.hid hc
  have HB := Lib.hid hb
  clear hc hb
  obtain ⟨E, hE⟩ : ∃ E : Int, E = Pl.numE l := ⟨_, rfl⟩
  rw [← hE]
  have HE := Lib.hid hE
  clear hE
  go_enter Tryd.func31, Tryd.ntmps31
  go_wp2_with fail
  go_loopw [4, 8] (fun _ i wr => ∃ k : Nat, k ≤ l.length ∧ i = .int .i64 k ∧ wr = w1 ∧ Hid (∀ j (hj : j < l.length), j < k → Pl.Dg l[j])) (fun _ i _ => l.length - (intOf i).toNat)
  case atStart => exact ⟨0, Nat.zero_le _, rfl, rfl, fun j _ h => absurd h (by omega)⟩
  case round =>
    obtain ⟨k, hk, rfl, rfl, HN⟩ := hrel
    by_cases hlt : k < l.length
    · have hc := HC.out k hlt
      have HT : Hid (Pl.Dg l[k] → ∀ j (hj : j < l.length), j < k + 1 → Pl.Dg l[j]) := by
        intro h j hj hjk
        by_cases e : j = k
        · subst e; exact h
        · exact HN.out j hj (by omega)
      have HF : Hid (¬ Pl.Dg l[k] → Pl.numE l = 5) := fun h => numE_bad hlt h
      unfold Pl.Dg at HF
      have HD : Hid (48 ≤ l[k].toNat ∧ l[k].toNat ≤ 57 → Pl.Dg l[k]) := fun h => h
      have HT2 := Lib.hid (fun h => HT.out (HD.out h))
      clear HT HD
      generalize l[k].toNat = c at hc HF HT2
      by_cases h1 : c < 48
      · have e1 : decide ((c : Int) < 48) = true := decide_eq_true (by omega)
        go_wp2_with fail
        go_ret
        exact ⟨by rw [HE.out, HF.out (by omega)]; rfl, HB.out⟩
      · have e1 : decide ((c : Int) < 48) = false := decide_eq_false (by omega)
        by_cases h2 : 57 < c
        · have e2 : decide ((57 : Int) < (c : Int)) = true := decide_eq_true (by omega)
          go_wp2_with fail
          go_ret
          exact ⟨by rw [HE.out, HF.out (by omega)]; rfl, HB.out⟩
        · have e2 : decide ((57 : Int) < (c : Int)) = false := decide_eq_false (by omega)
          have HX := Lib.hid (HT2.out (by omega))
          clear HT2 HF
          go_wp2_with fail
          go_roundw
          case rel => exact ⟨k + 1, by omega, by go_num, by trivial, HX.out⟩
          case measure => simp [intOf]; omega
    · have HA := Lib.hid (numE_all (l := l) fun j hj => HN.out j hj (by omega))
      have hk2 : ¬ (k : Int) < (l.length : Int) := by omega
      clear HN
      by_cases h0 : l = []
      · subst h0
        go_wp2_with fail
        go_ret
        exact ⟨by rw [HE.out]; rfl, HB.out⟩
      · have e0 : (l == []) = false := by simpa using h0
        have H0 := Lib.hid h0
        clear h0
        by_cases h1 : 1 < l.length
        · obtain ⟨c, r, hcr⟩ : ∃ c r, l = c :: r := by
            cases l with
            | nil => exact absurd h1 (by simp)
            | cons c r => exact ⟨c, r, rfl⟩
          have hidx : ∀ W, (Instr.index 9 (.string ⟨l.toArray⟩) (.int .i64 0)).run Tryd.prog W = .ok (.int .u8 (c.toNat : Int)) W := fun W => by
            rw [run_index_string W 9 ⟨l.toArray⟩ .i64 0 Tryd.underlying9, dif_pos ⟨by omega, by rw [tx_size]; omega⟩]
            subst hcr
            rfl
          have HH : Hid (l.head? = some 48 ↔ c.toNat = 48) := by
            rw [hcr]
            constructor
            · intro e; injection e with e; rw [e]; rfl
            · intro e; have : c = 48 := UInt8.toNat_inj.1 e
              rw [this]; rfl
          have H1 := Lib.hid h1
          have e1 : (1 : Int) < (l.length : Int) := by omega
          clear hcr h1
          generalize c.toNat = d at *
          by_cases h48 : d = 48
          · have HF : Hid (Pl.numE l = 5) := by rw [HA.out, if_pos (.inr ⟨H1.out, HH.out.2 h48⟩)]; exact rfl
            subst h48
            go_wp2_with fail
            go_ret
            exact ⟨by rw [HE.out, HF.out]; rfl, HB.out⟩
          · have e3 : ((d : Int) == 48) = false := by simp; omega
            have HN : Hid (¬ (l = [] ∨ (1 < l.length ∧ l.head? = some 48))) := by
              rintro (h | h)
              · exact H0.out h
              · exact h48 (HH.out.1 h.2)
            clear h48
            by_cases h2 : 2000 < l.length
            · have e2 : (2000 : Int) < (l.length : Int) := by omega
              have HF : Hid (Pl.numE l = 2) := by rw [HA.out, if_neg HN.out, if_pos h2]; exact rfl
              clear h2
              go_wp2_with fail
              go_ret
              exact ⟨by rw [HE.out, HF.out]; rfl, HB.out⟩
            · have e2 : ¬ (2000 : Int) < (l.length : Int) := by omega
              have HF : Hid (Pl.numE l = 0) := by rw [HA.out, if_neg HN.out, if_neg h2]; exact rfl
              clear h2
              go_wp2_with fail
              go_ret
              exact ⟨by rw [HE.out, HF.out]; rfl, HB.out⟩
        · have e1 : ¬ (1 : Int) < (l.length : Int) := by omega
          have HF : Hid (Pl.numE l = 0) := by
            rw [HA.out, if_neg (by rintro (h | h); exact H0.out h; exact h1 h.1), if_neg (by omega)]
            exact rfl
          have e2 : ¬ (2000 : Int) < (l.length : Int) := by omega
          go_wp2_with fail
          go_ret
          exact ⟨by rw [HE.out, HF.out]; rfl, HB.out⟩
end Go.Proofs.YtflfbbdapbjaaaaDoor
