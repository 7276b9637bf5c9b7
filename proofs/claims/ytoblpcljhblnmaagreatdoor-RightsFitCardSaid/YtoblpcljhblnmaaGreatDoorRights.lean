/- rights.Check: rights of a network. Condition: the network and the rights read. -/
import Derived.Test.YtoblpcljhblnmaaGreatDoorTop
namespace Go.Proofs.YtoblpcljhblnmaaGreatDoor
open Go.RowKit
set_option maxRecDepth 100000
namespace Pl
structure RI where
  from_ : ByteArray
  to_ : ByteArray
  power : Int
def riE (N : Net) (r : RI) : Int := if inB N.nodes r.from_ = false ∨ inB N.nodes r.to_ = false then 6 else if r.power < 1 ∨ 100000 < r.power then 4 else 0
def risE (N : Net) : List RI → Int
  | [] => 0
  | r :: l => if riE N r ≠ 0 then riE N r else risE N l
def rightsE (N : Net) (l : List RI) : Int := if netE N ≠ 0 then netE N else if 12 < l.length then 2 else risE N l
theorem risE_skip {N : Net} {l : List RI} {k : Nat} (h : ∀ j (hj : j < l.length), j < k → riE N l[j] = 0) (hk : k ≤ l.length) : risE N l = risE N (l.drop k) := by
  induction k with
  | zero => rfl
  | succ k ih =>
    have := ih (fun j hj hjk => h j hj (by omega)) (by omega)
    rw [this, List.drop_eq_getElem_cons (show k < l.length by omega), risE, if_neg (by rw [h k (by omega) (by omega)]; simp)]
theorem risE_hit {N : Net} {l : List RI} {k : Nat} (h : ∀ j (hj : j < l.length), j < k → riE N l[j] = 0) (hk : k < l.length) (h1 : riE N l[k] ≠ 0) : risE N l = riE N l[k] := by
  rw [risE_skip h (by omega), List.drop_eq_getElem_cons hk, risE, if_pos h1]
theorem risE_ok {N : Net} {l : List RI} (h : ∀ j (hj : j < l.length), riE N l[j] = 0) : risE N l = 0 := by
  rw [risE_skip (k := l.length) (fun j hj _ => h j hj) (Nat.le_refl _), List.drop_length]
  rfl
theorem risE_all {N : Net} : ∀ {l : List RI}, risE N l = 0 → ∀ r ∈ l, riE N r = 0
  | [], _ => fun r hr => by cases hr
  | r :: l, h => by
    rw [risE] at h
    intro x hx
    by_cases h1 : riE N r = 0
    · rw [if_neg (by simp [h1])] at h
      rcases List.mem_cons.1 hx with rfl | hx
      · exact h1
      · exact risE_all h x hx
    · rw [if_pos h1] at h; exact absurd h h1
end Pl
def riC (r : Pl.RI) : List Value := [.string r.from_, .string r.to_, .int .i64 r.power]
theorem ri_at {w : World} {B : Nat} {A : Option Addr} {n : Nat} {l : List Pl.RI} (h : Elems riC 3 w B A n l) {k : Nat} (hk : k < n) :
    ∃ b o, A = some ⟨b, o, none⟩ ∧ ∃ hl : k < l.length, w.cell? ⟨b, o + k * 3, none⟩ = some (.string (l[k]'hl).from_) ∧ w.cell? ⟨b, o + k * 3 + 1, none⟩ = some (.string (l[k]'hl).to_) ∧ w.cell? ⟨b, o + k * 3 + 2, none⟩ = some (.int .i64 (l[k]'hl).power) := by
  obtain ⟨b, o, rfl, _, hl, hc⟩ := Elems.at_ (dec := riC) (size := 3) (fun _ => rfl) (by decide) h hk
  exact ⟨b, o, rfl, hl, hc 0 (by omega), hc 1 (by omega), hc 2 (by omega)⟩
theorem Elems.go {α : Type} {dec : α → List Value} {size : Nat} {w w' : World} {A : Option Addr} {n : Nat} {l : List α} (h : Elems dec size w w.heap.size A n l) (hb : Below w.heap.size w w') : Elems dec size w' w'.heap.size A n l := (h.below hb).more hb.size
theorem containsb_any (A : Option Addr) (n c : Nat) (zs : List ByteArray) (nm : ByteArray) (w : World) (B : Nat) (hn : n ≤ 9223372036854775807) (h : Reads w B 1 A n (txts zs)) :
    Calls Tryz.prog 128 #[.slice A n c, .string nm] w fun e w' => e = .returned (.bool (Pl.inB zs nm)) ∧ Below w.heap.size w w' := by
  refine (contains_txt A n c zs nm w B hn h).mono ?_
  rintro e w' ⟨h1, rfl⟩
  exact ⟨h1, Below.refl _ _⟩
set_option maxHeartbeats 6400000 in
theorem rightschk_any (M : MNet) (A : Option Addr) (n c : Nat) (l : List Pl.RI) (w : World) (hM : NetIn w w.heap.size M) (hl : Elems riC 3 w w.heap.size A n l) (hn : n ≤ 9223372036854775807) :
    Calls Tryz.prog 86 #[vNet M, .slice A n c] w fun e w' => e = .returned (.int .i64 (Pl.rightsE M.N l)) ∧ Below w.heap.size w w' := by
  have HNC := Lib.hid (fun (W : World) (h : NetIn W W.heap.size M) => netcheck_any M W h)
  have HLN := Lib.hid hl.2
  have HL := Lib.hid hl
  obtain ⟨N, A0, n0, c0, A1, n1, c1, A2, n2, c2, A3, n3, c3, A4, n4, c4, A5, n5, c5⟩ := M
  unfold vNet netC at *
  simp only at *
  have z0 : n0 ≤ 9223372036854775807 := hM.z0
  have hA := Blk.new_ w w.heap.size 29 #[.slice A0 n0 c0, .slice A1 n1 c1, .slice A2 n2 c2, .slice A3 n3 c3, .slice A4 n4 c4, .slice A5 n5 c5] rfl
  have hD := (Below.refl w.heap.size w).alloc (Nat.le_refl _) (.cells #[.slice A0 n0 c0, .slice A1 n1 c1, .slice A2 n2 c2, .slice A3 n3 c3, .slice A4 n4 c4, .slice A5 n5 c5] 29)
  have BN := Lib.hid hA
  have HM := Lib.hid (hM.go hD)
  have D := Lib.hid hD
  have ca := hA.cell
  have la := hA.lt
  have HE : Hid (Pl.rightsE N l = if Pl.netE N ≠ 0 then Pl.netE N else if 12 < n then 2 else Pl.risE N l) := by show _ = _; unfold Pl.rightsE; rw [hl.2]
  obtain ⟨R, hR⟩ : ∃ R, R = Pl.rightsE N l := ⟨_, rfl⟩
  rw [← hR] at HE ⊢
  obtain ⟨E, hE⟩ : ∃ E, E = Pl.netE N := ⟨_, rfl⟩
  rw [← hE] at HE HNC
  clear hM hA hD hl hR hE
  go_enter Tryz.func86, Tryz.ntmps86
  go_wp2_with fail
  obtain ⟨bn, hbn⟩ : ∃ bn : Nat, bn = w.heap.size := ⟨_, rfl⟩
  rw [← hbn] at BN ⊢
  clear ca la hbn
  generalize w.alloc (.cells #[.slice A0 n0 c0, .slice A1 n1 c1, .slice A2 n2 c2, .slice A3 n3 c3, .slice A4 n4 c4, .slice A5 n5 c5] 29) = w1 at *
  refine (HNC.out w1 HM.out).mono ?_
  rintro e w2 ⟨rfl, hb5⟩
  replace BN := Lib.hid (BN.out.go hb5)
  replace HM := Lib.hid (HM.out.go hb5)
  replace D := Lib.hid (D.out.trans (hb5.mono D.out.size))
  clear hb5 HNC
  by_cases h0 : E = 0
  · rw [if_neg (by simp [h0])] at HE
    subst h0
    by_cases h12 : 12 < n
    · have h12' : (12 : Int) < (n : Int) := by omega
      rw [if_pos h12] at HE
      clear h12
      go_wp2_with fail
      go_ret
      exact ⟨by rw [HE.out]; rfl, D.out⟩
    · have h12' : ¬ (12 : Int) < (n : Int) := by omega
      rw [if_neg h12] at HE
      have cbn := BN.out.cell
      go_wp2_with fail
      clear cbn
      go_loopw [18] (fun i wr => ∃ k : Nat, k ≤ n ∧ i = .int .i64 k ∧ Hid (∀ j (hj : j < l.length), j < k → Pl.riE N l[j] = 0) ∧ Hid (Below w2.heap.size w2 wr)) (fun i _ => n - (intOf i).toNat)
      case atStart => exact ⟨0, Nat.zero_le _, rfl, fun j _ h => absurd h (by omega), Below.refl _ _⟩
      case round =>
        obtain ⟨k, hk, rfl, HNO, D2⟩ := hrel
        have D3 := Lib.hid (D.out.trans (D2.out.mono D.out.size))
        have BNr := Lib.hid (BN.out.go D2.out)
        have HMr := Lib.hid (HM.out.go D2.out)
        by_cases hlt : k < n
        · obtain ⟨b, o, rfl, hll, q0, q1, q2⟩ := ri_at (HL.out.go D3.out) (k := k) hlt
          have HRI : Hid (Pl.riE N l[k] = if Pl.inB N.nodes l[k].from_ = false ∨ Pl.inB N.nodes l[k].to_ = false then 6 else if l[k].power < 1 ∨ 100000 < l[k].power then 4 else 0) := rfl
          have HHIT : Hid (Pl.riE N l[k] ≠ 0 → Pl.risE N l = Pl.riE N l[k]) := fun h => Pl.risE_hit HNO.out hll h
          have HPASS : Hid (Pl.riE N l[k] = 0 → ∀ j (hj : j < l.length), j < k + 1 → Pl.riE N l[j] = 0) := fun h j hj hjk => by
            by_cases e : j = k
            · subst e; exact h
            · exact HNO.out j hj (by omega)
          generalize Pl.riE N l[k] = E1 at *
          generalize l[k] = z at *
          have hkn : (k : Int) < (n : Int) := by omega
          have hb5 := below_oneS wr (.cells #[.string z.from_, .string z.to_, .int .i64 z.power] 31)
          have BB := Lib.hid (Blk.new_ wr wr.heap.size 31 #[.string z.from_, .string z.to_, .int .i64 z.power] rfl)
          have cbb := BB.out.cell
          have lbb := BB.out.lt
          have cbn := (BNr.out.go hb5).cell
          have lbn := (BNr.out.go hb5).lt
          have HMb := Lib.hid (HMr.out.go hb5)
          have BNb := Lib.hid (BNr.out.go hb5)
          have Db := Lib.hid (D2.out.trans (hb5.mono D2.out.size))
          have HIF := Lib.hid (fun (W : World) (h : Reads W W.heap.size 1 A0 n0 (txts N.nodes)) => containsb_any A0 n0 c0 N.nodes z.from_ W _ z0 h)
          have HIT := Lib.hid (fun (W : World) (h : Reads W W.heap.size 1 A0 n0 (txts N.nodes)) => containsb_any A0 n0 c0 N.nodes z.to_ W _ z0 h)
          generalize Pl.inB N.nodes z.from_ = f1 at *
          generalize Pl.inB N.nodes z.to_ = f2 at *
          clear hb5 hll HNO
          go_wp2_with fail
          clear cbb lbb cbn lbn
          have BBa := Lib.hid (BB.out.go (Below.refl _ _))
          obtain ⟨bb, e1⟩ : ∃ bb : Nat, bb = wr.heap.size := ⟨_, rfl⟩
          rw [← e1] at BBa
          rw [← e1]
          clear e1 BB
          generalize wr.alloc (.cells #[.string z.from_, .string z.to_, .int .i64 z.power] 31) = wa at *
          refine (HIF.out wa HMb.out.r0).mono ?_
          rintro e w5 ⟨rfl, hb5⟩
          have BB5 := Lib.hid (BBa.out.go hb5)
          have BN5 := Lib.hid (BNb.out.go hb5)
          have HM5 := Lib.hid (HMb.out.go hb5)
          have D5 := Lib.hid (Db.out.trans (hb5.mono Db.out.size))
          have D6 := Lib.hid (D.out.trans (D5.out.mono D.out.size))
          have cbb := BB5.out.cell
          have lbb := BB5.out.lt
          have cbn := BN5.out.cell
          have lbn := BN5.out.lt
          clear hb5 HMb BNb Db BBa HIF
          cases f1 with
          | false =>
            have hE1 : E1 = 6 := by rw [HRI.out, if_pos (.inl rfl)]
            have hR := HHIT.out (by omega)
            rw [hE1] at hR
            have HR9 := Lib.hid hR
            clear hE1 hR HHIT HPASS HRI
            go_wp2_with fail
            go_ret
            exact ⟨by rw [HE.out, HR9.out]; rfl, D6.out⟩
          | true =>
            go_wp2_with fail
            refine (HIT.out w5 HM5.out.r0).mono ?_
            rintro e w7 ⟨rfl, hb5⟩
            have BB7 := Lib.hid (BB5.out.go hb5)
            have D7 := Lib.hid (D5.out.trans (hb5.mono D5.out.size))
            have D8 := Lib.hid (D.out.trans (D7.out.mono D.out.size))
            clear cbb lbb cbn lbn hb5 HIT
            have cbb := BB7.out.cell
            have lbb := BB7.out.lt
            cases f2 with
            | false =>
              have hE1 : E1 = 6 := by rw [HRI.out, if_pos (.inr rfl)]
              have hR := HHIT.out (by omega)
              rw [hE1] at hR
              have HR9 := Lib.hid hR
              clear hE1 hR HHIT HPASS HRI
              go_wp2_with fail
              go_ret
              exact ⟨by rw [HE.out, HR9.out]; rfl, D8.out⟩
            | true =>
              have hE1 : E1 = if z.power < 1 ∨ 100000 < z.power then 4 else 0 := by rw [HRI.out, if_neg (by simp)]
              obtain ⟨pw, hpw⟩ : ∃ pw, pw = z.power := ⟨_, rfl⟩
              rw [← hpw] at hE1 BB7 cbb
              clear HRI hpw
              by_cases p1 : pw < 1
              · have hE4 : E1 = 4 := by rw [hE1, if_pos (.inl p1)]
                have hR := HHIT.out (by omega)
                rw [hE4] at hR
                have HR9 := Lib.hid hR
                clear hE1 hE4 hR HHIT HPASS
                go_wp2_with fail
                go_ret
                exact ⟨by rw [HE.out, HR9.out]; rfl, D8.out⟩
              · by_cases p2 : 100000 < pw
                · have hE4 : E1 = 4 := by rw [hE1, if_pos (.inr p2)]
                  have hR := HHIT.out (by omega)
                  rw [hE4] at hR
                  have HR9 := Lib.hid hR
                  have p3 : decide (pw < 1) = false := decide_eq_false p1
                  clear hE1 hE4 hR HHIT HPASS
                  go_wp2_with fail
                  go_ret
                  exact ⟨by rw [HE.out, HR9.out]; rfl, D8.out⟩
                · have hE4 : E1 = 0 := by rw [hE1, if_neg (by omega)]
                  have HN9 := Lib.hid (HPASS.out hE4)
                  have p3 : decide (pw < 1) = false := decide_eq_false p1
                  have p4 : decide (100000 < pw) = false := decide_eq_false p2
                  clear hE1 hE4 HHIT HPASS
                  go_wp2_with fail
                  go_roundw
                  case rel => exact ⟨k + 1, by omega, by go_num, HN9.out, D7⟩
                  case measure => simp [intOf]; omega
        · have : k = n := by omega
          subst this
          have hok : Pl.risE N l = 0 := Pl.risE_ok fun j hj => HNO.out j hj (by rw [HLN.out] at hj; exact hj)
          go_wp2_with fail
          go_ret
          exact ⟨by rw [HE.out, hok]; rfl, D3.out⟩
  · rw [if_pos h0] at HE
    have he9 : (E != 0) = true := by simpa using h0
    clear h0
    go_wp2_with fail
    go_ret
    exact ⟨by rw [HE.out]; rfl, D.out⟩
end Go.Proofs.YtoblpcljhblnmaaGreatDoor
