/- relaylang.Check answers as its plain function says. Condition: the program reads. -/
import Derived.Test.YtpamgeemmbbkkaaRulB
import Derived.Test.YtpamgeemmbbkkaaRNames
import Derived.Test.YtpamgeemmbbkkaaROrd
namespace Go.Proofs.Ytpamgeemmbbkkaa
open Go.RowKit
set_option maxRecDepth 100000
namespace Pl
def nodesE : List RN → Int
  | [] => 0
  | x :: l => if nodeE x ≠ 0 then nodeE x else nodesE l
/-- what Check says of one rule -/
def ruleE (l : List RRule) (i : Nat) (r : RRule) : Int :=
  if rnameB r.name = false then 6 else if 0 ≤ ruleI (l.take i) r.name then 7 else if 64 < r.expr.length then 2 else if nodesE r.expr ≠ 0 then nodesE r.expr else if endI r.expr 0 ≠ r.expr.length then 3 else 0
def rulesE (l : List RRule) : Nat → Nat → Int
  | 0, _ => 0
  | f + 1, i => match l[i]? with
    | none => 0
    | some r => if ruleE l i r ≠ 0 then ruleE l i r else rulesE l f (i + 1)
/-- is the name of a measured value also one of a flag or of a rule? -/
def mixB (l : List RRule) : Bool := (vnames l).any fun s => decide (s ∈ fnames l) || decide (0 ≤ ruleI l ⟨s.toArray⟩)
def ndQ (l : List RRule) (i : Nat) : List Int := match l[i]? with | some o => needsP (ruleI l) o.expr | none => []
/-- relaylang.Check -/
def relE (l : List RRule) : Int :=
  if 16 < l.length then 2 else if rulesE l l.length 0 ≠ 0 then rulesE l l.length 0 else if mixB l = true then 3 else if orderP (ndQ l) l.length = none then 11 else 0
theorem rulesE_ok {l : List RRule} : ∀ {f i : Nat}, rulesE l f i = 0 → l.length ≤ f + i → ∀ j (hj : j < l.length), i ≤ j → ruleE l j l[j] = 0
  | 0, i, _, hf, j, hj, hij => by omega
  | f + 1, i, h, hf, j, hj, hij => by
    unfold rulesE at h
    have hi : i < l.length := by omega
    rw [List.getElem?_eq_getElem hi] at h
    simp only at h
    by_cases he : ruleE l i l[i] = 0
    · rw [if_neg (by simpa using he)] at h
      by_cases e : j = i
      · subst e; exact he
      · exact rulesE_ok h (by omega) j hj (by omega)
    · rw [if_pos he] at h
      exact absurd h he
theorem ruleE_ok {l : List RRule} {i : Nat} {r : RRule} (h : ruleE l i r = 0) : r.expr.length ≤ 64 ∧ nodesE r.expr = 0 ∧ endG 1 r.expr = some r.expr.length := by
  unfold ruleE at h
  split at h
  · omega
  · split at h
    · omega
    · split at h
      · omega
      · rename_i h3
        split at h
        · rename_i h4; exact absurd h h4
        · rename_i h4
          split at h
          · omega
          · rename_i h5
            have h5 : endI r.expr 0 = r.expr.length := by simpa using h5
            refine ⟨by omega, by simpa using h4, ?_⟩
            unfold endI at h5
            cases e : endG 1 (r.expr.drop 0) with
            | none => rw [e] at h5; simp at h5
            | some c => rw [e] at h5; simp at h5 e; rw [e]; congr 1; omega
end Pl
theorem ndP_prl (l : List MRul) : ndP l = Pl.ndQ (prl l) := by
  funext i
  unfold ndP Pl.ndQ prl
  rw [List.getElem?_map]
  cases l[i]? <;> rfl
theorem prl_len (l : List MRul) : (prl l).length = l.length := by unfold prl; simp
theorem prl_take (l : List MRul) (k : Nat) : (prl l).take k = prl (l.take k) := by unfold prl; rw [List.map_take]
theorem prl_get (l : List MRul) {k : Nat} (hk : k < l.length) : (prl l)[k]? = some ⟨l[k].nm, l[k].ex⟩ := by unfold prl; rw [List.getElem?_map, List.getElem?_eq_getElem hk]; rfl
theorem elem_ruls : Try.prog.underlying 60 = some (.slice (Try.prog.elem 60)) := by kernel_rfl
theorem size_ruls : ∀ w : World, (sizeOf (Try.prog.elem 60)).run Try.prog w = .ok 2 w := fun _ => by kernel_rfl
/-- 's[:k]' -/
theorem ruls_to {w0 : World} {B n c : Nat} {A : Option Addr} {l : List MRul} (h : Ruls w0 B A n l) (hnc : n ≤ c) (k : Nat) (hk : k ≤ n) :
    (∀ w, (Instr.slice 60 (.slice A n c) none (some (.int .i64 k)) none).run Try.prog w = .ok (.slice A k c) w) ∧ Ruls w0 B A k (l.take k) := by
  have hl := h.len
  refine ⟨fun w => ?_, ⟨⟨?_, by rw [List.length_take]; omega⟩, fun o ho => h.2 o (List.mem_of_mem_take ho)⟩⟩
  · have e : A.map (·.add 0) = A := by
      cases A with
      | none => rfl
      | some a => simp [Addr.add]
    rw [run_slice_h w 60 A n c elem_ruls .i64 k (by omega) (by omega), size_ruls]
    simp [sliced, Result.andThen]
    exact fun _ => e
  · have hs : l.flatMap rulC = (l.take k).flatMap rulC ++ (l.drop k).flatMap rulC := by rw [← List.flatMap_append, List.take_append_drop]
    have hlen : ((l.take k).flatMap rulC).length = k * 2 := by
      have : ∀ l : List MRul, (l.flatMap rulC).length = l.length * 2 := by
        intro l
        induction l with
        | nil => rfl
        | cons p l ih => simp [rulC] at ih ⊢; omega
      rw [this, List.length_take]
      omega
    refine ⟨hlen, fun hk0 => ?_⟩
    obtain ⟨ad, e, hb, hc⟩ := h.1.1.2 (by omega)
    refine ⟨ad, e, hb, fun j u hu => hc j u ?_⟩
    rw [hs, List.getElem?_append_left (by
      rcases Nat.lt_or_ge j ((l.take k).flatMap rulC).length with h | h
      · exact h
      · rw [List.getElem?_eq_none h] at hu; cases hu)]
    exact hu
theorem strs_txts (zs : List (List UInt8)) : strs zs = txts (zs.map fun s => ⟨s.toArray⟩) := by
  unfold strs txts
  rw [List.map_map]
  rfl
set_option maxHeartbeats 6400000 in
theorem rcheck_any (A : Option Addr) (n c : Nat) (l : List MRul) (w : World) (hn : n ≤ 9223372036854775807) (hnc : n ≤ c) (h : Ruls w w.heap.size A n l) :
    Calls Try.prog 23 #[.slice A n c] w fun e w' => e = .returned (.int .i64 (Pl.relE (prl l))) ∧ Below w.heap.size w w' := by
  have HRE : Hid (Pl.relE (prl l) = if 16 < (prl l).length then 2 else if Pl.rulesE (prl l) (prl l).length 0 ≠ 0 then Pl.rulesE (prl l) (prl l).length 0 else if Pl.mixB (prl l) = true then 3 else if Pl.orderP (Pl.ndQ (prl l)) (prl l).length = none then 11 else 0) := rfl
  rw [prl_len, h.len] at HRE
  generalize Pl.relE (prl l) = RE at *
  have H := Lib.hid h
  have HLL := Lib.hid h.len
  have CRL := Lib.hid (fun (k : Nat) (hk : k ≤ n) (nm : ByteArray) (w1 : World) (hb : Below w.heap.size w w1) => rule_any A k c (l.take k) nm w1 (by omega) ((ruls_to h hnc k hk).2.go hb))
  have CRA := Lib.hid (fun (nm : ByteArray) (w1 : World) (hb : Below w.heap.size w w1) => rule_any A n c l nm w1 hn (h.go hb))
  have CSL := Lib.hid (fun (k : Nat) (hk : k ≤ n) => (ruls_to h hnc k hk).1)
  by_cases h16 : 16 < n
  · rw [if_pos h16] at HRE
    have hd : decide ((16 : Int) < (n : Int)) = true := by simp; omega
    have hd2 : (16 : Int) < (n : Int) := by omega
    clear h16 h
    go_enter Try.func23, Try.ntmps23
    go_wp2_with fail
    go_ret
    exact ⟨by rw [HRE.out]; rfl, Below.refl _ _⟩
  · rw [if_neg h16] at HRE
    have hn16 : n ≤ 16 := by omega
    have hd : decide ((16 : Int) < (n : Int)) = false := by simp; omega
    have hd2 : ¬ (16 : Int) < (n : Int) := by omega
    clear h16 h
    have HST : Hid (∃ T, T = Pl.rulesE (prl l) n 0) := ⟨_, rfl⟩
    obtain ⟨T, hT⟩ := HST.out
    rw [← hT] at HRE
    have HT0 : Hid (T = Pl.rulesE (prl l) n 0) := hT
    clear hT HST
    go_enter Try.func23, Try.ntmps23
    go_wp2_with fail
    go_loopw [19] (fun i wr => ∃ (k f : Nat), k ≤ n ∧ n ≤ f + k ∧ i = .int .i64 k ∧ Hid (T = Pl.rulesE (prl l) f k) ∧ Hid (Below w.heap.size w wr)) (fun i _ => n - (intOf i).toNat)
    case atStart => exact ⟨0, n, Nat.zero_le _, by omega, rfl, HT0.out, Below.refl _ _⟩
    case round =>
      obtain ⟨k, f, hk, hf, rfl, HT, HB⟩ := hrel
      by_cases hkn : k < n
      · obtain ⟨b, o, rfl, _, hlk, q0, q1, hin⟩ := rul_at (H.out.go HB.out) hkn
        obtain ⟨f1, hf1⟩ : ∃ f1, f = f1 + 1 := ⟨f - 1, by omega⟩
        subst hf1
        have HTK : Hid (T = if Pl.ruleE (prl l) k ⟨l[k].nm, l[k].ex⟩ ≠ 0 then Pl.ruleE (prl l) k ⟨l[k].nm, l[k].ex⟩ else Pl.rulesE (prl l) f1 (k + 1)) := by
          have h := HT.out
          show _ = _
          rw [h]
          show (match (prl l)[k]? with | none => 0 | some r => if Pl.ruleE (prl l) k r ≠ 0 then Pl.ruleE (prl l) k r else Pl.rulesE (prl l) f1 (k + 1)) = _
          rw [prl_get l hlk]
        clear HT
        have HIN : Hid (RulIn w w.heap.size l[k]) := H.out.2 _ (List.getElem_mem hlk)
        clear hin
        generalize l[k] = ru at *
        obtain ⟨rnm, eA, en, ec, ex⟩ := ru
        simp only at *
        obtain ⟨he1, he2, he3, he4, he5⟩ := HIN.out
        simp only at he1 he2 he3 he4 he5
        have HEX := Lib.hid he3
        have HES := Lib.hid he5
        have hel : Hid (ex.length = en) := he3.2
        have HRU : Hid (Pl.ruleE (prl l) k ⟨rnm, ex⟩ = if Pl.rnameB rnm = false then 6 else if 0 ≤ Pl.ruleI (prl (l.take k)) rnm then 7 else if 64 < en then 2 else if Pl.nodesE ex ≠ 0 then Pl.nodesE ex else if Pl.endI ex 0 ≠ en then 3 else 0) := by
          show _ = _
          unfold Pl.ruleE
          simp only
          rw [prl_take, hel.out]
        generalize Pl.ruleE (prl l) k ⟨rnm, ex⟩ = rE at *
        have HRET : Hid (rE ≠ 0 → RE = rE) := fun h => by rw [HRE.out, HTK.out, if_pos h, if_pos h]
        clear HIN he3 he5
        have CNM := Lib.hid (fun (w1 : World) => rname_any rnm w1 he4)
        generalize Pl.rnameB rnm = rb at *
        have k0 : (0 : Int) ≤ (k : Int) := by omega
        have k1 : (k : Int) < (n : Int) := by omega
        have d3 : Below wr.heap.size wr (wr.alloc (.cells #[.string rnm, .slice eA en ec] 96)) := (Below.refl _ _).alloc (Nat.le_refl _) _
        have HB2 := Lib.hid (HB.out.trans (d3.mono HB.out.size))
        have RB := Lib.hid (Blk.new_ wr wr.heap.size 96 #[.string rnm, .slice eA en ec] rfl)
        clear d3 HB
        go_wp2_with fail
        clear q0 q1
        generalize hgr : wr.heap.size = gr at *
        clear hgr
        generalize hww : wr.alloc (.cells #[.string rnm, .slice eA en ec] 96) = w2 at *
        clear hww
        refine (CNM.out _).mono ?_
        rintro e w3 ⟨rfl, hb⟩
        have HB3 := Lib.hid (HB2.out.trans (hb.mono HB2.out.size))
        have RB3 := Lib.hid (RB.out.go hb)
        clear hb HB2 RB CNM
        cases rb
        · rw [if_pos rfl] at HRU
          have HR6 : Hid (RE = 6) := by show _ = _; rw [HRET.out (by rw [HRU.out]; decide), HRU.out]
          clear HRET HRU
          go_wp2_with fail
          go_ret
          exact ⟨by rw [HR6.out]; rfl, HB3.out⟩
        · rw [if_neg (by simp)] at HRU
          have kr0 := Wd.cell (RB3.out.cell 0 : w3.cell? ⟨gr, 0, none⟩ = some (.string rnm))
          have hsl := CSL.out k (by omega)
          have CRK := Lib.hid (fun (nm : ByteArray) (w1 : World) (hb : Below w.heap.size w w1) => CRL.out k (by omega) nm w1 hb)
          generalize Pl.ruleI (prl (l.take k)) = rI at *
          go_wp2_with fail
          refine wp_region_wd (by kernel_rfl) (by kernel_rfl) ?_
          repeat (go_big_quiet_step ((go_at_call 42; exact Calls.wd (CRK.out _ _ (HB3.out.trans ((Wd.ok _).mono HB3.out.size))))))
          refine wpQuiet_nil ?_
          rintro _ ⟨w6, rfl⟩
          have HB4 := Lib.hid (HB3.out.trans (w6.ok.mono HB3.out.size))
          have RB4 := Lib.hid (RB3.out.go w6.ok)
          clear HB3 RB3 kr0 hsl CRK
          generalize w6.val = w7 at *
          clear w6
          generalize rI rnm = ri at *
          have kr := RB4.out.cell
          by_cases hri : 0 ≤ ri
          · have hd3 : decide (0 ≤ ri) = true := by simp [hri]
            rw [if_pos hri] at HRU
            have HR7 : Hid (RE = 7) := by show _ = _; rw [HRET.out (by rw [HRU.out]; decide), HRU.out]
            clear HRET HRU
            go_wp2_with fail
            go_ret
            exact ⟨by rw [HR7.out]; rfl, HB4.out⟩
          · have hd3 : decide (0 ≤ ri) = false := by simp; omega
            rw [if_neg hri] at HRU
            have hri2 : ri < 0 := by omega
            by_cases h64 : 64 < en
            · have hd4 : decide ((64 : Int) < (en : Int)) = true := by simp; omega
              have hd5 : (64 : Int) < (en : Int) := by omega
              rw [if_pos h64] at HRU
              have HR2 : Hid (RE = 2) := by show _ = _; rw [HRET.out (by rw [HRU.out]; decide), HRU.out]
              clear h64 HRET HRU
              go_wp2_with fail
              go_ret
              exact ⟨by rw [HR2.out]; rfl, HB4.out⟩
            · have hd4 : decide ((64 : Int) < (en : Int)) = false := by simp; omega
              have hd5 : ¬ (64 : Int) < (en : Int) := by omega
              have hen : en ≤ 64 := by omega
              rw [if_neg h64] at HRU
              clear h64
              have HNS : Hid (Pl.nodesE ex = Pl.nodesE (ex.drop 0)) := rfl
              generalize hne : Pl.nodesE ex = NE at *
              clear hne
              go_wp2_with fail
              go_loopw [45] (fun i wq => ∃ j : Nat, j ≤ en ∧ i = .int .i64 j ∧ Hid (NE = Pl.nodesE (ex.drop j)) ∧ Hid (Blk wq gr 96 #[.string rnm, .slice eA en ec]) ∧ Hid (Below w.heap.size w wq)) (fun i _ => en - (intOf i).toNat)
              case atStart => exact ⟨0, Nat.zero_le _, rfl, HNS.out, RB4.out, HB4.out⟩
              case round =>
                clear HNS RB4 HB4 kr
                obtain ⟨j, hj, rfl, HNS, RB, HB⟩ := hrel
                by_cases hjn : j < en
                · obtain ⟨b2, o2, rfl, _, hlj, z0, z1, z2⟩ := rn_at (HEX.out.below HB.out) hjn
                  have HDR : Hid (ex.drop j = ex[j] :: ex.drop (j + 1)) := List.drop_eq_getElem_cons hlj
                  rw [HDR.out] at HNS
                  have CND := Lib.hid (fun (w1 : World) => rnode_any ex[j] w1 (HES.out _ (List.getElem_mem hlj)))
                  have HNS2 : Hid (NE = if Pl.nodeE ex[j] ≠ 0 then Pl.nodeE ex[j] else Pl.nodesE (ex.drop (j + 1))) := HNS.out
                  clear HNS HDR
                  generalize ex[j] = xj at *
                  obtain ⟨xo, xn, xv⟩ := xj
                  simp only at *
                  generalize Pl.nodeE ⟨xo, xn, xv⟩ = nE at *
                  have j0 : (0 : Int) ≤ (j : Int) := by omega
                  have j1 : (j : Int) < (en : Int) := by omega
                  have d3 : Below wr.heap.size wr (wr.alloc (.cells #[.int .i64 xo, .string xn, .int .i64 xv] 93)) := (Below.refl _ _).alloc (Nat.le_refl _) _
                  have HB2 := Lib.hid (HB.out.trans (d3.mono HB.out.size))
                  have RB2 := Lib.hid (RB.out.go d3)
                  clear d3
                  go_wp2_with fail
                  clear z0 z1 z2
                  refine (CND.out _).mono ?_
                  rintro e w8 ⟨rfl, hb⟩
                  have HB3 := Lib.hid (HB2.out.trans (hb.mono HB2.out.size))
                  have RB3 := Lib.hid (RB2.out.go hb)
                  clear hb HB2 RB2 CND HB RB
                  by_cases hnE : nE = 0
                  · have hn2 : (nE != 0) = false := by simp [hnE]
                    have HN3 : Hid (NE = Pl.nodesE (ex.drop (j + 1))) := by show _ = _; rw [HNS2.out, if_neg (by simpa using hnE)]
                    clear hnE HNS2
                    go_wp2_with fail
                    go_roundw
                    case rel => exact ⟨j + 1, by omega, by go_num, HN3.out, RB3.out, HB3.out⟩
                    case measure => simp [intOf]; omega
                  · have hn2 : (nE != 0) = true := by simp [hnE]
                    have HN3 : Hid (NE = nE) := by show _ = _; rw [HNS2.out, if_pos hnE]
                    rw [HN3.out, if_pos hnE] at HRU
                    have HRN : Hid (RE = nE) := by show _ = _; rw [HRET.out (by rw [HRU.out]; exact hnE), HRU.out]
                    clear hnE HNS2 HN3 HRU HRET
                    go_wp2_with fail
                    go_ret
                    exact ⟨by rw [HRN.out]; rfl, HB3.out⟩
                · have HN0 : Hid (NE = 0) := by
                    show _ = _
                    rw [HNS.out, List.drop_of_length_le (by have := hel.out; omega)]; rfl
                  rw [HN0.out, if_neg (by simp)] at HRU
                  have jn : ¬ ((j : Int) < (en : Int)) := by omega
                  have kr1 := Wd.cell (RB.out.cell 1 : wr.cell? ⟨gr, 1, none⟩ = some (.slice eA en ec))
                  have CE := Lib.hid (fun (w1 : World) (hb : Below w.heap.size w w1) => end_any eA en ec ex 0 w1 w1.heap.size (by omega) (by omega) (elems_go HEX.out hb))
                  generalize Pl.endI ex 0 = eI at *
                  clear HNS HN0
                  go_wp2_with fail
                  refine wp_region_wd (by kernel_rfl) (by kernel_rfl) ?_
                  repeat (go_big_quiet_step ((go_at_call 44; exact Calls.wd_same ((CE.out _ (HB.out.trans ((Wd.ok _).mono HB.out.size))).mono fun e w' h => ⟨h.1, h.2.symm⟩))))
                  refine wpQuiet_nil ?_
                  rintro _ ⟨w6, rfl⟩
                  have HB5 := Lib.hid (HB.out.trans (w6.ok.mono HB.out.size))
                  clear kr1 CE HB RB
                  generalize w6.val = w9 at *
                  clear w6
                  by_cases heI : eI = en
                  · have he : (eI != (en : Int)) = false := by simp [heI]
                    rw [if_neg (by simpa using heI)] at HRU
                    have HT3 : Hid (T = Pl.rulesE (prl l) f1 (k + 1)) := by show _ = _; rw [HTK.out, HRU.out]; rfl
                    clear heI HRU HTK HRET
                    go_wp2_with fail
                    go_roundw
                    case rel => exact ⟨k + 1, f1, by omega, by omega, by go_num, HT3.out, HB5.out⟩
                    case measure => simp [intOf]; omega
                  · have he : (eI != (en : Int)) = true := by simp [heI]
                    rw [if_pos heI] at HRU
                    have HR3 : Hid (RE = 3) := by show _ = _; rw [HRET.out (by rw [HRU.out]; decide), HRU.out]
                    clear heI HRU HRET HTK
                    go_wp2_with fail
                    go_ret
                    exact ⟨by rw [HR3.out]; rfl, HB5.out⟩
      · have HT1 : Hid (T = 0) := by
          have h := HT.out
          show _ = _
          rw [h]
          cases f with
          | zero => rfl
          | succ f =>
            show (match (prl l)[k]? with | none => 0 | some r => if Pl.ruleE (prl l) k r ≠ 0 then Pl.ruleE (prl l) k r else Pl.rulesE (prl l) f (k + 1)) = 0
            rw [List.getElem?_eq_none (by rw [prl_len]; have := HLL.out; omega)]
        have hrok : RulesOk l := by
          intro o ho
          obtain ⟨j, hj, e⟩ := List.getElem_of_mem ho
          have h0 := Pl.rulesE_ok (l := prl l) (f := n) (i := 0) (by rw [← HT0.out, HT1.out]) (by rw [prl_len]; have := HLL.out; omega) j (by rw [prl_len]; exact hj) (Nat.zero_le _)
          have h1 := Pl.ruleE_ok h0
          have hg : (prl l)[j]'(by rw [prl_len]; exact hj) = ⟨o.nm, o.ex⟩ := by unfold prl; rw [List.getElem_map, e]
          rw [hg] at h1
          have h2 : o.ex.length = o.n := (H.out.2 o ho).2.2.1.2
          exact ⟨by have := h1.1; simp only at this; omega, h1.2.2⟩
        rw [HT1.out, if_neg (by simp)] at HRE
        clear HT HT0 HT1
        have CNA := Lib.hid (fun (w1 : World) (hb : Below w.heap.size w w1) => rnames_any A n c l w1 hn16 (H.out.go hb) (fun o ho => (hrok o ho).1))
        have COR := Lib.hid (fun (w1 : World) (hb : Below w.heap.size w w1) => order_any A n c l w1 hn16 (H.out.go hb) hrok)
        rw [ndP_prl] at COR
        have hkn2 : ¬ ((k : Int) < (n : Int)) := by omega
        clear hrok
        go_wp2_with fail
        refine (CNA.out _ HB.out).mono ?_
        rintro e w2 ⟨A1, m1, c1, A2, m2, c2, fl, vl, rfl, hr1, hr2, hm1, hm2, hfl, hvl, hb⟩
        have HB2 := Lib.hid (HB.out.trans (hb.mono HB.out.size))
        rw [strs_txts] at hr1 hr2
        have HMX : Hid (Pl.mixB (prl l) = (vl.map fun s => (⟨s.toArray⟩ : ByteArray)).any (fun s => Pl.inB (fl.map fun s => (⟨s.toArray⟩ : ByteArray)) s || decide (0 ≤ Pl.ruleI (prl l) s))) := by
          show _ = _
          unfold Pl.mixB
          have hin : ∀ s : List UInt8, Pl.inB (fl.map fun s => (⟨s.toArray⟩ : ByteArray)) ⟨s.toArray⟩ = decide (s ∈ Pl.fnames (prl l)) := by
            intro s
            rw [Bool.eq_iff_iff, Pl.inB_iff, decide_eq_true_eq, ← hfl s, List.mem_map]
            constructor
            · rintro ⟨a, ha, e⟩
              injection e with e
              have : a = s := by have := congrArg Array.toList e; simpa using this
              rw [← this]; exact ha
            · exact fun h => ⟨s, h, rfl⟩
          rw [Bool.eq_iff_iff, List.any_eq_true, List.any_eq_true]
          constructor
          · rintro ⟨s, hs, e⟩
            exact ⟨⟨s.toArray⟩, List.mem_map.2 ⟨s, (hvl s).2 hs, rfl⟩, by rw [hin s]; exact e⟩
          · rintro ⟨s, hs, e⟩
            obtain ⟨a, ha, rfl⟩ := List.mem_map.1 hs
            exact ⟨a, (hvl a).1 ha, by rw [← hin a]; exact e⟩
        generalize (vl.map fun s => (⟨s.toArray⟩ : ByteArray)) = zs at *
        generalize (fl.map fun s => (⟨s.toArray⟩ : ByteArray)) = ys at *
        have HR1 := Lib.hid hr1
        have HR2 := Lib.hid hr2
        have HZL := Lib.hid (txts_len hr2)
        generalize Pl.mixB (prl l) = mx at *
        clear hr1 hr2 hfl hvl hb CNA HB
        generalize hru : Pl.ruleI (prl l) = rI at *
        clear hru
        go_wp2_with fail
        go_loopw [70] (fun i wr => ∃ j : Nat, j ≤ m2 ∧ i = .int .i64 j ∧ Hid (∀ i (hi : i < zs.length), i < j → (Pl.inB ys zs[i] || decide (0 ≤ rI zs[i])) = false) ∧ Hid (Below w2.heap.size w2 wr)) (fun i _ => m2 - (intOf i).toNat)
        case atStart => exact ⟨0, Nat.zero_le _, rfl, (fun i _ h => absurd h (by omega)), Below.refl _ _⟩
        case round =>
          obtain ⟨j, hj, rfl, HNO, GR⟩ := hrel
          have HBR := Lib.hid (HB2.out.trans (GR.out.mono HB2.out.size))
          by_cases hjm : j < m2
          · obtain ⟨b, o, rfl, _, hlj, z0⟩ := txts_at (HR2.out.go GR.out) hjm
            have HNX : Hid ((Pl.inB ys zs[j] || decide (0 ≤ rI zs[j])) = false → ∀ i (hi : i < zs.length), i < j + 1 → (Pl.inB ys zs[i] || decide (0 ≤ rI zs[i])) = false) := fun h i hi hij => by
              by_cases e : i = j
              · subst e; exact h
              · exact HNO.out i hi (by omega)
            have HBAD : Hid ((Pl.inB ys zs[j] || decide (0 ≤ rI zs[j])) = true → RE = 3) := fun h => by
              have : mx = true := by rw [HMX.out, List.any_eq_true]; exact ⟨_, List.getElem_mem hlj, h⟩
              rw [HRE.out, if_pos this]
            have CK := Lib.hid (contains_txt A1 m1 c1 ys zs[j] wr wr.heap.size (by omega) (HR1.out.go GR.out))
            have CRJ := Lib.hid (CRA.out zs[j] wr HBR.out)
            generalize zs[j] = s at *
            have j0 : (0 : Int) ≤ (j : Int) := by omega
            have j1 : (j : Int) < (m2 : Int) := by omega
            go_wp2_with fail
            refine CK.out.mono ?_
            rintro e w3 ⟨rfl, rfl⟩
            cases hin : Pl.inB ys s
            · rw [hin] at HNX HBAD
              clear hin CK z0
              go_wp2_with fail
              refine CRJ.out.mono ?_
              rintro e w4 ⟨rfl, hb⟩
              have G4 := Lib.hid (GR.out.trans (hb.mono GR.out.size))
              have B4 := Lib.hid (HBR.out.trans (hb.mono HBR.out.size))
              clear hb CRJ
              generalize rI s = rs at *
              by_cases hrs : 0 ≤ rs
              · have h3 := HBAD.out (by simp [hrs])
                have HR3 := Lib.hid h3
                have hd6 : decide (0 ≤ rs) = true := by simp [hrs]
                clear h3 HBAD HNX
                go_wp2_with fail
                go_ret
                exact ⟨by rw [HR3.out]; rfl, B4.out⟩
              · have hn3 := HNX.out (by simp; omega)
                have HN3 := Lib.hid hn3
                have hd6 : decide (0 ≤ rs) = false := by simp; omega
                have hrs2 : rs < 0 := by omega
                clear hn3 HBAD HNX
                go_wp2_with fail
                go_roundw
                case rel => exact ⟨j + 1, by omega, by go_num, HN3.out, G4.out⟩
                case measure => simp [intOf]; omega
            · have h3 := HBAD.out (by rw [hin]; rfl)
              have HR3 := Lib.hid h3
              clear h3 HBAD HNX CK CRJ z0 hin
              go_wp2_with fail
              go_ret
              exact ⟨by rw [HR3.out]; rfl, HBR.out⟩
          · have hmx : mx = false := by
              rw [HMX.out, List.any_eq_false]
              intro s hs
              obtain ⟨i, hi, rfl⟩ := List.getElem_of_mem hs
              have := HNO.out i hi (by have := HZL.out; omega)
              simp only [Bool.not_eq_true]
              exact this
            have HMF := Lib.hid hmx
            rw [hmx, if_neg (by simp)] at HRE
            have hj1 : ¬ ((j : Int) < (m2 : Int)) := by omega
            clear hmx
            go_wp2_with fail
            refine (COR.out _ HBR.out).mono ?_
            rintro e w5 ⟨A3, m3, c3, ol, is, rfl, hor, hb⟩
            have B5 := Lib.hid (HBR.out.trans (hb.mono HBR.out.size))
            have HRF : Hid (RE = if is = true then 0 else 11) := by
              show _ = _
              rw [HRE.out]
              cases is
              · rw [if_neg (by simp)] at hor
                rw [if_pos hor, if_neg (by simp)]
              · rw [if_pos rfl] at hor
                rw [hor.1, if_neg (by simp), if_pos rfl]
            clear hor hb HRE
            cases is
            · have HRG : Hid (RE = 11) := by have h := HRF.out; rw [if_neg (by simp)] at h; exact h
              clear HRF
              go_wp2_with fail
              go_ret
              exact ⟨by rw [HRG.out]; rfl, B5.out⟩
            · have HRG : Hid (RE = 0) := by have h := HRF.out; rw [if_pos (by first | rfl | trivial)] at h; exact h
              clear HRF
              go_wp2_with fail
              go_ret
              exact ⟨by rw [HRG.out]; rfl, B5.out⟩
end Go.Proofs.Ytpamgeemmbbkkaa
