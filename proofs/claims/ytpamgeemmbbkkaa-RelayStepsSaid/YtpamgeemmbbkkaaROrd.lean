/- relaylang.order answers as its plain function says. Condition: the program reads, its expressions are whole ones. -/
import Derived.Deep.LoopGhost
import Derived.Test.YtpamgeemmbbkkaaBlk13
import Derived.Test.YtpamgeemmbbkkaaBlk09
import Derived.Test.YtpamgeemmbbkkaaNearA
namespace Go.Proofs.Ytpamgeemmbbkkaa
open Go.RowKit
set_option maxRecDepth 100000
theorem enters_ord1 : ∀ args w, Sem.run Try.prog (callFunc 86 args) w = .ok (.enter 86 args) w := by intro args w; go_simp
theorem ord1_any (ga : Nat) (A : Option Addr) (m c : Nat) (out : List Int) (z : Int) (w : World) (hm : m ≤ 1000) (h : VRow w ga A m c out) :
    Calls Try.prog 86 #[.int .i64 z, .pointer (some ⟨ga, 0, none⟩)] w fun e w' => e = .returned (.bool (!decide (z ∈ out))) ∧ w' = w := by
  have HC := Lib.hid (con_int A m c out z w.heap.size w (by omega) (Reads.of_own h.2.1))
  have k0 := h.1.cell 0
  clear h
  go_enter Try.func86, Try.ntmps86
  go_wp2_with fail
  refine HC.out.mono ?_
  rintro e w1 ⟨rfl, rfl⟩
  go_wp2_with fail
  go_ret
  exact ⟨rfl, rfl⟩
/-- the needs of the rules of a program -/
def ndP (l : List MRul) (i : Nat) : List Int := match l[i]? with | some o => Pl.needsP (Pl.ruleI (prl l)) o.ex | none => []
def RulesOk (l : List MRul) : Prop := ∀ o ∈ l, o.n ≤ 64 ∧ Pl.endG 1 o.ex = some o.ex.length
set_option maxHeartbeats 6400000 in
theorem order_any (A : Option Addr) (n c : Nat) (l : List MRul) (w : World) (hn : n ≤ 16) (h : Ruls w w.heap.size A n l) (hok : RulesOk l) :
    Calls Try.prog 47 #[.slice A n c] w fun e w' => ∃ (A1 : Option Addr) (m c1 : Nat) (ol : List Int) (is : Bool), e = .returned (.tuple #[.slice A1 m c1, .bool is]) ∧ (if is = true then Pl.orderP (ndP l) n = some ol ∧ m = n ∧ Reads w' w'.heap.size 1 A1 m (ints ol) else Pl.orderP (ndP l) n = none) ∧ Below w.heap.size w w' := by
  have H := Lib.hid h
  have HLL := Lib.hid h.len
  have CN := Lib.hid (fun (o : MRul) (ho : o ∈ l) (w1 : World) (hb : Below w.heap.size w w1) => needs_any A n c l o.A o.n o.c o.ex w1 (by omega) (hok o ho).1 (h.go hb) (elems_go (h.2 o ho).2.2.1 hb) (hok o ho).2)
  obtain ⟨OP, hop⟩ : ∃ OP, OP = Pl.orderP (ndP l) n := ⟨_, rfl⟩
  rw [← hop]
  have HSTART : Hid (OP = Pl.orderG (ndP l) n n []) := hop
  have HND : Hid (∀ k (hk : k < l.length), ndP l k = Pl.needsP (Pl.ruleI (prl l)) l[k].ex) := fun k hk => by unfold ndP; rw [List.getElem?_eq_getElem hk]
  generalize ndP l = ND at *
  clear hop h hok
  obtain ⟨i0, hi0, hz0, hz1, hz2⟩ := info_parts info_int
  have F0 := Lib.hid ((Below.refl w.heap.size w).alloc (Nat.le_refl _) (.cells #[.slice none 0 0] 45))
  have V0 : Hid (VRow (w.alloc (.cells #[.slice none 0 0] 45)) w.heap.size none 0 0 []) := ⟨Blk.new_ w w.heap.size 45 #[.slice none 0 0] rfl, World.ownsRow_nil _ _ _ _, rfl⟩
  go_enter Try.func47, Try.ntmps47
  go_wp2_with fail
  generalize hw1 : w.alloc (.cells #[.slice none 0 0] 45) = w1 at *
  clear hw1
  go_loopg [5] n (fun gg v5 wr => ∃ (Ao : Option Addr) (m co : Nat) (out : List Int), m ≤ n ∧ n - m ≤ gg ∧ Hid (OP = Pl.orderG ND n (n - m) out) ∧ Hid (VRow wr w.heap.size Ao m co out) ∧ Hid (Below w.heap.size w wr)) 
  case atStart => exact ⟨none, 0, 0, [], Nat.zero_le _, by omega, HSTART.out, V0.out, F0.out⟩
  case round =>
    clear HSTART V0 F0
    obtain ⟨Ao, m, co, out, hm, hgg, HT, HV, HB⟩ := hrel
    have kv := HV.out.1.cell 0
    by_cases hmn : m < n
    · have hmi : (m : Int) < (n : Int) := by omega
      have HT2 : Hid (OP = if Pl.nextI ND n out < 0 then none else Pl.orderG ND n (n - (m + 1)) (out ++ [Pl.nextI ND n out])) := by
        have h := HT.out
        rw [show n - m = (n - (m + 1)) + 1 by omega] at h
        exact h
      clear HT
      go_wp2_with fail
      clear kv
      go_loopw [5, 16] (fun v5 i wq => ∃ k : Nat, k ≤ n ∧ i = .int .i64 k ∧ v5 = .int .i64 (-1) ∧ Hid (∀ j, j < k → Pl.readyB ND out j = false) ∧ Hid (VRow wq w.heap.size Ao m co out) ∧ Hid (Below w.heap.size w wq)) (fun _ i _ => n - (intOf i).toNat)
      case atStart => exact ⟨0, Nat.zero_le _, rfl, rfl, (fun j h => absurd h (by omega)), HV.out, HB.out⟩
      case round =>
        clear HV HB
        obtain ⟨k, hk, rfl, rfl, HNO, HV, HB⟩ := hrel
        by_cases hkn : k < n
        · obtain ⟨b, o, rfl, _, hlk, q0, q1, _⟩ := rul_at (H.out.go HB.out) hkn
          have HCN := Lib.hid (CN.out l[k] (List.getElem_mem hlk))
          have HNDK := Lib.hid (HND.out k hlk)
          generalize l[k] = ru at *
          obtain ⟨rnm, eA, en, ec, ex⟩ := ru
          simp only at *
          have k0 : (0 : Int) ≤ (k : Int) := by omega
          have k1 : (k : Int) < (n : Int) := by omega
          have d3 : Below wr.heap.size wr (wr.alloc (.cells #[.string rnm, .slice eA en ec] 96)) := (Below.refl _ _).alloc (Nat.le_refl _) _
          have HV2 := Lib.hid (HV.out.go d3)
          have HB2 := Lib.hid (HB.out.trans (d3.mono HB.out.size))
          have RB := Lib.hid (Blk.new_ wr wr.heap.size 96 #[.string rnm, .slice eA en ec] rfl)
          have kv := HV.out.1.cell 0
          have lv := HV.out.1.lt
          have kv2 := HV2.out.1.cell 0
          have CI := Lib.hid (con_int Ao m co out (k : Int) _ _ (by omega) (Reads.of_own HV2.out.2.1))
          clear d3
          go_wp2_with fail
          refine CI.out.mono ?_
          rintro e w3 ⟨rfl, rfl⟩
          clear CI q0 q1 kv lv HV HB
          have kr := RB.out.cell
          have lr := RB.out.lt
          have lv := HV2.out.1.lt
          generalize hww : wr.alloc (.cells #[.string rnm, .slice eA en ec] 96) = w4 at *
          clear hww
          by_cases hin : (k : Int) ∈ out
          · have hd : decide ((k : Int) ∈ out) = true := decide_eq_true hin
            have HRB : Hid (Pl.readyB ND out k = false) := by show _ = _; unfold Pl.readyB; rw [hd]; rfl
            clear hin
            go_wp2_with fail
            go_roundw
            case rel => exact ⟨k + 1, by omega, by go_num, rfl, (fun j hj => by
              by_cases e : j = k
              · subst e; exact HRB.out
              · exact HNO.out j (by omega)), HV2.out, HB2.out⟩
            case measure => simp [intOf]; omega
          · have hd : decide ((k : Int) ∈ out) = false := decide_eq_false hin
            clear hin
            go_wp2_with fail
            refine (HCN.out _ HB2.out).mono ?_
            rintro e w5 ⟨A1, m1, c1, rfl, hr1, hm1, hb5⟩
            have HV3 := Lib.hid (HV2.out.go hb5)
            have HB3 := Lib.hid (HB2.out.trans (hb5.mono HB2.out.size))
            rw [← HNDK.out] at hr1
            have CF := Lib.hid (conf_intb 86 #[.pointer (some ⟨w.heap.size, 0, none⟩)] (fun z => !decide (z ∈ out)) enters_ord1 A1 m1 c1 (ND k) _ w5 (by omega) (Lib.hid fun z => ord1_any w.heap.size Ao m co out z w5 (by omega) HV3.out) hr1)
            have HRB : Hid (Pl.readyB ND out k = !((ND k).any fun z => !decide (z ∈ out))) := by show _ = _; unfold Pl.readyB; rw [hd]; rfl
            clear hr1 hm1 hb5 hd kr lr lv kv2 HV2 HB2 HCN HNDK RB
            generalize ((ND k).any fun z => !decide (z ∈ out)) = any_ at *
            go_wp2_with fail
            refine CF.out.mono ?_
            rintro e w6 ⟨rfl, rfl⟩
            clear CF
            cases any_
            · have HR1 : Hid (Pl.readyB ND out k = true) := by show _ = _; rw [HRB.out]; rfl
              have HNX : Hid (Pl.nextI ND n out = (k : Int)) := Pl.nextI_hit k hkn HR1.out HNO.out
              have HT3 : Hid (OP = Pl.orderG ND n (n - (m + 1)) (out ++ [(k : Int)])) := by show _ = _; rw [HT2.out, HNX.out, if_neg (by omega)]
              have k2 : ¬ ((k : Int) < 0) := by omega
              have kv := HV3.out.1.cell 0
              have lv := HV3.out.1.lt
              have AZ := (Below.refl w6.heap.size w6).alloc (Nat.le_refl _) (.cells #[.int .i64 k] 3)
              have VZ := Lib.hid (HV3.out.go AZ)
              have HBZ := Lib.hid (HB3.out.trans (AZ.mono HB3.out.size))
              clear AZ
              go_wp2_with (at_builtin; go_must (refine wpList_append_any _ rfl (.tmp 39) (.tmp 41) 45 rfl (w.heap.size + 1) 3 i0 _ 1 8 Try.underlying45 hi0 hz0 hz1 hz2 rfl (by decide) (.slice Ao m co) m (ints out) rfl VZ.out.2.1 (w6.heap.size + 1) (some ⟨w6.heap.size, 0, none⟩) 1 1 [.int .i64 k] rfl (by have := Reads.lit w6 #[.int .i64 k] 3 1 1 w6.heap.size rfl rfl; simpa using this) (by intro u hu; simp at hu; subst hu; rfl) (by unfold maxLen; omega) (by omega) (by simp; omega) ?_; intro v' w7 hown hgr hnew; have hga6 : w.heap.size < w7.heap.size := (by have h1 := hgr.size; simp at h1; omega); have k6 := (VZ.out.1.grown hgr (own_ne VZ.out.2.1 (.inl (Nat.lt_succ_self _)))).cell; have z6 := (VZ.out.1.grown hgr (own_ne VZ.out.2.1 (.inl (Nat.lt_succ_self _)))).frozen; obtain ⟨A6, c6, rfl, hvr, hon⟩ := VZ.out.push hown hgr hnew; have V6 := Lib.hid hvr; have HB6 := Lib.hid (HBZ.out.trans ((hon.below (Nat.le_refl _) HBZ.out.size (fun g hg => by have := (VZ.out.2.1.lt g hg).1; omega)).mono (Nat.le_refl _))); clear hvr hon hown hgr hnew))
              go_roundg (n - (m + 1))
              case rel => exact ⟨A6, m + 1, c6, out ++ [(k : Int)], by omega, Nat.le_refl _, HT3.out, V6.out, HB6.out⟩
              case measure => omega
            · have HR1 : Hid (Pl.readyB ND out k = false) := by show _ = _; rw [HRB.out]; rfl
              go_wp2_with fail
              go_roundw
              case rel => exact ⟨k + 1, by omega, by go_num, rfl, (fun j hj => by
                by_cases e : j = k
                · subst e; exact HR1.out
                · exact HNO.out j (by omega)), HV3.out, HB3.out⟩
              case measure => simp [intOf]; omega
        · have HNX : Hid (Pl.nextI ND n out = -1) := Pl.nextI_miss (fun j hj => HNO.out j (by omega))
          have HT3 : Hid (OP = none) := by show _ = _; rw [HT2.out, HNX.out]; rfl
          have hkd : ¬ ((k : Int) < (n : Int)) := by omega
          go_wp2_with fail
          go_ret2
          first
            | exact ⟨none, 0, 0, .inl ⟨rfl, HT3.out, HB.out⟩⟩
            | exact ⟨none, 0, 0, [], .inl ⟨rfl, HT3.out, HB.out⟩⟩
            | exact ⟨none, 0, 0, [], false, rfl, HT3.out, HB.out⟩
    · have hme : m = n := by omega
      have HT3 : Hid (OP = some out) := by show _ = _; rw [HT.out, hme, Nat.sub_self]; rfl
      have hmi : ¬ ((m : Int) < (n : Int)) := by omega
      have HME := Lib.hid hme
      clear hme
      go_wp2_with fail
      go_ret2
      first
        | exact ⟨Ao, m, co, .inr ⟨out, rfl, HT3.out, HME.out, Reads.of_own HV.out.2.1, HB.out⟩⟩
        | exact ⟨Ao, m, co, .inr ⟨out, rfl, ⟨HT3.out, HME.out, Reads.of_own HV.out.2.1⟩, HB.out⟩⟩
        | exact ⟨Ao, m, co, out, .inr ⟨rfl, ⟨HT3.out, HME.out, Reads.of_own HV.out.2.1⟩, HB.out⟩⟩
        | trace_state
end Go.Proofs.Ytpamgeemmbbkkaa
