/- Package large: the long division of words: the last loop. Condition: the words read. -/
import Derived.Test.YtflfbbdapbjaaaaDoorLgN1
namespace Go.Proofs.YtflfbbdapbjaaaaDoor
open Go.RowKit
set_option maxRecDepth 100000
set_option maxHeartbeats 6400000 in
theorem tail_any {w w6 : World} {gu gv gq gr N n s p : Nat} {us v0 qs : List Nat} {c0 c1 c2 c3 c4 c6 c7 c10 c11 c12 c13 c14 c15 c16 c17 c18 c19 c20 c21 c22 c23 c24 c25 c26 c27 c28 c29 c30 c31 c32 c33 c34 c35 c36 c37 c38 c39 c40 c41 c42 c43 c44 c45 c46 c47 c48 c49 c50 c51 c52 c53 c54 c55 c56 c57 c58 c59 c60 c61 c62 c63 c64 c65 c66 c67 c68 c69 c70 c71 c72 c73 c74 c75 c76 c77 c78 c79 c80 c81 c82 c83 c84 c85 c86 c87 c88 c89 c90 c91 c92 c93 c94 c95 c96 c97 c98 c99 c100 c101 c102 c103 c104 c105 c106 c107 c108 c109 c110 c111 c112 c113 c114 c115 c116 c117 c118 c119 c120 c121 c122 c123 c124 c125 c126 c127 c128 c129 c130 c131 c132 c133 c134 c135 c136 c137 c138 c139 c140 c141 c142 c143 c144 c145 c146 c147 c148 c149 c150 c151 c152 c153 c154 c155 c156 c157 c158 c159 c160 c161 c162 c163 c164 c165 c166 c167 c168 c169 c170 c171 c172 c173 c174 c175 c176 c177 c178 c179 c180 c181 c182 c183 c184 c185 c186 c187 c188 c189 c190 c191 c192 c193 c194 c195 c196 c197 c198 c199 c200 c201 c202 c203 c204 c205 c206 c207 c208 c209 c210 c211 c212 c213 c214 c215 c216 c217 c218 c219 c220 c221 c222 c223 c224 c225 c226 c227 c228 c229 c230 c231 c232 c233 c234 c235 c236 c237 c238 c239 c240 c241 c242 c243 c244 c245 c246 c247 c248 c251 c252 c253 c254 c255 c256 c257 c258 c259 c260 c261 c262 c263 c264 c265 c266 c267 c268 c269 c270 c271 c272 c273 c274 : Value} {a b : Nat} {K : Act → World → Prop}
    (hn : N ≤ 17592186044416) (hnm : n ≤ N) (hs31 : s ≤ 31) (HP : Hid (p = 2 ^ s)) (HPQ : Hid (p * 2 ^ (32 - s) = 4294967296)) (HUL : Hid (us.length = N + 1)) (hun : n < us.length) (hu0 : 0 < us.length) (hgq2 : gq < gr)
    (HW6 : Hid (DivW w w6 gu us gv v0 gq qs)) (HR6 : Hid (WB w6 gr (List.replicate n 0)))
    (hK : Hid (∀ (u21 u250 u251 u252 u253 u254 u255 u256 u257 u258 u259 u260 u261 u262 u263 u264 u265 u266 u267 u268 u269 u270 u271 u272 : Value) (pre : List Nat) (wx : World), Hid (pre.length = n ∧ Pl.W32 pre ∧ ∀ ht : n < us.length, Pl.lv pre * p + us[0] % p = Pl.lv (us.take n) + 4294967296 ^ n * (us[n] % p)) → Hid (DivW w wx gu us gv v0 gq qs) → Hid (WB wx gr pre) → K ⟨#[c0, c1, c2, c3, c4, .slice (some ⟨gr, 0, none⟩) n n, c6, c7, .int .i64 (s : Int), .slice (some ⟨gu, 0, none⟩) (N + 1) (N + 1), c10, c11, c12, c13, c14, c15, c16, c17, c18, c19, c20, u21, c22, c23, c24, c25, c26, c27, c28, c29, c30, c31, c32, c33, c34, c35, c36, c37, c38, c39, c40, c41, c42, c43, c44, c45, c46, c47, c48, c49, c50, c51, c52, c53, c54, c55, c56, c57, c58, c59, c60, c61, c62, c63, c64, c65, c66, c67, c68, c69, c70, c71, c72, c73, c74, c75, c76, c77, c78, c79, c80, c81, c82, c83, c84, c85, c86, c87, c88, c89, c90, c91, c92, c93, c94, c95, c96, c97, c98, c99, c100, c101, c102, c103, c104, c105, c106, c107, c108, c109, c110, c111, c112, c113, c114, c115, c116, c117, c118, c119, c120, c121, c122, c123, c124, c125, c126, c127, c128, c129, c130, c131, c132, c133, c134, c135, c136, c137, c138, c139, c140, c141, c142, c143, c144, c145, c146, c147, c148, c149, c150, c151, c152, c153, c154, c155, c156, c157, c158, c159, c160, c161, c162, c163, c164, c165, c166, c167, c168, c169, c170, c171, c172, c173, c174, c175, c176, c177, c178, c179, c180, c181, c182, c183, c184, c185, c186, c187, c188, c189, c190, c191, c192, c193, c194, c195, c196, c197, c198, c199, c200, c201, c202, c203, c204, c205, c206, c207, c208, c209, c210, c211, c212, c213, c214, c215, c216, c217, c218, c219, c220, c221, c222, c223, c224, c225, c226, c227, c228, c229, c230, c231, c232, c233, c234, c235, c236, c237, c238, c239, c240, c241, c242, c243, c244, c245, c246, c247, c248, .int .i64 (n : Int), u250, u251, u252, u253, u254, u255, u256, u257, u258, u259, u260, u261, u262, u263, u264, u265, u266, u267, u268, u269, u270, u271, u272, c273, c274], []⟩ wx)) :
    Code.wp Tryd.prog tailCode (Exit.inBlock 8 (Exit.then K (bodyPost Tryd.prog Tryd.f38 (DivSaid a b w)))) ⟨#[c0, c1, c2, c3, c4, .slice (some ⟨gr, 0, none⟩) n n, c6, c7, .int .i64 (s : Int), .slice (some ⟨gu, 0, none⟩) (N + 1) (N + 1), c10, c11, c12, c13, c14, c15, c16, c17, c18, c19, c20, c21, c22, c23, c24, c25, c26, c27, c28, c29, c30, c31, c32, c33, c34, c35, c36, c37, c38, c39, c40, c41, c42, c43, c44, c45, c46, c47, c48, c49, c50, c51, c52, c53, c54, c55, c56, c57, c58, c59, c60, c61, c62, c63, c64, c65, c66, c67, c68, c69, c70, c71, c72, c73, c74, c75, c76, c77, c78, c79, c80, c81, c82, c83, c84, c85, c86, c87, c88, c89, c90, c91, c92, c93, c94, c95, c96, c97, c98, c99, c100, c101, c102, c103, c104, c105, c106, c107, c108, c109, c110, c111, c112, c113, c114, c115, c116, c117, c118, c119, c120, c121, c122, c123, c124, c125, c126, c127, c128, c129, c130, c131, c132, c133, c134, c135, c136, c137, c138, c139, c140, c141, c142, c143, c144, c145, c146, c147, c148, c149, c150, c151, c152, c153, c154, c155, c156, c157, c158, c159, c160, c161, c162, c163, c164, c165, c166, c167, c168, c169, c170, c171, c172, c173, c174, c175, c176, c177, c178, c179, c180, c181, c182, c183, c184, c185, c186, c187, c188, c189, c190, c191, c192, c193, c194, c195, c196, c197, c198, c199, c200, c201, c202, c203, c204, c205, c206, c207, c208, c209, c210, c211, c212, c213, c214, c215, c216, c217, c218, c219, c220, c221, c222, c223, c224, c225, c226, c227, c228, c229, c230, c231, c232, c233, c234, c235, c236, c237, c238, c239, c240, c241, c242, c243, c244, c245, c246, c247, c248, .int .i64 (n : Int), .int .i64 0, c251, c252, c253, c254, c255, c256, c257, c258, c259, c260, c261, c262, c263, c264, c265, c266, c267, c268, c269, c270, c271, c272, c273, c274], []⟩ w6 := by
  conv => arg 2; whnf
  dsimp only
  go_loopw [250] (fun iv wr => ∃ (t : Nat) (pre : List Nat), t ≤ n ∧ iv = .int .i64 (t : Int) ∧ Hid (pre.length = t ∧ Pl.W32 pre ∧ ∀ ht : t < us.length, Pl.lv pre * p + us[0] % p = Pl.lv (us.take t) + 4294967296 ^ t * (us[t] % p)) ∧ Hid (DivW w wr gu us gv v0 gq qs) ∧ Hid (WB wr gr (pre ++ List.replicate (n - t) 0))) (fun iv _ => n - (intOf iv).toNat)
  case atStart => exact ⟨0, [], Nat.zero_le _, rfl, Lib.hid ⟨rfl, Pl.W32.nil, fun _ => by simp [Pl.lv]⟩, HW6.out, HR6.out⟩
  case round =>
    obtain ⟨t, pre, ht, rfl, HPR, HW, HRW⟩ := hrel
    clear HW6 HR6
    by_cases htn : t < n
    · have ht0 : t < us.length := by omega
      have ht1 : t + 1 < us.length := by omega
      obtain ⟨t1, ht1e⟩ : ∃ t1 : Nat, t1 = t + 1 := ⟨_, rfl⟩
      have wt1 : IntKind.i64.wrap ((t : Int) + 1) = (t1 : Int) := by rw [show (t : Int) + 1 = (t1 : Int) by omega]; exact IntWalk.i64_in _ (by omega)
      have ht1l : t1 < us.length := by omega
      have y1 := HW.out.u.at_ ht1l
      have y0 := HW.out.u.at_ ht0
      have r1 := HW.out.uw.at_ ht1l
      have r0 := HW.out.uw.at_ ht0
      obtain ⟨a1, ha1⟩ : ∃ x, us[t1] = x := ⟨_, rfl⟩
      obtain ⟨a0, ha0⟩ : ∃ x, us[t] = x := ⟨_, rfl⟩
      rw [ha1] at y1 r1
      rw [ha0] at y0 r0
      have HA01 := Lib.hid (And.intro ha1 ha0)
      have l0 := HW.out.u.lt
      obtain ⟨v9, cr0⟩ := HRW.out.ex (k := t) (by have := HPR.out.1; simp; omega)
      have fr0 := HRW.out.frozen t
      have lr0 := HRW.out.lt
      have hk0 : (0 : Int) ≤ (t : Int) := by omega
      have hk1 : (t : Int) < (n : Int) := by omega
      have hk2 : (0 : Int) ≤ (t1 : Int) := by omega
      have hk3 : (t1 : Int) < (N : Int) + 1 := by have := HUL.out; omega
      have hk4 : (t : Int) < (N : Int) + 1 := by have := HUL.out; omega
      obtain ⟨o, ho⟩ : ∃ o : Nat, o = a1 * 4294967296 + a0 := ⟨_, rfl⟩
      have hor : bits .or .u64 ((a1 : Int) * 4294967296) (a0 : Int) = (o : Int) := by rw [ho]; exact or_hi a1 a0 r1 r0
      obtain ⟨sh, hsh⟩ : ∃ sh : Nat, sh = o / p := ⟨_, rfl⟩
      have wsh : (o : Int) / 2 ^ s = (sh : Int) := by
        have e : (2 : Int) ^ s = (p : Int) := by rw [HP.out, Int.natCast_pow]; rfl
        rw [e, hsh]; exact (Int.natCast_ediv _ _).symm
      obtain ⟨rr, hrr⟩ : ∃ rr : Nat, rr = sh % 4294967296 := ⟨_, rfl⟩
      have em : (sh : Int) % 4294967296 = (rr : Int) := by omega
      have hrrb : rr < 4294967296 := by omega
      have wa1 : IntKind.u64.wrap (a1 : Int) = (a1 : Int) := IntWalk.u64_in _ (by omega)
      have wa0 : IntKind.u64.wrap (a0 : Int) = (a0 : Int) := IntWalk.u64_in _ (by omega)
      have wash : IntKind.u64.wrap ((a1 : Int) * 4294967296) = (a1 : Int) * 4294967296 := IntWalk.u64_in _ (by omega)
      have wsr : IntKind.u32.wrap (sh : Int) = (rr : Int) := by rw [IntKind.wrap_u32]; exact em
      have HP2 : Hid ((pre ++ [rr]).length = t + 1 ∧ Pl.W32 (pre ++ [rr]) ∧ ∀ ht : t + 1 < us.length, Pl.lv (pre ++ [rr]) * p + us[0] % p = Pl.lv (us.take (t + 1)) + 4294967296 ^ (t + 1) * (us[t + 1] % p)) := by
        refine ⟨by simp [HPR.out.1], HPR.out.2.1.append (Pl.W32.one hrrb), fun _ => ?_⟩
        have h0 := HPR.out.2.2 ht0
        rw [HA01.out.2] at h0
        have h := Pl.unshift_step (u0 := a0) (u1 := a1) HPQ.out r0 HPR.out.1 h0
        rw [← ho, ← hsh, ← hrr] at h
        have e1 : us[t + 1] = a1 := by rw [← HA01.out.1]; congr 1; omega
        rw [h, Pl.lv_take_succ ht0, HA01.out.2, e1]
      have HW2 : Hid (DivW w (wr.setCell ⟨gr, t, none⟩ (.int .u32 (rr : Int))).drew gu us gv v0 gq qs) := (HW.out.far hgq2 t (.int .u32 (rr : Int))).go (Below.refl _ _).drew
      have HR2 : Hid (WB (wr.setCell ⟨gr, t, none⟩ (.int .u32 (rr : Int))).drew gr ((pre ++ [rr]) ++ List.replicate (n - (t + 1)) 0)) := by
        have h1 := WB.set_ (w := wr) HRW.out t rr
        have h2 := set_next pre (n - (t + 1)) rr
        rw [HPR.out.1, show n - (t + 1) + 1 = n - t by omega] at h2
        rw [h2] at h1
        exact h1
      have HT1 := Lib.hid ht1e
      clear HPR HW HRW ha1 ha0 ho hsh hrr ht1e
      go_wp2_with fail
      have hSw : (fun w' : World => w'.cell? ⟨gu, t1, none⟩ = some (.int .u32 (a1 : Int)) ∧ w'.cell? ⟨gu, t, none⟩ = some (.int .u32 (a0 : Int)) ∧ gu < w'.heap.size) wr.drew := ⟨y1, y0, l0⟩
      refine wp_region_mid (fun w' : World => w'.cell? ⟨gu, t1, none⟩ = some (.int .u32 (a1 : Int)) ∧ w'.cell? ⟨gu, t, none⟩ = some (.int .u32 (a0 : Int)) ∧ gu < w'.heap.size) 20 (by kernel_rfl) ?_
      refine wpAnyM_take 0 rfl (by kernel_rfl) (by kernel_rfl) (by kernel_rfl) (by kernel_rfl) (by kernel_rfl) (fun _ _ _ h => h) hSw (by kernel_rfl) (fun w' hSx => by obtain ⟨c1, c2, lu⟩ := hSx; go_simp; first | done | with_reducible rfl) ?_
      simp only [Act.put, List.setIfInBounds_toArray]
      refine wpAnyM_take 1 rfl (by kernel_rfl) (by kernel_rfl) (by kernel_rfl) (by kernel_rfl) (by kernel_rfl) (fun _ _ _ h => h) hSw (by kernel_rfl) (fun w' hSx => by obtain ⟨c1, c2, lu⟩ := hSx; go_simp; first | done | with_reducible rfl) ?_
      simp only [Act.put]
      refine wpAnyM_take 2 rfl (by kernel_rfl) (by kernel_rfl) (by kernel_rfl) (by kernel_rfl) (by kernel_rfl) (fun _ _ _ h => h) hSw (by kernel_rfl) (fun w' hSx => by obtain ⟨c1, c2, lu⟩ := hSx; go_simp; first | done | with_reducible rfl) ?_
      simp only [Act.put]
      refine wpAnyM_take 3 rfl (by kernel_rfl) (by kernel_rfl) (by kernel_rfl) (by kernel_rfl) (by kernel_rfl) (fun _ _ _ h => h) hSw (by kernel_rfl) (fun w' hSx => by obtain ⟨c1, c2, lu⟩ := hSx; go_simp; first | done | with_reducible rfl) ?_
      simp only [Act.put]
      refine wpAnyM_take 4 rfl (by kernel_rfl) (by kernel_rfl) (by kernel_rfl) (by kernel_rfl) (by kernel_rfl) (fun _ _ _ h => h) hSw (by kernel_rfl) (fun w' hSx => by obtain ⟨c1, c2, lu⟩ := hSx; go_simp; first | done | with_reducible rfl) ?_
      simp only [Act.put]
      refine wpAnyM_take 5 rfl (by kernel_rfl) (by kernel_rfl) (by kernel_rfl) (by kernel_rfl) (by kernel_rfl) (fun _ _ _ h => h) hSw (by kernel_rfl) (fun w' hSx => by obtain ⟨c1, c2, lu⟩ := hSx; go_simp; first | done | with_reducible rfl) ?_
      simp only [Act.put]
      refine wpAnyM_take 6 rfl (by kernel_rfl) (by kernel_rfl) (by kernel_rfl) (by kernel_rfl) (by kernel_rfl) (fun _ _ _ h => h) hSw (by kernel_rfl) (fun w' hSx => by obtain ⟨c1, c2, lu⟩ := hSx; go_simp; first | done | with_reducible rfl) ?_
      simp only [Act.put]
      refine wpAnyM_take 7 rfl (by kernel_rfl) (by kernel_rfl) (by kernel_rfl) (by kernel_rfl) (by kernel_rfl) (fun _ _ _ h => h) hSw (by kernel_rfl) (fun w' hSx => by obtain ⟨c1, c2, lu⟩ := hSx; go_simp; first | done | with_reducible rfl) ?_
      simp only [Act.put]
      refine wpAnyM_take 8 rfl (by kernel_rfl) (by kernel_rfl) (by kernel_rfl) (by kernel_rfl) (by kernel_rfl) (fun _ _ _ h => h) hSw (by kernel_rfl) (fun w' hSx => by obtain ⟨c1, c2, lu⟩ := hSx; go_simp; first | done | with_reducible rfl) ?_
      simp only [Act.put]
      refine wpAnyM_take 9 rfl (by kernel_rfl) (by kernel_rfl) (by kernel_rfl) (by kernel_rfl) (by kernel_rfl) (fun _ _ _ h => h) hSw (by kernel_rfl) (fun w' hSx => by obtain ⟨c1, c2, lu⟩ := hSx; go_simp; first | done | with_reducible rfl) ?_
      simp only [Act.put]
      refine wpAnyM_take 10 rfl (by kernel_rfl) (by kernel_rfl) (by kernel_rfl) (by kernel_rfl) (by kernel_rfl) (fun _ _ _ h => h) hSw (by kernel_rfl) (fun w' hSx => by obtain ⟨c1, c2, lu⟩ := hSx; go_simp; first | done | with_reducible rfl) ?_
      simp only [Act.put]
      refine wpAnyM_take 11 rfl (by kernel_rfl) (by kernel_rfl) (by kernel_rfl) (by kernel_rfl) (by kernel_rfl) (fun _ _ _ h => h) hSw (by kernel_rfl) (fun w' hSx => by obtain ⟨c1, c2, lu⟩ := hSx; go_simp; first | done | with_reducible rfl) ?_
      simp only [Act.put]
      refine wpAnyM_take 12 rfl (by kernel_rfl) (by kernel_rfl) (by kernel_rfl) (by kernel_rfl) (by kernel_rfl) (fun _ _ _ h => h) hSw (by kernel_rfl) (fun w' hSx => by obtain ⟨c1, c2, lu⟩ := hSx; go_simp; first | done | with_reducible rfl) ?_
      simp only [Act.put]
      refine wpAnyM_take 13 rfl (by kernel_rfl) (by kernel_rfl) (by kernel_rfl) (by kernel_rfl) (by kernel_rfl) (fun _ _ _ h => h) hSw (by kernel_rfl) (fun w' hSx => by obtain ⟨c1, c2, lu⟩ := hSx; go_simp; first | done | with_reducible rfl) ?_
      simp only [Act.put]
      refine wpAnyM_take 14 rfl (by kernel_rfl) (by kernel_rfl) (by kernel_rfl) (by kernel_rfl) (by kernel_rfl) (fun _ _ _ h => h) hSw (by kernel_rfl) (fun w' hSx => by obtain ⟨c1, c2, lu⟩ := hSx; go_simp; first | done | with_reducible rfl) ?_
      simp only [Act.put]
      refine wpAnyM_take 15 rfl (by kernel_rfl) (by kernel_rfl) (by kernel_rfl) (by kernel_rfl) (by kernel_rfl) (fun _ _ _ h => h) hSw (by kernel_rfl) (fun w' hSx => by obtain ⟨c1, c2, lu⟩ := hSx; go_simp; first | done | with_reducible rfl) ?_
      simp only [Act.put]
      refine wpAnyM_take 16 rfl (by kernel_rfl) (by kernel_rfl) (by kernel_rfl) (by kernel_rfl) (by kernel_rfl) (fun _ _ _ h => h) hSw (by kernel_rfl) (fun w' hSx => by obtain ⟨c1, c2, lu⟩ := hSx; go_simp; first | done | with_reducible rfl) ?_
      simp only [Act.put]
      refine wpAnyM_take 17 rfl (by kernel_rfl) (by kernel_rfl) (by kernel_rfl) (by kernel_rfl) (by kernel_rfl) (fun _ _ _ h => h) hSw (by kernel_rfl) (fun w' hSx => by obtain ⟨c1, c2, lu⟩ := hSx; go_simp; first | done | with_reducible rfl) ?_
      simp only [Act.put]
      refine wpAnyM_take 18 rfl (by kernel_rfl) (by kernel_rfl) (by kernel_rfl) (by kernel_rfl) (by kernel_rfl) (fun _ _ _ h => h) hSw (by kernel_rfl) (fun w' hSx => by obtain ⟨c1, c2, lu⟩ := hSx; go_simp; first | done | with_reducible rfl) ?_
      simp only [Act.put]
      have cr1 : wr.drew.cell? ⟨gr, t, none⟩ = some (.int .u32 v9) := cr0
      have fr1 : wr.drew.frozen? ⟨gr, t, none⟩ = false := fr0
      refine wpAnyM_ready [19] (by kernel_rfl) (by simp) ?_
      refine AllReadyM.cons (by rfl) (fun K hK => ?_) AllReadyM.nil
      go_simp
      have hS9 : (fun w' : World => w'.cell? ⟨gu, t1, none⟩ = some (.int .u32 (a1 : Int)) ∧ w'.cell? ⟨gu, t, none⟩ = some (.int .u32 (a0 : Int)) ∧ gu < w'.heap.size) (wr.setCell ⟨gr, t, none⟩ (.int .u32 (rr : Int))).drew := by
        have h1 := HW2.out.u.at_ ht1l
        have h0 := HW2.out.u.at_ ht0
        rw [HA01.out.1] at h1
        rw [HA01.out.2] at h0
        exact ⟨h1, h0, HW2.out.u.lt⟩
      refine hK.out _ _ hS9 ?_
      clear hK K hSw
      refine wpAnyM_done (by kernel_rfl) ?_ _
      go_wp2_with fail
      refine ⟨⟨t1, pre ++ [rr], (by have := HT1.out; omega), rfl, (by rw [HT1.out]; exact HP2), HW2, (by rw [HT1.out]; exact HR2)⟩, ?_⟩
      have hx := HT1.out
      simp [intOf]; omega
    · have htt : n = t := by omega
      subst htt
      have hj1 : ¬ (n : Int) < (n : Int) := by omega
      have hrr := HRW.out
      rw [Nat.sub_self, List.replicate_zero, List.append_nil] at hrr
      have HRR := Lib.hid hrr
      clear hrr HRW
      go_wp2_with fail
      exact hK.out _ _ _ _ _ _ _ _ _ _ _ _ _ _ _ _ _ _ _ _ _ _ _ _ _ _ HPR HW HRR
end Go.Proofs.YtflfbbdapbjaaaaDoor
