/- Package large: the long division of words: the estimate of a digit. Condition: the words read. Package large: the long division of words: the last loop. Condition: the words read. -/
import Derived.Test.YtoblpcljhblnmaaGreatDoorLgI
import Derived.Deep.CutBlock
import Derived.Deep.CutRange
import Derived.Deep.LoopGhost
namespace Go.Proofs.YtoblpcljhblnmaaGreatDoor
open Go.RowKit
set_option maxRecDepth 100000
def findBlock (k : Nat) : Code → Option Code
  | .block j c => if j = k then some (.block j c) else findBlock k c
  | .seq a b => match findBlock k a with
    | some c => some c
    | none => findBlock k b
  | .loop c => findBlock k c
  | .scope c => findBlock k c
  | .cond _ a b => match findBlock k a with
    | some c => some c
    | none => findBlock k b
  | _ => none
noncomputable def estCode : Code := ((Tryz.f173.body.bind (findBlock 2)).getD .skip)
def inBlk : Code → Code
  | .block _ c => c
  | c => c
noncomputable def tailCode : Code := inBlk ((Tryz.f173.body.bind (findBlock 8)).getD .skip)
structure DivW (w0 w : World) (gu : Nat) (us : List Nat) (gv : Nat) (v0 : List Nat) (gq : Nat) (qs : List Nat) : Prop where
  u : WB w gu us
  v : WB w gv v0
  q : WB w gq qs
  uw : Pl.W32 us
  vw : Pl.W32 v0
  qw : Pl.W32 qs
  bel : Below w0.heap.size w0 w
  ord : w0.heap.size ≤ gu ∧ gu < gv ∧ gv < gq
section
variable {w0 w : World} {gu : Nat} {us : List Nat} {gv : Nat} {v0 : List Nat} {gq : Nat} {qs : List Nat}
theorem WB.far {g r : Nat} {l : List Nat} (h : WB w g l) (hne : g ≠ r) (i : Nat) (u : Value) : WB (w.setCell ⟨r, i, none⟩ u) g l := Blk.far h hne u
theorem DivW.setU (h : DivW w0 w gu us gv v0 gq qs) (k : Nat) {x : Nat} (hx : x < 4294967296) : DivW w0 (w.setCell ⟨gu, k, none⟩ (.int .u32 (x : Int))) gu (us.set k x) gv v0 gq qs :=
  ⟨h.u.set_ k x, h.v.far (by have := h.ord; omega) _ _, h.q.far (by have := h.ord; omega) _ _, h.uw.set k hx, h.vw, h.qw, h.bel.setCell h.ord.1 _, h.ord⟩
theorem DivW.setQ (h : DivW w0 w gu us gv v0 gq qs) (k : Nat) {x : Nat} (hx : x < 4294967296) : DivW w0 (w.setCell ⟨gq, k, none⟩ (.int .u32 (x : Int))) gu us gv v0 gq (qs.set k x) :=
  ⟨h.u.far (by have := h.ord; omega) _ _, h.v.far (by have := h.ord; omega) _ _, h.q.set_ k x, h.uw, h.vw, h.qw.set k hx, h.bel.setCell (by have := h.ord; show _ ≤ gq; omega) _, h.ord⟩
theorem DivW.far (h : DivW w0 w gu us gv v0 gq qs) {r : Nat} (hr : gq < r) (k : Nat) (x : Value) : DivW w0 (w.setCell ⟨r, k, none⟩ x) gu us gv v0 gq qs :=
  ⟨h.u.far (by have := h.ord; omega) _ _, h.v.far (by have := h.ord; omega) _ _, h.q.far (by omega) _ _, h.uw, h.vw, h.qw, h.bel.setCell (by have := h.ord; show _ ≤ r; omega) _, h.ord⟩
theorem DivW.go {w' : World} (h : DivW w0 w gu us gv v0 gq qs) (hb : Below w.heap.size w w') : DivW w0 w' gu us gv v0 gq qs :=
  ⟨h.u.go hb, h.v.go hb, h.q.go hb, h.uw, h.vw, h.qw, h.bel.trans (hb.mono h.bel.size), h.ord⟩
theorem DivW.drewN (h : DivW w0 w gu us gv v0 gq qs) (n : Nat) : DivW w0 (w.drewN n) gu us gv v0 gq qs := ⟨h.u, h.v, h.q, h.uw, h.vw, h.qw, ⟨h.bel.os, h.bel.tape, h.bel.output, h.bel.size, h.bel.block⟩, h.ord⟩
end
set_option maxHeartbeats 6400000 in
theorem est_any {w wr : World} {gu gv gq N n n1 k i e0 e2 x0 x1 x2 vh vl g0 s0 U V P ulow vlow Q : Nat} {us v0 qs : List Nat} {c0 c1 c2 c3 c4 c5 c6 c7 c8 c13 c16 c17 c18 c19 c20 c21 c22 c23 c24 c25 c26 c27 c28 c29 c30 c31 c32 c33 c34 c35 c36 c37 c38 c39 c40 c41 c42 c43 c44 c45 c46 c47 c48 c49 c50 c51 c52 c53 c54 c55 c56 c57 c58 c59 c60 c61 c62 c63 c64 c65 c66 c67 c68 c69 c70 c71 c72 c73 c74 c75 c76 c77 c78 c79 c80 c81 c82 c83 c84 c85 c86 c87 c88 c89 c90 c91 c92 c93 c94 c95 c96 c97 c98 c99 c100 c101 c102 c103 c104 c105 c106 c107 c108 c109 c110 c111 c112 c113 c114 c115 c116 c117 c118 c119 c120 c121 c122 c123 c124 c125 c126 c127 c128 c129 c130 c131 c132 c133 c134 c135 c136 c137 c138 c139 c140 c141 c142 c143 c144 c145 c146 c147 c148 c149 c150 c151 c152 c153 c154 c155 c156 c157 c158 c159 c160 c161 c162 c163 c164 c165 c166 c167 c168 c169 c170 c171 c172 c173 c174 c175 c176 c177 c178 c179 c180 c181 c182 c183 c184 c185 c186 c187 c188 c189 c190 c191 c192 c193 c194 c195 c196 c197 c198 c199 c200 c201 c202 c203 c204 c205 c206 c207 c208 c209 c210 c211 c212 c213 c214 c215 c216 c217 c218 c219 c220 c221 c222 c223 c224 c225 c226 c227 c228 c229 c230 c231 c232 c233 c234 c235 c236 c237 c238 c239 c240 c241 c242 c243 c244 c245 c246 c247 c248 c249 c250 c251 c252 c253 c254 c255 c256 c257 c258 c259 c260 c261 c262 c263 c264 c265 c266 c267 c268 c269 c270 c271 c272 c273 c274 : Value} {K : Act → World → Prop} {Qx : Exit → Act → World → Prop}
    (wn1 : IntKind.i64.wrap ((n : Int) - 1) = (n1 : Int)) (wn2 : IntKind.i64.wrap ((n : Int) - 2) = (k : Int)) (we0 : IntKind.i64.wrap ((i : Int) + (n : Int)) = (e0 : Int)) (we2 : IntKind.i64.wrap ((e0 : Int) - 2) = (e2 : Int))
    (he2l : e2 < us.length) (hvl1 : n1 < v0.length) (hvl2 : k < v0.length) (b2 : (e2 : Int) < (N : Int) + 1) (b3 : (n1 : Int) < (n : Int)) (b4 : (k : Int) < (n : Int)) (r2 : x2 < 4294967296) (r3 : vh < 4294967296) (r4 : vl < 4294967296)
    (HX2 : Hid (us[e2] = x2 ∧ v0[n1] = vh ∧ v0[k] = vl)) (HDG : Hid (Pl.Dig U V x0 x1 x2 vh vl P ulow vlow Q)) (HE0 : Hid (g0 * vh + s0 = x0 * 4294967296 + x1 ∧ Q ≤ g0)) (hs0B : s0 < 4294967296) (hgb : g0 ≤ 8589934592) (HW2 : Hid (DivW w wr gu us gv v0 gq qs))
    (hK : Hid (∀ (u106 u107 u108 u109 u110 u111 u112 u113 u114 u115 u116 u117 u118 u119 u120 u121 u122 u123 u124 u125 u126 u127 u128 u129 u130 u131 u132 u133 u134 u135 u136 u137 u138 u139 u140 u141 : Value) (g : Nat) (rest : Int) (wx : World), g < 4294967296 → Hid (Q ≤ g ∧ g ≤ Q + 1) → Hid (DivW w wx gu us gv v0 gq qs) → K ⟨#[c0, c1, c2, c3, c4, c5, c6, c7, c8, .slice (some ⟨gu, 0, none⟩) (N + 1) (N + 1), .slice (some ⟨gv, 0, none⟩) n (n + 1), .int .i64 (n : Int), .int .i64 (i : Int), c13, .int .u64 (g : Int), .int .u64 rest, c16, c17, c18, c19, c20, c21, c22, c23, c24, c25, c26, c27, c28, c29, c30, c31, c32, c33, c34, c35, c36, c37, c38, c39, c40, c41, c42, c43, c44, c45, c46, c47, c48, c49, c50, c51, c52, c53, c54, c55, c56, c57, c58, c59, c60, c61, c62, c63, c64, c65, c66, c67, c68, c69, c70, c71, c72, c73, c74, c75, c76, c77, c78, c79, c80, c81, c82, c83, c84, c85, c86, c87, c88, c89, c90, c91, c92, c93, c94, c95, c96, c97, c98, c99, c100, c101, c102, c103, c104, c105, u106, u107, u108, u109, u110, u111, u112, u113, u114, u115, u116, u117, u118, u119, u120, u121, u122, u123, u124, u125, u126, u127, u128, u129, u130, u131, u132, u133, u134, u135, u136, u137, u138, u139, u140, u141, c142, c143, c144, c145, c146, c147, c148, c149, c150, c151, c152, c153, c154, c155, c156, c157, c158, c159, c160, c161, c162, c163, c164, c165, c166, c167, c168, c169, c170, c171, c172, c173, c174, c175, c176, c177, c178, c179, c180, c181, c182, c183, c184, c185, c186, c187, c188, c189, c190, c191, c192, c193, c194, c195, c196, c197, c198, c199, c200, c201, c202, c203, c204, c205, c206, c207, c208, c209, c210, c211, c212, c213, c214, c215, c216, c217, c218, c219, c220, c221, c222, c223, c224, c225, c226, c227, c228, c229, c230, c231, c232, c233, c234, c235, c236, c237, c238, c239, c240, c241, c242, c243, c244, c245, c246, c247, c248, c249, c250, c251, c252, c253, c254, c255, c256, c257, c258, c259, c260, c261, c262, c263, c264, c265, c266, c267, c268, c269, c270, c271, c272, c273, c274], []⟩ wx)) :
    Code.wp Tryz.prog estCode (Exit.then K Qx) ⟨#[c0, c1, c2, c3, c4, c5, c6, c7, c8, .slice (some ⟨gu, 0, none⟩) (N + 1) (N + 1), .slice (some ⟨gv, 0, none⟩) n (n + 1), .int .i64 (n : Int), .int .i64 (i : Int), c13, .int .u64 (g0 : Int), .int .u64 (s0 : Int), c16, c17, c18, c19, c20, c21, c22, c23, c24, c25, c26, c27, c28, c29, c30, c31, c32, c33, c34, c35, c36, c37, c38, c39, c40, c41, c42, c43, c44, c45, c46, c47, c48, c49, c50, c51, c52, c53, c54, c55, c56, c57, c58, c59, c60, c61, c62, c63, c64, c65, c66, c67, c68, c69, c70, c71, c72, c73, c74, c75, c76, c77, c78, c79, c80, c81, c82, c83, c84, c85, c86, c87, c88, c89, c90, c91, c92, c93, c94, c95, c96, c97, c98, c99, c100, c101, c102, c103, c104, c105, c106, c107, c108, c109, c110, c111, c112, c113, c114, c115, c116, c117, c118, c119, c120, c121, c122, c123, c124, c125, c126, c127, c128, c129, c130, c131, c132, c133, c134, c135, c136, c137, c138, c139, c140, c141, c142, c143, c144, c145, c146, c147, c148, c149, c150, c151, c152, c153, c154, c155, c156, c157, c158, c159, c160, c161, c162, c163, c164, c165, c166, c167, c168, c169, c170, c171, c172, c173, c174, c175, c176, c177, c178, c179, c180, c181, c182, c183, c184, c185, c186, c187, c188, c189, c190, c191, c192, c193, c194, c195, c196, c197, c198, c199, c200, c201, c202, c203, c204, c205, c206, c207, c208, c209, c210, c211, c212, c213, c214, c215, c216, c217, c218, c219, c220, c221, c222, c223, c224, c225, c226, c227, c228, c229, c230, c231, c232, c233, c234, c235, c236, c237, c238, c239, c240, c241, c242, c243, c244, c245, c246, c247, c248, c249, c250, c251, c252, c253, c254, c255, c256, c257, c258, c259, c260, c261, c262, c263, c264, c265, c266, c267, c268, c269, c270, c271, c272, c273, c274], []⟩ wr := by
  conv => arg 2; whnf
  go_wp2_with fail
  go_loopg [14, 15] (g0 + 1) (fun gg gs rs wr => ∃ (g rest : Nat), gg = g + 1 ∧ gs = .int .u64 (g : Int) ∧ rs = .int .u64 (rest : Int) ∧ rest < 4294967296 ∧ g ≤ 8589934592 ∧ Hid (g * vh + rest = x0 * 4294967296 + x1 ∧ Q ≤ g) ∧ Hid (DivW w wr gu us gv v0 gq qs))
  case atStart => exact ⟨g0, s0, rfl, rfl, rfl, hs0B, hgb, HE0.out, HW2.out⟩
  case round =>
    obtain ⟨g, rest, rfl, rfl, rfl, hrb, hgb2, HE, HW⟩ := hrel
    clear HE0 HW2 hgb hs0B
    have q2 := HW.out.u.at_ he2l
    have hx2 := HX2.out
    have q3 := HW.out.v.at_ hvl1
    have q4 := HW.out.v.at_ hvl2
    rw [HX2.out.1] at q2
    rw [HX2.out.2.1] at q3
    rw [HX2.out.2.2] at q4
    have l0 := HW.out.u.lt
    have l1 := HW.out.v.lt
    clear hx2
    have hnext : ∀ ht : 4294967296 ≤ g ∨ rest * 4294967296 + x2 < g * vl, 1 ≤ g ∧ Hid ((g - 1) * vh + (rest + vh) = x0 * 4294967296 + x1 ∧ Q ≤ g - 1 ∧ (4294967296 ≤ rest + vh → g - 1 < 4294967296 ∧ g - 1 ≤ Q + 1)) := fun ht => by
      have h := HDG.out.cont HE.out.1 HE.out.2 ht
      exact ⟨h.1, h.2.2, h.2.1, fun hb => HDG.out.brk h.2.2 hb⟩
    have HNX := Lib.hid hnext
    clear hnext
    by_cases hgB : 4294967296 ≤ g
    · obtain ⟨hg1, HH⟩ := HNX.out (.inl hgB)
      have hgd : decide ((4294967296 : Int) ≤ (g : Int)) = true := decide_eq_true (by omega)
      obtain ⟨g', hg'⟩ : ∃ g' : Nat, g' = g - 1 := ⟨_, rfl⟩
      obtain ⟨r', hr'⟩ : ∃ r' : Nat, r' = rest + vh := ⟨_, rfl⟩
      have wg : IntKind.u64.wrap ((g : Int) - 1) = (g' : Int) := by rw [show (g : Int) - 1 = (g' : Int) by omega]; exact IntWalk.u64_in _ (by omega)
      have wr' : IntKind.u64.wrap ((rest : Int) + (vh : Int)) = (r' : Int) := by rw [show (rest : Int) + (vh : Int) = (r' : Int) by omega]; exact IntWalk.u64_in _ (by omega)
      have HG := Lib.hid (And.intro hg' hr')
      rw [← hg', ← hr'] at HH
      have hgb3 : g' ≤ 8589934592 := by omega
      have hgg : g' + 1 < g + 1 := by omega
      clear HNX hg' hr' hgB HE
      by_cases hbk : 4294967296 ≤ r'
      · have hbd : decide ((4294967296 : Int) ≤ (r' : Int)) = true := decide_eq_true (by omega)
        go_wp2_with fail
        go_quiet (fail)
        have HW3 := Lib.hid (HW.out.drewN nq)
        go_wp2_with fail
        exact hK.out _ _ _ _ _ _ _ _ _ _ _ _ _ _ _ _ _ _ _ _ _ _ _ _ _ _ _ _ _ _ _ _ _ _ _ _ g' _ _ ((HH.out.2.2 hbk).1) (⟨HH.out.2.1, (HH.out.2.2 hbk).2⟩) (HW3.out)
      · have hbd : decide ((4294967296 : Int) ≤ (r' : Int)) = false := decide_eq_false (by omega)
        have hbk2 : r' < 4294967296 := by omega
        have HBK := Lib.hid hbk2
        clear hbk hbk2
        go_wp2_with fail
        go_quiet (fail)
        have HW3 := Lib.hid (HW.out.drewN nq)
        go_wp2_with fail
        go_roundg (g' + 1)
        case measure => exact hgg
        case rel => exact ⟨g', r', rfl, rfl, rfl, HBK.out, hgb3, ⟨HH.out.1, HH.out.2.1⟩, HW3.out⟩
    · have hgd : decide ((4294967296 : Int) ≤ (g : Int)) = false := decide_eq_false (by omega)
      obtain ⟨y, hy⟩ : ∃ y : Nat, y = g * vl := ⟨_, rfl⟩
      have hyb : y ≤ 18446744065119617025 := by rw [hy]; exact Nat.mul_le_mul (show g ≤ 4294967295 by omega) (show vl ≤ 4294967295 by omega)
      have wy : IntKind.u64.wrap ((g : Int) * (vl : Int)) = (y : Int) := by rw [hy, Int.natCast_mul]; exact IntWalk.u64_in _ (by rw [← Int.natCast_mul, ← hy]; omega)
      obtain ⟨o, ho⟩ : ∃ o : Nat, o = rest * 4294967296 + x2 := ⟨_, rfl⟩
      have hor2 : bits .or .u64 ((rest : Int) * 4294967296) (x2 : Int) = (o : Int) := by rw [ho]; exact or_hi rest x2 hrb r2
      by_cases hyo : o < y
      · obtain ⟨hg1, HH⟩ := HNX.out (.inr (by rw [← ho, ← hy]; exact hyo))
        have hyd : decide ((o : Int) < (y : Int)) = true := decide_eq_true (by omega)
        obtain ⟨g', hg'⟩ : ∃ g' : Nat, g' = g - 1 := ⟨_, rfl⟩
        obtain ⟨r', hr'⟩ : ∃ r' : Nat, r' = rest + vh := ⟨_, rfl⟩
        have wg : IntKind.u64.wrap ((g : Int) - 1) = (g' : Int) := by rw [show (g : Int) - 1 = (g' : Int) by omega]; exact IntWalk.u64_in _ (by omega)
        have wr' : IntKind.u64.wrap ((rest : Int) + (vh : Int)) = (r' : Int) := by rw [show (rest : Int) + (vh : Int) = (r' : Int) by omega]; exact IntWalk.u64_in _ (by omega)
        rw [← hg', ← hr'] at HH
        have hgb3 : g' ≤ 8589934592 := by omega
        have hgg : g' + 1 < g + 1 := by omega
        clear HNX hg' hr' HE hy ho
        by_cases hbk : 4294967296 ≤ r'
        · have hbd : decide ((4294967296 : Int) ≤ (r' : Int)) = true := decide_eq_true (by omega)
          go_wp2_with fail
          go_quiet (fail)
          have HW3 := Lib.hid (HW.out.drewN nq)
          go_wp2_with fail
          exact hK.out _ _ _ _ _ _ _ _ _ _ _ _ _ _ _ _ _ _ _ _ _ _ _ _ _ _ _ _ _ _ _ _ _ _ _ _ g' _ _ ((HH.out.2.2 hbk).1) (⟨HH.out.2.1, (HH.out.2.2 hbk).2⟩) (HW3.out)
        · have hbd : decide ((4294967296 : Int) ≤ (r' : Int)) = false := decide_eq_false (by omega)
          have hbk2 : r' < 4294967296 := by omega
          have HBK := Lib.hid hbk2
          clear hbk hbk2
          go_wp2_with fail
          go_quiet (fail)
          have HW3 := Lib.hid (HW.out.drewN nq)
          go_wp2_with fail
          go_roundg (g' + 1)
          case measure => exact hgg
          case rel => exact ⟨g', r', rfl, rfl, rfl, HBK.out, hgb3, ⟨HH.out.1, HH.out.2.1⟩, HW3.out⟩
      · have hyd : decide ((o : Int) < (y : Int)) = false := decide_eq_false (by omega)
        have HX9 : Hid (Q ≤ g ∧ g ≤ Q + 1) := ⟨HE.out.2, HDG.out.exit HE.out.1 (by omega) (by rw [← ho, ← hy]; omega)⟩
        have hgB2 : g < 4294967296 := by omega
        clear HNX hy ho HE
        go_wp2_with fail
        go_quiet (fail)
        have HW3 := Lib.hid (HW.out.drewN nq)
        go_wp2_with fail
        exact hK.out _ _ _ _ _ _ _ _ _ _ _ _ _ _ _ _ _ _ _ _ _ _ _ _ _ _ _ _ _ _ _ _ _ _ _ _ g _ _ (hgB2) (HX9.out) (HW3.out)

end Go.Proofs.YtoblpcljhblnmaaGreatDoor
namespace Go.Proofs.YtoblpcljhblnmaaGreatDoor
open Go.RowKit
set_option maxRecDepth 100000
set_option maxHeartbeats 6400000 in
theorem tail_any {w w6 : World} {gu gv gq gr N n s p : Nat} {us v0 qs : List Nat} {c0 c1 c2 c3 c4 c6 c7 c10 c11 c12 c13 c14 c15 c16 c17 c18 c19 c20 c21 c22 c23 c24 c25 c26 c27 c28 c29 c30 c31 c32 c33 c34 c35 c36 c37 c38 c39 c40 c41 c42 c43 c44 c45 c46 c47 c48 c49 c50 c51 c52 c53 c54 c55 c56 c57 c58 c59 c60 c61 c62 c63 c64 c65 c66 c67 c68 c69 c70 c71 c72 c73 c74 c75 c76 c77 c78 c79 c80 c81 c82 c83 c84 c85 c86 c87 c88 c89 c90 c91 c92 c93 c94 c95 c96 c97 c98 c99 c100 c101 c102 c103 c104 c105 c106 c107 c108 c109 c110 c111 c112 c113 c114 c115 c116 c117 c118 c119 c120 c121 c122 c123 c124 c125 c126 c127 c128 c129 c130 c131 c132 c133 c134 c135 c136 c137 c138 c139 c140 c141 c142 c143 c144 c145 c146 c147 c148 c149 c150 c151 c152 c153 c154 c155 c156 c157 c158 c159 c160 c161 c162 c163 c164 c165 c166 c167 c168 c169 c170 c171 c172 c173 c174 c175 c176 c177 c178 c179 c180 c181 c182 c183 c184 c185 c186 c187 c188 c189 c190 c191 c192 c193 c194 c195 c196 c197 c198 c199 c200 c201 c202 c203 c204 c205 c206 c207 c208 c209 c210 c211 c212 c213 c214 c215 c216 c217 c218 c219 c220 c221 c222 c223 c224 c225 c226 c227 c228 c229 c230 c231 c232 c233 c234 c235 c236 c237 c238 c239 c240 c241 c242 c243 c244 c245 c246 c247 c248 c251 c252 c253 c254 c255 c256 c257 c258 c259 c260 c261 c262 c263 c264 c265 c266 c267 c268 c269 c270 c271 c272 c273 c274 : Value} {a b : Nat} {K : Act → World → Prop}
    (hn : N ≤ 17592186044416) (hnm : n ≤ N) (hs31 : s ≤ 31) (HP : Hid (p = 2 ^ s)) (HPQ : Hid (p * 2 ^ (32 - s) = 4294967296)) (HUL : Hid (us.length = N + 1)) (hun : n < us.length) (hu0 : 0 < us.length) (hgq2 : gq < gr)
    (HW6 : Hid (DivW w w6 gu us gv v0 gq qs)) (HR6 : Hid (WB w6 gr (List.replicate n 0)))
    (hK : Hid (∀ (u21 u250 u251 u252 u253 u254 u255 u256 u257 u258 u259 u260 u261 u262 u263 u264 u265 u266 u267 u268 u269 u270 u271 u272 : Value) (pre : List Nat) (wx : World), Hid (pre.length = n ∧ Pl.W32 pre ∧ ∀ ht : n < us.length, Pl.lv pre * p + us[0] % p = Pl.lv (us.take n) + 4294967296 ^ n * (us[n] % p)) → Hid (DivW w wx gu us gv v0 gq qs) → Hid (WB wx gr pre) → K ⟨#[c0, c1, c2, c3, c4, .slice (some ⟨gr, 0, none⟩) n n, c6, c7, .int .i64 (s : Int), .slice (some ⟨gu, 0, none⟩) (N + 1) (N + 1), c10, c11, c12, c13, c14, c15, c16, c17, c18, c19, c20, u21, c22, c23, c24, c25, c26, c27, c28, c29, c30, c31, c32, c33, c34, c35, c36, c37, c38, c39, c40, c41, c42, c43, c44, c45, c46, c47, c48, c49, c50, c51, c52, c53, c54, c55, c56, c57, c58, c59, c60, c61, c62, c63, c64, c65, c66, c67, c68, c69, c70, c71, c72, c73, c74, c75, c76, c77, c78, c79, c80, c81, c82, c83, c84, c85, c86, c87, c88, c89, c90, c91, c92, c93, c94, c95, c96, c97, c98, c99, c100, c101, c102, c103, c104, c105, c106, c107, c108, c109, c110, c111, c112, c113, c114, c115, c116, c117, c118, c119, c120, c121, c122, c123, c124, c125, c126, c127, c128, c129, c130, c131, c132, c133, c134, c135, c136, c137, c138, c139, c140, c141, c142, c143, c144, c145, c146, c147, c148, c149, c150, c151, c152, c153, c154, c155, c156, c157, c158, c159, c160, c161, c162, c163, c164, c165, c166, c167, c168, c169, c170, c171, c172, c173, c174, c175, c176, c177, c178, c179, c180, c181, c182, c183, c184, c185, c186, c187, c188, c189, c190, c191, c192, c193, c194, c195, c196, c197, c198, c199, c200, c201, c202, c203, c204, c205, c206, c207, c208, c209, c210, c211, c212, c213, c214, c215, c216, c217, c218, c219, c220, c221, c222, c223, c224, c225, c226, c227, c228, c229, c230, c231, c232, c233, c234, c235, c236, c237, c238, c239, c240, c241, c242, c243, c244, c245, c246, c247, c248, .int .i64 (n : Int), u250, u251, u252, u253, u254, u255, u256, u257, u258, u259, u260, u261, u262, u263, u264, u265, u266, u267, u268, u269, u270, u271, u272, c273, c274], []⟩ wx)) :
    Code.wp Tryz.prog tailCode (Exit.inBlock 8 (Exit.then K (bodyPost Tryz.prog Tryz.f173 (DivSaid a b w)))) ⟨#[c0, c1, c2, c3, c4, .slice (some ⟨gr, 0, none⟩) n n, c6, c7, .int .i64 (s : Int), .slice (some ⟨gu, 0, none⟩) (N + 1) (N + 1), c10, c11, c12, c13, c14, c15, c16, c17, c18, c19, c20, c21, c22, c23, c24, c25, c26, c27, c28, c29, c30, c31, c32, c33, c34, c35, c36, c37, c38, c39, c40, c41, c42, c43, c44, c45, c46, c47, c48, c49, c50, c51, c52, c53, c54, c55, c56, c57, c58, c59, c60, c61, c62, c63, c64, c65, c66, c67, c68, c69, c70, c71, c72, c73, c74, c75, c76, c77, c78, c79, c80, c81, c82, c83, c84, c85, c86, c87, c88, c89, c90, c91, c92, c93, c94, c95, c96, c97, c98, c99, c100, c101, c102, c103, c104, c105, c106, c107, c108, c109, c110, c111, c112, c113, c114, c115, c116, c117, c118, c119, c120, c121, c122, c123, c124, c125, c126, c127, c128, c129, c130, c131, c132, c133, c134, c135, c136, c137, c138, c139, c140, c141, c142, c143, c144, c145, c146, c147, c148, c149, c150, c151, c152, c153, c154, c155, c156, c157, c158, c159, c160, c161, c162, c163, c164, c165, c166, c167, c168, c169, c170, c171, c172, c173, c174, c175, c176, c177, c178, c179, c180, c181, c182, c183, c184, c185, c186, c187, c188, c189, c190, c191, c192, c193, c194, c195, c196, c197, c198, c199, c200, c201, c202, c203, c204, c205, c206, c207, c208, c209, c210, c211, c212, c213, c214, c215, c216, c217, c218, c219, c220, c221, c222, c223, c224, c225, c226, c227, c228, c229, c230, c231, c232, c233, c234, c235, c236, c237, c238, c239, c240, c241, c242, c243, c244, c245, c246, c247, c248, .int .i64 (n : Int), .int .i64 0, c251, c252, c253, c254, c255, c256, c257, c258, c259, c260, c261, c262, c263, c264, c265, c266, c267, c268, c269, c270, c271, c272, c273, c274], []⟩ w6 := by
  conv => arg 2; whnf
  dsimp only
  go_loopw [250] (fun iv wr => ∃ (t : Nat) (pre : List Nat), t ≤ n ∧ iv = .int .i64 (t : Int) ∧ Hid (pre.length = t ∧ Pl.W32 pre ∧ ∀ ht : t < us.length, Pl.lv pre * p + us[0] % p = Pl.lv (us.take t) + 4294967296 ^ t * (us[t] % p)) ∧ Hid (DivW w wr gu us gv v0 gq qs) ∧ Hid (WB wr gr (pre ++ List.replicate (n - t) 0))) (fun iv _ => n - (intOf iv).toNat)
  case atStart => exact ⟨0, [], Nat.zero_le _, rfl, Lib.hid ⟨rfl, Pl.W32.nil, fun _ => by simp [Pl.lv]⟩, HW6.out, HR6.out⟩
  case round =>
    obtain ⟨t, pre, ht, rfl, HPR, HW, HRW⟩ := hrel
    clear HW6 HR6
    by_cases htn : t < n
    · have ht0 : t < us.length := by omega
      have ht1 : t + 1 < us.length := by omega
      obtain ⟨t1, ht1e⟩ : ∃ t1 : Nat, t1 = t + 1 := ⟨_, rfl⟩
      have wt1 : IntKind.i64.wrap ((t : Int) + 1) = (t1 : Int) := by rw [show (t : Int) + 1 = (t1 : Int) by omega]; exact IntWalk.i64_in _ (by omega)
      have ht1l : t1 < us.length := by omega
      have y1 := HW.out.u.at_ ht1l
      have y0 := HW.out.u.at_ ht0
      have r1 := HW.out.uw.at_ ht1l
      have r0 := HW.out.uw.at_ ht0
      obtain ⟨a1, ha1⟩ : ∃ x, us[t1] = x := ⟨_, rfl⟩
      obtain ⟨a0, ha0⟩ : ∃ x, us[t] = x := ⟨_, rfl⟩
      rw [ha1] at y1 r1
      rw [ha0] at y0 r0
      have HA01 := Lib.hid (And.intro ha1 ha0)
      have l0 := HW.out.u.lt
      obtain ⟨v9, cr0⟩ := HRW.out.ex (k := t) (by have := HPR.out.1; simp; omega)
      have fr0 := HRW.out.frozen t
      have lr0 := HRW.out.lt
      have hk0 : (0 : Int) ≤ (t : Int) := by omega
      have hk1 : (t : Int) < (n : Int) := by omega
      have hk2 : (0 : Int) ≤ (t1 : Int) := by omega
      have hk3 : (t1 : Int) < (N : Int) + 1 := by have := HUL.out; omega
      have hk4 : (t : Int) < (N : Int) + 1 := by have := HUL.out; omega
      obtain ⟨o, ho⟩ : ∃ o : Nat, o = a1 * 4294967296 + a0 := ⟨_, rfl⟩
      have hor : bits .or .u64 ((a1 : Int) * 4294967296) (a0 : Int) = (o : Int) := by rw [ho]; exact or_hi a1 a0 r1 r0
      obtain ⟨sh, hsh⟩ : ∃ sh : Nat, sh = o / p := ⟨_, rfl⟩
      have wsh : (o : Int) / 2 ^ s = (sh : Int) := by
        have e : (2 : Int) ^ s = (p : Int) := by rw [HP.out, Int.natCast_pow]; rfl
        rw [e, hsh]; exact (Int.natCast_ediv _ _).symm
      obtain ⟨rr, hrr⟩ : ∃ rr : Nat, rr = sh % 4294967296 := ⟨_, rfl⟩
      have em : (sh : Int) % 4294967296 = (rr : Int) := by omega
      have hrrb : rr < 4294967296 := by omega
      have wa1 : IntKind.u64.wrap (a1 : Int) = (a1 : Int) := IntWalk.u64_in _ (by omega)
      have wa0 : IntKind.u64.wrap (a0 : Int) = (a0 : Int) := IntWalk.u64_in _ (by omega)
      have wash : IntKind.u64.wrap ((a1 : Int) * 4294967296) = (a1 : Int) * 4294967296 := IntWalk.u64_in _ (by omega)
      have wsr : IntKind.u32.wrap (sh : Int) = (rr : Int) := by rw [IntKind.wrap_u32]; exact em
      have HP2 : Hid ((pre ++ [rr]).length = t + 1 ∧ Pl.W32 (pre ++ [rr]) ∧ ∀ ht : t + 1 < us.length, Pl.lv (pre ++ [rr]) * p + us[0] % p = Pl.lv (us.take (t + 1)) + 4294967296 ^ (t + 1) * (us[t + 1] % p)) := by
        refine ⟨by simp [HPR.out.1], HPR.out.2.1.append (Pl.W32.one hrrb), fun _ => ?_⟩
        have h0 := HPR.out.2.2 ht0
        rw [HA01.out.2] at h0
        have h := Pl.unshift_step (u0 := a0) (u1 := a1) HPQ.out r0 HPR.out.1 h0
        rw [← ho, ← hsh, ← hrr] at h
        have e1 : us[t + 1] = a1 := by rw [← HA01.out.1]; congr 1; omega
        rw [h, Pl.lv_take_succ ht0, HA01.out.2, e1]
      have HW2 : Hid (DivW w (wr.setCell ⟨gr, t, none⟩ (.int .u32 (rr : Int))).drew gu us gv v0 gq qs) := (HW.out.far hgq2 t (.int .u32 (rr : Int))).go (Below.refl _ _).drew
      have HR2 : Hid (WB (wr.setCell ⟨gr, t, none⟩ (.int .u32 (rr : Int))).drew gr ((pre ++ [rr]) ++ List.replicate (n - (t + 1)) 0)) := by
        have h1 := WB.set_ (w := wr) HRW.out t rr
        have h2 := set_next pre (n - (t + 1)) rr
        rw [HPR.out.1, show n - (t + 1) + 1 = n - t by omega] at h2
        rw [h2] at h1
        exact h1
      have HT1 := Lib.hid ht1e
      clear HPR HW HRW ha1 ha0 ho hsh hrr ht1e
      go_wp2_with fail
      have hSw : (fun w' : World => w'.cell? ⟨gu, t1, none⟩ = some (.int .u32 (a1 : Int)) ∧ w'.cell? ⟨gu, t, none⟩ = some (.int .u32 (a0 : Int)) ∧ gu < w'.heap.size) wr.drew := ⟨y1, y0, l0⟩
      refine wp_region_mid (fun w' : World => w'.cell? ⟨gu, t1, none⟩ = some (.int .u32 (a1 : Int)) ∧ w'.cell? ⟨gu, t, none⟩ = some (.int .u32 (a0 : Int)) ∧ gu < w'.heap.size) 20 (by kernel_rfl) ?_
      refine wpAnyM_take 0 rfl (by kernel_rfl) (by kernel_rfl) (by kernel_rfl) (by kernel_rfl) (by kernel_rfl) (fun _ _ _ h => h) hSw (by kernel_rfl) (fun w' hSx => by obtain ⟨c1, c2, lu⟩ := hSx; go_simp; first | done | with_reducible rfl) ?_
      simp only [Act.put, List.setIfInBounds_toArray]
      refine wpAnyM_take 1 rfl (by kernel_rfl) (by kernel_rfl) (by kernel_rfl) (by kernel_rfl) (by kernel_rfl) (fun _ _ _ h => h) hSw (by kernel_rfl) (fun w' hSx => by obtain ⟨c1, c2, lu⟩ := hSx; go_simp; first | done | with_reducible rfl) ?_
      simp only [Act.put]
      refine wpAnyM_take 2 rfl (by kernel_rfl) (by kernel_rfl) (by kernel_rfl) (by kernel_rfl) (by kernel_rfl) (fun _ _ _ h => h) hSw (by kernel_rfl) (fun w' hSx => by obtain ⟨c1, c2, lu⟩ := hSx; go_simp; first | done | with_reducible rfl) ?_
      simp only [Act.put]
      refine wpAnyM_take 3 rfl (by kernel_rfl) (by kernel_rfl) (by kernel_rfl) (by kernel_rfl) (by kernel_rfl) (fun _ _ _ h => h) hSw (by kernel_rfl) (fun w' hSx => by obtain ⟨c1, c2, lu⟩ := hSx; go_simp; first | done | with_reducible rfl) ?_
      simp only [Act.put]
      refine wpAnyM_take 4 rfl (by kernel_rfl) (by kernel_rfl) (by kernel_rfl) (by kernel_rfl) (by kernel_rfl) (fun _ _ _ h => h) hSw (by kernel_rfl) (fun w' hSx => by obtain ⟨c1, c2, lu⟩ := hSx; go_simp; first | done | with_reducible rfl) ?_
      simp only [Act.put]
      refine wpAnyM_take 5 rfl (by kernel_rfl) (by kernel_rfl) (by kernel_rfl) (by kernel_rfl) (by kernel_rfl) (fun _ _ _ h => h) hSw (by kernel_rfl) (fun w' hSx => by obtain ⟨c1, c2, lu⟩ := hSx; go_simp; first | done | with_reducible rfl) ?_
      simp only [Act.put]
      refine wpAnyM_take 6 rfl (by kernel_rfl) (by kernel_rfl) (by kernel_rfl) (by kernel_rfl) (by kernel_rfl) (fun _ _ _ h => h) hSw (by kernel_rfl) (fun w' hSx => by obtain ⟨c1, c2, lu⟩ := hSx; go_simp; first | done | with_reducible rfl) ?_
      simp only [Act.put]
      refine wpAnyM_take 7 rfl (by kernel_rfl) (by kernel_rfl) (by kernel_rfl) (by kernel_rfl) (by kernel_rfl) (fun _ _ _ h => h) hSw (by kernel_rfl) (fun w' hSx => by obtain ⟨c1, c2, lu⟩ := hSx; go_simp; first | done | with_reducible rfl) ?_
      simp only [Act.put]
      refine wpAnyM_take 8 rfl (by kernel_rfl) (by kernel_rfl) (by kernel_rfl) (by kernel_rfl) (by kernel_rfl) (fun _ _ _ h => h) hSw (by kernel_rfl) (fun w' hSx => by obtain ⟨c1, c2, lu⟩ := hSx; go_simp; first | done | with_reducible rfl) ?_
      simp only [Act.put]
      refine wpAnyM_take 9 rfl (by kernel_rfl) (by kernel_rfl) (by kernel_rfl) (by kernel_rfl) (by kernel_rfl) (fun _ _ _ h => h) hSw (by kernel_rfl) (fun w' hSx => by obtain ⟨c1, c2, lu⟩ := hSx; go_simp; first | done | with_reducible rfl) ?_
      simp only [Act.put]
      refine wpAnyM_take 10 rfl (by kernel_rfl) (by kernel_rfl) (by kernel_rfl) (by kernel_rfl) (by kernel_rfl) (fun _ _ _ h => h) hSw (by kernel_rfl) (fun w' hSx => by obtain ⟨c1, c2, lu⟩ := hSx; go_simp; first | done | with_reducible rfl) ?_
      simp only [Act.put]
      refine wpAnyM_take 11 rfl (by kernel_rfl) (by kernel_rfl) (by kernel_rfl) (by kernel_rfl) (by kernel_rfl) (fun _ _ _ h => h) hSw (by kernel_rfl) (fun w' hSx => by obtain ⟨c1, c2, lu⟩ := hSx; go_simp; first | done | with_reducible rfl) ?_
      simp only [Act.put]
      refine wpAnyM_take 12 rfl (by kernel_rfl) (by kernel_rfl) (by kernel_rfl) (by kernel_rfl) (by kernel_rfl) (fun _ _ _ h => h) hSw (by kernel_rfl) (fun w' hSx => by obtain ⟨c1, c2, lu⟩ := hSx; go_simp; first | done | with_reducible rfl) ?_
      simp only [Act.put]
      refine wpAnyM_take 13 rfl (by kernel_rfl) (by kernel_rfl) (by kernel_rfl) (by kernel_rfl) (by kernel_rfl) (fun _ _ _ h => h) hSw (by kernel_rfl) (fun w' hSx => by obtain ⟨c1, c2, lu⟩ := hSx; go_simp; first | done | with_reducible rfl) ?_
      simp only [Act.put]
      refine wpAnyM_take 14 rfl (by kernel_rfl) (by kernel_rfl) (by kernel_rfl) (by kernel_rfl) (by kernel_rfl) (fun _ _ _ h => h) hSw (by kernel_rfl) (fun w' hSx => by obtain ⟨c1, c2, lu⟩ := hSx; go_simp; first | done | with_reducible rfl) ?_
      simp only [Act.put]
      refine wpAnyM_take 15 rfl (by kernel_rfl) (by kernel_rfl) (by kernel_rfl) (by kernel_rfl) (by kernel_rfl) (fun _ _ _ h => h) hSw (by kernel_rfl) (fun w' hSx => by obtain ⟨c1, c2, lu⟩ := hSx; go_simp; first | done | with_reducible rfl) ?_
      simp only [Act.put]
      refine wpAnyM_take 16 rfl (by kernel_rfl) (by kernel_rfl) (by kernel_rfl) (by kernel_rfl) (by kernel_rfl) (fun _ _ _ h => h) hSw (by kernel_rfl) (fun w' hSx => by obtain ⟨c1, c2, lu⟩ := hSx; go_simp; first | done | with_reducible rfl) ?_
      simp only [Act.put]
      refine wpAnyM_take 17 rfl (by kernel_rfl) (by kernel_rfl) (by kernel_rfl) (by kernel_rfl) (by kernel_rfl) (fun _ _ _ h => h) hSw (by kernel_rfl) (fun w' hSx => by obtain ⟨c1, c2, lu⟩ := hSx; go_simp; first | done | with_reducible rfl) ?_
      simp only [Act.put]
      refine wpAnyM_take 18 rfl (by kernel_rfl) (by kernel_rfl) (by kernel_rfl) (by kernel_rfl) (by kernel_rfl) (fun _ _ _ h => h) hSw (by kernel_rfl) (fun w' hSx => by obtain ⟨c1, c2, lu⟩ := hSx; go_simp; first | done | with_reducible rfl) ?_
      simp only [Act.put]
      have cr1 : wr.drew.cell? ⟨gr, t, none⟩ = some (.int .u32 v9) := cr0
      have fr1 : wr.drew.frozen? ⟨gr, t, none⟩ = false := fr0
      refine wpAnyM_ready [19] (by kernel_rfl) (by simp) ?_
      refine AllReadyM.cons (by rfl) (fun K hK => ?_) AllReadyM.nil
      go_simp
      have hS9 : (fun w' : World => w'.cell? ⟨gu, t1, none⟩ = some (.int .u32 (a1 : Int)) ∧ w'.cell? ⟨gu, t, none⟩ = some (.int .u32 (a0 : Int)) ∧ gu < w'.heap.size) (wr.setCell ⟨gr, t, none⟩ (.int .u32 (rr : Int))).drew := by
        have h1 := HW2.out.u.at_ ht1l
        have h0 := HW2.out.u.at_ ht0
        rw [HA01.out.1] at h1
        rw [HA01.out.2] at h0
        exact ⟨h1, h0, HW2.out.u.lt⟩
      refine hK.out _ _ hS9 ?_
      clear hK K hSw
      refine wpAnyM_done (by kernel_rfl) ?_ _
      go_wp2_with fail
      refine ⟨⟨t1, pre ++ [rr], (by have := HT1.out; omega), rfl, (by rw [HT1.out]; exact HP2), HW2, (by rw [HT1.out]; exact HR2)⟩, ?_⟩
      have hx := HT1.out
      simp [intOf]; omega
    · have htt : n = t := by omega
      subst htt
      have hj1 : ¬ (n : Int) < (n : Int) := by omega
      have hrr := HRW.out
      rw [Nat.sub_self, List.replicate_zero, List.append_nil] at hrr
      have HRR := Lib.hid hrr
      clear hrr HRW
      go_wp2_with fail
      exact hK.out _ _ _ _ _ _ _ _ _ _ _ _ _ _ _ _ _ _ _ _ _ _ _ _ _ _ HPR HW HRR
end Go.Proofs.YtoblpcljhblnmaaGreatDoor
