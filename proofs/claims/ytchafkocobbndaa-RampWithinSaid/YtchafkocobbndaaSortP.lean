/- The library's slices.SortFunc lies in this program as the shelf knows it, at pieces of convex functions. No condition. slices.SortFunc at a nil slice of pieces: nothing is done. No condition. slices.SortFunc on a row of pieces that the call owns, empty or not: a sorted permutation. Condition: the slopes are bounded. -/
import Derived.Shelf.SlLaysF0
import Derived.Test.YtchafkocobbndaaBase
import Derived.Test.YtchafkocobbndaaConcat
import Derived.Shelf.SlSortCmp.WholeK
namespace Go.Proofs.Ytchafkocobbndaa
def sortP_ren : Go.Shelf.Ren := ⟨fun | 6 => 61 | 15 => 80 | 14 => 79 | 28 => 91 | 29 => 92 | 20 => 83 | 21 => 84 | 22 => 85 | 23 => 86 | 24 => 87 | 25 => 88 | 26 => 89 | 27 => 90 | 46 => 95 | 47 => 96 | 48 => 97 | 49 => 98 | 50 => 99 | 57 => 101 | n => n, fun | 22 => 90 | 24 => 94 | 25 => 126 | 3 => 3 | 39 => 147 | 0 => 0 | 53 => 158 | 55 => 160 | 4 => 4 | 46 => 152 | 45 => 151 | 50 => 81 | 5 => 5 | 9 => 9 | 66 => 163 | 70 => 167 | 76 => 169 | 77 => 170 | n => n, fun | n => n⟩
theorem sortP : Go.Proofs.SlLaysF0.n6 Try.prog sortP_ren := {
  mixed := by kernel_rfl,
  f6 := ⟨Try.f61.name, by decide, Try.func61.trans (congrArg some (by kernel_rfl))⟩,
  f14 := ⟨Try.f79.name, by decide, Try.func79.trans (congrArg some (by kernel_rfl))⟩,
  f15 := Try.func80.trans (congrArg some (by kernel_rfl)),
  f20 := ⟨Try.f83.name, by decide, Try.func83.trans (congrArg some (by kernel_rfl))⟩,
  f21 := ⟨Try.f84.name, by decide, Try.func84.trans (congrArg some (by kernel_rfl))⟩,
  f22 := ⟨Try.f85.name, by decide, Try.func85.trans (congrArg some (by kernel_rfl))⟩,
  f23 := ⟨Try.f86.name, by decide, Try.func86.trans (congrArg some (by kernel_rfl))⟩,
  f24 := ⟨Try.f87.name, by decide, Try.func87.trans (congrArg some (by kernel_rfl))⟩,
  f25 := ⟨Try.f88.name, by decide, Try.func88.trans (congrArg some (by kernel_rfl))⟩,
  f26 := ⟨Try.f89.name, by decide, Try.func89.trans (congrArg some (by kernel_rfl))⟩,
  f27 := ⟨Try.f90.name, by decide, Try.func90.trans (congrArg some (by kernel_rfl))⟩,
  f28 := Try.func91.trans (congrArg some (by kernel_rfl)),
  f29 := Try.func92.trans (congrArg some (by kernel_rfl)),
  f46 := ⟨Try.f95.name, by decide, Try.func95.trans (congrArg some (by kernel_rfl))⟩,
  f47 := Try.func96.trans (congrArg some (by kernel_rfl)),
  f48 := Try.func97.trans (congrArg some (by kernel_rfl)),
  f49 := ⟨Try.f98.name, by decide, Try.func98.trans (congrArg some (by kernel_rfl))⟩,
  f50 := ⟨Try.f99.name, by decide, Try.func99.trans (congrArg some (by kernel_rfl))⟩,
  f57 := ⟨Try.f101.name, by decide, Try.func101.trans (congrArg some (by kernel_rfl))⟩,
  t0 := Try.underlying0,
  a0 := Try.isAgg0,
  z0 := Try.sizeOf0,
  v0 := Try.zeroValue0,
  t3 := Try.underlying3,
  a3 := Try.isAgg3,
  z3 := Try.sizeOf3,
  v3 := Try.zeroValue3,
  t4 := Try.underlying4,
  a4 := Try.isAgg4,
  z4 := Try.sizeOf4,
  v4 := Try.zeroValue4,
  t5 := Try.underlying5,
  a5 := Try.isAgg5,
  z5 := Try.sizeOf5,
  v5 := Try.zeroValue5,
  t9 := Try.underlying9,
  a9 := Try.isAgg9,
  z9 := Try.sizeOf9,
  v9 := Try.zeroValue9,
  t22 := Try.underlying90,
  a22 := Try.isAgg90,
  z22 := Try.sizeOf90,
  v22 := Try.zeroValue90,
  t25 := Try.underlying126,
  a25 := Try.isAgg126,
  z25 := Try.sizeOf126,
  v25 := Try.zeroValue126,
  t39 := Try.underlying147,
  a39 := Try.isAgg147,
  z39 := Try.sizeOf147,
  v39 := Try.zeroValue147,
  t45 := Try.underlying151,
  a45 := Try.isAgg151,
  z45 := Try.sizeOf151,
  v45 := Try.zeroValue151,
  t46 := Try.underlying152,
  a46 := Try.isAgg152,
  z46 := Try.sizeOf152,
  v46 := Try.zeroValue152,
  t50 := Try.underlying81,
  a50 := Try.isAgg81,
  z50 := Try.sizeOf81,
  v50 := Try.zeroValue81,
  t53 := Try.underlying158,
  a53 := Try.isAgg158,
  z53 := Try.sizeOf158,
  v53 := Try.zeroValue158,
  t55 := Try.underlying160,
  a55 := Try.isAgg160,
  z55 := Try.sizeOf160,
  v55 := Try.zeroValue160,
  t66 := Try.underlying163,
  a66 := Try.isAgg163,
  z66 := Try.sizeOf163,
  v66 := Try.zeroValue163,
  t70 := Try.underlying167,
  a70 := Try.isAgg167,
  z70 := Try.sizeOf167,
  v70 := Try.zeroValue167,
  t76 := Try.underlying169,
  a76 := Try.isAgg169,
  z76 := Try.sizeOf169,
  v76 := Try.zeroValue169,
  t77 := Try.underlying170,
  a77 := Try.isAgg170,
  z77 := Try.sizeOf170,
  v77 := Try.zeroValue170 }
end Go.Proofs.Ytchafkocobbndaa
namespace Go.Proofs.Ytchafkocobbndaa
open Go.RowKit
set_option maxHeartbeats 1600000 in
set_option maxRecDepth 100000 in
theorem len64_zero (w : World) : Calls Try.prog 92 #[.int .u64 0] w fun e w' => e = .returned (.int .i64 0) ∧ w' = w := by
  go_enter Try.func92, Try.ntmps92
  go_wp2_with fail
  go_ret
  refine ⟨?_, rfl⟩
  kernel_rfl
set_option maxHeartbeats 1600000 in
set_option maxRecDepth 100000 in
theorem len_zero (w : World) : Calls Try.prog 80 #[.int .u64 0] w fun e w' => e = .returned (.int .i64 0) ∧ w' = w := by
  go_enter Try.func80, Try.ntmps80
  go_wp2_with fail
  refine (len64_zero _).mono ?_
  rintro e w1 ⟨rfl, rfl⟩
  go_wp2_with fail
  go_ret
  exact ⟨rfl, rfl⟩
set_option maxHeartbeats 1600000 in
set_option maxRecDepth 100000 in
theorem ins_nil (f : Value) (w : World) :
    Calls Try.prog 83 #[.slice none 0 0, .int .i64 0, .int .i64 0, f] w fun e w' => e = .returned (.tuple #[]) ∧ w' = w := by
  go_enter Try.func83, Try.ntmps83
  go_wp2_with fail
  go_loopw [8] (fun i wr => i = .int .i64 1 ∧ wr = w) (fun _ _ => 0)
  case atStart => exact ⟨rfl, rfl⟩
  case round =>
    obtain ⟨rfl, rfl⟩ := hrel
    go_wp2_with fail
    go_end0
    exact ⟨rfl, rfl⟩
set_option maxHeartbeats 1600000 in
set_option maxRecDepth 100000 in
theorem pdq_nil (f : Value) (w : World) :
    Calls Try.prog 79 #[.slice none 0 0, .int .i64 0, .int .i64 0, .int .i64 0, f] w fun e w' => e = .returned (.tuple #[]) ∧ w' = w := by
  go_enter Try.func79, Try.ntmps79
  go_wp2_with fail
  go_loopw [1, 2, 3, 10, 11] (fun a b l u v wr => a = .int .i64 0 ∧ b = .int .i64 0 ∧ l = .int .i64 0 ∧ u = .bool true ∧ v = .bool true ∧ wr = w) (fun _ _ _ _ _ _ => 0)
  case atStart => exact ⟨rfl, rfl, rfl, rfl, rfl, rfl⟩
  case round =>
    obtain ⟨rfl, rfl, rfl, rfl, rfl, rfl⟩ := hrel
    go_wp2_with fail
    refine (ins_nil _ _).mono ?_
    rintro e w1 ⟨rfl, rfl⟩
    go_wp2_with fail
    exact bodyPost_ret (results_none (by exact Try.results79) _ _ _) rfl ⟨rfl, rfl⟩
set_option maxHeartbeats 1600000 in
set_option maxRecDepth 100000 in
theorem sort_nil (f : Value) (w : World) :
    Calls Try.prog 61 #[.slice none 0 0, f] w fun e w' => e = .returned (.tuple #[]) ∧ w' = w := by
  go_enter Try.func61, Try.ntmps61
  go_wp2_with fail
  refine (len_zero _).mono ?_
  rintro e w1 ⟨rfl, rfl⟩
  go_wp2_with fail
  refine (pdq_nil _ _).mono ?_
  rintro e w1 ⟨rfl, rfl⟩
  go_wp2_with fail
  go_end0
  exact ⟨rfl, rfl⟩
end Go.Proofs.Ytchafkocobbndaa
namespace Go.Proofs.Ytchafkocobbndaa
open Go.RowKit Go.Sort
/-- a piece with a bounded slope -/
def SP : Type := { p : Int × Int // -10000000 ≤ p.2 ∧ p.2 ≤ 10000000 }
instance : Inhabited SP := ⟨⟨(0, 0), by decide⟩⟩
def encP (x : SP) : List Value := [.int .i64 x.1.1, .int .i64 x.1.2]
def pcf (x y : SP) : Int := x.1.2 - y.1.2
theorem flat_pairs (d : Array SP) : (flatK encP 2 d).toList = pairs (d.toList.map fun x => x.1) := by
  apply List.ext_getElem?
  intro t
  by_cases h : t < d.size * 2
  · have hq : t / 2 < (d.toList.map fun x : SP => x.1).length := by simp; omega
    have hq2 : t / 2 < d.size := by omega
    have e0 : (flatK encP 2 d).toList[t]? = some (flatK encP 2 d)[t]! := by
      rw [getElem!_pos _ t (by simpa using h), Array.getElem?_toList, Array.getElem?_eq_getElem (by simpa using h)]
    rw [e0, get_flatK _ _ _ _ h, getElem!_pos d (t / 2) hq2]
    rcases Nat.mod_two_eq_zero_or_one t with hr | hr
    · have ht : t = t / 2 * 2 := by omega
      rw [hr]
      conv => rhs; rw [ht]
      rw [pairs_fst _ _ hq]
      simp [encP]
    · have ht : t = t / 2 * 2 + 1 := by omega
      rw [hr]
      conv => rhs; rw [ht]
      rw [pairs_snd _ _ hq]
      simp [encP]
  · rw [List.getElem?_eq_none (by simpa using h), List.getElem?_eq_none (by rw [pairs_length]; simpa using h)]
section
variable {w : World} {base g cap m : Nat} {e : TypeId}
theorem holds_own {F : Array Value} (h : w.ownsRow base e 2 (.slice (some ⟨g, 0, none⟩) m cap) m F.toList) : Holds id w g 0 F := by
  intro j hj
  refine ⟨?_, World.ownsRow.frozenAt h (0 + j)⟩
  have := h.cells (g := g) rfl j (F[j]!) (by rw [getElem!_pos _ j hj, Array.getElem?_toList, Array.getElem?_eq_getElem hj])
  rw [Srt.addr_add] at this
  rw [Nat.zero_add]
  exact this
theorem own_put {n : Nat} {os : Array Obj} {F F' : Array Value} (h : w.ownsRow base e 2 (.slice (some ⟨g, 0, none⟩) m cap) m F.toList) (hF : F'.size = F.size) :
    (grow (putRow id (Sort.ahead w n) g 0 F') os).ownsRow base e 2 (.slice (some ⟨g, 0, none⟩) m cap) m F'.toList := by
  have hl : F.size = m * 2 := by have := h.1; simpa using this
  rcases h.2 with ⟨h0, _⟩ | ⟨g', cap', cur, hv, hb, hh, h1, h2, h3, h4⟩
  · cases h0
  · injection hv with e1 e2 e3
    injection e1 with e1
    injection e1 with e1
    subst e1 e3
    have hg : g < w.heap.size := (Array.getElem?_eq_some_iff.1 hh).1
    refine ⟨by simp; omega, Or.inr ⟨g, cap, putCells id 0 F' cur, rfl, hb, ?_, h1, h2, by simp [putCells, h3], ?_⟩⟩
    · rw [heap_grow_old _ _ (by simpa using hg)]
      simp [putRow, mapBlock, Sort.ahead, Array.getElem?_modify, hh, onCells]
    · have hm2 : m * 2 ≤ cap * 2 := Nat.mul_le_mul_right 2 h1
      apply List.ext_getElem?
      intro j
      by_cases hj : j < m * 2
      · have hjF : j < F'.size := by omega
        have hjc : j < cur.size := by omega
        rw [List.getElem?_take_of_lt hj, Array.getElem?_toList, Array.getElem?_toList]
        simp [putCells, hjF, hjc]
      · rw [List.getElem?_take_eq_none (by omega), List.getElem?_eq_none (by simp; omega)]
theorem grown_put {n : Nat} {os : Array Obj} (F' : Array Value) : w.grownBy (grow (putRow id (Sort.ahead w n) g 0 F') os) (some g) := by
  refine ⟨rfl, rfl, rfl, by simp, fun k hk hne => ?_⟩
  rw [heap_grow_old _ _ (by simpa using hk)]
  have : g ≠ k := fun e => hne (by rw [e])
  simp [putRow, mapBlock, Sort.ahead, Array.getElem?_modify, this]
end
theorem enters_conv1 : ∀ args w, Sem.run Try.prog (callFunc 62 args) w = .ok (.enter 62 args) w := by intro args w; go_simp
set_option maxRecDepth 100000 in
theorem conv1_any (x y : SP) (W : World) : Calls Try.prog 62 #[.agg #[.int .i64 x.1.1, .int .i64 x.1.2], .agg #[.int .i64 y.1.1, .int .i64 y.1.2]] W fun e w' => e = .returned (.int .i64 (pcf x y)) ∧ ∃ q os', w' = grow (W.drewN q) os' := by
  obtain ⟨⟨a, b⟩, b0, b1⟩ := x
  obtain ⟨⟨c, d⟩, d0, d1⟩ := y
  unfold pcf
  simp only at b0 b1 d0 d1 ⊢
  go_enter Try.func62, Try.ntmps62
  go_wp2_with fail
  go_ret
  exact ⟨rfl, 0, _, by rw [alloc_eq_grow, alloc_eq_grow, grow_grow]; rfl⟩
theorem pcf_swo : SWO (ltOf pcf) := by
  constructor
  · intro x; unfold ltOf pcf; simp
  · intro x y z; unfold ltOf pcf; simp only [decide_eq_true_eq]; omega
  · intro x y z; unfold ltOf pcf; simp only [decide_eq_false_iff_not]; omega
theorem psorted_of {d d' : Array SP} (hp : PermIn 0 d.size d d') (hs : SortedIn (ltOf pcf) 0 d.size d') (hz : d'.size = d.size) : d'.toList.Perm d.toList ∧ d'.toList.Pairwise (fun a b => a.1.2 ≤ b.1.2) := by
  refine ⟨?_, ?_⟩
  · have h := hp.2.2
    rw [show d'.extract 0 d.size = d' from by rw [← hz]; simp, show d.extract 0 d.size = d from by simp] at h
    first
      | exact h
      | exact h.symm
      | simpa using h
      | simpa using h.symm
  · rw [List.pairwise_iff_getElem]
    intro i j hi hj hij
    have hj2 : j < d.size := by rw [Array.length_toList] at hj; omega
    have h := hs i j (Nat.zero_le _) hij hj2
    rw [getElem!_pos d' i (by omega), getElem!_pos d' j (by omega)] at h
    unfold ltOf pcf at h
    simp only [decide_eq_false_iff_not] at h
    simp only [Array.getElem_toList]
    omega
theorem sortP_own (base : Nat) (Ab : Option Addr) (cb : Nat) (S : List (Int × Int)) (w : World) (hl : S.length ≤ 1000) (hS : ∀ p ∈ S, -10000000 ≤ p.2 ∧ p.2 ≤ 10000000) (hown : w.ownsRow base 94 2 (.slice Ab S.length cb) S.length (pairs S)) :
    Calls Try.prog 61 #[.slice Ab S.length cb, .func (.func 62) #[] #[]] w (SortPSaid base Ab cb S w) := by
  rcases hown.2 with ⟨hv, he⟩ | ⟨g, cap, cur, hv, hg1, hh, hcap, _⟩
  · injection hv with hv1 hv2 hv3
    have hS0 : S = [] := List.eq_nil_of_length_eq_zero hv2
    subst hS0 hv1 hv3
    have h := sort_nil (.func (.func 62) #[] #[]) w
    refine h.mono ?_
    rintro e w1 ⟨rfl, rfl⟩
    exact ⟨rfl, [], List.Perm.refl _, List.Pairwise.nil, hown, World.grownBy.refl _ _⟩
  · injection hv with hv1 hv2 hv3
    subst hv1 hv3
    have hgl : g < w.heap.size := (Array.getElem?_eq_some_iff.1 hh).1
    obtain ⟨D, hD⟩ : ∃ D : List SP, (D.map fun x => x.1) = S := ⟨S.attach.map fun x => ⟨x.1, hS x.1 x.2⟩, Eq.trans (List.map_map (f := fun x : {x // x ∈ S} => (⟨x.1, hS x.1 x.2⟩ : SP)) (g := fun x : SP => x.1)) S.attach_map_subtype_val⟩
    have hz : D.toArray.size = S.length := by rw [← hD]; simp
    have hF : (flatK encP 2 D.toArray).toList = pairs S := by rw [flat_pairs]; simp [hD]
    have hH : HoldsK encP 2 w g 0 D.toArray := holds_own (m := S.length) (cap := cb) (by rw [hF]; exact hown)
    have hcon := AnyQ.slices_SortFunc sortP 2 Try.isAgg94 Try.sizeOf94 encP (fun _ => rfl) (fun x v hv => by simp [encP] at hv; rcases hv with rfl | rfl <;> rfl) pcf pcf_swo 62 #[] g 0 cb D.toArray w enters_conv1 (fun _ _ _ _ x y => conv1_any x y _) hH hgl (by omega)
    change Calls Try.prog 61 _ _ _ at hcon
    rw [hz] at hcon
    refine hcon.mono ?_
    rintro e w' ⟨rfl, d', n, os, hp, hs, rfl⟩
    have hz' : d'.size = D.toArray.size := hp.1
    rw [← hz] at hp hs
    obtain ⟨h1, h2⟩ := psorted_of hp hs hz'
    refine ⟨rfl, d'.toList.map fun x => x.1, ?_, ?_, ?_, grown_put _⟩
    · rw [← hD]
      have := h1.map (fun x : SP => x.1)
      simpa using this
    · rw [List.pairwise_map]
      exact h2
    · have := own_put (n := n) (os := os) (F := flatK encP 2 D.toArray) (F' := flatK encP 2 d') (m := S.length) (cap := cb) (by rw [hF]; exact hown) (by simp [hz'])
      rw [flat_pairs] at this
      exact this
theorem sortP_ok : SortPOk := fun base Ab cb S w hl hS ho => sortP_own base Ab cb S w hl hS ho
end Go.Proofs.Ytchafkocobbndaa
