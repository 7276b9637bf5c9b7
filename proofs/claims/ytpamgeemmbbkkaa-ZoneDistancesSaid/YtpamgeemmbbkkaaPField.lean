/- The field of package choose, plain: its edges, its place and its sources. No program. -/
import Derived.Test.YtpamgeemmbbkkaaPAug
import Derived.Test.YtpamgeemmbbkkaaPNet
namespace Go.Proofs.Ytpamgeemmbbkkaa.Pl
def idxT (zs : List ByteArray) (x : ByteArray) : Int := idxOf (fun z => decide (lst z = lst x)) zs
theorem idxT_mem {zs : List ByteArray} {x : ByteArray} (h : x ∈ zs) : 0 ≤ idxT zs x ∧ idxT zs x < zs.length ∧ zs[(idxT zs x).toNat]? = some x := by
  unfold idxT idxOf
  cases e : zs.findIdx? (fun z => decide (lst z = lst x)) with
  | none =>
    rw [List.findIdx?_eq_none_iff] at e
    have := e x h
    simp at this
  | some i =>
    rw [List.findIdx?_eq_some_iff_getElem] at e
    obtain ⟨hi, h1, _⟩ := e
    have h2 : zs[i] = x := lst_inj (of_decide_eq_true h1)
    refine ⟨by simp, by simpa using hi, by simp [hi, h2]⟩
theorem idxT_inj {zs : List ByteArray} {x y : ByteArray} (hx : x ∈ zs) (hy : y ∈ zs) (h : idxT zs x = idxT zs y) : x = y := by
  have a := (idxT_mem hx).2.2
  have b := (idxT_mem hy).2.2
  rw [h, b] at a
  injection a with a
  exact a.symm
/-- a switch that is closed and not among the opened ones -/
def shutS (open_ : List ByteArray) (s : Swi) : Bool := !s.opened && !inB open_ s.name
def edgS (zs : List ByteArray) (s : Swi) : Edg := ⟨idxT zs s.a, idxT zs s.b, s.name, s.breaker, 0⟩
def edgesS (zs open_ : List ByteArray) (l : List Swi) : List Edg := (l.filter (shutS open_)).map (edgS zs)
/-- does the fault leave the branch whole? -/
def wholeB (br : ByteArray) (part : Int) (b : Bra) : Bool := decide (lst b.name ≠ lst br) || decide (part = 0) || decide (part = 1000)
/-- the place and the edges, branch by branch -/
def stepB (zs : List ByteArray) (br : ByteArray) (part : Int) (st : Int × List Edg) (b : Bra) : Int × List Edg :=
  if wholeB br part b = true then ((if lst b.name = lst br then (if 0 < part then idxT zs b.to_ else idxT zs b.from_) else st.1), st.2 ++ [⟨idxT zs b.from_, idxT zs b.to_, b.name, false, 0⟩])
  else (st.1, st.2 ++ [⟨st.1, idxT zs b.from_, b.name, false, 0⟩, ⟨st.1, idxT zs b.to_, b.name, false, 0⟩])
def fldB (N : Net) (open_ : List ByteArray) (br : ByteArray) (part : Int) (k : Nat) : Int × List Edg :=
  (N.branches.take k).foldl (stepB N.nodes br part) ((N.nodes.length : Int), edgesS N.nodes open_ N.switches)
def fEdges (N : Net) (open_ : List ByteArray) (br : ByteArray) (part : Int) : List Edg := (fldB N open_ br part N.branches.length).2
def fPlace (N : Net) (open_ : List ByteArray) (br : ByteArray) (part : Int) : Int := (fldB N open_ br part N.branches.length).1
def setS (zs : List ByteArray) (l : List ByteArray) (src : List Bool) : List Bool := l.foldl (fun s x => s.set (idxT zs x).toNat true) src
def fSrc (N : Net) : List Bool := setS N.nodes (N.stores.map Sto.node) (setS N.nodes (N.gens.map Gen.node) (List.replicate (N.nodes.length + 1) false))
theorem fldB_succ (N : Net) (open_ : List ByteArray) (br : ByteArray) (part : Int) (k : Nat) (hk : k < N.branches.length) : fldB N open_ br part (k + 1) = stepB N.nodes br part (fldB N open_ br part k) N.branches[k] := by
  unfold fldB
  rw [List.take_succ_eq_append_getElem hk, List.foldl_append]; rfl
theorem setS_succ (zs l : List ByteArray) (src : List Bool) (k : Nat) (hk : k < l.length) : setS zs (l.take (k + 1)) src = (setS zs (l.take k) src).set (idxT zs l[k]).toNat true := by
  unfold setS
  rw [List.take_succ_eq_append_getElem hk, List.foldl_append]; rfl
theorem setS_length (zs : List ByteArray) : ∀ (l : List ByteArray) (src : List Bool), (setS zs l src).length = src.length
  | [], _ => rfl
  | x :: l, src => by
    show (setS zs l (src.set _ true)).length = _
    rw [setS_length zs l]; simp
theorem edgesS_succ (zs open_ : List ByteArray) (l : List Swi) (k : Nat) (hk : k < l.length) : edgesS zs open_ (l.take (k + 1)) = edgesS zs open_ (l.take k) ++ (if shutS open_ l[k] = true then [edgS zs l[k]] else []) := by
  unfold edgesS
  rw [List.take_succ_eq_append_getElem hk, List.filter_append, List.map_append]
  by_cases h : shutS open_ l[k] = true
  · simp [h]
  · simp [h]
theorem edgesS_len (zs open_ : List ByteArray) (l : List Swi) : (edgesS zs open_ l).length ≤ l.length := by
  unfold edgesS; rw [List.length_map]; exact List.length_filter_le _ _
theorem fldB_len (N : Net) (open_ : List ByteArray) (br : ByteArray) (part : Int) : ∀ k, k ≤ N.branches.length → (fldB N open_ br part k).2.length ≤ N.switches.length + 2 * k
  | 0, _ => by have := edgesS_len N.nodes open_ N.switches; simpa [fldB] using this
  | k + 1, h => by
    have ih := fldB_len N open_ br part k (by omega)
    rw [fldB_succ N open_ br part k (by omega)]
    unfold stepB
    split <;> simp <;> omega
theorem fldB_place (N : Net) (open_ : List ByteArray) (br : ByteArray) (part : Int) : ∀ k, k ≤ N.branches.length → part ≠ 0 → part ≠ 1000 → (fldB N open_ br part k).1 = N.nodes.length
  | 0, _, _, _ => rfl
  | k + 1, h, h0, h1 => by
    have ih := fldB_place N open_ br part k (by omega) h0 h1
    rw [fldB_succ N open_ br part k (by omega)]
    unfold stepB
    split
    · rename_i hw
      unfold wholeB at hw
      have hn : lst N.branches[k].name ≠ lst br := by simpa [h0, h1] using hw
      simp only
      rw [if_neg hn]; exact ih
    · exact ih
end Go.Proofs.Ytpamgeemmbbkkaa.Pl
