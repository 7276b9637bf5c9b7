/- One more unit of flow along a found way, plain. No program. The field of package choose, plain: its edges, its place and its sources. No program. Rows of integers that the call owns: reading, storing, and stores elsewhere. No condition. -/
import Derived.Test.YtpamgeemmbbkkaaBlk04
import Derived.Test.YtpamgeemmbbkkaaPNet
import Derived.Test.YtpamgeemmbbkkaaBlk02
namespace Go.Proofs.Ytpamgeemmbbkkaa.Pl
/-- an edge without its flow -/
def shp (e : Edg) : Int × Int × ByteArray × Bool := (e.a, e.b, e.name, e.breaker)
theorem shp_get {E E0 : List Edg} (h : E.map shp = E0.map shp) {k : Nat} {e : Edg} (he : E[k]? = some e) : ∃ e0, E0[k]? = some e0 ∧ e.a = e0.a ∧ e.b = e0.b ∧ e.name = e0.name ∧ e.breaker = e0.breaker := by
  have h1 := congrArg (fun l => l[k]?) h
  simp only [List.getElem?_map, he, Option.map_some] at h1
  cases h2 : E0[k]? with
  | none => rw [h2] at h1; simp at h1
  | some e0 =>
    rw [h2] at h1
    simp only [Option.map_some, Option.some.injEq, shp, Prod.mk.injEq] at h1
    exact ⟨e0, rfl, h1.1, h1.2.1, h1.2.2.1, h1.2.2.2⟩
theorem shp_mem {E E0 : List Edg} (h : E.map shp = E0.map shp) {e : Edg} (he : e ∈ E) : ∃ e0 ∈ E0, e.a = e0.a ∧ e.b = e0.b ∧ e.name = e0.name ∧ e.breaker = e0.breaker := by
  obtain ⟨k, hk, rfl⟩ := List.getElem_of_mem he
  obtain ⟨e0, h1, h2⟩ := shp_get h (List.getElem?_eq_getElem hk)
  exact ⟨e0, List.mem_of_getElem? h1, h2⟩
theorem FieldOk.shp {E E0 : List Edg} {place n : Int} (h : FieldOk E0 place n) (hs : E.map shp = E0.map shp) : FieldOk E place n := by
  refine ⟨fun e he => ?_, h.place⟩
  obtain ⟨e0, h0, ha, hb, _⟩ := shp_mem hs he
  rw [ha, hb]
  exact h.ends e0 h0
def withF (e : Edg) (x : Int) : Edg := { e with flow := x }
theorem shp_set {E E0 : List Edg} (h : E.map shp = E0.map shp) {k : Nat} {e : Edg} (he : E[k]? = some e) (x : Int) : (E.set k (withF e x)).map shp = E0.map shp := by
  rw [← h, List.map_set]
  have : shp (withF e x) = shp e := rfl
  rw [this]
  have h1 : (E.map shp)[k]? = some (shp e) := by simp [he]
  refine List.ext_getElem? fun i => ?_
  rw [List.getElem?_set]
  split
  · rename_i hi
    subst hi
    rw [h1, if_pos (List.getElem?_eq_some_iff.1 h1).1]
  · rfl
theorem cut_shp {S : Int → Bool} : ∀ {E E0 : List Edg}, E.map shp = E0.map shp → (cutF S E).map Edg.name = (cutF S E0).map Edg.name
  | [], [], _ => rfl
  | [], _ :: _, h => by simp at h
  | _ :: _, [], h => by simp at h
  | e :: E, e0 :: E0, h => by
    simp only [List.map_cons, List.cons.injEq] at h
    have ih := cut_shp (S := S) h.2
    have h1 := h.1
    simp only [Pl.shp, Prod.mk.injEq] at h1
    obtain ⟨ha, hb, hn, hk⟩ := h1
    unfold cutF at ih ⊢
    simp only [List.filter_cons]
    have : (e.breaker && leaves S e) = (e0.breaker && leaves S e0) := by rw [hk]; unfold leaves; rw [ha, hb]
    rw [this]
    split
    · simp [hn, ih]
    · exact ih
/-- what flows out of a node when one edge turns -/
theorem netF_set {v : Int} : ∀ {E : List Edg} {k : Nat} {e : Edg} (_ : E[k]? = some e) (e' : Edg), netF (E.set k e') v = netF E v + outE e' v - outE e v
  | [], k, e, h, _ => by simp at h
  | x :: E, 0, e, h, e' => by
    simp at h; subst h
    simp [netF]; omega
  | x :: E, k + 1, e, h, e' => by
    have ih := netF_set (v := v) (E := E) (k := k) (e := e) (by simpa using h) e'
    simp only [netF, List.map_set] at ih
    simp [netF, List.map_set]; omega
/-- on the way back from the source s: the node at index i of the tree is reached, the edges of nodes up to it are untouched -/
structure Aug (E0 : List Edg) (by_ o : List Int) (s : Int) (E : List Edg) (i : Nat) (at_ : Int) : Prop where
  here : o[i]? = some at_
  shp : E.map shp = E0.map shp
  same : ∀ (j : Nat) (v : Int) (k : Nat), j ≤ i → o[j]? = some v → by_[v.toNat]? = some (k : Int) → E[k]? = E0[k]?
  cap : ∀ e ∈ E, -capE e ≤ e.flow ∧ e.flow ≤ capE e
  net : ∀ v, netF E v = netF E0 v - (if v = s then 1 else 0) + (if v = at_ then 1 else 0)
theorem Aug.start {E0 : List Edg} {by_ o : List Int} {s : Int} {src : List Bool} {place : Int} {n : Nat} {K : Int} (h : Flo E0 src place n K) (hs : s ∈ o) : ∃ i, Aug E0 by_ o s E0 i s := by
  obtain ⟨i, hi, e⟩ := List.getElem_of_mem hs
  exact ⟨i, by rw [← e]; exact List.getElem?_eq_getElem hi, rfl, fun _ _ _ _ _ _ => rfl, h.cap, fun v => by omega⟩
/-- one edge back -/
theorem Aug.step {E0 : List Edg} {by_ o : List Int} {s : Int} {E : List Edg} {i : Nat} {at_ place : Int} {n : Nat} (ht : Tree E0 place n by_ o) (ho : FieldOk E0 place n) (h : Aug E0 by_ o s E i at_) (hne : at_ ≠ place) :
    ∃ (k : Nat) (e : Edg), by_[at_.toNat]? = some (k : Int) ∧ E[k]? = some e ∧ (-1001 ≤ e.flow ∧ e.flow ≤ 1001) ∧ (e.b = at_ → ∃ j, j < i ∧ Aug E0 by_ o s (E.set k (withF e (e.flow + 1))) j e.a) ∧ (e.b ≠ at_ → ∃ j, j < i ∧ Aug E0 by_ o s (E.set k (withF e (e.flow - 1))) j e.b) := by
  have hi0 : 0 < i := by
    rcases Nat.eq_zero_or_pos i with h0 | h0
    · subst h0
      obtain ⟨r, hr⟩ := ht.head
      have := h.here
      rw [hr] at this
      simp at this
      exact absurd this.symm hne
    · exact h0
  obtain ⟨k, e, j, u, hk, he, hj, hu, hl⟩ := ht.way i at_ h.here hi0
  have hEk : E[k]? = some e := by rw [h.same i at_ k (Nat.le_refl _) h.here hk]; exact he
  have hab := (ho.ends e (List.mem_of_getElem? he)).2.2.2.2
  have hcp := h.cap e (List.mem_of_getElem? hEk)
  have hc1 : capE e ≤ 1000 ∧ 1 ≤ capE e := by unfold capE; split <;> omega
  have hoi : ∀ (a b : Nat) (v : Int), o[a]? = some v → o[b]? = some v → a = b := by
    intro a b v ha hb
    obtain ⟨ha1, _⟩ := List.getElem?_eq_some_iff.1 ha
    exact (List.getElem?_inj ha1 ht.nodup).1 (ha.trans hb.symm)
  have huA : u ≠ at_ := by
    intro hua
    subst hua
    have := hoi i j u h.here hu
    omega
  have hsame : ∀ (x : Int) (j' : Nat) (v : Int) (k' : Nat), j' ≤ j → o[j']? = some v → by_[v.toNat]? = some (k' : Int) → (E.set k (withF e x))[k']? = E0[k']? := by
    intro x j' v k' hj' hv hk'
    have hkk : k ≠ k' := by
      intro e1
      subst e1
      rcases Nat.eq_zero_or_pos j' with h0 | h0
      · subst h0
        obtain ⟨r, hr⟩ := ht.head
        rw [hr] at hv
        simp at hv
        subst hv
        rw [ht.root] at hk'
        injection hk' with hk'
        omega
      · obtain ⟨k2, e2, j2, u2, hk2, he2, hj2, hu2, hl2⟩ := ht.way j' v hv h0
        rw [hk2] at hk'
        injection hk' with hk'
        have : k2 = k := by omega
        subst this
        rw [he] at he2
        injection he2 with he2
        subst he2
        have ends : (u = v ∧ at_ = u2) ∨ (u = u2 ∧ at_ = v) := by
          rcases hl.1 with ⟨a1, a2⟩ | ⟨a1, a2⟩ <;> rcases hl2.1 with ⟨b1, b2⟩ | ⟨b1, b2⟩
          · exact .inr ⟨by omega, by omega⟩
          · exact .inl ⟨by omega, by omega⟩
          · exact .inl ⟨by omega, by omega⟩
          · exact .inr ⟨by omega, by omega⟩
        rcases ends with ⟨_, h2⟩ | ⟨_, h2⟩
        · rw [← h2] at hu2
          have := hoi i j2 at_ h.here hu2
          omega
        · rw [← h2] at hv
          have := hoi i j' at_ h.here hv
          omega
    rw [List.getElem?_set_ne hkk]
    exact h.same j' v k' (by omega) hv hk'
  have hcap : ∀ x, -capE e ≤ x ∧ x ≤ capE e → ∀ e' ∈ E.set k (withF e x), -capE e' ≤ e'.flow ∧ e'.flow ≤ capE e' := by
    intro x hx e' he'
    rcases List.mem_or_eq_of_mem_set he' with hm | rfl
    · exact h.cap e' hm
    · exact hx
  refine ⟨k, e, hk, hEk, by omega, fun hb => ⟨j, hj, ?_⟩, fun hb => ⟨j, hj, ?_⟩⟩
  · have hu' : u = e.a := by
      rcases hl.1 with ⟨a1, a2⟩ | ⟨a1, a2⟩
      · exact a1.symm
      · exact absurd (a2.trans hb.symm) hab
    have hr := hl.2
    have h3 : ¬ u = e.b := by rw [hu']; exact hab
    have hr' : roomE e u = capE e - e.flow := by unfold roomE capE; rw [if_neg h3]
    refine ⟨by rw [← hu']; exact hu, shp_set h.shp hEk _, hsame _, hcap _ (by omega), fun v => ?_⟩
    rw [netF_set hEk, h.net v]
    have e1 : outE (withF e (e.flow + 1)) v = (if e.a = v then e.flow + 1 else 0) - (if e.b = v then e.flow + 1 else 0) := rfl
    have e2 : outE e v = (if e.a = v then e.flow else 0) - (if e.b = v then e.flow else 0) := rfl
    rw [e1, e2]
    clear h ht ho hsame hcap hoi hl hcp hr hr'
    repeat' split
    all_goals omega
  · have hu' : u = e.b ∧ e.a = at_ := by
      rcases hl.1 with ⟨a1, a2⟩ | ⟨a1, a2⟩
      · exact absurd a2 hb
      · exact ⟨a1.symm, a2⟩
    have hr := hl.2
    have hr' : roomE e u = capE e + e.flow := by unfold roomE capE; rw [if_pos hu'.1]; omega
    have h3 : e.b ≠ at_ := hb
    refine ⟨by rw [← hu'.1]; exact hu, shp_set h.shp hEk _, hsame _, hcap _ (by omega), fun v => ?_⟩
    rw [netF_set hEk, h.net v]
    have e1 : outE (withF e (e.flow - 1)) v = (if e.a = v then e.flow - 1 else 0) - (if e.b = v then e.flow - 1 else 0) := rfl
    have e2 : outE e v = (if e.a = v then e.flow else 0) - (if e.b = v then e.flow else 0) := rfl
    rw [e1, e2]
    have hea := hu'.2
    clear h ht ho hsame hcap hoi hl hcp hr hr'
    repeat' split
    all_goals omega
/-- back at the place: one unit more -/
theorem Aug.done {E0 : List Edg} {by_ o : List Int} {s : Int} {E : List Edg} {i : Nat} {place : Int} {n : Nat} {src : List Bool} {K : Int} (h : Aug E0 by_ o s E i place) (hF : Flo E0 src place n K) (hs : src[s.toNat]? = some true) : Flo E src place n (K + 1) := by
  refine ⟨h.cap, fun v h0 h1 hv hne => ?_, fun hp => ?_⟩
  · have : v ≠ s := by intro e; subst e; rw [hs] at hv; cases hv
    rw [h.net v, hF.keep v h0 h1 hv hne, if_neg this, if_neg hne]; rfl
  · have : place ≠ s := by intro e; rw [e] at hp; rw [hs] at hp; cases hp
    rw [h.net place, hF.out hp, if_neg this, if_pos rfl]; omega
theorem Flo.zero {E : List Edg} {src : List Bool} {place : Int} {n : Nat} (h : ∀ e ∈ E, e.flow = 0) : Flo E src place n 0 := by
  have hz : ∀ (l : List Edg), (∀ e ∈ l, e.flow = 0) → ∀ v, netF l v = 0 := by
    intro l
    induction l with
    | nil => intro _ _; rfl
    | cons e l ih =>
      intro h v
      have := ih (fun x hx => h x (by simp [hx])) v
      simp only [netF] at this ⊢
      have h0 := h e (by simp)
      have h1 : outE e v = 0 := by unfold outE; rw [h0]; simp
      simp [this, h1]
  refine ⟨fun e he => ?_, fun v _ _ _ _ => hz E h v, fun _ => hz E h _⟩
  rw [h e he]; unfold capE; split <;> omega
/-- what push leaves -/
def Pushed (E0 : List Edg) (src : List Bool) (place : Int) (n : Nat) (E : List Edg) (is : Bool) : Prop :=
  E.map shp = E0.map shp ∧ ∃ K : Nat, Flo E src place n K ∧ if is = true then K ≤ E0.length ∧ ∀ v, Rch E place v → src[v.toNat]? ≠ some true else K = E0.length + 1
/-- what least answers -/
def Leasted (E0 : List Edg) (src : List Bool) (place : Int) (n : Nat) (out : List ByteArray) (is : Bool) : Prop :=
  ∃ E, Pushed E0 src place n E is ∧ (is = true → ∃ o : List Int, (∀ v, v ∈ o ↔ Rch E place v) ∧ out = (cutF (fun v => decide (v ∈ o)) E).map Edg.name)
end Go.Proofs.Ytpamgeemmbbkkaa.Pl
namespace Go.Proofs.Ytpamgeemmbbkkaa.Pl
def idxT (zs : List ByteArray) (x : ByteArray) : Int := idxOf (fun z => decide (lst z = lst x)) zs
theorem idxT_mem {zs : List ByteArray} {x : ByteArray} (h : x ∈ zs) : 0 ≤ idxT zs x ∧ idxT zs x < zs.length ∧ zs[(idxT zs x).toNat]? = some x := by
  unfold idxT idxOf
  cases e : zs.findIdx? (fun z => decide (lst z = lst x)) with
  | none =>
    rw [List.findIdx?_eq_none_iff] at e
    have := e x h
    simp at this
  | some i =>
    rw [List.findIdx?_eq_some_iff_getElem] at e
    obtain ⟨hi, h1, _⟩ := e
    have h2 : zs[i] = x := lst_inj (of_decide_eq_true h1)
    refine ⟨by simp, by simpa using hi, by simp [hi, h2]⟩
theorem idxT_inj {zs : List ByteArray} {x y : ByteArray} (hx : x ∈ zs) (hy : y ∈ zs) (h : idxT zs x = idxT zs y) : x = y := by
  have a := (idxT_mem hx).2.2
  have b := (idxT_mem hy).2.2
  rw [h, b] at a
  injection a with a
  exact a.symm
/-- a switch that is closed and not among the opened ones -/
def shutS (open_ : List ByteArray) (s : Swi) : Bool := !s.opened && !inB open_ s.name
def edgS (zs : List ByteArray) (s : Swi) : Edg := ⟨idxT zs s.a, idxT zs s.b, s.name, s.breaker, 0⟩
def edgesS (zs open_ : List ByteArray) (l : List Swi) : List Edg := (l.filter (shutS open_)).map (edgS zs)
/-- does the fault leave the branch whole? -/
def wholeB (br : ByteArray) (part : Int) (b : Bra) : Bool := decide (lst b.name ≠ lst br) || decide (part = 0) || decide (part = 1000)
/-- the place and the edges, branch by branch -/
def stepB (zs : List ByteArray) (br : ByteArray) (part : Int) (st : Int × List Edg) (b : Bra) : Int × List Edg :=
  if wholeB br part b = true then ((if lst b.name = lst br then (if 0 < part then idxT zs b.to_ else idxT zs b.from_) else st.1), st.2 ++ [⟨idxT zs b.from_, idxT zs b.to_, b.name, false, 0⟩])
  else (st.1, st.2 ++ [⟨st.1, idxT zs b.from_, b.name, false, 0⟩, ⟨st.1, idxT zs b.to_, b.name, false, 0⟩])
def fldB (N : Net) (open_ : List ByteArray) (br : ByteArray) (part : Int) (k : Nat) : Int × List Edg :=
  (N.branches.take k).foldl (stepB N.nodes br part) ((N.nodes.length : Int), edgesS N.nodes open_ N.switches)
def fEdges (N : Net) (open_ : List ByteArray) (br : ByteArray) (part : Int) : List Edg := (fldB N open_ br part N.branches.length).2
def fPlace (N : Net) (open_ : List ByteArray) (br : ByteArray) (part : Int) : Int := (fldB N open_ br part N.branches.length).1
def setS (zs : List ByteArray) (l : List ByteArray) (src : List Bool) : List Bool := l.foldl (fun s x => s.set (idxT zs x).toNat true) src
def fSrc (N : Net) : List Bool := setS N.nodes (N.stores.map Sto.node) (setS N.nodes (N.gens.map Gen.node) (List.replicate (N.nodes.length + 1) false))
theorem fldB_succ (N : Net) (open_ : List ByteArray) (br : ByteArray) (part : Int) (k : Nat) (hk : k < N.branches.length) : fldB N open_ br part (k + 1) = stepB N.nodes br part (fldB N open_ br part k) N.branches[k] := by
  unfold fldB
  rw [List.take_succ_eq_append_getElem hk, List.foldl_append]; rfl
theorem setS_succ (zs l : List ByteArray) (src : List Bool) (k : Nat) (hk : k < l.length) : setS zs (l.take (k + 1)) src = (setS zs (l.take k) src).set (idxT zs l[k]).toNat true := by
  unfold setS
  rw [List.take_succ_eq_append_getElem hk, List.foldl_append]; rfl
theorem setS_length (zs : List ByteArray) : ∀ (l : List ByteArray) (src : List Bool), (setS zs l src).length = src.length
  | [], _ => rfl
  | x :: l, src => by
    show (setS zs l (src.set _ true)).length = _
    rw [setS_length zs l]; simp
theorem edgesS_succ (zs open_ : List ByteArray) (l : List Swi) (k : Nat) (hk : k < l.length) : edgesS zs open_ (l.take (k + 1)) = edgesS zs open_ (l.take k) ++ (if shutS open_ l[k] = true then [edgS zs l[k]] else []) := by
  unfold edgesS
  rw [List.take_succ_eq_append_getElem hk, List.filter_append, List.map_append]
  by_cases h : shutS open_ l[k] = true
  · simp [h]
  · simp [h]
theorem edgesS_len (zs open_ : List ByteArray) (l : List Swi) : (edgesS zs open_ l).length ≤ l.length := by
  unfold edgesS; rw [List.length_map]; exact List.length_filter_le _ _
theorem fldB_len (N : Net) (open_ : List ByteArray) (br : ByteArray) (part : Int) : ∀ k, k ≤ N.branches.length → (fldB N open_ br part k).2.length ≤ N.switches.length + 2 * k
  | 0, _ => by have := edgesS_len N.nodes open_ N.switches; simpa [fldB] using this
  | k + 1, h => by
    have ih := fldB_len N open_ br part k (by omega)
    rw [fldB_succ N open_ br part k (by omega)]
    unfold stepB
    split <;> simp <;> omega
theorem fldB_place (N : Net) (open_ : List ByteArray) (br : ByteArray) (part : Int) : ∀ k, k ≤ N.branches.length → part ≠ 0 → part ≠ 1000 → (fldB N open_ br part k).1 = N.nodes.length
  | 0, _, _, _ => rfl
  | k + 1, h, h0, h1 => by
    have ih := fldB_place N open_ br part k (by omega) h0 h1
    rw [fldB_succ N open_ br part k (by omega)]
    unfold stepB
    split
    · rename_i hw
      unfold wholeB at hw
      have hn : lst N.branches[k].name ≠ lst br := by simpa [h0, h1] using hw
      simp only
      rw [if_neg hn]; exact ih
    · exact ih
end Go.Proofs.Ytpamgeemmbbkkaa.Pl
namespace Go.Proofs.Ytpamgeemmbbkkaa
open Go.RowKit
section
variable {w w' : World} {base g n c : Nat} {e : TypeId} {l : List Int}
theorem own_int_len (h : w.ownsRow base e 1 (.slice (some ⟨g, 0, none⟩) n c) n (ints l)) : l.length = n := by
  have := h.1; simpa [ints] using this
theorem own_int_cell (h : w.ownsRow base e 1 (.slice (some ⟨g, 0, none⟩) n c) n (ints l)) (k : Nat) (hk : k < n) : w.cell? ⟨g, k, none⟩ = some (.int .i64 (l.getD k 0)) := by
  have hl := own_int_len h
  have := h.cells (g := g) rfl k (.int .i64 (l.getD k 0)) (by
    unfold ints
    rw [List.getElem?_map, List.getElem?_eq_getElem (by omega), List.getD_eq_getElem?_getD, List.getElem?_eq_getElem (by omega)]
    rfl)
  rwa [Srt.addr_add] at this
theorem own_int_set (h : w.ownsRow base e 1 (.slice (some ⟨g, 0, none⟩) n c) n (ints l)) (k : Nat) (x : Int) : (w.setCell ⟨g, k, none⟩ (.int .i64 x)).ownsRow base e 1 (.slice (some ⟨g, 0, none⟩) n c) n (ints (l.set k x)) := by
  have := (h.stored k (.int .i64 x)).1
  unfold ints at this ⊢
  rwa [List.map_set]
theorem own_other {size : Nat} {xs : List Value} (h : w.ownsRow base e size (.slice (some ⟨g, 0, none⟩) n c) n xs) {g' : Nat} (hg : g ≠ g') (j : Nat) (u : Value) : (w.setCell ⟨g', j, none⟩ u).ownsRow base e size (.slice (some ⟨g, 0, none⟩) n c) n xs :=
  h.kept (row := some g') ⟨rfl, rfl, rfl, by simp, fun k _ hk => heap_setCell_other w ⟨g', j, none⟩ k u (fun e => hk (by simp [e]))⟩ (.inr (by simp [Value.ownBlock]; exact hg))
theorem own_kp {size : Nat} {xs : List Value} (h : w.ownsRow base e size (.slice (some ⟨g, 0, none⟩) n c) n xs) {g' : Nat} (hg : g ≠ g') (hk : Srt.Kp g' w w') : w'.ownsRow base e size (.slice (some ⟨g, 0, none⟩) n c) n xs :=
  h.kept hk (.inr (by simp [Value.ownBlock]; exact hg))
theorem Blk.kp {g' : Nat} {t : TypeId} {cs : Array Value} (h : Blk w g t cs) (hk : Srt.Kp g' w w') (hg : g ≠ g') : Blk w' g t cs := (hk.block g h.lt (by simpa using hg)).trans h
theorem below_kp {B : Nat} {a : World} (h : Below B a w) (hk : Srt.Kp g w w') (hB : B ≤ w.heap.size) (hg : B ≤ g) : Below B a w' := h.grown hk hB fun j hj => by injection hj with hj; omega
theorem own_new (w : World) (cs : Array Value) (e : TypeId) (n base : Nat) (hb : base ≤ w.heap.size) (hn : n ≤ maxLen) (h : cs.size = n) (l : List Int) (hl : cs.toList = ints l) (g : Nat) (hg : g = w.heap.size) : (w.alloc (.cells cs e)).ownsRow base e 1 (.slice (some ⟨g, 0, none⟩) n n) n (ints l) := by
  subst hg
  rw [← hl]
  exact World.ownsRow_lit w cs n hb hn (by simpa using h)
end
theorem info_int : (Try.prog.info? 3).map (fun i => (i.zero, i.size, i.bytes)) = some (some (.int .i64 0), 1, 8) := by kernel_rfl
theorem below_drewN_s {B : Nat} {a w : World} (h : Below B a w) (n : Nat) : Below B a (w.drewN n) := ⟨h.os, h.tape, h.output, h.size, h.block⟩
theorem set_fill (l : List Int) (m : Nat) (x : Int) : (l ++ List.replicate (m + 1) 0).set l.length x = (l ++ [x]) ++ List.replicate m 0 := by
  rw [List.set_append_right _ _ (Nat.le_refl _), Nat.sub_self, List.replicate_succ, List.set_cons_zero, List.append_assoc]
  rfl
theorem lt_of_cello {w : World} {b o : Nat} {v : Value} (h : w.cell? ⟨b, o, none⟩ = some v) : b < w.heap.size := by
  rcases Nat.lt_or_ge b w.heap.size with hlt | hge
  · exact hlt
  · unfold World.cell? at h
    rw [Array.getElem?_eq_none hge] at h
    cases h
end Go.Proofs.Ytpamgeemmbbkkaa
