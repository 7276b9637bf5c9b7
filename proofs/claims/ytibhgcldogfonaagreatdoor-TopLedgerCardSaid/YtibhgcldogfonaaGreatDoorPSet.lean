/- ledger.Settle, plain: rounds that bring sums to 0. No program. -/
import Derived.Test.YtibhgcldogfonaaGreatDoorPLed
namespace Go.Proofs.YtibhgcldogfonaaGreatDoor.Pl
def isNeg (n : Int) : Bool := decide (n < 0)
def isPos (n : Int) : Bool := decide (0 < n)
def nz (l : List Int) : Nat := l.countP (fun n => n != 0)
theorem sum_set (l : List Int) (i : Nat) (h : i < l.length) (v : Int) : (l.set i v).sum = l.sum + v - l[i] := by
  induction l generalizing i with
  | nil => simp at h
  | cons a l ih =>
    cases i with
    | zero => simp; omega
    | succ i =>
      simp only [List.set_cons_succ, List.sum_cons, List.getElem_cons_succ]
      have := ih i (by simpa using h)
      omega
theorem sum_pos0 {l : List Int} (h : ∀ x ∈ l, 0 ≤ x) (hs : l.sum = 0) : ∀ x ∈ l, x = 0 := by
  have key : ∀ l : List Int, (∀ x ∈ l, 0 ≤ x) → 0 ≤ l.sum := fun l => by
    induction l with
    | nil => intro _; simp
    | cons a l ih =>
      intro h
      have := ih fun x hx => h x (by simp [hx])
      have := h a (by simp)
      rw [List.sum_cons]
      omega
  induction l with
  | nil => intro x hx; simp at hx
  | cons a l ih =>
    have h1 := key l fun x hx => h x (by simp [hx])
    have h2 := h a (by simp)
    rw [List.sum_cons] at hs
    intro x hx
    rcases List.mem_cons.1 hx with rfl | hx
    · omega
    · exact ih (fun y hy => h y (by simp [hy])) (by omega) x hx
theorem sum_neg0 {l : List Int} (h : ∀ x ∈ l, x ≤ 0) (hs : l.sum = 0) : ∀ x ∈ l, x = 0 := by
  have e : ∀ l : List Int, (l.map fun x => -x).sum = -l.sum := fun l => by
    induction l with
    | nil => rfl
    | cons a l ih => rw [List.map_cons, List.sum_cons, List.sum_cons, ih]; omega
  intro x hx
  have := sum_pos0 (l := l.map fun x => -x) (fun y hy => by obtain ⟨z, hz, rfl⟩ := List.mem_map.1 hy; have := h z hz; omega) (by rw [e]; omega) (-x) (List.mem_map.2 ⟨x, hx, rfl⟩)
  omega
/-- what a round of Settle has reached -/
structure SInv (zs : List (List UInt8)) (ss left : List Int) (out : List LE) : Prop where
  len : left.length = ss.length
  sum : left.sum = 0
  bd : ∀ x ∈ left, -1000000000000 ≤ x ∧ x ≤ 1000000000000
  ok : ∀ x ∈ out, lbad x = 0 ∧ bl x.1 ∈ zs ∧ bl x.2.1 ∈ zs
  cnt : out.length + nz left ≤ ss.length ∧ (nz left = 0 → out.length + 1 ≤ ss.length ∨ out = [])
  fst : out = [] → left = ss
theorem SInv.start {zs : List (List UInt8)} {ss : List Int} (hs : ss.sum = 0) (hb : ∀ x ∈ ss, -1000000000000 ≤ x ∧ x ≤ 1000000000000) : SInv zs ss ss [] :=
  ⟨rfl, hs, hb, fun x hx => absurd hx (by simp), ⟨by have := List.countP_le_length (p := fun n : Int => n != 0) (l := ss); unfold nz; rw [List.length_nil]; omega, fun _ => .inr rfl⟩, fun _ => rfl⟩
theorem nz_one {l : List Int} (h : l.sum = 0) : nz l ≠ 1 := by
  intro h1
  have key : ∀ l : List Int, nz l = 0 → l.sum = 0 := fun l => by
    induction l with
    | nil => intro _; rfl
    | cons a l ih =>
      intro h
      unfold nz at h ih
      rw [List.countP_cons] at h
      rw [List.sum_cons, ih (by omega)]
      by_cases ha : a = 0
      · omega
      · exfalso
        rw [if_pos (by simpa using ha)] at h
        omega
  induction l with
  | nil => simp [nz] at h1
  | cons a l ih =>
    rw [List.sum_cons] at h
    have h2 := h1
    unfold nz at h2
    rw [List.countP_cons] at h2
    by_cases ha : a = 0
    · subst ha
      exact ih (by omega) (by unfold nz; simpa using h2)
    · rw [if_pos (by simpa using ha)] at h2
      have := key l (by unfold nz; omega)
      omega
/-- a round -/
theorem SInv.step {zs : List (List UInt8)} {ss left : List Int} {out : List LE} (h : SInv zs ss left out) (hn : ∀ t ∈ zs, nameB ⟨t.toArray⟩ = true) (hd : zs.Nodup) (hzl : zs.length = ss.length) {i k : Nat} (hi : i < left.length) (hk : k < left.length) (ha : left[i] < 0) (hb : 0 < left[k])
    (n : Int) (hne : n = min (-left[i]) left[k]) :
    SInv zs ss ((left.set i (left[i] + n)).set k (left[k] - n)) (out ++ [(⟨(zs[i]'(by rw [hzl, ← h.len]; exact hi)).toArray⟩, ⟨(zs[k]'(by rw [hzl, ← h.len]; exact hk)).toArray⟩, n)]) ∧ nz ((left.set i (left[i] + n)).set k (left[k] - n)) < nz left := by
  have hik : i ≠ k := fun e => by subst e; omega
  have hiz : i < zs.length := by rw [hzl, ← h.len]; exact hi
  have hkz : k < zs.length := by rw [hzl, ← h.len]; exact hk
  have hbi := h.bd _ (List.getElem_mem hi)
  have hbk := h.bd _ (List.getElem_mem hk)
  have n1 : 1 ≤ n := by omega
  have n2 : n ≤ -left[i] ∧ n ≤ left[k] ∧ (n = -left[i] ∨ n = left[k]) := by omega
  have hk2 : k < (left.set i (left[i] + n)).length := by rw [List.length_set]; exact hk
  have ek : (left.set i (left[i] + n))[k] = left[k] := List.getElem_set_ne hik _
  have hsum : ((left.set i (left[i] + n)).set k (left[k] - n)).sum = 0 := by
    rw [sum_set _ k hk2, ek, sum_set _ i hi, h.sum]
    omega
  have hnz : nz ((left.set i (left[i] + n)).set k (left[k] - n)) + 1 ≤ nz left := by
    unfold nz
    have c1 := List.countP_set (p := fun n : Int => n != 0) (l := left.set i (left[i] + n)) (i := k) (a := left[k] - n) hk2
    have c2 := List.countP_set (p := fun n : Int => n != 0) (l := left) (i := i) (a := left[i] + n) hi
    have p1 : (fun n : Int => n != 0) left[i] = true := by simp; omega
    have p2 : (fun n : Int => n != 0) left[k] = true := by simp; omega
    rw [ek, if_pos p2] at c1
    rw [if_pos p1] at c2
    have two : 2 ≤ left.countP (fun n : Int => n != 0) := by
      have e1 : 1 ≤ (left.set i 0).countP (fun n : Int => n != 0) := by
        rw [List.one_le_countP_iff]
        exact ⟨left[k], by rw [← List.getElem_set_ne hik (a := 0) (l := left) (by simpa using hk)]; exact List.getElem_mem _, by simp; omega⟩
      have c3 := List.countP_set (p := fun n : Int => n != 0) (l := left) (i := i) (a := 0) hi
      rw [if_pos p1, if_neg (by simp)] at c3
      omega
    rw [c1, c2]
    rcases n2.2.2 with e | e
    · rw [if_neg (by simp; omega)]
      split <;> omega
    · rw [if_neg (c := (left[k] - n != 0) = true) (by simp; omega)]
      split <;> omega
  refine ⟨⟨by rw [List.length_set, List.length_set]; exact h.len, hsum, fun x hx => ?_, fun x hx => ?_, ?_, fun e => absurd e (by simp)⟩, by omega⟩
  · rcases List.mem_or_eq_of_mem_set hx with hx | rfl
    · rcases List.mem_or_eq_of_mem_set hx with hx | rfl
      · exact h.bd x hx
      · omega
    · omega
  · rcases List.mem_append.1 hx with hx | hx
    · exact h.ok x hx
    · rw [List.mem_singleton.1 hx]
      refine ⟨lbad_ok.2 ⟨hn _ (List.getElem_mem hiz), hn _ (List.getElem_mem hkz), fun e => ?_, n1, by show n ≤ _; omega⟩, by rw [bl_mk]; exact List.getElem_mem _, by rw [bl_mk]; exact List.getElem_mem _⟩
      have e2 : zs[i] = zs[k] := by have := congrArg bl e; rwa [bl_mk, bl_mk] at this
      rcases Nat.lt_or_gt_of_ne hik with hlt | hlt
      · exact List.pairwise_iff_getElem.1 hd i k hiz hkz hlt e2
      · exact List.pairwise_iff_getElem.1 hd k i hkz hiz hlt e2.symm
  · have h1 := h.cnt.1
    have h2 := nz_one hsum
    rw [List.length_append, List.length_singleton]
    have h3 := nz_one h.sum
    refine ⟨by omega, fun h0 => .inl ?_⟩
    have : 2 ≤ nz left := by omega
    omega
/-- the end -/
theorem SInv.done {zs : List (List UInt8)} {ss left : List Int} {out : List LE} (h : SInv zs ss left out) (h64 : zs.length ≤ 64) (hzl : zs.length = ss.length) (he : (∀ x ∈ left, isNeg x = false) ∨ ∀ x ∈ left, isPos x = false) :
    lcheck out = 0 ∧ (∀ x ∈ left, x = 0) := by
  have hz : ∀ x ∈ left, x = 0 := by
    rcases he with he | he
    · exact sum_pos0 (fun x hx => by have := he x hx; unfold isNeg at this; rw [decide_eq_false_iff_not] at this; omega) h.sum
    · exact sum_neg0 (fun x hx => by have := he x hx; unfold isPos at this; rw [decide_eq_false_iff_not] at this; omega) h.sum
  refine ⟨lcheck_ok.2 ⟨by have := h.cnt.1; omega, fun x hx => (h.ok x hx).1, ?_⟩, hz⟩
  have : (accL out).length ≤ zs.length := nodup_len (accL_nodup out) fun s hs => by
    obtain ⟨x, hx, e⟩ := nmsL_mem.1 (accL_mem.1 hs)
    rcases e with rfl | rfl
    · exact (h.ok x hx).2.1
    · exact (h.ok x hx).2.2
  omega
end Go.Proofs.YtibhgcldogfonaaGreatDoor.Pl
