/- Plain laws for settle.round: amounts rounded down, the greatest fractions raised; nothing of the program stands here. Plain laws for SettleKept and SettleShares: texts of small numbers, the literal examples; nothing of the program stands here. -/
import Derived.Test.YtgdbodnfibiafaaGreatDoorPSpread
import Derived.Test.YtgdbodnfibiafaaGreatDoorPDec
namespace Go.Proofs.YtgdbodnfibiafaaGreatDoor.Pl
def sumR : List Rat → Rat
  | [] => 0
  | x :: l => x + sumR l
theorem sumR_app (a b : List Rat) : sumR (a ++ b) = sumR a + sumR b := by
  induction a with
  | nil => rw [List.nil_append, sumR]; grind
  | cons x a ih => rw [List.cons_append, sumR, sumR, ih]; grind
theorem sumR_snoc (a : List Rat) (x : Rat) : sumR (a ++ [x]) = sumR a + x := by rw [sumR_app, sumR, sumR]; grind
theorem sumR_perm {l l' : List Rat} (h : l.Perm l') : sumR l = sumR l' := by
  induction h with
  | nil => rfl
  | cons x _ ih => rw [sumR, sumR, ih]
  | swap x y l => rw [sumR, sumR, sumR, sumR]; grind
  | trans _ _ i1 i2 => rw [i1, i2]
theorem sumR_le {l : List Rat} {hi : Rat} (h : ∀ x ∈ l, x ≤ hi) : sumR l ≤ hi * (l.length : Int) := by
  induction l with
  | nil => rw [sumR, List.length_nil]; simp
  | cons x l ih =>
    have h1 := h x (by simp)
    have h2 := ih fun y hy => h y (by simp [hy])
    rw [sumR, List.length_cons, Int.natCast_add, Rat.intCast_add]
    generalize ((l.length : Int) : Rat) = t at *
    rw [show (((1 : Nat) : Int) : Rat) = 1 from rfl]
    grind
theorem sumR_nonneg {l : List Rat} (h : ∀ x ∈ l, 0 ≤ x) : 0 ≤ sumR l := by
  induction l with
  | nil => rw [sumR]; exact Rat.le_refl
  | cons x l ih =>
    have h1 := h x (by simp)
    have h2 := ih fun y hy => h y (by simp [hy])
    rw [sumR]
    grind
def fr (q : Rat) : Rat := q - (q.floor : Rat)
theorem fr_bd (q : Rat) : 0 ≤ fr q ∧ fr q < 1 := by
  have h1 := Rat.floor_le q
  have h2 := @Rat.lt_floor q
  unfold fr
  grind
theorem sumR_fr (l : List Rat) : sumR (l.map fr) = sumR l - (sumI (l.map Rat.floor) : Rat) := by
  induction l with
  | nil => rw [List.map_nil, List.map_nil, sumR, sumI]; decide +kernel
  | cons x l ih =>
    rw [List.map_cons, List.map_cons, sumR, sumR, sumI, ih, Rat.intCast_add]
    unfold fr
    grind
/-- the places in the order of their fractions, greatest first -/
structure Desc (l : List Rat) (os : List Int) : Prop where
  perm : os.Perm ((List.range l.length).map Int.ofNat)
  down : ∀ (i j : Nat), i < j → j < l.length → fr (l.getD (os.getD j 0).toNat 0) ≤ fr (l.getD (os.getD i 0).toNat 0)
/-- equal fractions stay in their order -/
def Stab (l : List Rat) (os : List Int) : Prop := ∀ (i j : Nat), i < j → j < l.length → fr (l.getD (os.getD j 0).toNat 0) = fr (l.getD (os.getD i 0).toNat 0) → os.getD i 0 < os.getD j 0
section
variable {l : List Rat} {os : List Int}
theorem Desc.mem (h : Desc l os) : ∀ i ∈ os, 0 ≤ i ∧ i < l.length := by
  intro i hi
  have := h.perm.mem_iff.1 hi
  rw [List.mem_map] at this
  obtain ⟨k, hk, rfl⟩ := this
  rw [List.mem_range] at hk
  exact ⟨Int.natCast_nonneg _, by show (k : Int) < _; omega⟩
theorem Desc.all (h : Desc l os) {k : Nat} (hk : k < l.length) : (k : Int) ∈ os := h.perm.mem_iff.2 (List.mem_map.2 ⟨k, List.mem_range.2 hk, rfl⟩)
theorem Desc.len (h : Desc l os) : os.length = l.length := by
  have := h.perm.length_eq; simpa using this
theorem Desc.nodup (h : Desc l os) : os.Nodup := by
  rw [h.perm.nodup_iff, List.nodup_iff_pairwise_ne, List.pairwise_map]
  exact (List.nodup_range (n := l.length)).imp fun hab e => hab (Int.ofNat.inj e)
theorem range_mapR (l : List Rat) (f : Rat → Rat) : (List.range l.length).map (fun k => f (l.getD k 0)) = l.map f := by
  apply List.ext_getElem
  · simp
  · intro k h1 h2
    have hk : k < l.length := by simpa using h2
    simp [hk]
theorem Desc.sum (h : Desc l os) : sumR (os.map fun i => fr (l.getD i.toNat 0)) = sumR (l.map fr) := by
  rw [sumR_perm (h.perm.map _), List.map_map]
  congr 1
  exact range_mapR l fr
/-- the sum of the fractions, where it is an integer -/
theorem fr_sum (hd : (sumR (l.map fr)).den = 1) : sumR (l.map fr) = (((sumR (l.map fr)).num.toNat : Int) : Rat) ∧ (sumR (l.map fr)).num.toNat ≤ l.length ∧ (sumR (l.map fr)).num = ((sumR (l.map fr)).num.toNat : Int) := by
  have h0 : 0 ≤ sumR (l.map fr) := sumR_nonneg fun x hx => by
    obtain ⟨y, _, rfl⟩ := List.mem_map.1 hx
    exact (fr_bd y).1
  have h1 : sumR (l.map fr) ≤ 1 * ((l.map fr).length : Int) := sumR_le fun x hx => by
    obtain ⟨y, _, rfl⟩ := List.mem_map.1 hx
    exact Rat.le_of_lt (fr_bd y).2
  rw [List.length_map] at h1
  generalize sumR (l.map fr) = s at *
  have hs : s = (s.num : Rat) := Rat.ext (by simp) (by simp [hd])
  have h2 : 0 ≤ s.num := Rat.num_nonneg.2 h0
  have h3 : s.num ≤ l.length := by
    rw [hs] at h1
    have : (s.num : Rat) ≤ ((l.length : Int) : Rat) := by grind
    exact Rat.intCast_le_intCast.1 this
  have h4 : (s.num.toNat : Int) = s.num := Int.toNat_of_nonneg h2
  exact ⟨by rw [h4]; exact hs, by omega, h4.symm⟩
/-- the amounts in whole units -/
def bal (l : List Rat) (os : List Int) : List Int := incs (l.map Rat.floor) (os.take (sumR (l.map fr)).num.toNat)
theorem bal_len (l : List Rat) (os : List Int) : (bal l os).length = l.length := by unfold bal; rw [incs_len, List.length_map]
theorem bal_at (h : Desc l os) (n : Nat) {k : Nat} (hk : k < l.length) : (incs (l.map Rat.floor) (os.take n)).getD k 0 = l[k].floor + (if (k : Int) ∈ os.take n then 1 else 0) := by
  rw [incs_at _ _ (h.nodup.sublist (List.take_sublist n os)) (fun i hi => by rw [List.length_map]; exact h.mem i (List.mem_of_mem_take hi)) k (by simpa using hk)]
  rw [List.getD_eq_getElem?_getD, List.getElem?_eq_getElem (by simpa using hk)]
  simp
theorem getD_at {α : Type} {l : List α} {k : Nat} (hk : k < l.length) (d : α) : l.getD k d = l[k] := by rw [List.getD_eq_getElem?_getD, List.getElem?_eq_getElem hk]; rfl
/-- whatever is raised has a fraction -/
theorem raised (h : Desc l os) (hd : (sumR (l.map fr)).den = 1) {k : Nat} (hk : k < l.length) (hm : (k : Int) ∈ os.take (sumR (l.map fr)).num.toNat) : 0 < fr l[k] := by
  obtain ⟨hs, hn, _⟩ := fr_sum hd
  generalize (sumR (l.map fr)).num.toNat = n at *
  rcases (by grind : (0 : Rat) < fr l[k] ∨ fr l[k] ≤ 0) with h1 | h1
  · exact h1
  exfalso
  obtain ⟨j, hj, he⟩ := List.getElem_of_mem hm
  rw [List.length_take] at hj
  rw [List.getElem_take] at he
  have hj1 : j < n := by omega
  have hj2 : j < l.length := by omega
  have e1 : os.map (fun i => fr (l.getD i.toNat 0)) = (os.take j).map (fun i => fr (l.getD i.toNat 0)) ++ (os.drop j).map (fun i => fr (l.getD i.toNat 0)) := by rw [← List.map_append, List.take_append_drop]
  have e2 := h.sum
  rw [e1, sumR_app, hs] at e2
  have u1 := sumR_le (l := (os.take j).map (fun i => fr (l.getD i.toNat 0))) (hi := 1) fun x hx => by
    obtain ⟨y, _, rfl⟩ := List.mem_map.1 hx
    exact Rat.le_of_lt (fr_bd _).2
  have u2 := sumR_le (l := (os.drop j).map (fun i => fr (l.getD i.toNat 0))) (hi := 0) fun x hx => by
    obtain ⟨y, hy, rfl⟩ := List.mem_map.1 hx
    obtain ⟨t, ht, rfl⟩ := List.getElem_of_mem hy
    rw [List.length_drop] at ht
    rw [List.getElem_drop]
    have hl := h.len
    have ek : fr (l.getD (os.getD j 0).toNat 0) = fr l[k] := by
      rw [getD_at (by omega : j < os.length), he, getD_at (by simpa using hk)]
      simp
    rcases Nat.eq_zero_or_pos t with h0 | h0
    · subst h0
      rw [getD_at (by omega : j < os.length)] at ek
      rw [show fr (l.getD (os[j + 0]).toNat 0) = fr l[k] from ek]
      exact h1
    · have := h.down j (j + t) (by omega) (by omega)
      rw [ek, getD_at (by omega : j + t < os.length)] at this
      exact Rat.le_trans this h1
  rw [List.length_map, List.length_take, Nat.min_eq_left (by have := h.len; omega)] at u1
  have hjn : ((j : Int) : Rat) < ((n : Int) : Rat) := Rat.intCast_lt_intCast.2 (by omega)
  generalize sumR ((os.take j).map (fun i => fr (l.getD i.toNat 0))) = a at *
  generalize sumR ((os.drop j).map (fun i => fr (l.getD i.toNat 0))) = b at *
  generalize ((j : Int) : Rat) = p at *
  generalize ((n : Int) : Rat) = q at *
  grind
/-- the integers have the sum of the amounts, and differ from them by less than 1 -/
theorem bal_law (h : Desc l os) (hd : (sumR (l.map fr)).den = 1) : ((sumI (bal l os) : Int) : Rat) = sumR l ∧ ∀ (k : Nat) (hk : k < l.length), -1 < (((bal l os).getD k 0 : Int) : Rat) - l[k] ∧ (((bal l os).getD k 0 : Int) : Rat) - l[k] < 1 := by
  obtain ⟨hs, hn, _⟩ := fr_sum hd
  constructor
  · unfold bal
    rw [incs_sum _ _ (fun i hi => by rw [List.length_map]; exact h.mem i (List.mem_of_mem_take hi)), List.length_take, Nat.min_eq_left (by have := h.len; omega), Rat.intCast_add]
    rw [← hs, sumR_fr]
    grind
  · intro k hk
    have hr := raised h hd hk
    unfold bal
    rw [bal_at h _ hk, Rat.intCast_add]
    have hf := fr_bd l[k]
    unfold fr at hf hr
    split
    · rename_i hm
      have := hr hm
      rw [show ((1 : Int) : Rat) = 1 from rfl]
      generalize ((l[k].floor : Int) : Rat) = t at *
      grind
    · rw [show ((0 : Int) : Rat) = 0 from rfl]
      generalize ((l[k].floor : Int) : Rat) = t at *
      grind
theorem bal_bd (h : Desc l os) (n : Nat) {k : Nat} (hk : k < l.length) {B : Int} (hb : ∀ x ∈ l, -B ≤ x.floor ∧ x.floor ≤ B) : -B ≤ (incs (l.map Rat.floor) (os.take n)).getD k 0 ∧ (incs (l.map Rat.floor) (os.take n)).getD k 0 ≤ B + 1 := by
  rw [bal_at h n hk]
  have := hb _ (List.getElem_mem hk)
  split <;> omega
/-- where a place stands in the order -/
theorem Desc.pos (h : Desc l os) {k : Nat} (hk : k < l.length) : ∃ j, j < l.length ∧ os.getD j 0 = (k : Int) ∧ ∀ n, (k : Int) ∈ os.take n ↔ j < n := by
  obtain ⟨j, hj, he⟩ := List.getElem_of_mem (h.all hk)
  refine ⟨j, by rw [← h.len]; exact hj, by rw [getD_at hj]; exact he, fun n => ⟨fun hm => ?_, fun hm => ?_⟩⟩
  · obtain ⟨i, hi, e⟩ := List.getElem_of_mem hm
    rw [List.length_take] at hi
    rw [List.getElem_take] at e
    have : i = j := (List.getElem_inj h.nodup).1 (e.trans he.symm)
    omega
  · rw [← he]
    exact List.mem_of_getElem? (i := j) (by rw [List.getElem?_take_of_lt hm, List.getElem?_eq_getElem hj])
/-- a greater amount never gets less -/
theorem bal_mono (h : Desc l os) {k i : Nat} (hk : k < l.length) (hi : i < l.length) (hlt : l[k] < l[i]) : (bal l os).getD k 0 ≤ (bal l os).getD i 0 := by
  unfold bal
  generalize (sumR (l.map fr)).num.toNat = n
  rw [bal_at h n hk, bal_at h n hi]
  have hf : l[k].floor ≤ l[i].floor := Rat.le_floor_iff.2 (Rat.le_trans (Rat.floor_le _) (Rat.le_of_lt hlt))
  obtain ⟨a, ha, ea, ma⟩ := h.pos hk
  obtain ⟨b, hb, eb, mb⟩ := h.pos hi
  rcases Int.lt_or_eq_of_le hf with h1 | h1
  · split <;> split <;> omega
  · have h2 : fr l[k] < fr l[i] := by unfold fr; rw [h1]; grind
    have h3 : ¬ a < b := fun hab => by
      have := h.down a b hab hb
      rw [ea, eb] at this
      simp only [Int.toNat_natCast] at this
      rw [getD_at hk, getD_at hi] at this
      grind
    rw [h1]
    simp only [ma, mb]
    split <;> split <;> omega
/-- of equal amounts the first never gets less -/
theorem bal_same (h : Desc l os) (hs : Stab l os) {k i : Nat} (hk : k < l.length) (hi : i < l.length) (hki : k < i) (he : l[k] = l[i]) : (bal l os).getD i 0 ≤ (bal l os).getD k 0 := by
  unfold bal
  generalize (sumR (l.map fr)).num.toNat = n
  rw [bal_at h n hk, bal_at h n hi, he]
  obtain ⟨a, ha, ea, ma⟩ := h.pos hk
  obtain ⟨b, hb, eb, mb⟩ := h.pos hi
  have h3 : ¬ b < a := fun hab => by
    have := hs b a hab ha
    rw [ea, eb] at this
    simp only [Int.toNat_natCast] at this
    rw [getD_at hk, getD_at hi, he] at this
    have := this rfl
    omega
  simp only [ma, mb]
  split <;> split <;> omega
end
end Go.Proofs.YtgdbodnfibiafaaGreatDoor.Pl
namespace Go.Proofs.YtgdbodnfibiafaaGreatDoor.Pl
theorem limK_mono {a b : Nat} (h : a ≤ b) : limK a ≤ limK b := Nat.pow_le_pow_right (by decide) h
theorem small_lim {n : Nat} (h : n ≤ 10000000000000000) : n < lim := by
  have e : limK 17 ≤ lim := limK_mono (by decide)
  have e2 : limK 17 = 100000000000000000 := by decide
  omega
theorem fits_small {v : Int} (h : v.natAbs ≤ 10000000000000000) : Fits (v : Rat) := ⟨by rw [Rat.num_intCast]; exact small_lim h, by rw [Rat.den_intCast]; exact one_lt_lim⟩
theorem txt_int (v : Int) : ratTxt (v : Rat) = Go.Lib.itoa v := by
  unfold ratTxt
  rw [Rat.num_intCast, Rat.den_intCast, if_pos rfl, List.append_nil]
theorem txt_0 : ratTxt 0 = [48] := by
  have := txt_int ((0 : Nat) : Int)
  rw [itoa_nat, dec_zero] at this
  exact this
theorem txt_1 : ratTxt 1 = [49] := by
  have := txt_int ((1 : Nat) : Int)
  rw [itoa_nat, dec_1] at this
  exact this
theorem txt_m1 : ratTxt (-1) = [45, 49] := by
  have h := txt_int (-1)
  rcases itoa_cases (-1) with ⟨_, e⟩ | ⟨h0, _⟩
  · rw [e, show (-1 : Int).natAbs = 1 from rfl, dec_1] at h
    exact h
  · exact absurd h0 (by decide)
/-- the first example -/
def lit3 : List Rat := [mkRat 1 2, mkRat 1 3, mkRat 1 6]
theorem txt_frac {d : Nat} (hd : d < 10) (q : Rat) (h1 : q.num = 1) (h2 : q.den = d) (h3 : d ≠ 1) : ratTxt q = [49, 47, (48 + d).toUInt8] := by
  unfold ratTxt
  rw [h1, h2, if_neg h3, show (1 : Int) = ((1 : Nat) : Int) from rfl, itoa_nat, dec_1, dec_one hd]
  rfl
theorem lit3_txt : lit3.map ratTxt = [[49, 47, 50], [49, 47, 51], [49, 47, 54]] := by
  unfold lit3
  rw [List.map_cons, List.map_cons, List.map_cons, List.map_nil, txt_frac (d := 2) (by decide) _ (by decide +kernel) (by decide +kernel) (by decide), txt_frac (d := 3) (by decide) _ (by decide +kernel) (by decide +kernel) (by decide), txt_frac (d := 6) (by decide) _ (by decide +kernel) (by decide +kernel) (by decide)]
  rfl
theorem lit3_fits : ∀ q ∈ lit3, Fits q := by
  intro q hq
  unfold lit3 at hq
  simp only [List.mem_cons, List.not_mem_nil, or_false] at hq
  rcases hq with rfl | rfl | rfl <;> exact ⟨small_lim (by decide +kernel), small_lim (by decide +kernel)⟩
theorem lit3_sum : (sumR (lit3.map fr)).den = 1 ∧ (sumR (lit3.map fr)).num = 1 := by decide +kernel
theorem lit3_floor : ∀ q ∈ lit3, -1000000000000000 ≤ q.floor ∧ q.floor ≤ 1000000000000000 := by decide +kernel
theorem lit3_bal {os : List Int} (h : Desc lit3 os) : bal lit3 os = [1, 0, 0] := by
  have hl : os.length = 3 := h.len
  obtain ⟨a, b, c, rfl⟩ : ∃ a b c, os = [a, b, c] := by
    match os, hl with
    | [a, b, c], _ => exact ⟨a, b, c, rfl⟩
  obtain ⟨j, hj, ej, _⟩ := h.pos (k := 0) (by decide)
  have ha := h.mem a (by simp)
  have ha2 : a < 3 := ha.2
  have h0 : a = 0 := by
    rcases Nat.eq_zero_or_pos j with e | e
    · subst e; exact ej
    · have := h.down 0 j e hj
      rw [ej] at this
      have hc : a = 0 ∨ a = 1 ∨ a = 2 := by omega
      rcases hc with rfl | rfl | rfl
      · rfl
      · exact absurd (show fr (mkRat 1 2) ≤ fr (mkRat 1 3) from this) (by decide +kernel)
      · exact absurd (show fr (mkRat 1 2) ≤ fr (mkRat 1 6) from this) (by decide +kernel)
  subst h0
  unfold bal
  rw [lit3_sum.2]
  rfl
end Go.Proofs.YtgdbodnfibiafaaGreatDoor.Pl
