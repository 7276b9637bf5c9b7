/- strings.Cut, TrimPrefix, HasPrefix, strconv.ParseUint and FormatUint in the words of decimal texts. Condition: the library's tables lie as they are laid (LV). -/
import Derived.Test.YtflfbbdapbjaaaaDoorShLg
import Derived.BigQuiet
import Derived.Lib.AtoiErrMem
namespace Go.Proofs.YtflfbbdapbjaaaaDoor
open Go.RowKit
/-- the library's variables that the road of numbers reads -/
structure LV (w : World) : Prop where
  tab : Lib.TabIs Tryd.prog w "internal/strconv.uint64pow10" .u64 Lib.pow10Tab
theorem LV.go {w w' : World} (h : LV w) (hb : Below w.heap.size w w') : LV w' := ⟨Lib.tabBelow_of_tabIs h.tab _ hb⟩
/-- a text as a value -/
abbrev tx (l : List UInt8) : Value := .string ⟨l.toArray⟩
theorem tx_data (s : ByteArray) : (.string s : Value) = tx s.data.toList := rfl
theorem tx_app (a b : List UInt8) : (⟨a.toArray⟩ : ByteArray) ++ ⟨b.toArray⟩ = ⟨(a ++ b).toArray⟩ := by
  have h : ((⟨a.toArray⟩ : ByteArray) ++ ⟨b.toArray⟩).data = (⟨(a ++ b).toArray⟩ : ByteArray).data := by simp [ByteArray.data_append]
  cases hx : ((⟨a.toArray⟩ : ByteArray) ++ ⟨b.toArray⟩) with
  | mk d => rw [hx] at h; simp only at h; rw [h]
theorem tx_size (l : List UInt8) : (⟨l.toArray⟩ : ByteArray).size = l.length := by simp [ByteArray.size]
theorem below_growL (B : Nat) (w : World) (k : Nat) (os : Array Obj) (hB : B ≤ w.heap.size) : Below B w (Go.Sort.grow (w.drewN k) os) :=
  ⟨rfl, rfl, rfl, by simp [Go.Sort.grow], fun i hi => by
    have : i < (w.drewN k).heap.size := by show i < w.heap.size; omega
    exact Go.Sort.heap_grow_old _ _ this⟩
theorem ixb_miss (c : UInt8) : ∀ (p : List UInt8), c ∉ p → Lib.indexByte p c = -1
  | [], _ => rfl
  | b :: p, h => by
    have hb : ¬ b = c := fun e => h (by rw [e]; simp)
    have ih := ixb_miss c p fun e => h (by simp [e])
    simp [Lib.indexByte, hb, ih]
theorem ixb_one (c : UInt8) (q : List UInt8) : ∀ (p : List UInt8), c ∉ p → Lib.indexByte (p ++ c :: q) c = p.length
  | [], _ => by simp [Lib.indexByte]
  | b :: p, h => by
    have hb : ¬ b = c := fun e => h (by rw [e]; simp)
    have ih := ixb_one c q p fun e => h (by simp [e])
    rw [List.cons_append]
    simp [Lib.indexByte, hb, ih]
    try omega
theorem idx1_any (s : List UInt8) (c : UInt8) (w : World) : Calls Tryd.prog 48 #[tx s, .string ⟨#[c]⟩] w fun e w' => e = .returned (.int .i64 (Lib.indexByte s c)) ∧ w' = w := Any.stringslite_Index_one { cutL with } ⟨s.toArray⟩ c w
theorem tx_from (l : List UInt8) (m : Int) (k : Nat) (hm : m = k) (hk : k ≤ l.length) (W : World) : (Instr.slice 9 (.string ⟨l.toArray⟩) (some (.int .i64 m)) none none).run Tryd.prog W = .ok (.string ⟨(l.drop k).toArray⟩) W := by
  subst hm
  rw [run_slice_string_l W 9 ⟨l.toArray⟩ Tryd.underlying9 .i64 _ (by omega) (by rw [tx_size]; omega)]
  have e : ((⟨l.toArray⟩ : ByteArray).extract ((k : Int).toNat) (⟨l.toArray⟩ : ByteArray).size).data.toList = l.drop k := by
    rw [Go.Lib.extract_to_end]
    simp
  rw [← e]
theorem tx_upto (l : List UInt8) (m : Int) (k : Nat) (hm : m = k) (hk : k ≤ l.length) (W : World) : (Instr.slice 9 (.string ⟨l.toArray⟩) none (some (.int .i64 m)) none).run Tryd.prog W = .ok (.string ⟨(l.take k).toArray⟩) W := by
  subst hm
  rw [run_slice_string_h W 9 ⟨l.toArray⟩ Tryd.underlying9 .i64 _ (by omega) (by rw [tx_size]; omega)]
  have e : ((⟨l.toArray⟩ : ByteArray).extract 0 ((k : Int).toNat)).data.toList = l.take k := by
    simp [ByteArray.extract, ByteArray.copySlice]
  rw [← e]
set_option maxRecDepth 100000 in
theorem cut0_any (s : List UInt8) (c : UInt8) (hs : s.length ≤ 9223372036854775807) (w : World) :
    Calls Tryd.prog 34 #[tx s, .string ⟨#[c]⟩] w fun e w' => e = .returned (.tuple #[tx (Lib.cut s [c]).1, tx (Lib.cut s [c]).2.1, .bool (Lib.cut s [c]).2.2]) ∧ Below w.heap.size w w' := by
  have HI := Lib.hid (idx1_any s c w)
  rcases Pl.cutR_cases s c with ⟨h, e⟩ | ⟨p, q, hp, hl, e⟩
  · rw [e]
    rw [ixb_miss c s h] at HI
    clear h e
    go_enter Tryd.func34, Tryd.ntmps34
    go_wp2_with fail
    refine HI.out.mono ?_
    rintro e w' ⟨rfl, rfl⟩
    go_wp2_with fail
    go_ret3
    exact ⟨rfl, Below.refl _ _⟩
  · rw [e]
    have hi : Lib.indexByte s c = (p.length : Int) := by rw [hl]; exact ixb_one c q p hp
    rw [hi] at HI
    obtain ⟨k, hk⟩ : ∃ k : Nat, k = p.length := ⟨_, rfl⟩
    rw [← hk] at HI
    have hks : k + 1 ≤ s.length := by rw [hk, hl]; simp
    have h1 := fun W => tx_upto s (k : Int) k rfl (by omega) W
    have h2 := fun W => tx_from s ((k : Int) + 1) (k + 1) (by omega) hks W
    have e1 : s.take k = p := by rw [hk, hl]; simp
    have e2 : s.drop (k + 1) = q := by rw [hk, hl, show p ++ c :: q = (p ++ [c]) ++ q by simp]; exact List.drop_left' (by simp)
    rw [e1] at h1
    rw [e2] at h2
    have wk : IntKind.i64.wrap ((k : Int) + 1) = (k : Int) + 1 := IntWalk.i64_in _ (by omega)
    have hsz : ((⟨#[c]⟩ : ByteArray).size : Int) = 1 := rfl
    clear hi hk hl hp e e1 e2
    go_enter Tryd.func34, Tryd.ntmps34
    go_wp2_with fail
    refine HI.out.mono ?_
    rintro e w' ⟨rfl, rfl⟩
    clear HI
    go_wp2_with fail
    go_quiet (fail)
    go_wp2_with fail
    go_ret3
    exact ⟨rfl, ⟨rfl, rfl, rfl, Nat.le_refl _, fun _ _ => rfl⟩⟩
theorem cutl_any (s : List UInt8) (c : UInt8) (hs : s.length ≤ 9223372036854775807) (w : World) :
    Calls Tryd.prog 20 #[tx s, .string ⟨#[c]⟩] w fun e w' => e = .returned (.tuple #[tx (Lib.cut s [c]).1, tx (Lib.cut s [c]).2.1, .bool (Lib.cut s [c]).2.2]) ∧ Below w.heap.size w w' := by
  have HI := Lib.hid (cut0_any s c hs w)
  generalize Lib.cut s [c] = r at *
  obtain ⟨p, q, b⟩ := r
  clear hs
  go_enter Tryd.func20, Tryd.ntmps20
  go_wp2_with fail
  refine HI.out.mono ?_
  rintro e w' ⟨rfl, hb⟩
  have HB := Lib.hid hb
  clear hb HI
  go_wp2_with fail
  go_ret3
  exact ⟨rfl, HB.out⟩
theorem pre_minus (s : List UInt8) : Lib.hasPrefix s [45] = decide (s.head? = some 45) := by
  cases s with
  | nil => rfl
  | cons c s =>
    unfold Lib.hasPrefix
    by_cases h : c = 45
    · subst h; simp [List.isPrefixOf]
    · simp [List.isPrefixOf, h, Ne.symm h]
theorem trim_minus (s : List UInt8) : Lib.trimPrefix s [45] = Pl.trimM s := by
  unfold Lib.trimPrefix Pl.trimM
  rw [pre_minus]
  cases s with
  | nil => simp
  | cons c s => simp
theorem trim_any (s : List UInt8) (w : World) : Calls Tryd.prog 30 #[tx s, .string ⟨#[45]⟩] w fun e w' => e = .returned (tx (Pl.trimM s)) ∧ w' = w := by
  have hh := Any.strings_TrimPrefix { trimL with } ⟨s.toArray⟩ ⟨#[45]⟩ w
  change Calls Tryd.prog 30 _ _ _ at hh
  refine hh.mono ?_
  rintro e w' ⟨rfl, rfl⟩
  refine ⟨?_, rfl⟩
  show Ending.returned (tx (Lib.trimPrefix s [45])) = _
  rw [trim_minus]
theorem pref_any (s : List UInt8) (w : World) : Calls Tryd.prog 35 #[tx s, .string ⟨#[45]⟩] w fun e w' => e = .returned (.bool (decide (s.head? = some 45))) ∧ w' = w := by
  have hh := Any.strings_HasPrefix { prefL with } ⟨s.toArray⟩ ⟨#[45]⟩ w
  change Calls Tryd.prog 35 _ _ _ at hh
  refine hh.mono ?_
  rintro e w' ⟨rfl, rfl⟩
  refine ⟨?_, rfl⟩
  show Ending.returned (.bool (Lib.hasPrefix s [45])) = _
  rw [pre_minus]
theorem parse_m (M : Nat) : ∀ (l : List UInt8) (acc : Nat), (∀ c ∈ l, Pl.Dg c) → acc * 10 ^ l.length + Pl.natOf l ≤ M → M < 1844674407370955162 → Lib.parseUintM M acc l = .ok (acc * 10 ^ l.length + Pl.natOf l)
  | [], acc, _, _, _ => by simp [Lib.parseUintM, Pl.natOf]
  | c :: r, acc, hd, hM, hb => by
    have hc := hd c (by simp)
    have hr := fun x hx => hd x (List.mem_cons_of_mem c hx)
    unfold Pl.Dg at hc
    have e1 : Pl.natOf (c :: r) = (c.toNat - 48) * 10 ^ r.length + Pl.natOf r := by
      have := Pl.natOf_append [c] r
      rw [List.singleton_append] at this
      rw [this]
      congr 1
      show (10 * 0 + (c.toNat - 48)) * _ = _
      rw [Nat.mul_zero, Nat.zero_add]
    have e2 : acc * 10 ^ (c :: r).length + Pl.natOf (c :: r) = (acc * 10 + (c.toNat - 48)) * 10 ^ r.length + Pl.natOf r := by
      rw [e1, List.length_cons, Nat.pow_succ, Nat.add_mul, Nat.mul_comm (10 ^ r.length) 10, ← Nat.mul_assoc]
      omega
    rw [e2] at hM ⊢
    have hp : 1 ≤ 10 ^ r.length := Nat.pow_pos (by omega)
    have h1 : acc * 10 + (c.toNat - 48) ≤ (acc * 10 + (c.toNat - 48)) * 10 ^ r.length := Nat.le_mul_of_pos_right _ hp
    rw [Lib.parseUintM, if_pos hc, if_neg (by omega), if_neg (by omega)]
    exact parse_m M r _ hr hM hb
theorem puint_any (l : List UInt8) (hl : l ≠ []) (hd : ∀ c ∈ l, Pl.Dg c) (h9 : l.length ≤ 9) (w : World) :
    Calls Tryd.prog 36 #[tx l, .int .i64 10, .int .i64 32] w fun e w' => e = .returned (.tuple #[.int .u64 (Pl.natOf l : Int), .nilIface]) ∧ Below w.heap.size w w' := by
  have hlt := Pl.natOf_lt hd
  have h10 : 10 ^ l.length ≤ 10 ^ 9 := Nat.pow_le_pow_right (by omega) h9
  have hok : Lib.parseUintB 32 (⟨l.toArray⟩ : ByteArray).data.toList = .ok (Pl.natOf l) := by
    show Lib.parseUintB 32 l = _
    unfold Lib.parseUintB
    rw [if_neg hl]
    have := parse_m (2 ^ 32 - 1) l 0 hd (by rw [Nat.zero_mul, Nat.zero_add]; omega) (by omega)
    rw [Nat.zero_mul, Nat.zero_add] at this
    exact this
  have hh := Any.strconv_ParseUint_10_at32_ok { puL with } ⟨l.toArray⟩ (by rw [tx_size]; omega) (Pl.natOf l) hok w
  change Calls Tryd.prog 36 _ _ _ at hh
  refine hh.mono ?_
  rintro e w' ⟨rfl, rfl | rfl⟩
  · exact ⟨rfl, Below.refl _ _⟩
  · exact ⟨rfl, Lib.bytesWorld_below _ _ _⟩
/-- texts put together -/
theorem tx_add (a b : List UInt8) (h : a.length + b.length ≤ 140737488355328) (W : World) : (Op.stringOp .add ⟨a.toArray⟩ ⟨b.toArray⟩).run Tryd.prog W = .ok (.string ⟨(a ++ b).toArray⟩) W := by
  rw [run_string_add_sum _ _ _ (by rw [tx_size, tx_size]; omega), tx_app]
theorem cells_app (a b : List UInt8) : Lib.byteCells a ++ Lib.strCells ⟨b.toArray⟩ = Lib.byteCells (a ++ b) := by
  unfold Lib.byteCells Lib.strCells
  simp
/-- a builder in its box that holds a text -/
def BldIs (w : World) (B b : Nat) (l : List UInt8) : Prop := Lib.IsBuilder 89 5 B b (Lib.byteCells l) w
theorem bld_write {w : World} {B b : Nat} {l : List UInt8} (s : List UInt8) (h : BldIs w B b l) (hlen : l.length + s.length ≤ 140737488355328) (hB : B ≤ w.heap.size) :
    Calls Tryd.prog 46 #[.pointer (some ⟨b, 0, none⟩), tx s] w fun e w' => e = .returned (.tuple #[.int .i64 (s.length : Int), .nilIface]) ∧ BldIs w' B b (l ++ s) ∧ Below B w w' := by
  have hh := Any.Builder_WriteString { bwL with } bwX B b (Lib.byteCells l) ⟨s.toArray⟩ w h (by rw [Lib.byteCells_length, tx_size]; exact hlen) hB
  change Calls Tryd.prog 46 _ _ _ at hh
  refine hh.mono ?_
  rintro e w' ⟨rfl, hb, hbl⟩
  rw [cells_app] at hb
  exact ⟨by rw [tx_size], .inr hb, hbl⟩
theorem bld_text {w : World} {B b : Nat} {l : List UInt8} (h : BldIs w B b l) (hB : B ≤ w.heap.size) :
    Calls Tryd.prog 47 #[.pointer (some ⟨b, 0, none⟩)] w fun e w' => e = .returned (tx l) ∧ Below B w w' := by
  have hh := Any.Builder_String_any { bsL with } bsX B b l w h hB
  change Calls Tryd.prog 47 _ _ _ at hh
  exact hh
theorem BldIs.new_ (w : World) (B : Nat) (hB : B = w.heap.size) : BldIs (w.alloc (.cells #[.pointer none, .slice none 0 0] 89)) B B [] := by
  subst hB
  refine .inl ⟨Nat.le_refl _, .slice none 0 0, heap_alloc_new w _, World.ownsRow_nil _ _ _ _, by simp [Value.ownBlock]⟩
theorem BldIs.go {w w' : World} {B b : Nat} {l : List UInt8} (h : BldIs w B b l) (hb : Below w.heap.size w w') : BldIs w' B b l := by
  have key : ∀ p, Lib.BuilderAt 89 5 B b p (Lib.byteCells l) w → Lib.BuilderAt 89 5 B b p (Lib.byteCells l) w' := fun p h => by
    have hlt := h.lt
    obtain ⟨h1, v, h2, h3, h4⟩ := h
    exact ⟨h1, v, (hb.block b hlt).trans h2, own_go h3 hb, h4⟩
  exact h.elim (fun h => .inl (key _ h)) (fun h => .inr (key _ h))
end Go.Proofs.YtflfbbdapbjaaaaDoor
