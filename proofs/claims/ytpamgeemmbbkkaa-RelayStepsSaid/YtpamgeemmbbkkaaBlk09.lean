/- Appending a place to a relay's queue. No condition. What a relay's evaluation stands on in memory: the step's record, the map, the queue. No condition. The order of rules, plain. No program. A step of a relay, plain: the values of the rules, what is kept, the delays that wait. No program. -/
import Derived.Test.YtpamgeemmbbkkaaBlk08
import Derived.Test.YtpamgeemmbbkkaaBlk01
import Derived.Test.YtpamgeemmbbkkaaBlk07
namespace Go.Proofs.Ytpamgeemmbbkkaa
open Go.RowKit
theorem info_place : (Try.prog.info? 165).map (fun i => (i.zero, i.size, i.bytes)) = some (some (.agg #[.int .i64 0, .int .i64 0]), 2, 16) := by kernel_rfl
theorem PQ.of_own {w : World} {base n : Nat} {v : Value} {q : List (Nat × Nat)} (h : w.ownsRow base 165 2 v n (plcs q)) : PQ w base v q := by
  obtain ⟨hl, ⟨rfl, rfl⟩ | ⟨g, cap, cur, rfl, h1, h2, h3, h4, h5, h6⟩⟩ := h
  · rw [plcs_len] at hl
    exact .inl ⟨rfl, List.eq_nil_of_length_eq_zero (by omega)⟩
  · rw [plcs_len] at hl
    have e : n = q.length := by omega
    subst e
    exact .inr ⟨g, 0, cap, cur, h1, rfl, h2, by omega, h3, h4, by simpa using h6⟩
/-- 'append(q, x)': x lies in a block of its own -/
theorem PQ.push {w : World} {base : Nat} {v : Value} {q : List (Nat × Nat)} (h : PQ w base v q) (x : Nat × Nat) (gx : Nat) (hx0 : w.cell? ⟨gx, 0, none⟩ = some (.int .i64 (x.1 : Int))) (hx1 : w.cell? ⟨gx, 1, none⟩ = some (.int .i64 (x.2 : Int))) (hq : q.length ≤ 1000000) (hbase : base ≤ w.heap.size) :
    ∃ v' w', (∀ ty, (Builtin.append_ #[160, 160] ty #[v, .slice (some ⟨gx, 0, none⟩) 1 1]).run Try.prog w = .ok v' w') ∧ PQ w' base v' (q ++ [x]) ∧ w.grownBy w' v.ownBlock ∧ (v'.ownBlock = v.ownBlock ∨ v'.ownBlock = some w.heap.size) := by
  obtain ⟨i, hi, hz, hs, hby⟩ := info_parts info_place
  have hnews : ∀ j u, (plcs [x])[j]? = some u → w.cell? ((⟨gx, 0, none⟩ : Addr).add j) = some u := by
    intro j u hj
    match j, hj with
    | 0, hj => simp [plcs] at hj; subst hj; simpa [Addr.add] using hx0
    | 1, hj => simp [plcs] at hj; subst hj; simpa [Addr.add] using hx1
    | j + 2, hj => simp [plcs] at hj
  rcases h with ⟨rfl, rfl⟩ | ⟨g, o, cap, cur, h0, rfl, hb, h1, h2, h4, h3⟩
  · have hm : 0 + 1 ≤ maxLen := by unfold maxLen; omega
    have hlt : gx < w.heap.size := cell_lt hx0
    have hr : Reads w w.heap.size 2 (some ⟨gx, 0, none⟩) 1 (plcs [x]) := ⟨rfl, fun _ => ⟨_, rfl, hlt, hnews⟩⟩
    have h1 : ∀ u ∈ plcs [x], u.oneCell' = true := by
      intro u hu
      simp [plcs] at hu
      rcases hu with rfl | rfl <;> rfl
    obtain ⟨v', w', _, h7, h8, h9⟩ := run_append_any w base 160 0 165 i _ 2 16 Try.underlying160 hi hz hs hby rfl (by omega) (.slice none 0 0) 0 [] (World.ownsRow_nil _ _ _ _) w.heap.size (some ⟨gx, 0, none⟩) 1 1 (plcs [x]) hr h1 hm (by omega) hbase
    have hty : ∀ ty, (Builtin.append_ #[160, 160] ty #[.slice none 0 0, .slice (some ⟨gx, 0, none⟩) 1 1]).run Try.prog w = .ok v' w' := by
      intro ty
      assumption
    exact ⟨v', w', hty, PQ.of_own h7, h8, h9⟩
  · by_cases hroom : q.length + 1 ≤ cap
    · have hf := run_firstCells_some (P := Try.prog) w i.size 1 ⟨gx, 0, none⟩ 1 1 (plcs [x]) (by rw [hs]; rfl) hnews
      have hpl : (plcs [x]).length = 2 := rfl
      have hst := run_storeCells_at Try.prog g (o + q.length * 2) 165 (plcs [x]) 0 cur w hb (by rw [hpl]; omega) (by simp [plcs, Value.oneCell'])
      simp only [Nat.add_zero] at hst
      rw [hs] at hf
      refine ⟨.slice (some ⟨g, o, none⟩) (q.length + 1) cap, w.setRow g (cur.toList.take (o + q.length * 2) ++ plcs [x] ++ cur.toList.drop (o + q.length * 2 + (plcs [x]).length)).toArray, fun ty => ?_, ?_, ⟨rfl, rfl, rfl, by simp [World.setRow], fun k _ hk => setRow_other w g k _ (fun e => hk (by rw [e]; rfl))⟩, .inl rfl⟩
      · have ha := addr_at g o (q.length * 2)
        simp [Builtin.append_, run_underlying Try.underlying160, sizeOf, typeInfo, hi, Builtin.lenOf, hroom, hf, hs, ha, hst]
      · have hcl : o + q.length * 2 + 2 ≤ cur.toList.length := by simp; omega
        refine .inr ⟨g, o, cap, _, h0, by simp, setRow_heap w g cur _ _ _ hb, ?_, by simp; omega, h4, ?_⟩
        · simp only [List.size_toArray, List.length_append, List.length_take, List.length_drop, hpl]
          simp only [Array.length_toList] at hcl ⊢
          omega
        · rw [plcs_append]
          rw [List.append_assoc, List.drop_append_of_le_length (by rw [List.length_take]; omega), List.drop_take]
          rw [show o + q.length * 2 - o = q.length * 2 by omega, h3]
          have hil := plcs_len q
          rw [show (q ++ [x]).length * 2 = (plcs q).length + 2 by rw [hil]; simp; omega, ← List.append_assoc, List.take_append_of_le_length (by rw [List.length_append, hpl]; omega), List.take_of_length_le (by rw [List.length_append, hpl]; omega)]
    · have holds : ∀ j u, (plcs q)[j]? = some u → w.cell? ((⟨g, o, none⟩ : Addr).add j) = some u := by
        intro j u hu
        rw [addr_at, hb.cell, ← Array.getElem?_toList]
        rw [← h3] at hu
        have hj : j < q.length * 2 := by
          have := (List.getElem?_eq_some_iff.1 hu).1
          simp at this
          omega
        rw [List.getElem?_take_of_lt hj, List.getElem?_drop] at hu
        exact hu
      have hge := grownCap_ge w (q.length + 1) cap 165
      have hcm : grownCap w (q.length + 1) cap 165 ≤ maxLen := grownCap_le_maxLen w (q.length + 1) cap 165 (by unfold maxLen; omega)
      refine ⟨.slice (some ⟨w.heap.size, 0, none⟩) (q.length + 1) (grownCap w (q.length + 1) cap 165), w.drew.alloc (.cells ((plcs q).toArray ++ (plcs [x]).toArray ++ Builtin.zeroCells (Value.agg #[.int .i64 0, .int .i64 0]).cells (grownCap w (q.length + 1) cap 165 - (q.length + 1))) 165), fun ty => ?_, ?_, ⟨rfl, rfl, rfl, by simp, fun k hk _ => heap_alloc_old w.drew _ hk⟩, .inr rfl⟩
      · exact (run_append_grow (P := Try.prog) w 160 ty 165 i _ Try.underlying160 hi hz ⟨g, o, none⟩ q.length cap (plcs q) (by rw [hs, plcs_len]) holds ⟨gx, 0, none⟩ 1 1 (plcs [x]) (by rw [hs]; rfl) hnews (by omega) (by omega) (by rw [hby]; exact growslice_fits (by omega) (by omega)))
      · refine .inr ⟨w.heap.size, 0, _, _, hbase, by simp, heap_alloc_new w.drew _, ?_, by simpa using hge, hcm, ?_⟩
        · simp only [Array.size_append, List.size_toArray, size_zeroCells, Nat.zero_add, plcs_len]
          simp [Value.cells]
          omega
        · simp only [List.drop_zero, Array.toList_append]
          rw [← plcs_append, List.take_append_of_le_length (by simp [plcs_len]), List.take_of_length_le (by simp [plcs_len])]
end Go.Proofs.Ytpamgeemmbbkkaa
namespace Go.Proofs.Ytpamgeemmbbkkaa
open Go.RowKit
/-- all that an evaluation reads and writes; B: what lies below it is never written -/
structure EvIn (w : World) (B s r gv b : Nat) (A : Option Addr) (n c : Nat) (l : List MRul) (O : Value) (vs : List Bool) (ms : Int) (Af : Option Addr) (nf cf : Nat) (fs : List ByteArray) (vL : Value) (q : List (Nat × Nat)) (nK : Nat) (κ : Nat → Nat → Pl.Mem) : Prop where
  st : Blk w s 162 #[.pointer (some ⟨r, 0, none⟩), .int .i64 ms, .slice Af nf cf, .slice none 0 0, vL]
  rel : Blk w r 153 #[.slice A n c, O, .slice (some ⟨gv, 0, none⟩) n n, .map (some b)]
  val : Bools w gv n vs
  fl : Reads w B 1 Af nf (txts fs)
  rules : Ruls w B A n l
  small : n ≤ 1000 ∧ nf ≤ 1000
  map : KMap w b nK κ
  que : PQ w B vL q
  low : B ≤ s ∧ B ≤ b ∧ B ≤ w.heap.size
/-- the blocks that an evaluation may write -/
def evS (s b : Nat) (vL : Value) : Nat → Prop := fun i => i = s ∨ i = b ∨ vL.ownBlock = some i
section
variable {w : World} {B s r gv b : Nat} {A : Option Addr} {n c : Nat} {l : List MRul} {O : Value} {vs : List Bool} {ms : Int} {Af : Option Addr} {nf cf : Nat} {fs : List ByteArray} {vL : Value} {q : List (Nat × Nat)} {nK : Nat} {κ : Nat → Nat → Pl.Mem}
theorem PQ.own {w : World} {base : Nat} {v : Value} {q : List (Nat × Nat)} (h : PQ w base v q) {g : Nat} (hg : v.ownBlock = some g) : base ≤ g ∧ ∃ cur, Blk w g 165 cur := by
  rcases h with ⟨rfl, _⟩ | ⟨g', o, cap, cur, h0, rfl, hb, _⟩
  · cases hg
  · injection hg with e
    subst e
    exact ⟨h0, cur, hb⟩
theorem EvIn.toSt (h : EvIn w B s r gv b A n c l O vs ms Af nf cf fs vL q nK κ) : StIn w s r gv b A n c l O vs ms Af nf cf fs vL :=
  ⟨h.st, h.rel, h.val, h.fl.more h.low.2.2, h.rules.more h.low.2.2, h.small⟩
theorem EvIn.ge (h : EvIn w B s r gv b A n c l O vs ms Af nf cf fs vL q nK κ) : ∀ i, evS s b vL i → B ≤ i := by
  rintro i (rfl | rfl | e)
  · exact h.low.1
  · exact h.low.2.1
  · exact (h.que.own e).1
/-- a block of another type is none of them -/
theorem EvIn.not_ (h : EvIn w B s r gv b A n c l O vs ms Af nf cf fs vL q nK κ) {g : Nat} {t : TypeId} {cs : Array Value} (hg : Blk w g t cs) (h1 : t ≠ 162) (h2 : t ≠ 165) : ¬ evS s b vL g := by
  rintro (rfl | rfl | e)
  · exact hg.ne_ h.st h1 rfl
  · exact h.map.ne hg rfl
  · obtain ⟨_, cur, hc⟩ := h.que.own e
    exact hg.ne_ hc h2 rfl
theorem EvIn.sb (h : EvIn w B s r gv b A n c l O vs ms Af nf cf fs vL q nK κ) : s ≠ b := h.map.ne h.st
theorem EvIn.go {w' : World} (h : EvIn w B s r gv b A n c l O vs ms Af nf cf fs vL q nK κ) (hb : Below w.heap.size w w') : EvIn w' B s r gv b A n c l O vs ms Af nf cf fs vL q nK κ :=
  ⟨h.st.go hb, h.rel.go hb, h.val.go hb, h.fl.below (hb.mono h.low.2.2), h.rules.below (hb.mono h.low.2.2), h.small, h.map.fr (S := fun _ => False) (Fr.of_below hb) (fun h => h), h.que.go hb, h.low.1, h.low.2.1, Nat.le_trans h.low.2.2 hb.size⟩
/-- the map is written -/
theorem EvIn.put {w' : World} {nK' : Nat} {κ' : Nat → Nat → Pl.Mem} (h : EvIn w B s r gv b A n c l O vs ms Af nf cf fs vL q nK κ) (hg : w.grownBy w' (some b)) (hm : KMap w' b nK' κ') : EvIn w' B s r gv b A n c l O vs ms Af nf cf fs vL q nK' κ' := by
  have f : Fr (fun i => i = b) w w' := Fr.of_grown hg rfl
  have hB : Below B w w' := f.to_below (fun i e => by rw [e]; exact h.low.2.1) h.low.2.2
  exact ⟨f.blk h.st h.sb, f.blk h.rel (h.map.ne h.rel), ⟨h.val.1, f.blk h.val.2 (h.map.ne h.val.2)⟩, h.fl.below hB, h.rules.below hB, h.small, hm, h.que.fr f (fun g e => by
    obtain ⟨_, cur, hc⟩ := h.que.own e
    exact h.map.ne hc), h.low.1, h.low.2.1, Nat.le_trans h.low.2.2 f.size⟩
/-- the queue is appended to, and the step's record tells where it lies now -/
theorem EvIn.pushed {w1 : World} {v' : Value} {q' : List (Nat × Nat)} (h : EvIn w B s r gv b A n c l O vs ms Af nf cf fs vL q nK κ) (hg : w.grownBy w1 vL.ownBlock) (hq : PQ w1 B v' q') (hv : v'.ownBlock = vL.ownBlock ∨ v'.ownBlock = some w.heap.size) :
    EvIn (w1.setCell ⟨s, 4, none⟩ v') B s r gv b A n c l O vs ms Af nf cf fs v' q' nK κ ∧ Fr (evS s b vL) w (w1.setCell ⟨s, 4, none⟩ v') := by
  have f1 : Fr (fun i => vL.ownBlock = some i) w w1 := ⟨hg.os, hg.tape, hg.output, hg.size, fun i hi hs => hg.block i hi (fun e => hs e.symm)⟩
  have ns : ¬ vL.ownBlock = some s := fun e => by
    obtain ⟨_, cur, hc⟩ := h.que.own e
    exact h.st.ne_ hc (by decide) rfl
  have nb : ¬ vL.ownBlock = some b := fun e => by
    obtain ⟨_, cur, hc⟩ := h.que.own e
    exact h.map.ne hc rfl
  have hst := (f1.blk h.st ns).set_ 4 v'
  have f : Fr (evS s b vL) w (w1.setCell ⟨s, 4, none⟩ v') := (f1.mono (T := evS s b vL) (fun i _ e => .inr (.inr e))).set_ _ _ (.inr (.inl rfl))
  have hB : Below B w (w1.setCell ⟨s, 4, none⟩ v') := f.to_below h.ge h.low.2.2
  have f2 : Fr (fun i => i = s) w1 (w1.setCell ⟨s, 4, none⟩ v') := (Fr.refl _ w1).set_ _ _ (.inr rfl)
  refine ⟨⟨hst, f.blk h.rel (h.not_ h.rel (by decide) (by decide)), ⟨h.val.1, f.blk h.val.2 (h.not_ h.val.2 (by decide) (by decide))⟩, h.fl.below hB, h.rules.below hB, h.small, (h.map.fr f1 nb).fr f2 (fun e => h.sb e.symm), hq.fr f2 (fun g e es => ?_), h.low.1, h.low.2.1, Nat.le_trans h.low.2.2 f.size⟩, f⟩
  subst es
  rcases hv with hv | hv
  · rw [e] at hv; exact ns hv.symm
  · rw [e] at hv
    injection hv with hv
    have := h.st.lt
    omega
end
end Go.Proofs.Ytpamgeemmbbkkaa
namespace Go.Proofs.Ytpamgeemmbbkkaa.Pl
/-- is it this rule's turn? -/
def readyB (ND : Nat → List Int) (out : List Int) (i : Nat) : Bool := !decide ((i : Int) ∈ out) && !((ND i).any fun k => !decide (k ∈ out))
def nextI (ND : Nat → List Int) (n : Nat) (out : List Int) : Int := idxOf (readyB ND out) (List.range n)
def orderG (ND : Nat → List Int) (n : Nat) : Nat → List Int → Option (List Int)
  | 0, out => some out
  | f + 1, out => if nextI ND n out < 0 then none else orderG ND n f (out ++ [nextI ND n out])
/-- relaylang.order -/
def orderP (ND : Nat → List Int) (n : Nat) : Option (List Int) := orderG ND n n []
theorem nextI_hit {ND : Nat → List Int} {n : Nat} {out : List Int} (k : Nat) (hk : k < n) (h : readyB ND out k = true) (h0 : ∀ j, j < k → readyB ND out j = false) : nextI ND n out = k :=
  idxOf_hit _ (List.range n) k (by simpa using hk) (by simpa using h) (fun j hj hjk => by simpa using h0 j hjk)
theorem nextI_miss {ND : Nat → List Int} {n : Nat} {out : List Int} (h0 : ∀ j, j < n → readyB ND out j = false) : nextI ND n out = -1 :=
  idxOf_miss _ (List.range n) (fun j hj => by simpa using h0 j (by simpa using hj))
end Go.Proofs.Ytpamgeemmbbkkaa.Pl
namespace Go.Proofs.Ytpamgeemmbbkkaa.Pl
def sz : RT → Nat
  | .leaf _ _ => 1
  | .un _ _ a => sz a + 1
  | .bin _ _ a b => sz a + sz b + 1
theorem sz_pos : ∀ t, 0 < sz t
  | .leaf _ _ => by unfold sz; omega
  | .un _ _ a => by unfold sz; omega
  | .bin _ _ a b => by unfold sz; omega
theorem IsT.sz {ex : List RN} {at_ e : Nat} {t : RT} (h : IsT ex at_ e t) : e = at_ + Pl.sz t := by
  induction h with
  | leaf _ _ => rfl
  | un _ _ _ ih => unfold Pl.sz; omega
  | bin _ _ _ _ ih1 ih2 => unfold Pl.sz; omega
def Times (κ : Nat → Nat → Mem) : Prop := ∀ k a, 0 ≤ (κ k a).2 ∧ (κ k a).2 ≤ 1000000
/-- some writes to a rule's places -/
def kapp (κ : Nat → Nat → Mem) (k : Nat) (us : List (Nat × Mem)) : Nat → Nat → Mem := fun l b => if l = k then app (κ k) us b else κ l b
theorem kapp_self (κ : Nat → Nat → Mem) (k : Nat) (us : List (Nat × Mem)) : kapp κ k us k = app (κ k) us := by funext b; unfold kapp; rw [if_pos rfl]
theorem kapp_nil (κ : Nat → Nat → Mem) (k : Nat) : kapp κ k [] = κ := by
  funext l b; unfold kapp app
  split
  · rename_i h; subst h; rfl
  · rfl
theorem kapp_append (κ : Nat → Nat → Mem) (k : Nat) (us vs : List (Nat × Mem)) : kapp (kapp κ k us) k vs = kapp κ k (us ++ vs) := by
  funext l b
  by_cases h : l = k
  · subst h
    rw [kapp_self, kapp_self, kapp_self, app_append]
  · unfold kapp; simp [h]
theorem tim_range {ms : Int} {m : Mem} (h1 : 0 ≤ ms) (h : 0 ≤ m.2 ∧ m.2 ≤ 1000000) : 0 ≤ tim ms m ∧ tim ms m ≤ 1000000 := by
  unfold tim
  split <;> omega
theorem app_times {us : List (Nat × Mem)} : ∀ {m : Nat → Mem}, (∀ a, 0 ≤ (m a).2 ∧ (m a).2 ≤ 1000000) → (∀ u ∈ us, 0 ≤ u.2.2 ∧ u.2.2 ≤ 1000000) → ∀ a, 0 ≤ (app m us a).2 ∧ (app m us a).2 ≤ 1000000 := by
  induction us with
  | nil => intro m h _; exact h
  | cons u us ih =>
    intro m h hu a
    show 0 ≤ (app (put1 m u) us a).2 ∧ _
    refine ih ?_ (fun v hv => hu v (by simp [hv])) a
    intro a
    unfold put1
    split
    · exact hu u (by simp)
    · exact h a
theorem upd_times {fl : ByteArray → Bool} {ms : Int} {m : Nat → Mem} (h0 : 0 ≤ ms) (hm : ∀ a, 0 ≤ (m a).2 ∧ (m a).2 ≤ 1000000) : ∀ (t : RT), ∀ u ∈ upd fl ms m t, 0 ≤ u.2.2 ∧ u.2.2 ≤ 1000000
  | .leaf _ _, u, h => by cases h
  | .un at_ x a, u, h => by
    unfold upd at h
    split at h
    · exact upd_times h0 hm a u h
    · simp at h; subst h; exact tim_range h0 (hm at_)
  | .bin at_ x a b, u, h => by
    have key : u ∈ upd fl ms m a ++ upd fl ms m b → 0 ≤ u.2.2 ∧ u.2.2 ≤ 1000000 := fun h => by
      rcases List.mem_append.1 h with h | h
      · exact upd_times h0 hm a u h
      · exact upd_times h0 hm b u h
    unfold upd at h
    split at h
    · exact key h
    · rcases List.mem_append.1 h with h | h
      · exact key h
      · simp at h; subst h; simp
theorem Times.kapp {κ : Nat → Nat → Mem} (h : Times κ) {k : Nat} {us : List (Nat × Mem)} (hu : ∀ u ∈ us, 0 ≤ u.2.2 ∧ u.2.2 ≤ 1000000) : Times (kapp κ k us) := by
  intro l a
  unfold Pl.kapp
  split
  · exact app_times (h k) hu a
  · exact h l a
theorem Times.upd {κ : Nat → Nat → Mem} (h : Times κ) {fl : ByteArray → Bool} {ms : Int} (h0 : 0 ≤ ms) (k : Nat) (t : RT) : Times (Pl.kapp κ k (Pl.upd fl ms (κ k) t)) :=
  h.kapp (upd_times h0 (h k) t)
/-- the flags that a value depends on in this step -/
def nds : RT → List ByteArray
  | .leaf _ x => if x.op = 0 then [x.name] else []
  | .un _ x a => if x.op = 3 then nds a else []
  | .bin _ _ a b => nds a ++ nds b
theorem val_fl {fl fl' : ByteArray → Bool} {ms : Int} {m : Nat → Mem} : ∀ (t : RT), (∀ nm ∈ nds t, fl nm = fl' nm) → val fl ms m t = val fl' ms m t
  | .leaf at_ x, h => by
    unfold val
    by_cases h0 : x.op = 0
    · rw [if_pos h0, if_pos h0]; exact h _ (by unfold nds; rw [if_pos h0]; simp)
    · rw [if_neg h0, if_neg h0]
  | .un at_ x a, h => by
    unfold val
    by_cases h3 : x.op = 3
    · rw [if_pos h3, if_pos h3, val_fl a (fun nm hn => h nm (by unfold nds; rw [if_pos h3]; exact hn))]
    · rw [if_neg h3, if_neg h3]
  | .bin at_ x a b, h => by
    unfold val
    rw [val_fl a (fun nm hn => h nm (by unfold nds; simp [hn])), val_fl b (fun nm hn => h nm (by unfold nds; simp [hn]))]
theorem upd_fl {fl fl' : ByteArray → Bool} {ms : Int} {m : Nat → Mem} : ∀ (t : RT), (∀ nm ∈ nds t, fl nm = fl' nm) → upd fl ms m t = upd fl' ms m t
  | .leaf at_ x, h => rfl
  | .un at_ x a, h => by
    unfold upd
    by_cases h3 : x.op = 3
    · rw [if_pos h3, if_pos h3, upd_fl a (fun nm hn => h nm (by unfold nds; rw [if_pos h3]; exact hn))]
    · rw [if_neg h3, if_neg h3]
  | .bin at_ x a b, h => by
    unfold upd
    rw [upd_fl a (fun nm hn => h nm (by unfold nds; simp [hn])), upd_fl b (fun nm hn => h nm (by unfold nds; simp [hn])), val_fl (.bin at_ x a b) h]
/-- the needs of an expression hold the flags of its tree -/
theorem needs_tree {ex : List RN} {R : ByteArray → Int} {at_ e : Nat} {t : RT} (h : IsT ex at_ e t) : ∀ f, e - at_ ≤ f → ∃ f', f - (e - at_) ≤ f' ∧ ∀ k, ((∃ nm ∈ nds t, 0 ≤ R nm ∧ k = R nm) ∨ k ∈ needsG R ex f' e) → k ∈ needsG R ex f at_ := by
  induction h with
  | @leaf at_ x h h0 =>
    intro f hf
    obtain ⟨g, rfl⟩ : ∃ g, f = g + 1 := ⟨f - 1, by omega⟩
    refine ⟨g, by omega, fun k hk => ?_⟩
    unfold needsG
    rw [h]
    simp only
    have h6 : x.op ≠ 6 := fun e => by unfold opn at h0; rw [e] at h0; simp at h0
    rw [if_neg h6]
    rcases hk with ⟨nm, hn, hR, rfl⟩ | hk
    · unfold nds at hn
      split at hn
      · rename_i h00
        simp at hn
        subst hn
        rw [if_pos ⟨h00, hR⟩]
        simp
      · cases hn
    · exact List.mem_append_right _ hk
  | @un at_ e x a h h0 ha ih =>
    intro f hf
    have hlt := ha.lt
    obtain ⟨g, rfl⟩ : ∃ g, f = g + 1 := ⟨f - 1, by omega⟩
    by_cases h6 : x.op = 6
    · refine ⟨g, by omega, fun k hk => ?_⟩
      have he : endI ex at_ = e := (IsT.un h h0 ha).end_
      unfold needsG
      rw [h]
      simp only
      rw [if_pos h6, he]
      rcases hk with ⟨nm, hn, hR, rfl⟩ | hk
      · unfold nds at hn
        rw [if_neg (by omega)] at hn
        cases hn
      · simpa using hk
    · obtain ⟨f', hf', hh⟩ := ih g (by omega)
      refine ⟨f', by omega, fun k hk => ?_⟩
      unfold needsG
      rw [h]
      simp only
      rw [if_neg h6]
      refine List.mem_append_right _ (hh k ?_)
      rcases hk with ⟨nm, hn, hR⟩ | hk
      · unfold nds at hn
        split at hn
        · exact .inl ⟨nm, hn, hR⟩
        · cases hn
      · exact .inr hk
  | @bin at_ m e x a b h h0 ha hb ih1 ih2 =>
    intro f hf
    have h1 := ha.lt
    have h2 := hb.lt
    obtain ⟨g, rfl⟩ : ∃ g, f = g + 1 := ⟨f - 1, by omega⟩
    obtain ⟨f1, hf1, hh1⟩ := ih1 g (by omega)
    obtain ⟨f2, hf2, hh2⟩ := ih2 f1 (by omega)
    refine ⟨f2, by omega, fun k hk => ?_⟩
    have h6 : x.op ≠ 6 := fun e => by unfold opn at h0; rw [e] at h0; simp at h0
    unfold needsG
    rw [h]
    simp only
    rw [if_neg h6]
    refine List.mem_append_right _ (hh1 k ?_)
    rcases hk with ⟨nm, hn, hR⟩ | hk
    · unfold nds at hn
      rcases List.mem_append.1 hn with hn | hn
      · exact .inl ⟨nm, hn, hR⟩
      · exact .inr (hh2 k (.inl ⟨nm, hn, hR⟩))
    · exact .inr (hh2 k (.inr hk))
theorem needs_of {ex : List RN} {R : ByteArray → Int} {t : RT} (h : IsT ex 0 ex.length t) {nm : ByteArray} (hn : nm ∈ nds t) (hR : 0 ≤ R nm) : R nm ∈ needsP R ex := by
  obtain ⟨f', _, hh⟩ := needs_tree (R := R) h ex.length (by omega)
  exact hh _ (.inl ⟨nm, hn, hR, rfl⟩)
/-- an order of the rules -/
def OrdOk (ND : Nat → List Int) (n : Nat) (ol : List Int) : Prop := ol.Nodup ∧ (∀ x ∈ ol, 0 ≤ x ∧ x < n) ∧ ∀ j (hj : j < ol.length), ∀ k ∈ ND (ol[j]).toNat, k ∈ ol.take j
theorem nextI_ok {ND : Nat → List Int} {n : Nat} {out : List Int} (h : ¬ nextI ND n out < 0) : ∃ k : Nat, nextI ND n out = k ∧ k < n ∧ readyB ND out k = true := by
  unfold nextI idxOf at h ⊢
  cases e : (List.range n).findIdx? (readyB ND out) with
  | none => rw [e] at h; exact absurd (by show (-1 : Int) < 0; omega) h
  | some i =>
    obtain ⟨hi, hp, _⟩ := List.findIdx?_eq_some_iff_getElem.1 e
    refine ⟨i, rfl, by simpa using hi, by simpa using hp⟩
theorem orderG_ok {ND : Nat → List Int} {n : Nat} : ∀ {f : Nat} {out ol : List Int}, OrdOk ND n out → orderG ND n f out = some ol → OrdOk ND n ol ∧ ol.length = out.length + f
  | 0, out, ol, h, e => by
    unfold orderG at e; injection e with e; subst e; exact ⟨h, rfl⟩
  | f + 1, out, ol, h, e => by
    unfold orderG at e
    split at e
    · cases e
    · rename_i h0
      obtain ⟨k, hk, hkn, hr⟩ := nextI_ok h0
      rw [hk] at e
      unfold readyB at hr
      simp only [Bool.and_eq_true, Bool.not_eq_true', decide_eq_false_iff_not] at hr
      obtain ⟨hr1, hr2⟩ := hr
      have hr2 : ∀ x ∈ ND k, x ∈ out := fun x hx => by
        have := List.any_eq_false.1 hr2 x hx
        simpa using this
      have := orderG_ok (f := f) (out := out ++ [(k : Int)]) (ol := ol) ⟨?_, ?_, ?_⟩ e
      · exact ⟨this.1, by rw [this.2]; simp; omega⟩
      · rw [List.nodup_append]
        exact ⟨h.1, by simp, fun a ha b hb e => by simp at hb; subst hb; subst e; exact hr1 ha⟩
      · intro x hx
        rcases List.mem_append.1 hx with hx | hx
        · exact h.2.1 x hx
        · simp at hx; omega
      · intro j hj x hx
        rcases Nat.lt_or_ge j out.length with hjl | hjl
        · rw [List.getElem_append_left hjl] at hx
          rw [List.take_append_of_le_length (by omega)]
          exact h.2.2 j hjl x hx
        · have hje : j = out.length := by simp at hj; omega
          subst hje
          rw [List.getElem_append_right (Nat.le_refl _)] at hx
          simp at hx
          rw [List.take_append_of_le_length (Nat.le_refl _), List.take_length]
          exact hr2 x hx
theorem orderP_ok {ND : Nat → List Int} {n : Nat} {ol : List Int} (h : orderP ND n = some ol) : OrdOk ND n ol ∧ ol.length = n := by
  have := orderG_ok (ND := ND) (n := n) (f := n) (out := []) (ol := ol) ⟨by simp, by simp, fun j hj => by simp at hj⟩ h
  simpa using this
/-- a list without repeats of all numbers below n holds each of them -/
theorem OrdOk.all {ND : Nat → List Int} {n : Nat} {ol : List Int} (h : OrdOk ND n ol) (hl : ol.length = n) : ∀ i, i < n → (i : Int) ∈ ol := by
  intro i hi
  have h1 : (ol.map Int.toNat).Nodup := by
    rw [List.nodup_iff_pairwise_ne, List.pairwise_map]
    refine (List.nodup_iff_pairwise_ne.1 h.1).imp_of_mem (fun {a b} ha hb hne e => hne ?_)
    have := h.2.1 a ha
    have := h.2.1 b hb
    omega
  by_cases hm : (i : Int) ∈ ol
  · exact hm
  · exfalso
    have hni : i ∉ ol.map Int.toNat := fun h4 => by
      obtain ⟨y, hy, e⟩ := List.mem_map.1 h4
      have := h.2.1 y hy
      exact hm (by rw [show (i : Int) = y by omega]; exact hy)
    have h5 := List.Nodup.length_le_of_subset (List.nodup_cons.2 ⟨hni, h1⟩) (l₂ := List.range n) (fun x hx => by
      rcases List.mem_cons.1 hx with rfl | hx
      · exact List.mem_range.2 hi
      · obtain ⟨y, hy, rfl⟩ := List.mem_map.1 hx
        have := h.2.1 y hy
        rw [List.mem_range]; omega)
    simp [hl] at h5
    omega
end Go.Proofs.Ytpamgeemmbbkkaa.Pl
