/- Runs of a relay: words. No condition. relay.Run: the outputs of the steps, or an error. Conditions: at most 2000 steps; the program reads. -/
import Derived.Test.YtpamgeemmbbkkaaRStep
import Derived.Test.YtpamgeemmbbkkaaBlk14
namespace Go.Proofs.Ytpamgeemmbbkkaa
open Go.RowKit
/-- a slice of texts in memory -/
structure MTx where
  A : Option Addr
  n : Nat
  c : Nat
  ts : List ByteArray
def txC (x : MTx) : List Value := [.slice x.A x.n x.c]
/-- a slice of slices of texts -/
def TGrid (w : World) (B : Nat) (A : Option Addr) (n : Nat) (l : List MTx) : Prop := Elems txC 1 w B A n l ∧ ∀ x ∈ l, x.n ≤ 9223372036854775807 ∧ x.n ≤ x.c ∧ Reads w B 1 x.A x.n (txts x.ts)
theorem TGrid.below {w w' : World} {B : Nat} {A : Option Addr} {n : Nat} {l : List MTx} (h : TGrid w B A n l) (hb : Below B w w') : TGrid w' B A n l := ⟨h.1.below hb, fun x hx => ⟨(h.2 x hx).1, (h.2 x hx).2.1, (h.2 x hx).2.2.below hb⟩⟩
theorem TGrid.more {w : World} {B B' : Nat} {A : Option Addr} {n : Nat} {l : List MTx} (h : TGrid w B A n l) (hb : B ≤ B') : TGrid w B' A n l := ⟨h.1.more hb, fun x hx => ⟨(h.2 x hx).1, (h.2 x hx).2.1, (h.2 x hx).2.2.more hb⟩⟩
theorem TGrid.go {w w' : World} {A : Option Addr} {n : Nat} {l : List MTx} (h : TGrid w w.heap.size A n l) (hb : Below w.heap.size w w') : TGrid w' w'.heap.size A n l := (h.below hb).more hb.size
theorem tgrid_at {w : World} {B : Nat} {A : Option Addr} {n : Nat} {l : List MTx} (h : TGrid w B A n l) {k : Nat} (hk : k < n) :
    ∃ b o, A = some ⟨b, o, none⟩ ∧ b < B ∧ ∃ hl : k < l.length, w.cell? ⟨b, o + k, none⟩ = some (.slice (l[k]'hl).A (l[k]'hl).n (l[k]'hl).c) ∧ (l[k]'hl).n ≤ 9223372036854775807 ∧ (l[k]'hl).n ≤ (l[k]'hl).c ∧ Reads w B 1 (l[k]'hl).A (l[k]'hl).n (txts (l[k]'hl).ts) := by
  obtain ⟨b, o, rfl, hb, hl, hc⟩ := Elems.at_ (dec := txC) (size := 1) (fun _ => rfl) (by decide) h.1 hk
  have := h.2 _ (List.getElem_mem hl)
  exact ⟨b, o, rfl, hb, hl, by have := hc 0 (by omega); rw [Nat.mul_one, Nat.add_zero] at this; exact this, this⟩
theorem own_fr {S : Nat → Prop} {w w' : World} {base : Nat} {e : TypeId} {size n : Nat} {v : Value} {xs : List Value} (h : w.ownsRow base e size v n xs) (f : Fr S w w') (hS : ∀ i, S i → i < base) : w'.ownsRow base e size v n xs := by
  refine ⟨h.1, ?_⟩
  rcases h.2 with h2 | ⟨g, cap, cur, hv, hg, hh, r⟩
  · exact .inl h2
  · exact .inr ⟨g, cap, cur, hv, hg, (f.block g (Blk.lt (t := e) (cs := cur) hh) (fun hs => by have := hS g hs; omega)).trans hh, r⟩
/-- the outputs of a run so far, all in rows of the call's own -/
structure Outs (w : World) (H : Nat) (v : Value) (m : Nat) (l : List MTx) : Prop where
  row : w.ownsRow H 22 1 v m (l.flatMap txC)
  len : l.length = m
  each : ∀ x ∈ l, w.ownsRow H 9 1 (.slice x.A x.n x.c) x.n (txts x.ts)
theorem Outs.fr {S : Nat → Prop} {w w' : World} {H m : Nat} {v : Value} {l : List MTx} (h : Outs w H v m l) (f : Fr S w w') (hS : ∀ i, S i → i < H) : Outs w' H v m l :=
  ⟨own_fr h.row f hS, h.len, fun x hx => own_fr (h.each x hx) f hS⟩
theorem Outs.grid {w : World} {H m : Nat} {A : Option Addr} {c : Nat} {l : List MTx} (h : Outs w H (.slice A m c) m l) (hm : ∀ x ∈ l, x.n ≤ 9223372036854775807) : TGrid w w.heap.size A m l :=
  ⟨⟨Reads.of_own h.row, h.len⟩, fun x hx => ⟨hm x hx, own_cap2 (h.each x hx), Reads.of_own (h.each x hx)⟩⟩
namespace Pl
theorem fin_times {fl : ByteArray → Bool} {ms : Int} {m : Nat → Mem} (h0 : 0 ≤ ms) (hm : ∀ a, 0 ≤ (m a).2 ∧ (m a).2 ≤ 1000000) : ∀ (t : RT), ∀ u ∈ fin fl ms m t, 0 ≤ u.2.2 ∧ u.2.2 ≤ 1000000
  | .leaf _ _, u, h => by cases h
  | .un at_ x a, u, h => by
    unfold fin at h
    split at h
    · exact fin_times h0 hm a u h
    · rcases List.mem_cons.1 h with rfl | h
      · exact tim_range h0 (hm at_)
      · exact fin_times h0 hm a u h
  | .bin at_ x a b, u, h => by
    have key : u ∈ fin fl ms m a ++ fin fl ms m b → 0 ≤ u.2.2 ∧ u.2.2 ≤ 1000000 := fun h => by
      rcases List.mem_append.1 h with h | h
      · exact fin_times h0 hm a u h
      · exact fin_times h0 hm b u h
    unfold fin at h
    split at h
    · exact key h
    · rcases List.mem_append.1 h with h | h
      · exact key h
      · simp at h; subst h; simp
theorem κfin_times {n : Nat} {tr : Nat → RT} {F : ByteArray → Bool} {ms : Int} {κ : Nat → Nat → Mem} (h0 : 0 ≤ ms) (h : Times κ) : Times (κfin n tr F ms κ) := by
  intro k a
  unfold κfin
  split
  · exact app_times (h k) (fin_times h0 (h k) (tr k)) a
  · exact h k a
end Pl
/-- runs: the flags of the steps, the rules' values in them, and what is kept behind them -/
inductive RunTo (n : Nat) (l : List MRul) (ms : Int) (tr : Nat → Pl.RT) : List (List ByteArray) → List (List Bool) → (Nat → Nat → Pl.Mem) → Prop where
  | nil : RunTo n l ms tr [] [] (fun _ _ => (false, 0))
  | snoc {fs : List (List ByteArray)} {Vs : List (List Bool)} {κ : Nat → Nat → Pl.Mem} {f : List ByteArray} {V : List Bool} : RunTo n l ms tr fs Vs κ → ValsOk n l f ms κ tr V → RunTo n l ms tr (fs ++ [f]) (Vs ++ [V]) (Pl.κfin n tr (Pl.flP (prl l) V f) ms κ)
section
variable {n : Nat} {l : List MRul} {ms : Int} {tr : Nat → Pl.RT} {fs : List (List ByteArray)} {Vs : List (List Bool)} {κ κ' : Nat → Nat → Pl.Mem}
theorem RunTo.len (h : RunTo n l ms tr fs Vs κ) : Vs.length = fs.length := by
  induction h with
  | nil => rfl
  | snoc _ _ ih => simp [ih]
theorem RunTo.times (h : RunTo n l ms tr fs Vs κ) (h0 : 0 ≤ ms) : Pl.Times κ := by
  induction h with
  | nil => intro k a; simp
  | snoc _ _ ih => exact Pl.κfin_times h0 ih
theorem RunTo.det (h : RunTo n l ms tr fs Vs κ) : ∀ {κ'}, RunTo n l ms tr fs Vs κ' → κ = κ' := by
  induction h with
  | nil =>
    intro κ' h'
    generalize e1 : ([] : List (List ByteArray)) = fs at h'
    generalize e2 : ([] : List (List Bool)) = Vs at h'
    cases h' with
    | nil => rfl
    | snoc _ _ => simp at e1
  | @snoc fs Vs κ f V h1 h2 ih =>
    intro κ' h'
    generalize e1 : fs ++ [f] = fs9 at h'
    generalize e2 : Vs ++ [V] = Vs9 at h'
    cases h' with
    | nil => simp at e1
    | @snoc fs' Vs' κ1 f' V' h3 h4 =>
      obtain ⟨rfl, e1⟩ := List.append_inj' e1 rfl
      obtain ⟨rfl, e2⟩ := List.append_inj' e2 rfl
      simp at e1 e2
      subst e1 e2
      rw [ih h3]
theorem RunTo.at_ (h : RunTo n l ms tr fs Vs κ) : ∀ k (hk : k < fs.length) (hk2 : k < Vs.length), ∃ κk, RunTo n l ms tr (fs.take k) (Vs.take k) κk ∧ ValsOk n l fs[k] ms κk tr Vs[k] := by
  induction h with
  | nil => intro k hk; simp at hk
  | @snoc fs Vs κ f V h1 h2 ih =>
    intro k hk hk2
    have hl := h1.len
    by_cases hkl : k < fs.length
    · obtain ⟨κk, a1, a2⟩ := ih k hkl (by omega)
      refine ⟨κk, ?_, ?_⟩
      · rw [List.take_append_of_le_length (by omega), List.take_append_of_le_length (by omega)]; exact a1
      · rw [List.getElem_append_left hkl, List.getElem_append_left (by omega)]; exact a2
    · have hke : k = fs.length := by simp at hk; omega
      subst hke
      refine ⟨κ, ?_, ?_⟩
      · rw [List.take_append_of_le_length (Nat.le_refl _), List.take_length, List.take_append_of_le_length (by omega), ← hl, List.take_length]; exact h1
      · rw [List.getElem_append_right (Nat.le_refl _), List.getElem_append_right (by omega)]
        simpa [hl] using h2
end
/-- a program of a relay with its trees -/
theorem prg_of {n : Nat} {l l1 : List MRul} {ol : List Int} (hl : l.length = n) (hE : Pl.relE (prl l) = 0) (hlen : ∀ o ∈ l, o.ex.length = o.n) (hs : SameR l l1) (ho : Pl.orderP (ndP l) n = some ol) :
    ∃ tr, Prg n l1 ol (ndP l) tr ∧ ∀ (k : Nat) (o : MRul), l[k]? = some o → Pl.IsT o.ex 0 o.ex.length (tr k) := by
  obtain ⟨h16, hok, _⟩ := relE_zero hl hE
  obtain ⟨h1, h2⟩ := Pl.orderP_ok ho
  have htree : ∀ k : Nat, ∃ t, ∀ o : MRul, l[k]? = some o → Pl.IsT o.ex 0 o.ex.length t := fun k => by
    cases e : l[k]? with
    | none => exact ⟨.leaf 0 ⟨0, ⟨#[]⟩, 0⟩, fun o h => by simp at h⟩
    | some o =>
      have := (hok o (List.mem_of_getElem? e)).2.2
      obtain ⟨t, ht⟩ := Pl.tree_of o.ex o.ex.length 0 o.ex.length (by omega) (by simpa using this)
      rw [Nat.zero_add] at ht
      exact ⟨t, fun o' h => by have h := Option.some.inj h; subst h; exact ht⟩
  refine ⟨fun k => (htree k).choose, ⟨h1, h2, fun k hk => ?_, fun i hi nm hn hR => ?_⟩, fun k o ho => (htree k).choose_spec o ho⟩
  · have e : l[k]? = some l[k] := List.getElem?_eq_getElem (by omega)
    obtain ⟨o1, e1, e2, e3, e4⟩ := hs.2 k _ e
    have hm := List.mem_of_getElem? e
    have := hok _ hm
    have h5 := hlen _ hm
    refine ⟨o1, e1, by omega, by rw [e4, e3]; exact h5, by rw [e4]; exact this.2.1, ?_⟩
    rw [e4]
    exact (htree k).choose_spec _ e
  · have e : l[i]? = some l[i] := List.getElem?_eq_getElem (by omega)
    have ht := (htree i).choose_spec _ e
    rw [hs.prl] at hR ⊢
    unfold ndP
    rw [e]
    exact Pl.needs_of ht hn hR
end Go.Proofs.Ytpamgeemmbbkkaa
namespace Go.Proofs.Ytpamgeemmbbkkaa
open Go.RowKit
set_option maxRecDepth 100000
theorem rstep_large (r : Nat) (ms : Int) (Af : Option Addr) (nf cf : Nat) (w : World) (hms : 1 ≤ ms ∧ ms ≤ 100000) (hnf : 256 < nf) :
    Calls Try.prog 40 #[.pointer (some ⟨r, 0, none⟩), .int .i64 ms, .slice Af nf cf, .slice none 0 0] w fun e w' => e = .returned (.tuple #[.slice none 0 0, .int .i64 2]) ∧ w' = w := by
  obtain ⟨hms1, hms2⟩ := hms
  have m1 : ¬ ms < 1 := by omega
  have m2 : ¬ 100000 < ms := by omega
  go_enter Try.func40, Try.ntmps40
  go_wp2_with fail
  go_ret2
  exact ⟨rfl, rfl⟩
theorem rrun_bad (A : Option Addr) (n c : Nat) (l : List MRul) (ms : Int) (V2 : Value) (w : World) (hn : n ≤ 9223372036854775807) (hnc : n ≤ c) (h : Ruls w w.heap.size A n l) (hE : Pl.relE (prl l) ≠ 0) :
    Calls Try.prog 22 #[.slice A n c, .int .i64 ms, V2] w fun e w' => e = .returned (.tuple #[.slice none 0 0, .int .i64 (Pl.relE (prl l))]) ∧ Below w.heap.size w w' := by
  have HC := Lib.hid (rnew_bad A n c l w hn hnc h hE)
  have hE2 : (Pl.relE (prl l) != 0) = true := by simpa using hE
  generalize Pl.relE (prl l) = E at *
  clear h hE
  go_enter Try.func22, Try.ntmps22
  go_wp2_with fail
  refine HC.out.mono ?_
  rintro e w1 ⟨rfl, hb⟩
  have HB := Lib.hid hb
  clear hb HC
  go_wp2_with fail
  go_ret2
  exact ⟨rfl, HB.out⟩
theorem rrun_range (A : Option Addr) (n c : Nat) (l : List MRul) (ms : Int) (V2 : Value) (w : World) (hn : n ≤ 9223372036854775807) (hnc : n ≤ c) (h : Ruls w w.heap.size A n l) (hE : Pl.relE (prl l) = 0) (hms : ms < 1 ∨ 100000 < ms) :
    Calls Try.prog 22 #[.slice A n c, .int .i64 ms, V2] w fun e w' => e = .returned (.tuple #[.slice none 0 0, .int .i64 4]) ∧ Below w.heap.size w w' := by
  have HC := Lib.hid (rnew_ok A n c l w hn hnc h hE)
  clear h hE
  rcases hms with hm | hm
  · go_enter Try.func22, Try.ntmps22
    go_wp2_with fail
    refine HC.out.mono ?_
    rintro e w1 ⟨A1, c1, l1, AO, cO, ol, r, gv, b, B, rfl, _, _, _, _, _, hb⟩
    have HB := Lib.hid hb
    clear hb HC
    go_wp2_with fail
    go_ret2
    exact ⟨rfl, HB.out⟩
  · have hm1 : ¬ ms < 1 := by omega
    go_enter Try.func22, Try.ntmps22
    go_wp2_with fail
    refine HC.out.mono ?_
    rintro e w1 ⟨A1, c1, l1, AO, cO, ol, r, gv, b, B, rfl, _, _, _, _, _, hb⟩
    have HB := Lib.hid hb
    clear hb HC
    go_wp2_with fail
    go_ret2
    exact ⟨rfl, HB.out⟩
theorem info_sstr : (Try.prog.info? 22).map (fun i => (i.zero, i.size, i.bytes)) = some (some (.slice none 0 0), 1, 24) := by kernel_rfl
def RRunSaid (n : Nat) (l : List MRul) (ms : Int) (tr : Nat → Pl.RT) (fss : List MTx) (w : World) (e : Ending) (w' : World) : Prop :=
  (e = .returned (.tuple #[.slice none 0 0, .int .i64 2]) ∧ Below w.heap.size w w' ∧ ∃ x ∈ fss, 256 < x.n) ∨
    ∃ A' c' Vs κ l1 outs, e = .returned (.tuple #[.slice A' fss.length c', .int .i64 0]) ∧ RunTo n l1 ms tr (fss.map MTx.ts) Vs κ ∧ SameR l l1 ∧ TGrid w' w'.heap.size A' fss.length outs ∧ outs.map MTx.ts = Vs.map (outsP l) ∧ Below w.heap.size w w' ∧ ∀ x ∈ fss, x.n ≤ 256
theorem outsP_same {l l1 : List MRul} (h : SameR l l1) (V : List Bool) : outsP l1 V = outsP l V := by
  unfold outsP
  rw [h.1]
  unfold List.flatMap
  congr 1
  refine List.map_congr_left (fun i hi => ?_)
  have hi : i < l.length := by simpa using hi
  obtain ⟨o1, e1, e2, _⟩ := h.2 i _ (List.getElem?_eq_getElem hi)
  rw [e1, List.getElem?_eq_getElem hi]
  simp only [e2]
theorem own_apart {w w' : World} {base base2 : Nat} {e e2 : TypeId} {size size2 n n2 : Nat} {v v2 : Value} {xs xs2 : List Value} (h : w.ownsRow base e size v n xs) (h2 : w.ownsRow base2 e2 size2 v2 n2 xs2) (hne : e ≠ e2) (hg : w.grownBy w' v2.ownBlock) : w'.ownsRow base e size v n xs := by
  refine ⟨h.1, ?_⟩
  rcases h.2 with h0 | ⟨g, cap, cur, hv, hb, hh, r⟩
  · exact .inl h0
  · refine .inr ⟨g, cap, cur, hv, hb, (hg.block g (Blk.lt (t := e) (cs := cur) hh) (fun e9 => ?_)).trans hh, r⟩
    rcases h2.2 with ⟨h0, _⟩ | ⟨g2, cap2, cur2, hv2, _, hh2, _⟩
    · rw [h0] at e9; cases e9
    · rw [hv2] at e9
      injection e9 with e9
      have e9 : g = g2 := e9
      subst e9
      rw [hh] at hh2
      injection hh2 with hh2
      injection hh2 with _ ht
      exact hne ht
set_option maxHeartbeats 6400000 in
theorem rrun_ok (A : Option Addr) (n c : Nat) (l : List MRul) (ms : Int) (Af : Option Addr) (nf cf : Nat) (fss : List MTx) (w : World) (hn : n ≤ 9223372036854775807) (hnc : n ≤ c) (h : Ruls w w.heap.size A n l) (hE : Pl.relE (prl l) = 0) (hms : 1 ≤ ms ∧ ms ≤ 100000) (hnf : nf ≤ 2000) (hf : TGrid w w.heap.size Af nf fss)
    (tr : Nat → Pl.RT) (hP : ∀ l1 ol, SameR l l1 → Pl.orderP (ndP l) n = some ol → Prg n l1 ol (ndP l) tr) :
    Calls Try.prog 22 #[.slice A n c, .int .i64 ms, .slice Af nf cf] w (RRunSaid n l ms tr fss w) := by
  have HC := Lib.hid (rnew_ok A n c l w hn hnc h hE)
  have HF := Lib.hid hf
  have HPP := Lib.hid hP
  obtain ⟨hms1, hms2⟩ := hms
  have m1 : ¬ ms < 1 := by omega
  have m2 : ¬ 100000 < ms := by omega
  have m3 : ¬ 2000 < nf := by omega
  clear h hE hf hP
  obtain ⟨i0, hi0, hz0, hz1, hz2⟩ := info_parts info_sstr
  go_enter Try.func22, Try.ntmps22
  go_wp2_with fail
  refine HC.out.mono ?_
  rintro e w1 ⟨A1, c1, l1, AO, cO, ol, r, gv, b, B, rfl, hri, hsame, hwB, hBr, hord, hb⟩
  have HB := Lib.hid hb
  have HSM := Lib.hid hsame
  have HPR := Lib.hid (HPP.out l1 ol hsame hord)
  have HRI := Lib.hid hri
  have HLT : Hid (r < w1.heap.size ∧ gv < w1.heap.size ∧ b < w1.heap.size ∧ B ≤ w1.heap.size ∧ w.heap.size ≤ B ∧ w.heap.size ≤ gv ∧ w.heap.size ≤ b) := ⟨hri.rel.lt, hri.val.2.lt, hri.map.lt, hri.low.2.2, hwB, Nat.le_trans hwB hri.low.1, Nat.le_trans hwB hri.low.2.1⟩
  clear hri hsame hwB hBr hord hb HC HPP
  go_wp2_with fail
  go_loopw [10, 37] (fun out i wr => ∃ (k : Nat) (Ao : Option Addr) (co : Nat) (Vs : List (List Bool)) (κ : Nat → Nat → Pl.Mem) (nK : Nat) (vs : List Bool) (outs : List MTx), k ≤ nf ∧ i = .int .i64 k ∧ out = .slice Ao k co ∧ Hid (RIn wr B r gv b A1 n c1 l1 AO cO ol vs nK κ) ∧ Hid (RunTo n l1 ms tr ((fss.take k).map MTx.ts) Vs κ) ∧ Hid (nK ≤ 70000 * k) ∧ Hid (Outs wr w1.heap.size (.slice Ao k co) k outs) ∧ Hid (outs.map MTx.ts = Vs.map (outsP l)) ∧ Hid (∀ x ∈ outs, x.n ≤ 9223372036854775807) ∧ Hid (∀ x ∈ fss.take k, x.n ≤ 256) ∧ Hid (Below w.heap.size w wr) ∧ w1.heap.size ≤ wr.heap.size) (fun _ i _ => nf - (intOf i).toNat)
  case atStart => exact ⟨0, none, 0, [], _, 0, _, [], Nat.zero_le _, rfl, rfl, HRI.out, RunTo.nil, Lib.hid (Nat.zero_le _), ⟨World.ownsRow_nil _ _ _ _, rfl, fun x hx => by cases hx⟩, Lib.hid rfl, Lib.hid (fun x hx => by cases hx), Lib.hid (fun x hx => by simp at hx), HB.out, Nat.le_refl _⟩
  case round =>
    obtain ⟨k, Ao, co, Vs, κ, nK, vs, outs, hkf, rfl, rfl, HR, HT, HK, HO, HOT, HON, HLE, HBW, hwr⟩ := hrel
    clear HRI HB
    by_cases hlt : k < nf
    · obtain ⟨bf, of_, rfl, hbf, hlf, p0, hfn, hfc, hfr⟩ := tgrid_at HF.out hlt
      have hbf2 := cell_lt p0
      have y0 := (HBW.out.cell (p := ⟨bf, of_ + k, none⟩) hbf2).trans p0
      have hbf3 : bf < wr.heap.size := by have := HBW.out.size; omega
      have hrf : Hid (Reads wr B 1 fss[k].A fss[k].n (txts fss[k].ts)) := (hfr.below HBW.out).more HLT.out.2.2.2.2.1
      have HTX : Hid (((fss.take (k + 1)).map MTx.ts) = ((fss.take k).map MTx.ts) ++ [fss[k].ts]) := by
        show _ = _
        rw [List.take_succ_eq_append_getElem hlf, List.map_append]
        rfl
      have HTK : Hid (fss[k].n ≤ 256 → ∀ x ∈ fss.take (k + 1), x.n ≤ 256) := fun h x hx => by
        rw [List.take_succ_eq_append_getElem hlf] at hx
        rcases List.mem_append.1 hx with hx | hx
        · exact HLE.out x hx
        · rw [List.mem_singleton.1 hx]; exact h
      have HLG : Hid (256 < fss[k].n → ∃ x ∈ fss, 256 < x.n) := fun h => ⟨fss[k], List.getElem_mem hlf, h⟩
      clear p0 hfr
      generalize fss[k].A = fA at *
      generalize fss[k].n = fn at *
      generalize fss[k].c = fc at *
      generalize fss[k].ts = fts at *
      have hk0 : (0 : Int) ≤ (k : Int) := by omega
      have hk1 : (k : Int) < (nf : Int) := by omega
      by_cases hlg : 256 < fn
      · have HST := Lib.hid (rstep_large r ms fA fn fc wr ⟨hms1, hms2⟩ hlg)
        go_wp2_with fail
        refine HST.out.mono ?_
        rintro e w2 ⟨rfl, rfl⟩
        go_wp2_with fail
        go_ret2
        exact .inl ⟨rfl, HBW.out, HLG.out hlg⟩
      · obtain ⟨V, hV1, hV2⟩ := Pl.vals_exist (R := Pl.ruleI (prl l1)) (B := Pl.inB fts) (ms := ms) (κ0 := κ) HPR.out.ord HPR.out.all HPR.out.need
        have hV : ValsOk n l1 fts ms κ tr V := ⟨hV1, hV2⟩
        have HV := Lib.hid hV
        have hKK := HK.out
        have HST := Lib.hid (rstep_any ms fA fn fc fts HPR.out hV HR.out (HT.out.times (by omega)) ⟨hms1, hms2⟩ hrf.out (by omega) (by omega))
        have HOL : Hid ((outsP l1 V).length ≤ 16) := by
          show _ ≤ _
          have := outsT_len l1 V l1.length
          have e : outsP l1 V = outsT l1 V l1.length := rfl
          rw [e]
          have h2 := HR.out.rules.len
          have h3 := HR.out.small
          omega
        clear hV hV1 hV2 hKK
        go_wp2_with fail
        refine HST.out.mono ?_
        rintro e w2 ⟨A', m', c', nK', rfl, hown, hri, hnk, hfr⟩
        have HR2 := Lib.hid hri
        have HW2 := Lib.hid (own_base hown hwr)
        have HFR := Lib.hid hfr
        have HNK : Hid (nK' ≤ 70000 * (k + 1)) := by show _ ≤ _; have := HK.out; omega
        have HT2 : Hid (RunTo n l1 ms tr ((fss.take (k + 1)).map MTx.ts) (Vs ++ [V]) (Pl.κfin n tr (Pl.flP (prl l1) V fts) ms κ)) := by
          have := RunTo.snoc HT.out HV.out
          rw [← HTX.out] at this
          exact Lib.hid this
        have HS : Hid (∀ i, (i = gv ∨ i = b) → i < w1.heap.size) := fun i e => by rcases e with rfl | rfl; exact HLT.out.2.1; exact HLT.out.2.2.1
        have HO2 := Lib.hid (HO.out.fr hfr HS.out)
        have hml : m' = (outsP l1 V).length := by have := hown.1; simp [txts] at this; omega
        have HML : Hid (m' ≤ 16) := by show _ ≤ _; rw [hml]; exact HOL.out
        have HB2 : Hid (Below w.heap.size w w2) := HBW.out.trans (hfr.to_below (fun i e => by rcases e with rfl | rfl; exact HLT.out.2.2.2.2.2.1; exact HLT.out.2.2.2.2.2.2) HBW.out.size)
        have hsz2 : w1.heap.size ≤ w2.heap.size := Nat.le_trans hwr hfr.size
        clear hown hri hnk hfr hml HST HR HO HT
        go_wp2_with (at_builtin; go_must (refine wpList_append_grow w2 rfl (.tmp 51) (.tmp 53) 61 rfl w1.heap.size 22 i0 _ 1 24 Try.underlying61 hi0 hz0 hz1 hz2 rfl (by decide) (.slice Ao k co) k (outs.flatMap txC) rfl HO2.out.row hsz2 #[.slice A' m' c'] rfl rfl (by simp) (by simp [Value.oneCell']) (by unfold maxLen; omega) (by omega) ?_; intro v3 w3 hown3 hg3 hsz3; obtain ⟨A3, c3, rfl, _⟩ := own_slice hown3; have HO3 := Lib.hid hown3; have HG3 := Lib.hid hg3; clear hown3 hg3))
        have F3 : Hid (Below w1.heap.size w2 w3) := below_grown (Below.refl _ w2) HG3.out HO2.out.row (Nat.le_refl _) hsz2
        have HR3 := Lib.hid (HR2.out.keep HLT.out.1 HLT.out.2.1 HLT.out.2.2.1 HLT.out.2.2.2.1 F3.out)
        have HB3 : Hid (Below w.heap.size w w3) := HB2.out.trans (F3.out.mono (by have := HLT.out; omega))
        have HOO : Hid (Outs w3 w1.heap.size (.slice A3 (k + 1) c3) (k + 1) (outs ++ [⟨A', m', c', outsP l V⟩])) := by
          refine ⟨?_, by simp [HO2.out.len], fun x hx => ?_⟩
          · rw [List.flatMap_append]
            exact HO3.out
          · rcases List.mem_append.1 hx with hx | hx
            · exact own_apart (HO2.out.each x hx) HO2.out.row (by decide) HG3.out
            · rw [List.mem_singleton.1 hx]
              show w3.ownsRow _ _ _ _ _ (txts (outsP l V))
              rw [← outsP_same HSM.out V]
              exact own_apart HW2.out HO2.out.row (by decide) HG3.out
        go_roundw
        case rel => exact ⟨k + 1, A3, c3, _, _, nK', V, _, by omega, by go_num, rfl, HR3.out, HT2.out, HNK.out, HOO.out, by show _ = _; rw [List.map_append, List.map_append, HOT.out]; rfl, (fun x hx => by
          rcases List.mem_append.1 hx with hx | hx
          · exact HON.out x hx
          · rw [List.mem_singleton.1 hx]
            show m' ≤ _
            have := HML.out
            omega), HTK.out (by omega), HB3.out, hsz3⟩
        case measure => simp [intOf]; omega
    · have hkk : k = nf := by omega
      subst hkk
      have hj1 : ¬ ((k : Int) < (k : Int)) := by omega
      have hlen : fss.length = k := HF.out.1.2
      have HLL := Lib.hid hlen
      have HFN : Hid (RRunSaid n l ms tr fss w (.returned (.tuple #[.slice Ao k co, .int .i64 0])) wr) := by
        refine .inr ⟨Ao, co, Vs, κ, l1, outs, by rw [hlen], ?_, HSM.out, by rw [hlen]; exact HO.out.grid HON.out, HOT.out, HBW.out, fun x hx => HLE.out x (by rw [← hlen, List.take_length]; exact hx)⟩
        have := HT.out
        rw [← hlen, List.take_length] at this
        exact this
      clear hlen HO HOT HON HT HR
      go_wp2_with fail
      go_ret2
      exact HFN.out
end Go.Proofs.Ytpamgeemmbbkkaa
