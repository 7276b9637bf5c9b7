/- The law AuctionMore: for all orders within the reach of a process the call returns true, and old memory is left as it is. No condition. -/
import Derived.Test.YtpbomomgjhbljaaLawAuctionVerified
import Derived.Test.YtpbomomgjhbljaaFine
import Derived.Deep.RegionHeld3
namespace Go.Proofs.Ytpbomomgjhbljaa
open Go.RowKit
def ClearAny (l : List Pl.Ord) (w : World) (e : Ending) (w' : World) : Prop :=
  ∃ (p q : Int) (Ar : Option Addr) (m c : Nat) (er : Int), e = .returned (.tuple #[.agg #[.int .i64 p, .int .i64 q, .slice Ar m c], .int .i64 er]) ∧ (er = 0 → ∃ fs, Pl.Cleared l fs q ∧ p = Pl.cPrice l fs q ∧ 0 ≤ q) ∧ Below w.heap.size w w'
theorem clear_all (A : Option Addr) (n c : Nat) (l : List Pl.Ord) (w : World) (hcap : n ≤ c) (hs : ∀ z ∈ l, z.name.size ≤ 9223372036854775807) (hr : Reads w w.heap.size 4 A n (orders l)) :
    Calls Try.prog 20 #[.slice A n c] w (ClearAny l w) := by
  by_cases h0 : Pl.acheck l = 0
  · refine (clear_good A n c l w hcap hs hr h0).mono ?_
    rintro e w' ⟨Ar, fs, q, rfl, hc, q0, _, _, hb⟩
    exact ⟨_, _, _, _, _, _, rfl, fun _ => ⟨fs, hc, rfl, q0⟩, hb⟩
  · refine (clear_bad A n c l w hcap hs hr h0).mono ?_
    rintro e w' ⟨rfl, hb⟩
    exact ⟨_, _, _, _, _, _, rfl, fun h => absurd h h0, hb⟩
theorem Reads.drewS {w : World} {size n : Nat} {A : Option Addr} {xs : List Value} (h : Reads w w.heap.size size A n xs) : Reads w.drew w.drew.heap.size size A n xs := h
theorem own_cap {w : World} {base n c : Nat} {e : TypeId} {size : Nat} {A : Option Addr} {xs : List Value} (h : w.ownsRow base e size (.slice A n c) n xs) : n ≤ c := by
  rcases h.2 with ⟨hv, _⟩ | ⟨g, cap, cur, hv, _, _, hn, _⟩
  · injection hv with _ h1 h2; omega
  · injection hv with _ h1 h2; omega
theorem own_low {w : World} {base base' n : Nat} {e : TypeId} {size : Nat} {v : Value} {xs : List Value} (h : w.ownsRow base e size v n xs) (hb : base' ≤ base) : w.ownsRow base' e size v n xs := by
  refine ⟨h.1, ?_⟩
  rcases h.2 with h2 | ⟨g, cap, cur, hv, hg, hh⟩
  · exact .inl h2
  · exact .inr ⟨g, cap, cur, hv, Nat.le_trans hb hg, hh⟩
theorem orders_snoc (l : List Pl.Ord) (o : Pl.Ord) : orders (l ++ [o]) = orders l ++ [.string o.name, .bool o.buy, .int .i64 o.pow, .int .i64 o.price] := by simp [orders]
set_option maxHeartbeats 100000000 in
set_option maxRecDepth 100000 in
theorem auctionMore_walk (A : Option Addr) (n c : Nat) (l : List Pl.Ord) (o : Pl.Ord) (w : World) (hreach : n * 40 ≤ 140737488351232) (hcap : n ≤ c) (hs : ∀ a ∈ l, OrdIn a) (hr : Reads w w.heap.size 4 A n (orders l)) (ho : OrdIn o) :
    Calls Try.prog 4 #[.slice A n c, .agg #[.string o.name, .bool o.buy, .int .i64 o.pow, .int .i64 o.price]] w fun e w' => e = .returned (.bool true) ∧ Below w.heap.size w w' := by
  obtain ⟨nm, bz, pw, pr⟩ := o
  have HSZ : Hid (∀ z ∈ l, z.name.size ≤ 9223372036854775807) := fun z hz => (hs z hz).1
  have HSZ2 : Hid (∀ z ∈ l ++ [⟨nm, false, pw, pr⟩], z.name.size ≤ 9223372036854775807) := fun z hz => by
    rcases List.mem_append.1 hz with h | h
    · exact (hs z h).1
    · rw [List.mem_singleton.1 h]; exact ho.1
  have HCL := Lib.hid (fun w h => clear_all A n c l w hcap HSZ.out h)
  have HCL2 := Lib.hid (fun A c w hc h => clear_all A (n + 1) c (l ++ [⟨nm, false, pw, pr⟩]) w hc HSZ2.out h)
  have HCN := Lib.hid (fun w h => clone_orders A n c l w hreach h)
  obtain ⟨i0, hi0, hz0, hz1, hz2⟩ := info_parts info_order
  clear hs ho
  simp only
  have HB0 := Lib.hid ((Below.refl w.heap.size w).alloc (Nat.le_refl _) (.cells #[.string nm, .bool bz, .int .i64 pw, .int .i64 pr] 32))
  have BO0 := Lib.hid (Blk.new_ w w.heap.size 32 #[.string nm, .bool bz, .int .i64 pw, .int .i64 pr] rfl)
  go_enter Try.func4, Try.ntmps4
  go_wp2_with fail
  refine (sold_any _).mono ?_
  rintro e w1 ⟨rfl, hb⟩
  have HB1 := Lib.hid (HB0.out.trans (hb.mono HB0.out.size))
  have BO1 := Lib.hid (BO0.out.go hb)
  clear hb HB0 BO0
  go_wp2_with fail
  refine (HCL.out _ (hr.go HB1.out)).mono ?_
  rintro e w2 ⟨p, q, Ar, m1, c1, er, rfl, hcl, hb⟩
  have HC1 := Lib.hid hcl
  have HB2 := Lib.hid (HB1.out.trans (hb.mono HB1.out.size))
  have BO2 := Lib.hid (BO1.out.go hb)
  have hol : w.heap.size < w2.heap.size := BO2.out.lt
  clear hb hcl HB1 BO1 HCL
  have bc := BO2.out.cell
  have bf := BO2.out.frozen
  have bl := BO2.out.lt
  go_wp2_with fail
  have HB3 := Lib.hid (HB2.out.setCell (p := ⟨w.heap.size, 1, none⟩) (Nat.le_refl _) (.bool false))
  have BO3 := Lib.hid (BO2.out.set_ 1 (.bool false))
  clear bc bf bl BO2 HB2
  have hrb : w.heap.size < w2.heap.size := hol
  have BR4 : Hid (Blk ((w2.setCell ⟨w.heap.size, 1, none⟩ (.bool false)).alloc (.cells #[.int .i64 p, .int .i64 q, .slice Ar m1 c1] 35)) w2.heap.size 35 #[.int .i64 p, .int .i64 q, .slice Ar m1 c1]) := Blk.new_ _ _ _ _ (by simp)
  have BO4 := Lib.hid (BO3.out.alloc (.cells #[.int .i64 p, .int .i64 q, .slice Ar m1 c1] 35))
  have HB4 := Lib.hid (HB3.out.alloc HB3.out.size (.cells #[.int .i64 p, .int .i64 q, .slice Ar m1 c1] 35))
  clear HB3 BO3 hol
  generalize w2.heap.size = rb at *
  generalize (w2.setCell ⟨w.heap.size, 1, none⟩ (.bool false)).alloc (.cells #[.int .i64 p, .int .i64 q, .slice Ar m1 c1] 35) = w3 at *
  have hcur := HB4
  have bcur : Hid (Blk w3 w.heap.size 32 #[.string nm, .bool false, .int .i64 pw, .int .i64 pr]) := BO4.out
  have rcur : Hid (Blk w3 rb 35 #[.int .i64 p, .int .i64 q, .slice Ar m1 c1]) := BR4.out
  have hcur0 : w.heap.size ≤ w3.heap.size := hcur.out.size
  have bc := BO4.out.cell
  clear HB4 BO4 BR4
  have nN := bcur.out.lt
  have nR := rcur.out.lt
  go_region_held3 (fun w' => ∀ j, w'.cell? ⟨w.heap.size, j, none⟩ = #[.string nm, .bool false, .int .i64 pw, .int .i64 pr][j]?)
    (first | with_reducible exact bcur.out.cell | with_reducible exact (bcur.out.alloc _).cell | with_reducible exact ((bcur.out.alloc _).alloc _).cell | with_reducible exact bcur.out.drew.cell | with_reducible exact (bcur.out.alloc _).drew.cell | with_reducible exact ((bcur.out.alloc _).alloc _).drew.cell | exact (((bcur.out.far (by simp; omega) _).far (by simp; omega) _).far (by simp; omega) _).cell)
    (first
    | (go_at_call 21; refine (HCN.out _ (by first | with_reducible exact hr.go hcur.out.drew | with_reducible exact hr.go (hcur.out.alloc hcur.out.size _).drew | with_reducible exact hr.go ((hcur.out.alloc hcur.out.size _).alloc (Nat.le_trans hcur.out.size (by simp)) _).drew)).mono ?_; rintro e wz ⟨Ac, cc, rfl, hown, hb9⟩; have ocur : Hid (wz.ownsRow w3.heap.size 32 4 (.slice Ac n cc) n (orders l)) := own_low hown (by first | exact Nat.le_refl _ | (simp; done) | (simp; omega)); have scur : w3.heap.size ≤ wz.heap.size := Nat.le_trans (by first | exact Nat.le_refl _ | (simp; done) | (simp; omega)) hb9.size; (first | (have lcur : Hid (Reads wz wz.heap.size 4 (some ⟨w3.heap.size, 0, none⟩) 1 [.string nm, .bool false, .int .i64 pw, .int .i64 pr]) := Lib.hid ((Reads.lit w3 #[.string nm, .bool false, .int .i64 pw, .int .i64 pr] 32 1 4 _ rfl rfl).drewS.go hb9)) | (have lcur : Hid (Reads wz wz.heap.size 4 (some ⟨w3.heap.size, 0, none⟩) 1 [.string nm, .bool false, .int .i64 pw, .int .i64 pr]) := Lib.hid (((Reads.lit w3 #[.string nm, .bool false, .int .i64 pw, .int .i64 pr] 32 1 4 _ rfl rfl).go ((Below.refl _ _).alloc (Nat.le_refl _) _)).drewS.go hb9)) | (have lcur : Hid (Reads wz wz.heap.size 4 (some ⟨w3.heap.size + 1, 0, none⟩) 1 [.string nm, .bool false, .int .i64 pw, .int .i64 pr]) := Lib.hid ((Reads.lit (w3.alloc (.cells #[.int .i64 0, .int .i64 0, .slice none 0 0] 35)) #[.string nm, .bool false, .int .i64 pw, .int .i64 pr] 32 1 4 _ (by simp) rfl).drewS.go hb9)) | skip); have hcur : Hid (Below w.heap.size w wz) := (by first | with_reducible exact Lib.hid (hcur.out.drew.trans (hb9.mono hcur.out.drew.size)) | with_reducible exact Lib.hid ((hcur.out.alloc hcur.out.size _).drew.trans (hb9.mono (hcur.out.alloc hcur.out.size _).drew.size)) | with_reducible exact Lib.hid (((hcur.out.alloc hcur.out.size _).alloc (Nat.le_trans hcur.out.size (by simp)) _).drew.trans (hb9.mono ((hcur.out.alloc hcur.out.size _).alloc (Nat.le_trans hcur.out.size (by simp)) _).drew.size))); have bcur : Hid (Blk wz w.heap.size 32 #[.string nm, .bool false, .int .i64 pw, .int .i64 pr]) := (by first | with_reducible exact Lib.hid (bcur.out.drew.go hb9) | with_reducible exact Lib.hid ((bcur.out.alloc _).drew.go hb9) | with_reducible exact Lib.hid (((bcur.out.alloc _).alloc _).drew.go hb9)); have rcur : Hid (Blk wz rb 35 #[.int .i64 p, .int .i64 q, .slice Ar m1 c1]) := (by first | with_reducible exact Lib.hid (rcur.out.drew.go hb9) | with_reducible exact Lib.hid ((rcur.out.alloc _).drew.go hb9) | with_reducible exact Lib.hid (((rcur.out.alloc _).alloc _).drew.go hb9)); (first | (have xcur : Hid (Blk wz w3.heap.size 35 #[.int .i64 0, .int .i64 0, .slice none 0 0]) := Lib.hid ((Blk.new_ w3 _ 35 #[.int .i64 0, .int .i64 0, .slice none 0 0] rfl).drew.go hb9); have xgt : Hid (rb < w3.heap.size) := nR; have xne : Hid (some w3.heap.size ≠ (Value.slice Ac n cc).ownBlock) := own_ne hown (.inl (by simp))) | (have xcur : Hid (Blk wz w3.heap.size 35 #[.int .i64 0, .int .i64 0, .slice none 0 0]) := Lib.hid (((Blk.new_ w3 _ 35 #[.int .i64 0, .int .i64 0, .slice none 0 0] rfl).alloc (.cells #[.string nm, .bool false, .int .i64 pw, .int .i64 pr] 32)).drew.go hb9); have xgt : Hid (rb < w3.heap.size) := nR; have xne : Hid (some w3.heap.size ≠ (Value.slice Ac n cc).ownBlock) := own_ne hown (.inl (by simp; omega))) | (have xcur : Hid (Blk wz (w3.heap.size + 1) 35 #[.int .i64 0, .int .i64 0, .slice none 0 0]) := Lib.hid ((Blk.new_ (w3.alloc (.cells #[.string nm, .bool false, .int .i64 pw, .int .i64 pr] 32)) _ 35 #[.int .i64 0, .int .i64 0, .slice none 0 0] (by simp)).drew.go hb9); have xgt : Hid (rb < w3.heap.size + 1) := Nat.lt_succ_of_lt nR; have xne : Hid (some (w3.heap.size + 1) ≠ (Value.slice Ac n cc).ownBlock) := own_ne hown (.inl (by simp))) | skip); clear hb9 hown)
    | (refine step_append_any _ (by rfl) _ _ 30 (by rfl) w3.heap.size 32 i0 _ 4 40 Try.underlying30 hi0 hz0 hz1 hz2 (by rfl) (by decide) (.slice Ac n cc) n (orders l) (by rfl) (by first | with_reducible exact ocur.out | with_reducible exact ocur.out.alloc _ | with_reducible exact (ocur.out.alloc _).alloc _) _ _ 1 1 [.string nm, .bool false, .int .i64 pw, .int .i64 pr] (by rfl) (by first | with_reducible exact lcur.out | with_reducible exact lcur.out.go ((Below.refl _ _).alloc (Nat.le_refl _) _) | with_reducible exact Reads.lit wz #[.string nm, .bool false, .int .i64 pw, .int .i64 pr] 32 1 4 _ rfl rfl | with_reducible exact (Reads.lit wz #[.string nm, .bool false, .int .i64 pw, .int .i64 pr] 32 1 4 _ rfl rfl).go ((Below.refl _ _).alloc (Nat.le_refl _) _) | with_reducible exact Reads.lit (wz.alloc (.cells #[.int .i64 0, .int .i64 0, .slice none 0 0] 35)) #[.string nm, .bool false, .int .i64 pw, .int .i64 pr] 32 1 4 _ (by simp) rfl) (by simp [Value.oneCell']) (by unfold maxLen; omega) (by omega) (by first | with_reducible exact scur | exact Nat.le_trans scur (by first | (simp; done) | (simp; omega))) ?_; intro v' w5 hown5 hg5 _; have rlt := rcur.out.lt; obtain ⟨A5, c5, rfl, _⟩ := own_slice hown5; have cap5 := own_cap hown5; have hcur : Hid (Below w.heap.size w w5) := (by first | with_reducible exact Lib.hid (below_grown hcur.out hg5 ocur.out hcur0 hcur.out.size) | with_reducible exact Lib.hid (below_grown (hcur.out.alloc hcur.out.size _) hg5 (ocur.out.alloc _) hcur0 (hcur.out.alloc hcur.out.size _).size) | with_reducible exact Lib.hid (below_grown ((hcur.out.alloc hcur.out.size _).alloc (Nat.le_trans hcur.out.size (by simp)) _) hg5 ((ocur.out.alloc _).alloc _) hcur0 ((hcur.out.alloc hcur.out.size _).alloc (Nat.le_trans hcur.out.size (by simp)) _).size)); have E1 := own_ne ocur.out (.inl nN); have E2 := own_ne ocur.out (.inl nR); have bcur : Hid (Blk w5 w.heap.size 32 #[.string nm, .bool false, .int .i64 pw, .int .i64 pr]) := (by first | with_reducible exact Lib.hid (bcur.out.grown hg5 E1) | with_reducible exact Lib.hid ((bcur.out.alloc _).grown hg5 E1) | with_reducible exact Lib.hid (((bcur.out.alloc _).alloc _).grown hg5 E1)); have rcur : Hid (Blk w5 rb 35 #[.int .i64 p, .int .i64 q, .slice Ar m1 c1]) := (by first | with_reducible exact Lib.hid (rcur.out.grown hg5 E2) | with_reducible exact Lib.hid ((rcur.out.alloc _).grown hg5 E2) | with_reducible exact Lib.hid (((rcur.out.alloc _).alloc _).grown hg5 E2)); have ocurz := ocur; have ocur := Lib.hid hown5; (first | (have xcur := Lib.hid (xcur.out.grown hg5 xne.out)) | (have xcur := Lib.hid ((xcur.out.alloc _).grown hg5 xne.out)) | (have xcur : Hid (Blk w5 wz.heap.size 35 #[.int .i64 0, .int .i64 0, .slice none 0 0]) := Lib.hid ((Blk.new_ wz _ 35 #[.int .i64 0, .int .i64 0, .slice none 0 0] rfl).grown hg5 (own_ne ocurz.out (.inr (Nat.le_refl _)))); have xgt : Hid (rb < wz.heap.size) := rlt) | (have xcur : Hid (Blk w5 wz.heap.size 35 #[.int .i64 0, .int .i64 0, .slice none 0 0]) := Lib.hid (((Blk.new_ wz _ 35 #[.int .i64 0, .int .i64 0, .slice none 0 0] rfl).alloc (.cells #[.string nm, .bool false, .int .i64 pw, .int .i64 pr] 32)).grown hg5 (own_ne ocurz.out (.inr (Nat.le_refl _)))); have xgt : Hid (rb < wz.heap.size) := rlt) | (have xcur : Hid (Blk w5 (wz.heap.size + 1) 35 #[.int .i64 0, .int .i64 0, .slice none 0 0]) := Lib.hid ((Blk.new_ (wz.alloc (.cells #[.string nm, .bool false, .int .i64 pw, .int .i64 pr] 32)) _ 35 #[.int .i64 0, .int .i64 0, .slice none 0 0] (by simp)).grown hg5 (own_ne ocurz.out (.inr (Nat.le_succ _)))); have xgt : Hid (rb < wz.heap.size + 1) := Nat.lt_succ_of_lt rlt) | skip); clear hown5 hg5 scur E1 E2)
    | (go_at_call 20; refine (HCL2.out A5 c5 _ cap5 (by rw [orders_snoc]; first | with_reducible exact Reads.of_own ocur.out | with_reducible exact (Reads.of_own ocur.out).go ((Below.refl _ _).alloc (Nat.le_refl _) _))).mono ?_; rintro e w6 ⟨p2, q2, Ax, m2, c2, ex, rfl, hc2, hb9⟩; have HC2 := Lib.hid hc2; have rlt5 := rcur.out.lt; have hcur : Hid (Below w.heap.size w w6) := (by first | with_reducible exact Lib.hid (hcur.out.trans (hb9.mono hcur.out.size)) | with_reducible exact Lib.hid ((hcur.out.alloc hcur.out.size _).trans (hb9.mono (hcur.out.alloc hcur.out.size _).size)) | with_reducible exact Lib.hid (((hcur.out.alloc hcur.out.size _).alloc (Nat.le_trans hcur.out.size (by simp)) _).trans (hb9.mono ((hcur.out.alloc hcur.out.size _).alloc (Nat.le_trans hcur.out.size (by simp)) _).size))); have bcur : Hid (Blk w6 w.heap.size 32 #[.string nm, .bool false, .int .i64 pw, .int .i64 pr]) := (by first | with_reducible exact Lib.hid (bcur.out.go hb9) | with_reducible exact Lib.hid ((bcur.out.alloc _).go hb9) | with_reducible exact Lib.hid (((bcur.out.alloc _).alloc _).go hb9)); have rcur : Hid (Blk w6 rb 35 #[.int .i64 p, .int .i64 q, .slice Ar m1 c1]) := (by first | with_reducible exact Lib.hid (rcur.out.go hb9) | with_reducible exact Lib.hid ((rcur.out.alloc _).go hb9) | with_reducible exact Lib.hid (((rcur.out.alloc _).alloc _).go hb9)); (first | (have xcur := Lib.hid (xcur.out.go hb9)) | (have xcur : Hid (Blk w6 w5.heap.size 35 #[.int .i64 0, .int .i64 0, .slice none 0 0]) := Lib.hid ((Blk.new_ w5 _ 35 #[.int .i64 0, .int .i64 0, .slice none 0 0] rfl).go hb9); have xgt : Hid (rb < w5.heap.size) := rlt5) | skip); (first | (have xc := xcur.out.cell; have xf := xcur.out.frozen; have xl := xcur.out.lt; have xg := xgt.out) | skip); clear hb9 hc2 ocur))
  all_goals
    have rc := rcur.out.cell
    have rl := rcur.out.lt
    have hl6 := hcur.out.size
    clear HCL2 HCN hi0 hz0 hz1 hz2
    by_cases hz : er = 0 ∧ ex = 0
    · obtain ⟨z1, z2⟩ := hz
      subst z1 z2
      obtain ⟨fs, hc1, hp1, hq1⟩ := HC1.out rfl
      obtain ⟨gs, hc2, hp2, hq2⟩ := HC2.out rfl
      obtain ⟨v1, v2⟩ := Pl.auction_more hc1 hc2 rfl
      have v3 := Lib.hid (show 0 < q → p2 ≤ p from by rw [hp1, hp2]; exact v2)
      clear v2 hc1 hc2 hp1 hp2 HC1 HC2
      have HOK := Lib.hid (fun A c w h => fine_any A 2 c [0, 0] w.heap.size w (by omega) h)
      go_wp2_with fail
      refine (HOK.out _ _ _ (Reads.lit _ #[.int .i64 0, .int .i64 0] 23 2 1 _ (by simp) rfl)).mono ?_
      rintro e w8 ⟨rfl, rfl⟩
      rw [show allOk [0, 0] = true from rfl]
      by_cases hq0 : q = 0
      · have t1 : (q == 0) = true := by simpa using hq0
        clear hq0
        go_wp2_with fail
        go_ret
        refine ⟨rfl, ?_⟩
        (repeat (first | exact hcur.out | (refine Below.setCell ?_ (by first | (simp; omega) | omega) _) | (refine Below.alloc ?_ (by first | exact hl6 | (simp; omega) | omega) _)))
      · have t1 : (q == 0) = false := by simpa using hq0
        have v4 := v3.out (by omega)
        clear hq0
        go_wp2_with fail
        go_ret
        refine ⟨rfl, ?_⟩
        (repeat (first | exact hcur.out | (refine Below.setCell ?_ (by first | (simp; omega) | omega) _) | (refine Below.alloc ?_ (by first | exact hl6 | (simp; omega) | omega) _)))
    · have hf : allOk [er, ex] = false := by
        cases h : allOk [er, ex]
        · rfl
        · rw [allOk_true] at h
          exact absurd ⟨h er (by simp), h ex (by simp)⟩ hz
      have HOK := Lib.hid (fun A c w h => fine_any A 2 c [er, ex] w.heap.size w (by omega) h)
      rw [hf] at HOK
      clear hz hf HC1 HC2
      go_wp2_with fail
      refine (HOK.out _ _ _ (Reads.lit _ #[.int .i64 er, .int .i64 ex] 23 2 1 _ (by simp) rfl)).mono ?_
      rintro e w8 ⟨rfl, rfl⟩
      go_wp2_with fail
      go_ret
      refine ⟨rfl, ?_⟩
      (repeat (first | exact hcur.out | (refine Below.setCell ?_ (by first | (simp; omega) | omega) _) | (refine Below.alloc ?_ (by first | exact hl6 | (simp; omega) | omega) _)))
end Go.Proofs.Ytpbomomgjhbljaa
