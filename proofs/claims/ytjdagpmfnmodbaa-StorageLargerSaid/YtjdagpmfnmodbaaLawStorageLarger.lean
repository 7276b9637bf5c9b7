/- The law StorageLarger: for all storages, prices and additions the call returns true, and old memory is left as it is. Condition: what the sort of pieces says. -/
import Derived.Test.YtjdagpmfnmodbaaStores
import Derived.Test.YtjdagpmfnmodbaaWithin
import Derived.Test.YtjdagpmfnmodbaaFine
namespace Go.Proofs.Ytjdagpmfnmodbaa
open Go.RowKit
set_option maxRecDepth 100000 in
set_option maxHeartbeats 6400000 in
theorem storageLarger_core (hsort : SortPOk) (ch dis cap beg en more : Int) (A : Option Addr) (n c : Nat) (ps : List Int) (w : World) (hr : Reads w w.heap.size 1 A n (ints ps))
    (nb eb mm em : Int)
    (H1 : Hid (∀ w, Reads w w.heap.size 1 A n (ints ps) → Calls Try.prog 36 #[vSt ch dis cap beg en, .slice A n c] w fun e w' => ∃ v, e = .returned (.tuple #[v, .int .i64 nb, .int .i64 eb]) ∧ Below w.heap.size w w'))
    (H2 : Hid (∀ w, Reads w w.heap.size 1 A n (ints ps) → Calls Try.prog 36 #[vSt (wrap64 (ch + Pl.withinF more 0 50)) (wrap64 (dis + Pl.withinF more 0 50)) (wrap64 (cap + Pl.withinF more 0 50)) beg en, .slice A n c] w fun e w' => ∃ v, e = .returned (.tuple #[v, .int .i64 mm, .int .i64 em]) ∧ Below w.heap.size w w'))
    (hfin : allOk [eb, em] = true → mm ≤ nb) :
    Calls Try.prog 11 #[vSt ch dis cap beg en, .slice A n c, .int .i64 more] w fun e w' => e = .returned (.bool true) ∧ Below w.heap.size w w' := by
  have HR := Lib.hid hr
  have HST := Lib.hid (fun w => stores_any hsort w)
  have HFIN := Lib.hid hfin
  have HWI := Lib.hid (fun w => within_any2 more 0 50 w (by omega) (by omega) (by omega))
  have HKK := Lib.hid (fun (A : Option Addr) (w : World) (h : Reads w w.heap.size 1 A 2 (ints [eb, em])) => fine_any A 2 2 [eb, em] _ w (by omega) h)
  clear hr hfin hsort
  generalize Pl.withinF more 0 50 = mo at *
  unfold vSt at *
  have HB0 : Hid (Below w.heap.size w (w.alloc (.cells #[.int .i64 ch, .int .i64 dis, .int .i64 cap, .int .i64 beg, .int .i64 en] 70))) := (Below.refl _ _).alloc (Nat.le_refl _) _
  have HS0 : Hid (Blk (w.alloc (.cells #[.int .i64 ch, .int .i64 dis, .int .i64 cap, .int .i64 beg, .int .i64 en] 70)) w.heap.size 70 #[.int .i64 ch, .int .i64 dis, .int .i64 cap, .int .i64 beg, .int .i64 en]) := Blk.new_ _ _ _ _ rfl
  go_enter Try.func11, Try.ntmps11
  go_wp2_with fail
  generalize w.alloc (.cells #[.int .i64 ch, .int .i64 dis, .int .i64 cap, .int .i64 beg, .int .i64 en] 70) = wc at *
  refine (HST.out _).mono ?_
  rintro e w3 ⟨rfl, hb⟩
  have HB6 := Lib.hid (HB0.out.trans (hb.mono HB0.out.size))
  have HS6 := Lib.hid (HS0.out.go hb)
  clear hb HB0 HS0
  have s6 := HS6.out.cell
  go_wp2_with fail
  refine (H1.out _ (HR.out.go HB6.out)).mono ?_
  rintro e w4 ⟨v4, rfl, hb⟩
  have HB7 := Lib.hid (HB6.out.trans (hb.mono HB6.out.size))
  have HS7 := Lib.hid (HS6.out.go hb)
  clear hb HB6 HS6 s6
  go_wp2_with fail
  refine (HWI.out _).mono ?_
  rintro e w5 ⟨rfl, rfl⟩
  have s7 := HS7.out.cell
  have ls := HS7.out.lt
  have X8 := Lib.hid (Blk.new_ w4 w4.heap.size 70 #[.int .i64 ch, .int .i64 dis, .int .i64 cap, .int .i64 beg, .int .i64 en] rfl)
  have HB8 := Lib.hid (HB7.out.alloc HB7.out.size (.cells #[.int .i64 ch, .int .i64 dis, .int .i64 cap, .int .i64 beg, .int .i64 en] 70))
  have HS8 := Lib.hid (HS7.out.alloc (.cells #[.int .i64 ch, .int .i64 dis, .int .i64 cap, .int .i64 beg, .int .i64 en] 70))
  go_wp2_with fail
  have hbn : ¬ w.heap.size = w4.heap.size := by omega
  have hbn2 : ¬ w4.heap.size = w.heap.size := by omega
  have HBT := Lib.hid HB7.out.size
  clear s7 ls HS7 HB7
  generalize w4.alloc (.cells #[.int .i64 ch, .int .i64 dis, .int .i64 cap, .int .i64 beg, .int .i64 en] 70) = w5 at *
  generalize w4.heap.size = bt at *
  have c8 := HS8.out.cell
  have d8 := X8.out.cell
  have f8 := X8.out.frozen
  go_region
  have X9 := Lib.hid ((((X8.out.set_ 0 (.int .i64 (wrap64 (ch + mo)))).set_ 1 (.int .i64 (wrap64 (dis + mo)))).set_ 2 (.int .i64 (wrap64 (cap + mo)))).drew)
  have HB9 := Lib.hid ((((HB8.out.setCell (p := ⟨bt, 0, none⟩) HBT.out (.int .i64 (wrap64 (ch + mo)))).setCell (p := ⟨bt, 1, none⟩) HBT.out (.int .i64 (wrap64 (dis + mo)))).setCell (p := ⟨bt, 2, none⟩) HBT.out (.int .i64 (wrap64 (cap + mo)))).drew)
  generalize (((w5.setCell ⟨bt, 0, none⟩ (.int .i64 (wrap64 (ch + mo)))).setCell ⟨bt, 1, none⟩ (.int .i64 (wrap64 (dis + mo)))).setCell ⟨bt, 2, none⟩ (.int .i64 (wrap64 (cap + mo)))).drew = w6 at *
  clear c8 d8 f8 X8 HB8 HS8
  have x9 := X9.out.cell
  go_wp2_with fail
  refine (H2.out _ (HR.out.go HB9.out)).mono ?_
  rintro e w7 ⟨v7, rfl, hb⟩
  have HB10 := Lib.hid (HB9.out.trans (hb.mono HB9.out.size))
  clear hb x9 X9 HB9
  cases ho : allOk [eb, em]
  · rw [ho] at HKK
    clear ho HFIN
    go_wp2_with fail
    refine (HKK.out _ _ (Reads.lit w7 #[.int .i64 eb, .int .i64 em] 25 2 1 _ rfl rfl)).mono ?_
    rintro e w8 ⟨rfl, rfl⟩
    go_wp2_with fail
    go_ret
    exact ⟨rfl, HB10.out.alloc HB10.out.size _⟩
  · rw [ho] at HKK
    have hle := HFIN.out ho
    clear ho HFIN
    go_wp2_with fail
    refine (HKK.out _ _ (Reads.lit w7 #[.int .i64 eb, .int .i64 em] 25 2 1 _ rfl rfl)).mono ?_
    rintro e w8 ⟨rfl, rfl⟩
    go_wp2_with fail
    go_ret
    exact ⟨rfl, HB10.out.alloc HB10.out.size _⟩
theorem storageLarger_walk (hsort : SortPOk) (ch dis cap beg en : Int) (A : Option Addr) (n c : Nat) (ps : List Int) (more : Int) (w : World) (hr : Reads w w.heap.size 1 A n (ints ps)) :
    Calls Try.prog 11 #[vSt ch dis cap beg en, .slice A n c, .int .i64 more] w fun e w' => e = .returned (.bool true) ∧ Below w.heap.size w w' := by
  refine storageLarger_core hsort ch dis cap beg en more A n c ps w hr (Pl.sBest ch dis cap beg en ps).2.1 (Pl.sBest ch dis cap beg en ps).2.2
    (Pl.sBest (wrap64 (ch + Pl.withinF more 0 50)) (wrap64 (dis + Pl.withinF more 0 50)) (wrap64 (cap + Pl.withinF more 0 50)) beg en ps).2.1 (Pl.sBest (wrap64 (ch + Pl.withinF more 0 50)) (wrap64 (dis + Pl.withinF more 0 50)) (wrap64 (cap + Pl.withinF more 0 50)) beg en ps).2.2
    (fun w h => (sBest_any hsort ch dis cap beg en A n c ps w h).mono ?_) (fun w h => (sBest_any hsort _ _ _ beg en A n c ps w h).mono ?_) ?_
  · rintro e w' ⟨A', c', rfl, _, hb⟩
    exact ⟨_, rfl, hb⟩
  · rintro e w' ⟨A', c', rfl, _, hb⟩
    exact ⟨_, rfl, hb⟩
  · intro hok
    rw [allOk_true] at hok
    have k1 := hok _ (List.mem_cons_self)
    have k2 := hok _ (List.mem_cons_of_mem _ (List.mem_cons_self))
    have hs := (Pl.sCheckP_ok (Pl.sBest_ok k1).1).1
    have hm := Pl.withinF_bd more 0 50 (by omega)
    have h1 := hs.hch
    have h2 := hs.hdis
    have h3 := hs.hcap
    have e1 : wrap64 (ch + Pl.withinF more 0 50) = ch + Pl.withinF more 0 50 := IntWalk.wrap64_in _ ⟨by omega, by omega⟩
    have e2 : wrap64 (dis + Pl.withinF more 0 50) = dis + Pl.withinF more 0 50 := IntWalk.wrap64_in _ ⟨by omega, by omega⟩
    have e3 : wrap64 (cap + Pl.withinF more 0 50) = cap + Pl.withinF more 0 50 := IntWalk.wrap64_in _ ⟨by omega, by omega⟩
    rw [e1, e2, e3] at k2 ⊢
    exact Pl.storage_larger hm.1 k1 k2
end Go.Proofs.Ytjdagpmfnmodbaa
