/- AuctionMore: whatever the arguments are, the call returns true, and all read afterwards as they read before. No condition. -/
import Derived.Test.YtpbomomgjhbljaaLawAuctionMore
import Derived.SizedLaws
namespace Go.Proofs.Ytpbomomgjhbljaa
open Go.ChangeShapes Go.WideShapes Go.ChangeAt Go.RowKit
section
variable {H : Type} {enc : TypeId × Value → H} {W : World} {base : Nat} {sp : Nat → Bool} {held : Bool}
theorem bytes_order : Try.prog.bytesOf 32 = 40 := by kernel_rfl
theorem orders_reach {A : Option Addr} {n c : Nat} {d : DataW H} {p : List MemPlace} (h : DataW.Trod enc Try.prog W base sp held 30 (.slice A n c) d p) {ts : List TypeId} {ds : List (DataW H)}
    (hsz : (DataW.weightsEach Try.prog ts ds).all (· ≤ reachBytes) = true) {j : Nat} (ht : ts[j]? = some 30) (hd : ds[j]? = some d) : n * 40 ≤ 140737488351232 := by
  obtain ⟨fuel, hf⟩ := h
  rcases Go.Deep.open_slice Try.underlying30 hf with ⟨hcs, _⟩ | ⟨a, len, cap, m, k, D, Q, hcs, _, hl, hm, hmm, hx, _⟩
  · injection hcs with hcs _
    injection hcs with _ hn _
    subst hn
    decide
  · injection hcs with hcs _
    injection hcs with _ hn _
    subst hn
    injection hx with hx _
    subst hx
    have := sized_slice hsz ht hd Try.underlying30
    rw [bytes_order] at this
    simp only [List.length_map, List.length_range, reachBytes] at this
    have h2 : n * 40 ≤ (n + (m - n)) * 40 := Nat.mul_le_mul_right 40 (by omega)
    omega
set_option maxRecDepth 100000 in
theorem open_order_arg {r : Reach} {b0 : Nat} {v : Value} {d : DataW H} {p : List MemPlace} (hv : Value.okWide Try.prog W r b0 32 v) (h : DataW.Trod enc Try.prog W base sp held 32 v d p) :
    ∃ o : Pl.Ord, v = .agg #[.string o.name, .bool o.buy, .int .i64 o.pow, .int .i64 o.price] ∧ OrdIn o := by
  obtain ⟨cs, rfl, _⟩ := okWide_struct Try.underlying32 hv
  obtain ⟨fuel, hf⟩ := h
  obtain ⟨a, ha, hq⟩ := open_order Try.underlying32 (by kernel_rfl) (by kernel_rfl) Try.underlying9 Try.underlying4 Try.underlying3 Try.underlying3 hf
  refine ⟨a, ?_, hq⟩
  have : cs = (decOrd a).toArray := by rw [← ha]; first | rfl | simp [Value.cells]
  rw [this]
  rfl
end
set_option maxRecDepth 100000 in
theorem auctionMore_lifted (os : Os) (started : os.Started) (H : Type) (enc : TypeId × Value → H) :
    ReturnsInHanded {} Try.checked os 4 .any (Rows.auctionMoreSpec.pre6 enc Try.prog Try.f4 Rows.auctionMoreRow.domain false) (Rows.auctionMoreSpec.post enc Try.prog Try.f4 false true false false) := by
  refine returnsInHanded_of_change_sized (C := Try.checked) Try.own started (by kernel_rfl) Try.func4
    (ChangeSpec.witness6 (enc := enc) (C := Try.checked) false ⟨#[], #[.slice none 0 0, .agg #[.string ⟨#[]⟩, .bool false, .int .i64 0, .int .i64 0]], []⟩ 8 (by kernel_rfl) (by kernel_rfl) (by kernel_rfl) (by kernel_rfl)) ?_
  intro W base args ds gs before hval0 hW _ hsz0 _
  have hval : ∀ (j : Nat) t v, Try.f4.params[j]? = some t → args[j]? = some v → Value.okWide Try.prog W .any base t v := hval0
  have hW' := hW
  obtain ⟨p, q, hA0, hV, rfl, _, _⟩ := hW
  have hA : DataW.TrodAll enc Try.prog W 0 (fun _ => true) true Try.f4.params.toList args.toList ds p := hA0
  have hsz : (DataW.weightsEach Try.prog (Try.f4.params.toList ++ Rows.auctionMoreSpec.plain.varTypes Try.prog) (ds ++ gs)).all (· ≤ reachBytes) = true := hsz0
  rw [Try.params4] at hA hval hsz
  obtain ⟨v0, v1, d0, d1, p0, p1, rfl, rfl, rfl, h0, h1⟩ := trodAll_two hA
  obtain ⟨rfl, rfl⟩ := trodVars_none hV
  obtain ⟨A0, n0, c0, l0, rfl, q0, m0, r0, b0⟩ := open_orders_arg Try.underlying32 (by kernel_rfl) (by kernel_rfl) Try.underlying9 Try.underlying4 Try.underlying3 Try.underlying3 (hval 0 30 v0 rfl rfl) h0
  obtain ⟨o1, rfl, b1⟩ := open_order_arg (hval 1 32 v1 rfl rfl) h1
  have hre := orders_reach h0 hsz (j := 0) rfl rfl
  refine (auctionMore_walk A0 n0 c0 l0 o1 W hre q0 b0 r0 b1).mono fun e W' ⟨he, hw⟩ => ?_
  refine ⟨_, he, law_post Try.laidOut ?_ rfl Try.underlying4 rfl rfl hW' hw⟩
  rw [Try.params4]
  intro t ht
  simp at ht
  rcases ht with rfl | rfl
  · exact ⟨by kernel_rfl, of_decide_eq_true (by kernel_rfl)⟩
  · exact ⟨by kernel_rfl, of_decide_eq_true (by kernel_rfl)⟩
theorem auctionMore_holds : Rows.AuctionMoreSaid :=
  OpenClaim.holds_of_wide 4 Try.f4 rfl rfl rfl rfl rfl rfl rfl ⟨rfl, rfl, rfl, rfl, rfl⟩ rfl rfl rfl rfl rfl (by kernel_rfl) Try.func4 (by kernel_rfl)
    (of_decide_eq_true (by kernel_rfl)) (by unfold Func.isWrapper; rw [if_neg (of_decide_eq_false (by kernel_rfl))]; exact ⟨rfl, rfl⟩)
    (fun os started H enc _ => auctionMore_lifted os started H enc)
end Go.Proofs.Ytpbomomgjhbljaa
