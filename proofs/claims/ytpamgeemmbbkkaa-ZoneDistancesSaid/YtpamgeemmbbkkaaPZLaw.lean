/- Distance and the reference's Ways say the same, plain. No program. -/
import Derived.Test.YtpamgeemmbbkkaaZDistance
import Derived.Test.YtpamgeemmbbkkaaPWays
import Derived.Test.YtpamgeemmbbkkaaPFieldB
namespace Go.Proofs.Ytpamgeemmbbkkaa.Pl
theorem ze_sym_nonneg {N : Net} (hok : NetOk N) (wo : List ByteArray) : ∀ u v l, Adj (ZE N wo) u v l → 0 ≤ l := by
  intro u v l h
  rcases h with h | h
  · exact ((ze_ok hok wo).inn _ _ _ h).2.2.2.2.2.1
  · exact ((ze_ok hok wo).inn _ _ _ h).2.2.2.2.2.1
theorem min_rest {S : Int → Prop} {m rest : Int} (h : MinOf S m) (hr : 0 ≤ rest) : MinOf (fun d => ∃ d1, S d1 ∧ d = d1 + rest) (if 0 ≤ m then m + rest else -1) := by
  rcases h with ⟨h1, h2⟩ | ⟨h1, h2, h3⟩
  · rw [if_neg (by omega)]
    exact .inl ⟨rfl, fun d ⟨d1, h4, _⟩ => h2 d1 h4⟩
  · rw [if_pos h1]
    exact .inr ⟨by omega, ⟨m, h2, rfl⟩, fun d ⟨d1, h4, h5⟩ => by have := h3 d1 h4; omega⟩
theorem dist_ways {N : Net} {br pb : ByteArray} {part at_ : Int} {far : List Int} (hok : NetOk N) (hp : 0 ≤ part ∧ part ≤ 1000) (hn : N.nodes.length ≤ 8) (hm : braOf N pb ∈ N.branches) (hnm : (braOf N pb).name = pb) (ha : 0 ≤ at_ ∧ at_ < N.nodes.length)
    (hf : ∀ v : Int, 0 ≤ v → v < N.nodes.length → MinOf (WalkZ (ZE N [br, pb]) at_ v) (farAt far v)) : distB N far (braOf N pb) part = waysP N br pb part 9 at_ [at_] := by
  have hx := x_range hok hm
  obtain ⟨hb1, hb2, _, _⟩ := hok.bra _ hm
  have i1 := idxT_mem hb1
  have i2 := idxT_mem hb2
  have h1 := sp_min (ze_sym_nonneg hok [br, pb]) (waysP_min hok (wo := br) (br := pb) hp 9 at_ [at_] (by simp) (fun v hv => by simp at hv; subst hv; exact ha) (by simp; omega))
  refine MinOf.uniq ?_ h1
  have h2 := (min_empty.better (min_rest (hf _ i1.1 i1.2.1) (xpart_range hx hp).1)).better (min_rest (hf _ i2.1 i2.2.1) (xpart_range hx (part := 1000 - part) (by omega)).1)
  refine h2.iff (fun d => ?_)
  constructor
  · rintro ((h | ⟨d1, h3, h4⟩) | ⟨d1, h3, h4⟩)
    · exact h.elim
    · exact ⟨_, d1, _, h3, ⟨_, hm, by rw [hnm], .inl ⟨rfl, rfl⟩⟩, h4⟩
    · exact ⟨_, d1, _, h3, ⟨_, hm, by rw [hnm], .inr ⟨rfl, rfl⟩⟩, h4⟩
  · rintro ⟨v, d1, r, h3, ⟨x, hxm, hxn, hxe⟩, h4⟩
    have hxb : x = braOf N pb := bra_unique hok hxm hm (by rw [hnm]; exact lst_inj hxn)
    subst hxb
    rcases hxe with ⟨rfl, rfl⟩ | ⟨rfl, rfl⟩
    · exact .inl (.inr ⟨d1, h3, h4⟩)
    · exact .inr ⟨d1, h3, h4⟩
/-- what the law compares -/
theorem zlaw {N : Net} {node br : ByteArray} {zs : List (Int × Int)} {pb : ByteArray} {part d e : Int} (h : DistanceSaid N node br zs pb part d e) (h0 : zchkE N node br zs pb part = 0) (h8 : N.nodes.length ≤ 8) (at_ : Int) (hat : at_ = idxT N.nodes (farEnd (braOf N br) node)) :
    (br = pb → e = 0 ∧ d = (braOf N br).x * (if lst node = lst (braOf N br).to_ then 1000 - part else part)) ∧
    (br ≠ pb → (waysP N br pb part 9 at_ [at_] < 0 → e = 8 ∧ d = 0) ∧ (0 ≤ waysP N br pb part 9 at_ [at_] → e = 0 ∧ d = 1000 * (braOf N br).x + waysP N br pb part 9 at_ [at_])) := by
  obtain ⟨hok, hi, hj, hpt, _, _, hnd⟩ := zchk_ok h0
  obtain ⟨_, hbl, hbe, hbn⟩ := idxBra_at hi
  obtain ⟨_, hpl, hpe, hpn⟩ := idxBra_at hj
  have hbm : braOf N br ∈ N.branches := by rw [hbe]; exact List.getElem_mem _
  have hpm : braOf N pb ∈ N.branches := by rw [hpe]; exact List.getElem_mem _
  obtain ⟨d1, is, h1, h2, h3, h4⟩ := h.2 h0
  obtain ⟨hb1, hb2, hb3, _⟩ := hok.bra _ hbm
  refine ⟨fun hbr => ?_, fun hbr => ?_⟩
  · obtain ⟨rfl, rfl⟩ := h1 hbr
    obtain ⟨h5, h6⟩ := h3 rfl
    refine ⟨h5, ?_⟩
    rw [h6]
    rcases hnd with h7 | h7
    · rw [if_pos h7, if_neg (fun h9 => hb3 (lst_inj (h7.symm.trans h9)))]
    · rw [if_neg (fun h9 => hb3 (lst_inj (h9.symm.trans h7))), if_pos h7]
  · obtain ⟨far, h5, h6, h7⟩ := h2 hbr
    have hfe : farEnd (braOf N br) node ∈ N.nodes := by unfold farEnd; split <;> assumption
    have ia := idxT_mem hfe
    rw [← hat] at ia h5
    have hd := dist_ways hok hpt h8 hpm hpn ⟨ia.1, ia.2.1⟩ h5
    rw [hd] at h6 h7
    refine ⟨fun hw => ?_, fun hw => ?_⟩
    · exact h4 (by rw [h7]; exact decide_eq_false (by omega))
    · obtain ⟨h8, h9⟩ := h3 (by rw [h7]; exact decide_eq_true hw)
      exact ⟨h8, by rw [h9, h6]⟩
end Go.Proofs.Ytpamgeemmbbkkaa.Pl
