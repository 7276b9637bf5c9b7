/- Networks, plain: what netmodel.Check answers. No program. A region of reads and of calls that make memory, walked once in the order of the text: the class of worlds that leave the blocks of W alone. No condition. A block of integers that the call owns, told whole. No condition. -/
import Derived.Test.YtoblpcljhblnmaaGreatDoorPName
import Derived.Test.YtoblpcljhblnmaaGreatDoorBase
import Derived.Test.YtoblpcljhblnmaaGreatDoorSrt
namespace Go.Proofs.YtoblpcljhblnmaaGreatDoor.Pl
structure Swi where
  name : ByteArray
  a : ByteArray
  b : ByteArray
  breaker : Bool
  opened : Bool
structure Bra where
  name : ByteArray
  from_ : ByteArray
  to_ : ByteArray
  x : Int
  tap : Int
  shift : Int
  limit : Int
  short : Int
  hold : Int
structure Gen where
  name : ByteArray
  node : ByteArray
  least : Int
  most : Int
  ramp : Int
structure Loa where
  name : ByteArray
  node : ByteArray
  demand : Int
structure Sto where
  name : ByteArray
  node : ByteArray
  charge : Int
  discharge : Int
  capacity : Int
structure Net where
  nodes : List ByteArray
  switches : List Swi
  branches : List Bra
  gens : List Gen
  loads : List Loa
  stores : List Sto
def outN (n low high : Int) : Bool := decide (n < low) || decide (high < n)
def braOut (b : Bra) : Bool := outN b.x 1 10000 || outN b.tap 500 1500 || outN b.shift (-1000) 1000 || outN b.limit 0 100000 || outN b.short b.limit 100000 || outN b.hold 0 200000
def braE (b : Bra) : Int := if braOut b then 4 else 0
def genOut (g : Gen) : Bool := outN g.least 0 100000 || outN g.most g.least 100000 || outN g.ramp 0 100000
def loaOut (l : Loa) : Bool := outN l.demand 0 100000
def stoOut (s : Sto) : Bool := outN s.charge 0 100000 || outN s.discharge 0 100000 || outN s.capacity 0 100000
def lst (s : ByteArray) : List UInt8 := s.data.toList
theorem lst_inj {s t : ByteArray} (h : lst s = lst t) : s = t := ByteArray.ext (Array.toList_inj.mp h)
def inB (zs : List ByteArray) (s : ByteArray) : Bool := zs.any fun z => decide (lst z = lst s)
theorem inB_iff {zs : List ByteArray} {s : ByteArray} : inB zs s = true ↔ s ∈ zs := by
  unfold inB
  rw [List.any_eq_true]
  constructor
  · rintro ⟨z, hz, e⟩
    rw [← lst_inj (of_decide_eq_true e)]; exact hz
  · exact fun h => ⟨s, h, by simp⟩
def devE (nodes : List ByteArray) (seen : List (List UInt8)) (name : ByteArray) (at_ : List ByteArray) : Int :=
  if nameB name = false then 5 else if lst name ∈ seen then 7 else if at_.all (inB nodes) = false then 6 else if at_.length = 2 ∧ lst (at_.getD 0 ByteArray.empty) = lst (at_.getD 1 ByteArray.empty) then 3 else 0
structure Dev where
  name : ByteArray
  at_ : List ByteArray
  bad : Bool
def devs (nodes : List ByteArray) (seen : List (List UInt8)) : List Dev → Int
  | [] => 0
  | d :: l => if devE nodes seen d.name d.at_ ≠ 0 then devE nodes seen d.name d.at_ else if d.bad = true then 4 else devs nodes (lst d.name :: seen) l
def dNode (s : ByteArray) : Dev := ⟨s, [], false⟩
def dSwi (s : Swi) : Dev := ⟨s.name, [s.a, s.b], false⟩
def dBra (b : Bra) : Dev := ⟨b.name, [b.from_, b.to_], braOut b⟩
def dGen (g : Gen) : Dev := ⟨g.name, [g.node], genOut g⟩
def dLoa (g : Loa) : Dev := ⟨g.name, [g.node], loaOut g⟩
def dSto (g : Sto) : Dev := ⟨g.name, [g.node], stoOut g⟩
def ends (N : Net) : List Dev := N.gens.map dGen ++ (N.loads.map dLoa ++ N.stores.map dSto)
def allDevs (N : Net) : List Dev := N.nodes.map dNode ++ (N.switches.map dSwi ++ (N.branches.map dBra ++ ends N))
def big (N : Net) : Bool := decide (24 < N.nodes.length) || decide (32 < N.switches.length) || decide (24 < N.branches.length) || decide (10 < N.gens.length) || decide (12 < N.loads.length) || decide (4 < N.stores.length)
def netE (N : Net) : Int := if big N then 2 else devs N.nodes [] (allDevs N)
theorem devE_ok {nodes : List ByteArray} {seen : List (List UInt8)} {name : ByteArray} {at_ : List ByteArray} (h : devE nodes seen name at_ = 0) :
    nameB name = true ∧ lst name ∉ seen ∧ (∀ s ∈ at_, s ∈ nodes) ∧ (at_.length = 2 → at_.getD 0 ByteArray.empty ≠ at_.getD 1 ByteArray.empty) := by
  unfold devE at h
  split at h
  · omega
  · rename_i h1
    split at h
    · omega
    · rename_i h2
      split at h
      · omega
      · rename_i h3
        split at h
        · omega
        · rename_i h4
          refine ⟨by simpa using h1, h2, fun s hs => ?_, fun h5 h6 => h4 ⟨h5, by rw [h6]⟩⟩
          have h3 : at_.all (inB nodes) = true := by simpa using h3
          exact inB_iff.1 (List.all_eq_true.1 h3 s hs)
def DevOk (nodes : List ByteArray) (d : Dev) : Prop := nameB d.name = true ∧ (∀ s ∈ d.at_, s ∈ nodes) ∧ (d.at_.length = 2 → d.at_.getD 0 ByteArray.empty ≠ d.at_.getD 1 ByteArray.empty) ∧ d.bad = false
theorem devs_ok {nodes : List ByteArray} : ∀ {l : List Dev} {seen : List (List UInt8)}, devs nodes seen l = 0 → (∀ d ∈ l, DevOk nodes d ∧ lst d.name ∉ seen) ∧ (l.map Dev.name).Nodup
  | [], _, _ => ⟨by simp, by simp⟩
  | d :: l, seen, h => by
    unfold devs at h
    split at h
    · exact absurd h (by assumption)
    · rename_i h1
      split at h
      · omega
      · rename_i h2
        have h1 : devE nodes seen d.name d.at_ = 0 := by simpa using h1
        obtain ⟨a, b⟩ := devs_ok h
        obtain ⟨c1, c2, c3, c4⟩ := devE_ok h1
        refine ⟨fun x hx => ?_, ?_⟩
        · rcases List.mem_cons.1 hx with rfl | hx
          · exact ⟨⟨c1, c3, c4, by simpa using h2⟩, c2⟩
          · exact ⟨(a x hx).1, fun hm => (a x hx).2 (by simp [hm])⟩
        · rw [List.map_cons, List.nodup_cons]
          refine ⟨fun hm => ?_, b⟩
          obtain ⟨x, hx, e⟩ := List.mem_map.1 hm
          exact (a x hx).2 (by rw [e]; simp)
structure NetOk (N : Net) : Prop where
  nn : N.nodes.length ≤ 24
  ns : N.switches.length ≤ 32
  nb : N.branches.length ≤ 24
  ng : N.gens.length ≤ 10
  nl : N.loads.length ≤ 12
  nt : N.stores.length ≤ 4
  nodup : ((allDevs N).map Dev.name).Nodup
  swi : ∀ s ∈ N.switches, s.a ∈ N.nodes ∧ s.b ∈ N.nodes ∧ s.a ≠ s.b
  bra : ∀ b ∈ N.branches, b.from_ ∈ N.nodes ∧ b.to_ ∈ N.nodes ∧ b.from_ ≠ b.to_ ∧ braOut b = false
  gen : ∀ g ∈ N.gens, g.node ∈ N.nodes ∧ genOut g = false
  loa : ∀ g ∈ N.loads, g.node ∈ N.nodes ∧ loaOut g = false
  sto : ∀ g ∈ N.stores, g.node ∈ N.nodes ∧ stoOut g = false
  small : ∀ d ∈ allDevs N, nameB d.name = true
theorem netE_ok {N : Net} (h : netE N = 0) : NetOk N := by
  unfold netE at h
  split at h
  · omega
  · rename_i hb
    have hb : big N = false := by simpa using hb
    unfold big at hb
    simp only [Bool.or_eq_false_iff, decide_eq_false_iff_not, Nat.not_lt] at hb
    obtain ⟨⟨⟨⟨⟨h1, h2⟩, h3⟩, h4⟩, h5⟩, h6⟩ := hb
    obtain ⟨ha, hn⟩ := devs_ok h
    have hd : ∀ d ∈ allDevs N, DevOk N.nodes d := fun d hd => (ha d hd).1
    refine ⟨h1, h2, h3, h4, h5, h6, hn, fun s hs => ?_, fun s hs => ?_, fun s hs => ?_, fun s hs => ?_, fun s hs => ?_, fun d h => (hd d h).1⟩
    · obtain ⟨_, a, b, _⟩ := hd (dSwi s) (by unfold allDevs; simp only [List.mem_append]; exact .inr (.inl (List.mem_map_of_mem hs)))
      exact ⟨a _ (by simp [dSwi]), a _ (by simp [dSwi]), b rfl⟩
    · obtain ⟨_, a, b, c⟩ := hd (dBra s) (by unfold allDevs; simp only [List.mem_append]; exact .inr (.inr (.inl (List.mem_map_of_mem hs))))
      exact ⟨a _ (by simp [dBra]), a _ (by simp [dBra]), b rfl, c⟩
    · obtain ⟨_, a, b, c⟩ := hd (dGen s) (by unfold allDevs ends; simp only [List.mem_append]; exact .inr (.inr (.inr (.inl (List.mem_map_of_mem hs)))))
      exact ⟨a _ (by simp [dGen]), c⟩
    · obtain ⟨_, a, b, c⟩ := hd (dLoa s) (by unfold allDevs ends; simp only [List.mem_append]; exact .inr (.inr (.inr (.inr (.inl (List.mem_map_of_mem hs))))))
      exact ⟨a _ (by simp [dLoa]), c⟩
    · obtain ⟨_, a, b, c⟩ := hd (dSto s) (by unfold allDevs ends; simp only [List.mem_append]; exact .inr (.inr (.inr (.inr (.inr (List.mem_map_of_mem hs))))))
      exact ⟨a _ (by simp [dSto]), c⟩
end Go.Proofs.YtoblpcljhblnmaaGreatDoor.Pl
namespace Go.Proofs.YtoblpcljhblnmaaGreatDoor
open Go.RowKit
end Go.Proofs.YtoblpcljhblnmaaGreatDoor
namespace Go.Proofs.YtoblpcljhblnmaaGreatDoor
open Go.RowKit
def IBlk (w : World) (g : Nat) (t : TypeId) (os : List Int) : Prop := Blk w g t (ints os).toArray
section
variable {w w' : World} {g : Nat} {t : TypeId} {os : List Int}
theorem IBlk.cell (h : IBlk w g t os) (k : Nat) (hk : k < os.length) : w.cell? ⟨g, k, none⟩ = some (.int .i64 (os.getD k 0)) := by
  rw [Blk.cell h k]
  unfold ints
  simp [hk]
theorem IBlk.set_ (h : IBlk w g t os) (k : Nat) (x : Int) : IBlk (w.setCell ⟨g, k, none⟩ (.int .i64 x)) g t (os.set k x) := by
  have := Blk.set_ h k (.int .i64 x)
  unfold IBlk
  rw [show (ints (os.set k x)).toArray = (ints os).toArray.setIfInBounds k (.int .i64 x) from by unfold ints; simp [List.map_set]]
  exact this
theorem IBlk.frozen (h : IBlk w g t os) (k : Nat) : w.frozen? ⟨g, k, none⟩ = false := Blk.frozen h k
theorem IBlk.lt (h : IBlk w g t os) : g < w.heap.size := Blk.lt h
theorem IBlk.go (h : IBlk w g t os) (hb : Below w.heap.size w w') : IBlk w' g t os := Blk.go h hb
theorem IBlk.alloc (h : IBlk w g t os) (o : Obj) : IBlk (w.alloc o) g t os := Blk.alloc h o
theorem IBlk.grown {row : Option Nat} (h : IBlk w g t os) (hb : w.grownBy w' row) (hg : some g ≠ row) : IBlk w' g t os := Blk.grown h hb hg
end
end Go.Proofs.YtoblpcljhblnmaaGreatDoor
