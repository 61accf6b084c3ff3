/- ProcessNone: the evaluator's run of the law's examples, whole. -/
import Derived.Test.YtbingohaiippeabGreatDoorKA
import Derived.Test.YtbingohaiippeabGreatDoorKB
import Derived.Test.YtbingohaiippeabGreatDoorKC
import Derived.Test.YtbingohaiippeabGreatDoorK15
import Derived.Test.YtbingohaiippeabGreatDoorYF
import Derived.Test.YtbingohaiippeabGreatDoorYG
import Derived.Test.YtbingohaiippeabGreatDoorYE
import Derived.Shelf.SlMaps.Clone
namespace Go.Proofs.YtbingohaiippeabGreatDoor
open Go.Y
set_option maxRecDepth 1000000
theorem runs_awake : isT (callF gg (evalQ gg 10000) 16 [] m0) = true := by
  refine endT_call (fi := fi16) (by kernel_rfl) (by kernel_rfl) ?_
  rw [cut_snap (n := 9994) 5 run_a, cut_snap (n := 9993) 1 run_b]
  exact run_c
end Go.Proofs.YtbingohaiippeabGreatDoor

/- The examples hold, as contracts (written by wip/tools/ytab.py). -/
namespace Go.Proofs.YtbingohaiippeabGreatDoor
open Go.Shelf Go.Proofs Go.RowKit Go.Y Go.X
set_option maxRecDepth 100000
def Tryz.layClone39_ren : Go.Shelf.Ren := ⟨fun | 5 => 39 | 7 => 72 | n => n, fun | 4 => 4 | 20 => 20 | 23 => 89 | 25 => 3 | 3 => 79 | n => n, fun | n => n⟩
theorem Tryz.layClone39 : Go.Proofs.SlLaysW.n5 Tryz.prog Tryz.layClone39_ren where
  mixed := by kernel_rfl
  f5 := ⟨"maps.Clone[map[int]freehold/api.Block,int,freehold/api.Block]", by decide, Tryz.func39.trans (congrArg some (by kernel_rfl))⟩
  f7 := Tryz.func72.trans (congrArg some (by kernel_rfl))
  t4 := Tryz.underlying4
  a4 := Tryz.isAgg4
  z4 := Tryz.sizeOf4
  v4 := Tryz.zeroValue4
  t20 := Tryz.underlying20
  a20 := Tryz.isAgg20
  z20 := Tryz.sizeOf20
  v20 := Tryz.zeroValue20
  t23 := Tryz.underlying89
  a23 := Tryz.isAgg89
  z23 := Tryz.sizeOf89
  v23 := Tryz.zeroValue89
theorem clone_c39 : CloneC Tryz.prog 39 := ⟨⟨_, Tryz.func39, by kernel_rfl, rfl⟩, fun w => Go.Proofs.AnyW.maps_Clone_nil Tryz.layClone39 w, fun b es clock w hb => Go.Proofs.AnyW.maps_Clone Tryz.layClone39 b es clock w hb⟩
def Tryz.layClone111_ren : Go.Shelf.Ren := ⟨fun | 5 => 111 | 7 => 72 | n => n, fun | 4 => 4 | 20 => 20 | 23 => 205 | 25 => 3 | 3 => 4 | n => n, fun | n => n⟩
theorem Tryz.layClone111 : Go.Proofs.SlLaysW.n5 Tryz.prog Tryz.layClone111_ren where
  mixed := by kernel_rfl
  f5 := ⟨"maps.Clone[map[int]bool,int,bool]", by decide, Tryz.func111.trans (congrArg some (by kernel_rfl))⟩
  f7 := Tryz.func72.trans (congrArg some (by kernel_rfl))
  t4 := Tryz.underlying4
  a4 := Tryz.isAgg4
  z4 := Tryz.sizeOf4
  v4 := Tryz.zeroValue4
  t20 := Tryz.underlying20
  a20 := Tryz.isAgg20
  z20 := Tryz.sizeOf20
  v20 := Tryz.zeroValue20
  t23 := Tryz.underlying205
  a23 := Tryz.isAgg205
  z23 := Tryz.sizeOf205
  v23 := Tryz.zeroValue205
theorem clone_c111 : CloneC Tryz.prog 111 := ⟨⟨_, Tryz.func111, by kernel_rfl, rfl⟩, fun w => Go.Proofs.AnyW.maps_Clone_nil Tryz.layClone111 w, fun b es clock w hb => Go.Proofs.AnyW.maps_Clone Tryz.layClone111 b es clock w hb⟩
theorem inv128 : ∀ x ∈ ([("freehold/heap.name", 262)] : List (String × FuncId)), ∀ (v : Value) (w : World), (method (Tryz.prog.types.size + Made.depth) 128 v x.1).run Tryz.prog w = .ok (x.2, v) w := by
  intro x hx v w
  simp only [List.mem_cons, List.not_mem_nil, or_false] at hx
  rcases hx with rfl <;> kernel_rfl
theorem inv120 : ∀ x ∈ ([("freehold/heap.name", 260)] : List (String × FuncId)), ∀ (v : Value) (w : World), (method (Tryz.prog.types.size + Made.depth) 120 v x.1).run Tryz.prog w = .ok (x.2, v) w := by
  intro x hx v w
  simp only [List.mem_cons, List.not_mem_nil, or_false] at hx
  rcases hx with rfl <;> kernel_rfl
theorem inv134 : ∀ x ∈ ([("freehold/heap.name", 265)] : List (String × FuncId)), ∀ (v : Value) (w : World), (method (Tryz.prog.types.size + Made.depth) 134 v x.1).run Tryz.prog w = .ok (x.2, v) w := by
  intro x hx v w
  simp only [List.mem_cons, List.not_mem_nil, or_false] at hx
  rcases hx with rfl <;> kernel_rfl
theorem inv142 : ∀ x ∈ ([("freehold/heap.name", 268)] : List (String × FuncId)), ∀ (v : Value) (w : World), (method (Tryz.prog.types.size + Made.depth) 142 v x.1).run Tryz.prog w = .ok (x.2, v) w := by
  intro x hx v w
  simp only [List.mem_cons, List.not_mem_nil, or_false] at hx
  rcases hx with rfl <;> kernel_rfl
theorem inv129 : ∀ x ∈ ([("freehold/heap.name", 263)] : List (String × FuncId)), ∀ (v : Value) (w : World), (method (Tryz.prog.types.size + Made.depth) 129 v x.1).run Tryz.prog w = .ok (x.2, v) w := by
  intro x hx v w
  simp only [List.mem_cons, List.not_mem_nil, or_false] at hx
  rcases hx with rfl <;> kernel_rfl
theorem inv139 : ∀ x ∈ ([("freehold/heap.name", 267)] : List (String × FuncId)), ∀ (v : Value) (w : World), (method (Tryz.prog.types.size + Made.depth) 139 v x.1).run Tryz.prog w = .ok (x.2, v) w := by
  intro x hx v w
  simp only [List.mem_cons, List.not_mem_nil, or_false] at hx
  rcases hx with rfl <;> kernel_rfl
theorem inv123 : ∀ x ∈ ([("freehold/heap.name", 261)] : List (String × FuncId)), ∀ (v : Value) (w : World), (method (Tryz.prog.types.size + Made.depth) 123 v x.1).run Tryz.prog w = .ok (x.2, v) w := by
  intro x hx v w
  simp only [List.mem_cons, List.not_mem_nil, or_false] at hx
  rcases hx with rfl <;> kernel_rfl
theorem inv131 : ∀ x ∈ ([("freehold/heap.name", 264)] : List (String × FuncId)), ∀ (v : Value) (w : World), (method (Tryz.prog.types.size + Made.depth) 131 v x.1).run Tryz.prog w = .ok (x.2, v) w := by
  intro x hx v w
  simp only [List.mem_cons, List.not_mem_nil, or_false] at hx
  rcases hx with rfl <;> kernel_rfl
theorem inv136 : ∀ x ∈ ([("freehold/heap.name", 266)] : List (String × FuncId)), ∀ (v : Value) (w : World), (method (Tryz.prog.types.size + Made.depth) 136 v x.1).run Tryz.prog w = .ok (x.2, v) w := by
  intro x hx v w
  simp only [List.mem_cons, List.not_mem_nil, or_false] at hx
  rcases hx with rfl <;> kernel_rfl
theorem inv146 : ∀ x ∈ ([("freehold/heap.name", 269)] : List (String × FuncId)), ∀ (v : Value) (w : World), (method (Tryz.prog.types.size + Made.depth) 146 v x.1).run Tryz.prog w = .ok (x.2, v) w := by
  intro x hx v w
  simp only [List.mem_cons, List.not_mem_nil, or_false] at hx
  rcases hx with rfl <;> kernel_rfl
theorem inv147 : ∀ x ∈ ([("freehold/heap.name", 270)] : List (String × FuncId)), ∀ (v : Value) (w : World), (method (Tryz.prog.types.size + Made.depth) 147 v x.1).run Tryz.prog w = .ok (x.2, v) w := by
  intro x hx v w
  simp only [List.mem_cons, List.not_mem_nil, or_false] at hx
  rcases hx with rfl <;> kernel_rfl
theorem gg_ok : GOk Tryz.prog tab gg := ⟨tab_ok, by kernel_rfl, tyT_ok⟩
theorem gg_inv : GInv Tryz.prog gg := ⟨⟨trivial, ⟨trivial, ⟨trivial, trivial, ⟨trivial, ⟨trivial, ⟨trivial, ⟨trivial, ⟨inv131, trivial, trivial⟩, trivial⟩, trivial⟩, ⟨trivial, ⟨trivial, ⟨inv147, trivial, trivial⟩, trivial⟩, trivial⟩⟩, ⟨trivial, ⟨trivial, ⟨trivial, ⟨inv139, trivial, trivial⟩, trivial⟩, trivial⟩, ⟨trivial, trivial, ⟨inv123, trivial, trivial⟩⟩⟩⟩⟩, ⟨trivial, ⟨trivial, ⟨trivial, ⟨trivial, ⟨trivial, ⟨inv129, trivial, trivial⟩, trivial⟩, trivial⟩, trivial⟩, trivial⟩, trivial⟩⟩, ⟨trivial, ⟨trivial, ⟨trivial, ⟨trivial, ⟨trivial, ⟨trivial, ⟨inv128, trivial, trivial⟩, trivial⟩, trivial⟩, trivial⟩, ⟨trivial, ⟨trivial, ⟨trivial, ⟨inv136, trivial, trivial⟩, trivial⟩, trivial⟩, ⟨trivial, trivial, ⟨inv120, trivial, trivial⟩⟩⟩⟩, trivial⟩, ⟨trivial, ⟨trivial, ⟨trivial, trivial, ⟨trivial, ⟨trivial, ⟨inv146, trivial, trivial⟩, trivial⟩, trivial⟩⟩, trivial⟩, ⟨trivial, ⟨trivial, ⟨trivial, ⟨trivial, ⟨inv134, trivial, trivial⟩, trivial⟩, trivial⟩, trivial⟩, ⟨trivial, ⟨trivial, ⟨trivial, ⟨inv142, trivial, trivial⟩, trivial⟩, trivial⟩, trivial⟩⟩⟩⟩⟩⟩
theorem gg_sp : T.All (SpR Tryz.prog gg) gg.sp := ⟨trivial, ⟨trivial, ⟨trivial, ⟨trivial, ⟨trivial, trivial, ⟨trivial, trivial, ⟨clone_sp clone_c111, trivial, trivial⟩⟩⟩, ⟨trivial, ⟨clone_sp clone_c39, trivial, trivial⟩, trivial⟩⟩, trivial⟩, ⟨trivial, ⟨trivial, ⟨trivial, trivial, ⟨trivial, ⟨collect_sp collect_c, trivial, trivial⟩, trivial⟩⟩, trivial⟩, trivial⟩⟩, ⟨trivial, ⟨trivial, trivial, ⟨trivial, trivial, ⟨trivial, ⟨sorted_sp sorted_c, trivial, trivial⟩, trivial⟩⟩⟩, trivial⟩⟩
theorem calls_ok : CallOk Tryz.prog gg (callF gg (evalQ gg 10000)) := calls_q (callY_ok gg_ok gg_inv fnT_ok gg_sp 10000)
end Go.Proofs.YtbingohaiippeabGreatDoor

/- ProcessNone: the examples hold, as a contract. -/
namespace Go.Proofs.YtbingohaiippeabGreatDoor
open Go.Y Go.X
theorem awake_spec (w : World) (S : FP) (h : RO w S (glC gg 2)) : Trip Tryz.prog 16 #[] w S fun v L => v = .bool true ∧ L = [] := awake_of calls_ok runs_awake w S h
end Go.Proofs.YtbingohaiippeabGreatDoor
