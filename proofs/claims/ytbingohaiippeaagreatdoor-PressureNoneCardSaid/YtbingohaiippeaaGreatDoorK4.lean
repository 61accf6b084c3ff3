/- PressureNone: the evaluator's run of the law's examples, whole. -/
import Derived.Test.YtbingohaiippeaaGreatDoorKA
import Derived.Test.YtbingohaiippeaaGreatDoorKB
import Derived.Test.YtbingohaiippeaaGreatDoorKC
import Derived.Test.YtbingohaiippeaaGreatDoorKD
import Derived.Test.YtbingohaiippeaaGreatDoorKE
import Derived.Test.YtbingohaiippeaaGreatDoorK16
import Derived.Test.YtbingohaiippeaaGreatDoorYF
import Derived.Test.YtbingohaiippeaaGreatDoorYG
import Derived.Test.YtbingohaiippeaaGreatDoorYE
import Derived.Shelf.SlMaps.Clone
namespace Go.Proofs.YtbingohaiippeaaGreatDoor
open Go.Y
set_option maxRecDepth 1000000
theorem runs_awake : isT (callF gg (evalQ gg 10000) 16 [] m0) = true := by
  refine endT_call (fi := fi16) (by kernel_rfl) (by kernel_rfl) ?_
  rw [cut_snap (n := 9994) 5 run_a, cut_snap (n := 9993) 1 run_b, cut_snap (n := 9991) 2 run_c, cut_snap (n := 9990) 1 run_d]
  exact run_e
end Go.Proofs.YtbingohaiippeaaGreatDoor

/- The examples hold, as contracts (written by wip/tools/ytab.py). -/
namespace Go.Proofs.YtbingohaiippeaaGreatDoor
open Go.Shelf Go.Proofs Go.RowKit Go.Y Go.X
set_option maxRecDepth 100000
def Tryz.layClone34_ren : Go.Shelf.Ren := ⟨fun | 5 => 34 | 7 => 54 | n => n, fun | 4 => 4 | 20 => 20 | 23 => 32 | 25 => 3 | 3 => 68 | n => n, fun | n => n⟩
theorem Tryz.layClone34 : Go.Proofs.SlLaysW.n5 Tryz.prog Tryz.layClone34_ren where
  mixed := by kernel_rfl
  f5 := ⟨"maps.Clone[map[int]freehold/api.Block,int,freehold/api.Block]", by decide, Tryz.func34.trans (congrArg some (by kernel_rfl))⟩
  f7 := Tryz.func54.trans (congrArg some (by kernel_rfl))
  t4 := Tryz.underlying4
  a4 := Tryz.isAgg4
  z4 := Tryz.sizeOf4
  v4 := Tryz.zeroValue4
  t20 := Tryz.underlying20
  a20 := Tryz.isAgg20
  z20 := Tryz.sizeOf20
  v20 := Tryz.zeroValue20
  t23 := Tryz.underlying32
  a23 := Tryz.isAgg32
  z23 := Tryz.sizeOf32
  v23 := Tryz.zeroValue32
theorem clone_c34 : CloneC Tryz.prog 34 := ⟨⟨_, Tryz.func34, by kernel_rfl, rfl⟩, fun w => Go.Proofs.AnyW.maps_Clone_nil Tryz.layClone34 w, fun b es clock w hb => Go.Proofs.AnyW.maps_Clone Tryz.layClone34 b es clock w hb⟩
def Tryz.layClone86_ren : Go.Shelf.Ren := ⟨fun | 5 => 86 | 7 => 54 | n => n, fun | 4 => 4 | 20 => 20 | 23 => 148 | 25 => 3 | 3 => 4 | n => n, fun | n => n⟩
theorem Tryz.layClone86 : Go.Proofs.SlLaysW.n5 Tryz.prog Tryz.layClone86_ren where
  mixed := by kernel_rfl
  f5 := ⟨"maps.Clone[map[int]bool,int,bool]", by decide, Tryz.func86.trans (congrArg some (by kernel_rfl))⟩
  f7 := Tryz.func54.trans (congrArg some (by kernel_rfl))
  t4 := Tryz.underlying4
  a4 := Tryz.isAgg4
  z4 := Tryz.sizeOf4
  v4 := Tryz.zeroValue4
  t20 := Tryz.underlying20
  a20 := Tryz.isAgg20
  z20 := Tryz.sizeOf20
  v20 := Tryz.zeroValue20
  t23 := Tryz.underlying148
  a23 := Tryz.isAgg148
  z23 := Tryz.sizeOf148
  v23 := Tryz.zeroValue148
theorem clone_c86 : CloneC Tryz.prog 86 := ⟨⟨_, Tryz.func86, by kernel_rfl, rfl⟩, fun w => Go.Proofs.AnyW.maps_Clone_nil Tryz.layClone86 w, fun b es clock w hb => Go.Proofs.AnyW.maps_Clone Tryz.layClone86 b es clock w hb⟩
theorem inv209 : ∀ x ∈ ([("freehold/heap.name", 298)] : List (String × FuncId)), ∀ (v : Value) (w : World), (method (Tryz.prog.types.size + Made.depth) 209 v x.1).run Tryz.prog w = .ok (x.2, v) w := by
  intro x hx v w
  simp only [List.mem_cons, List.not_mem_nil, or_false] at hx
  rcases hx with rfl <;> kernel_rfl
theorem inv227 : ∀ x ∈ ([("freehold/heap.name", 304)] : List (String × FuncId)), ∀ (v : Value) (w : World), (method (Tryz.prog.types.size + Made.depth) 227 v x.1).run Tryz.prog w = .ok (x.2, v) w := by
  intro x hx v w
  simp only [List.mem_cons, List.not_mem_nil, or_false] at hx
  rcases hx with rfl <;> kernel_rfl
theorem inv213 : ∀ x ∈ ([("freehold/heap.name", 299)] : List (String × FuncId)), ∀ (v : Value) (w : World), (method (Tryz.prog.types.size + Made.depth) 213 v x.1).run Tryz.prog w = .ok (x.2, v) w := by
  intro x hx v w
  simp only [List.mem_cons, List.not_mem_nil, or_false] at hx
  rcases hx with rfl <;> kernel_rfl
theorem inv224 : ∀ x ∈ ([("freehold/heap.name", 303)] : List (String × FuncId)), ∀ (v : Value) (w : World), (method (Tryz.prog.types.size + Made.depth) 224 v x.1).run Tryz.prog w = .ok (x.2, v) w := by
  intro x hx v w
  simp only [List.mem_cons, List.not_mem_nil, or_false] at hx
  rcases hx with rfl <;> kernel_rfl
theorem inv231 : ∀ x ∈ ([("freehold/heap.name", 305)] : List (String × FuncId)), ∀ (v : Value) (w : World), (method (Tryz.prog.types.size + Made.depth) 231 v x.1).run Tryz.prog w = .ok (x.2, v) w := by
  intro x hx v w
  simp only [List.mem_cons, List.not_mem_nil, or_false] at hx
  rcases hx with rfl <;> kernel_rfl
theorem inv220 : ∀ x ∈ ([("freehold/heap.name", 302)] : List (String × FuncId)), ∀ (v : Value) (w : World), (method (Tryz.prog.types.size + Made.depth) 220 v x.1).run Tryz.prog w = .ok (x.2, v) w := by
  intro x hx v w
  simp only [List.mem_cons, List.not_mem_nil, or_false] at hx
  rcases hx with rfl <;> kernel_rfl
theorem inv218 : ∀ x ∈ ([("freehold/heap.name", 301)] : List (String × FuncId)), ∀ (v : Value) (w : World), (method (Tryz.prog.types.size + Made.depth) 218 v x.1).run Tryz.prog w = .ok (x.2, v) w := by
  intro x hx v w
  simp only [List.mem_cons, List.not_mem_nil, or_false] at hx
  rcases hx with rfl <;> kernel_rfl
theorem inv207 : ∀ x ∈ ([("freehold/heap.name", 297)] : List (String × FuncId)), ∀ (v : Value) (w : World), (method (Tryz.prog.types.size + Made.depth) 207 v x.1).run Tryz.prog w = .ok (x.2, v) w := by
  intro x hx v w
  simp only [List.mem_cons, List.not_mem_nil, or_false] at hx
  rcases hx with rfl <;> kernel_rfl
theorem inv203 : ∀ x ∈ ([("freehold/heap.name", 295)] : List (String × FuncId)), ∀ (v : Value) (w : World), (method (Tryz.prog.types.size + Made.depth) 203 v x.1).run Tryz.prog w = .ok (x.2, v) w := by
  intro x hx v w
  simp only [List.mem_cons, List.not_mem_nil, or_false] at hx
  rcases hx with rfl <;> kernel_rfl
theorem inv217 : ∀ x ∈ ([("freehold/heap.name", 300)] : List (String × FuncId)), ∀ (v : Value) (w : World), (method (Tryz.prog.types.size + Made.depth) 217 v x.1).run Tryz.prog w = .ok (x.2, v) w := by
  intro x hx v w
  simp only [List.mem_cons, List.not_mem_nil, or_false] at hx
  rcases hx with rfl <;> kernel_rfl
theorem inv205 : ∀ x ∈ ([("freehold/heap.name", 296)] : List (String × FuncId)), ∀ (v : Value) (w : World), (method (Tryz.prog.types.size + Made.depth) 205 v x.1).run Tryz.prog w = .ok (x.2, v) w := by
  intro x hx v w
  simp only [List.mem_cons, List.not_mem_nil, or_false] at hx
  rcases hx with rfl <;> kernel_rfl
theorem gg_ok : GOk Tryz.prog tab gg := ⟨tab_ok, by kernel_rfl, tyT_ok⟩
theorem gg_inv : GInv Tryz.prog gg := ⟨⟨trivial, ⟨trivial, ⟨trivial, ⟨trivial, ⟨trivial, trivial, ⟨trivial, ⟨trivial, trivial, ⟨inv207, trivial, trivial⟩⟩, trivial⟩⟩, ⟨trivial, ⟨trivial, trivial, ⟨trivial, trivial, ⟨inv231, trivial, trivial⟩⟩⟩, trivial⟩⟩, ⟨trivial, ⟨trivial, ⟨trivial, trivial, ⟨trivial, trivial, ⟨inv227, trivial, trivial⟩⟩⟩, trivial⟩, ⟨trivial, ⟨trivial, ⟨trivial, trivial, ⟨inv203, trivial, trivial⟩⟩, trivial⟩, trivial⟩⟩⟩, ⟨trivial, ⟨trivial, ⟨trivial, trivial, ⟨trivial, ⟨trivial, trivial, ⟨inv209, trivial, trivial⟩⟩, trivial⟩⟩, ⟨trivial, trivial, ⟨trivial, ⟨trivial, trivial, ⟨inv217, trivial, trivial⟩⟩, trivial⟩⟩⟩, ⟨trivial, ⟨trivial, trivial, ⟨trivial, ⟨trivial, trivial, ⟨inv213, trivial, trivial⟩⟩, trivial⟩⟩, ⟨trivial, ⟨trivial, ⟨trivial, trivial, ⟨inv205, trivial, trivial⟩⟩, trivial⟩, trivial⟩⟩⟩⟩, ⟨trivial, ⟨trivial, ⟨trivial, ⟨trivial, ⟨trivial, trivial, ⟨trivial, trivial, ⟨inv224, trivial, trivial⟩⟩⟩, trivial⟩, trivial⟩, ⟨trivial, trivial, ⟨trivial, trivial, ⟨trivial, ⟨trivial, trivial, ⟨inv220, trivial, trivial⟩⟩, trivial⟩⟩⟩⟩, ⟨trivial, ⟨trivial, trivial, ⟨trivial, trivial, ⟨trivial, ⟨trivial, trivial, ⟨inv218, trivial, trivial⟩⟩, trivial⟩⟩⟩, trivial⟩⟩⟩⟩
theorem gg_sp : T.All (SpR Tryz.prog gg) gg.sp := ⟨trivial, ⟨trivial, ⟨trivial, ⟨trivial, ⟨trivial, trivial, ⟨trivial, trivial, ⟨get_sp get_c get_fn, trivial, trivial⟩⟩⟩, trivial⟩, trivial⟩, trivial⟩, ⟨trivial, ⟨trivial, trivial, ⟨trivial, ⟨trivial, trivial, ⟨trivial, trivial, ⟨trivial, trivial, ⟨collect_sp collect_c, trivial, trivial⟩⟩⟩⟩, trivial⟩⟩, ⟨trivial, ⟨trivial, ⟨trivial, ⟨clone_sp clone_c34, trivial, trivial⟩, trivial⟩, trivial⟩, ⟨trivial, ⟨trivial, trivial, ⟨trivial, ⟨clone_sp clone_c86, trivial, trivial⟩, trivial⟩⟩, trivial⟩⟩⟩⟩
theorem calls_ok : CallOk Tryz.prog gg (callF gg (evalQ gg 10000)) := calls_q (callY_ok gg_ok gg_inv fnT_ok gg_sp 10000)
end Go.Proofs.YtbingohaiippeaaGreatDoor

/- PressureNone: the examples hold, as contracts. -/
namespace Go.Proofs.YtbingohaiippeaaGreatDoor
open Go.Y Go.X
theorem awake_spec (w : World) (S : FP) (h : RO w S (glC gg 3)) : Trip Tryz.prog 16 #[] w S fun v L => v = .bool true ∧ L = [] := awake_of calls_ok runs_awake w S h
theorem small_spec (w : World) (S : FP) (h : RO w S (glC gg 3)) : Trip Tryz.prog 15 #[] w S fun _ L => L = [] := ends_of calls_ok runs_small w S h
end Go.Proofs.YtbingohaiippeaaGreatDoor
