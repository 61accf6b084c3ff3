/- The examples hold, as contracts (written by wip/tools/ytab.py). -/
import Derived.Test.YtkkeimpmafllpaaGreatDoorK15
import Derived.Test.YtkkeimpmafllpaaGreatDoorYF
import Derived.Test.YtkkeimpmafllpaaGreatDoorYG
import Derived.Test.YtkkeimpmafllpaaGreatDoorYE
import Derived.Shelf.SlMaps.Clone
namespace Go.Proofs.YtkkeimpmafllpaaGreatDoor
open Go.Shelf Go.Proofs Go.RowKit Go.Y Go.X
set_option maxRecDepth 100000
theorem inv228 : ∀ x ∈ ([("freehold/heap.name", 287)] : List (String × FuncId)), ∀ (v : Value) (w : World), (method (Tryz.prog.types.size + Made.depth) 228 v x.1).run Tryz.prog w = .ok (x.2, v) w := by
  intro x hx v w
  simp only [List.mem_cons, List.not_mem_nil, or_false] at hx
  rcases hx with rfl <;> kernel_rfl
theorem inv222 : ∀ x ∈ ([("freehold/heap.name", 285)] : List (String × FuncId)), ∀ (v : Value) (w : World), (method (Tryz.prog.types.size + Made.depth) 222 v x.1).run Tryz.prog w = .ok (x.2, v) w := by
  intro x hx v w
  simp only [List.mem_cons, List.not_mem_nil, or_false] at hx
  rcases hx with rfl <;> kernel_rfl
theorem inv231 : ∀ x ∈ ([("freehold/heap.name", 288)] : List (String × FuncId)), ∀ (v : Value) (w : World), (method (Tryz.prog.types.size + Made.depth) 231 v x.1).run Tryz.prog w = .ok (x.2, v) w := by
  intro x hx v w
  simp only [List.mem_cons, List.not_mem_nil, or_false] at hx
  rcases hx with rfl <;> kernel_rfl
theorem inv237 : ∀ x ∈ ([("freehold/heap.name", 290)] : List (String × FuncId)), ∀ (v : Value) (w : World), (method (Tryz.prog.types.size + Made.depth) 237 v x.1).run Tryz.prog w = .ok (x.2, v) w := by
  intro x hx v w
  simp only [List.mem_cons, List.not_mem_nil, or_false] at hx
  rcases hx with rfl <;> kernel_rfl
theorem inv224 : ∀ x ∈ ([("freehold/heap.name", 286)] : List (String × FuncId)), ∀ (v : Value) (w : World), (method (Tryz.prog.types.size + Made.depth) 224 v x.1).run Tryz.prog w = .ok (x.2, v) w := by
  intro x hx v w
  simp only [List.mem_cons, List.not_mem_nil, or_false] at hx
  rcases hx with rfl <;> kernel_rfl
theorem inv216 : ∀ x ∈ ([("freehold/heap.name", 283)] : List (String × FuncId)), ∀ (v : Value) (w : World), (method (Tryz.prog.types.size + Made.depth) 216 v x.1).run Tryz.prog w = .ok (x.2, v) w := by
  intro x hx v w
  simp only [List.mem_cons, List.not_mem_nil, or_false] at hx
  rcases hx with rfl <;> kernel_rfl
theorem inv241 : ∀ x ∈ ([("freehold/heap.name", 291)] : List (String × FuncId)), ∀ (v : Value) (w : World), (method (Tryz.prog.types.size + Made.depth) 241 v x.1).run Tryz.prog w = .ok (x.2, v) w := by
  intro x hx v w
  simp only [List.mem_cons, List.not_mem_nil, or_false] at hx
  rcases hx with rfl <;> kernel_rfl
theorem inv213 : ∀ x ∈ ([("freehold/heap.name", 282)] : List (String × FuncId)), ∀ (v : Value) (w : World), (method (Tryz.prog.types.size + Made.depth) 213 v x.1).run Tryz.prog w = .ok (x.2, v) w := by
  intro x hx v w
  simp only [List.mem_cons, List.not_mem_nil, or_false] at hx
  rcases hx with rfl <;> kernel_rfl
theorem inv234 : ∀ x ∈ ([("freehold/heap.name", 289)] : List (String × FuncId)), ∀ (v : Value) (w : World), (method (Tryz.prog.types.size + Made.depth) 234 v x.1).run Tryz.prog w = .ok (x.2, v) w := by
  intro x hx v w
  simp only [List.mem_cons, List.not_mem_nil, or_false] at hx
  rcases hx with rfl <;> kernel_rfl
theorem inv221 : ∀ x ∈ ([("freehold/heap.name", 284)] : List (String × FuncId)), ∀ (v : Value) (w : World), (method (Tryz.prog.types.size + Made.depth) 221 v x.1).run Tryz.prog w = .ok (x.2, v) w := by
  intro x hx v w
  simp only [List.mem_cons, List.not_mem_nil, or_false] at hx
  rcases hx with rfl <;> kernel_rfl
theorem inv242 : ∀ x ∈ ([("freehold/heap.name", 292)] : List (String × FuncId)), ∀ (v : Value) (w : World), (method (Tryz.prog.types.size + Made.depth) 242 v x.1).run Tryz.prog w = .ok (x.2, v) w := by
  intro x hx v w
  simp only [List.mem_cons, List.not_mem_nil, or_false] at hx
  rcases hx with rfl <;> kernel_rfl
theorem gg_ok : GOk Tryz.prog tab gg := ⟨tab_ok, by kernel_rfl, tyT_ok⟩
theorem gg_inv : GInv Tryz.prog gg := ⟨⟨trivial, ⟨trivial, ⟨trivial, ⟨trivial, trivial, ⟨trivial, ⟨trivial, trivial, ⟨trivial, trivial, ⟨inv231, trivial, trivial⟩⟩⟩, trivial⟩⟩, trivial⟩, ⟨trivial, ⟨trivial, ⟨trivial, trivial, ⟨trivial, trivial, ⟨trivial, trivial, ⟨inv241, trivial, trivial⟩⟩⟩⟩, trivial⟩, ⟨trivial, ⟨trivial, trivial, ⟨trivial, ⟨trivial, trivial, ⟨inv213, trivial, trivial⟩⟩, trivial⟩⟩, ⟨trivial, ⟨trivial, trivial, ⟨trivial, trivial, ⟨inv237, trivial, trivial⟩⟩⟩, ⟨trivial, ⟨trivial, trivial, ⟨inv221, trivial, trivial⟩⟩, trivial⟩⟩⟩⟩⟩, ⟨trivial, ⟨trivial, ⟨trivial, ⟨trivial, ⟨trivial, trivial, ⟨trivial, trivial, ⟨inv224, trivial, trivial⟩⟩⟩, trivial⟩, ⟨trivial, trivial, ⟨trivial, ⟨trivial, trivial, ⟨inv216, trivial, trivial⟩⟩, trivial⟩⟩⟩, ⟨trivial, ⟨trivial, ⟨trivial, trivial, ⟨trivial, trivial, ⟨inv228, trivial, trivial⟩⟩⟩, trivial⟩, trivial⟩⟩, ⟨trivial, ⟨trivial, ⟨trivial, trivial, ⟨trivial, trivial, ⟨trivial, trivial, ⟨inv242, trivial, trivial⟩⟩⟩⟩, ⟨trivial, ⟨trivial, trivial, ⟨trivial, trivial, ⟨inv234, trivial, trivial⟩⟩⟩, trivial⟩⟩, ⟨trivial, trivial, ⟨trivial, trivial, ⟨trivial, ⟨trivial, trivial, ⟨inv222, trivial, trivial⟩⟩, trivial⟩⟩⟩⟩⟩⟩⟩
theorem gg_sp : T.All (SpR Tryz.prog gg) gg.sp := ⟨trivial, trivial, ⟨trivial, ⟨trivial, trivial, ⟨trivial, trivial, ⟨trivial, ⟨trivial, ⟨collect_sp collect_c, trivial, trivial⟩, trivial⟩, trivial⟩⟩⟩, ⟨trivial, ⟨trivial, ⟨trivial, trivial, ⟨sorted_sp sorted_c, trivial, trivial⟩⟩, trivial⟩, trivial⟩⟩⟩
theorem calls_ok : CallOk Tryz.prog gg (callF gg (evalQ gg 10000)) := calls_q (callY_ok gg_ok gg_inv fnT_ok gg_sp 10000)
end Go.Proofs.YtkkeimpmafllpaaGreatDoor
