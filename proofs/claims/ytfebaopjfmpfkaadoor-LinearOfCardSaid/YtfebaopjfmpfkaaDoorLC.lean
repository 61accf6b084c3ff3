/- What the cards of the laws on package linear share. -/
import Derived.Test.YtfebaopjfmpfkaaDoorL9
namespace Go.Proofs.YtfebaopjfmpfkaaDoor
open Go.X Go.ChangeShapes Go.WideShapes Go.ChangeAt Go.RowKit
set_option maxRecDepth 100000
set_option linter.unusedVariables false
set_option linter.unusedSimpArgs false

theorem slice_val {W : World} {base : Nat} {t e : TypeId} {v : Value} {a : Option Addr} {n c : Nat} (ht : Tryd.prog.underlying t = some (.slice e)) (hv : Value.okWide Tryd.prog W .any base t v) (h : v.cells.toList = [.slice a n c]) : v = .slice a n c := by
  cases v <;> simp [Value.cells] at h <;> first | (obtain ⟨rfl, rfl, rfl⟩ := h; rfl) | skip
  all_goals (simp [Value.okWide, Cell.okWide, Cell.ok, ht] at hv)
theorem int_val {W : World} {base : Nat} {t : TypeId} {k : IntKind} {v : Value} {n : Int} (ht : Tryd.prog.underlying t = some (.int k)) (hv : Value.okWide Tryd.prog W .any base t v) (h : v.cells.toList = [.int k n]) : v = .int k n := by
  cases v <;> simp [Value.cells] at h <;> first | (obtain ⟨rfl, rfl⟩ := h; rfl) | skip
  all_goals (simp [Value.okWide, Cell.okWide, Cell.ok, ht] at hv)
theorem read3 : Tryd.prog.readableRec 3 = true := by kernel_rfl
theorem rows3 : 3 < Tryd.prog.types.size := of_decide_eq_true (by kernel_rfl)
theorem read35 : Tryd.prog.readableRec 35 = true := by kernel_rfl
theorem rows35 : 35 < Tryd.prog.types.size := of_decide_eq_true (by kernel_rfl)
theorem read45 : Tryd.prog.readableRec 45 = true := by kernel_rfl
theorem rows45 : 45 < Tryd.prog.types.size := of_decide_eq_true (by kernel_rfl)

def cellsD : DataW Unit → Array Value
  | .agg l => (l.map fun | .lit (.int k n) => Value.int k n | _ => undef).toArray
  | _ => #[]
def putD (d : DataW Unit) : Obj → Obj
  | .cells _ t frozen => .cells (cellsD d) t frozen
  | o => o
/-- A world for the witness: the three tables hold what their initialisers lay. -/
noncomputable def laidWorld (os : Os) : World :=
  { World.holding Tryd.prog os ⟨#[], #[], []⟩ with heap := (((World.holding Tryd.prog os ⟨#[], #[], []⟩).heap.modify 0 (putD Rows.laid_internal_strconv_uint64pow10)).modify 1 (putD Rows.laid_math_bits_deBruijn32tab)).modify 2 (putD Rows.laid_math_bits_deBruijn64tab) }
end Go.Proofs.YtfebaopjfmpfkaaDoor
