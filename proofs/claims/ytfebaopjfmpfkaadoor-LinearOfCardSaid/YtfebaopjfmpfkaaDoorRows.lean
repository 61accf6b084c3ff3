/-
  NARROWER THAN 'FOR EVERY INPUT', by the rows' own cells (each row's printed sentence says how): LinearChecks: laid · LinearRights: laid · LinearFound: laid · LinearLeast: laid · LinearSooner: laid · LinearParts: laid · LinearPrefix: laid · LinearAlone: laid · LinearOf: laid.
  DERIVED. THE GIVEN ROWS OF THIS SEAT. 9 by the template 'for every input the law returns true; each argument reads behind the call as it read before'; 0 by the template 'total and deterministic' (their statements: YtfebaopjfmpfkaaDoorTotals.lean).
  GIVEN WITH THE SEED: the statements are not yours to turn. If you find one false, say at which input.
  Laid BY PROGRAM, IN A SANDBOX (cutbox-rows.mjs): the forced cells as the released guide's own fill.sh prints them over the translation 3e691489f1409351… (all of the seat's roots in one cut). By AI agents, Wed Nov 11 2026. No macro, syntax, notation, axiom, sorry.
-/
import Derived.Test.YtfebaopjfmpfkaaDoorChecked
import GoSem.Claim
import GoSem.ClaimJoined
import GoSem.ClaimMapViews
import Derived.JoinedTies
import Derived.KernelRfl
namespace Go.Proofs.YtfebaopjfmpfkaaDoor
/- THE CELL 'sum', in the pinned program and in every row, IS THE sha256 OF THE DUMP (.gsa) THAT YtfebaopjfmpfkaaDoorProg.lean LOADS. Nothing in Lean hashes anything: it is a label: what it is worth is what the hold of that sum in a sandbox is worth. -/
noncomputable def Tryd.pinned : Pinned := { name := "ytfebaopjfmpfkaadoor", sum := "3e691489f140935154d4435f16c0b43a2ddd2cb72e7933d4194e8bebb1047dd9", checked := Tryd.checked }
namespace Rows
def none {H : Type} : Left H := { results := [], args := [] }

/- WHAT THE LISTED PACKAGE-LEVEL VARIABLES READ AS WHEN THE CALL BEGINS. Each datum BY PROGRAM (the guide's laid-datum.mjs) off the statement by which the dump's own 'gosem.cut.vars' lays the variable. In a bare row this is a premise. The card (YtfebaopjfmpfkaaDoorCards.lean) ties it to the program's text. -/
def laid_math_bits_deBruijn32tab {H : Type} : DataW H := .agg [.lit (.int .u8 0), .lit (.int .u8 1), .lit (.int .u8 28), .lit (.int .u8 2), .lit (.int .u8 29), .lit (.int .u8 14), .lit (.int .u8 24), .lit (.int .u8 3), .lit (.int .u8 30), .lit (.int .u8 22), .lit (.int .u8 20), .lit (.int .u8 15), .lit (.int .u8 25), .lit (.int .u8 17), .lit (.int .u8 4), .lit (.int .u8 8), .lit (.int .u8 31), .lit (.int .u8 27), .lit (.int .u8 13), .lit (.int .u8 23), .lit (.int .u8 21), .lit (.int .u8 19), .lit (.int .u8 16), .lit (.int .u8 7), .lit (.int .u8 26), .lit (.int .u8 12), .lit (.int .u8 18), .lit (.int .u8 6), .lit (.int .u8 11), .lit (.int .u8 5), .lit (.int .u8 10), .lit (.int .u8 9)]
def laid_math_bits_deBruijn64tab {H : Type} : DataW H := .agg [.lit (.int .u8 0), .lit (.int .u8 1), .lit (.int .u8 56), .lit (.int .u8 2), .lit (.int .u8 57), .lit (.int .u8 49), .lit (.int .u8 28), .lit (.int .u8 3), .lit (.int .u8 61), .lit (.int .u8 58), .lit (.int .u8 42), .lit (.int .u8 50), .lit (.int .u8 38), .lit (.int .u8 29), .lit (.int .u8 17), .lit (.int .u8 4), .lit (.int .u8 62), .lit (.int .u8 47), .lit (.int .u8 59), .lit (.int .u8 36), .lit (.int .u8 45), .lit (.int .u8 43), .lit (.int .u8 51), .lit (.int .u8 22), .lit (.int .u8 53), .lit (.int .u8 39), .lit (.int .u8 33), .lit (.int .u8 30), .lit (.int .u8 24), .lit (.int .u8 18), .lit (.int .u8 12), .lit (.int .u8 5), .lit (.int .u8 63), .lit (.int .u8 55), .lit (.int .u8 48), .lit (.int .u8 27), .lit (.int .u8 60), .lit (.int .u8 41), .lit (.int .u8 37), .lit (.int .u8 16), .lit (.int .u8 46), .lit (.int .u8 35), .lit (.int .u8 44), .lit (.int .u8 21), .lit (.int .u8 52), .lit (.int .u8 32), .lit (.int .u8 23), .lit (.int .u8 11), .lit (.int .u8 54), .lit (.int .u8 26), .lit (.int .u8 40), .lit (.int .u8 15), .lit (.int .u8 34), .lit (.int .u8 20), .lit (.int .u8 31), .lit (.int .u8 10), .lit (.int .u8 25), .lit (.int .u8 14), .lit (.int .u8 19), .lit (.int .u8 9), .lit (.int .u8 13), .lit (.int .u8 8), .lit (.int .u8 7), .lit (.int .u8 6)]
def laid_internal_strconv_uint64pow10 {H : Type} : DataW H := .agg [.lit (.int .u64 1), .lit (.int .u64 10), .lit (.int .u64 100), .lit (.int .u64 1000), .lit (.int .u64 10000), .lit (.int .u64 100000), .lit (.int .u64 1000000), .lit (.int .u64 10000000), .lit (.int .u64 100000000), .lit (.int .u64 1000000000), .lit (.int .u64 10000000000), .lit (.int .u64 100000000000), .lit (.int .u64 1000000000000), .lit (.int .u64 10000000000000), .lit (.int .u64 100000000000000), .lit (.int .u64 1000000000000000), .lit (.int .u64 10000000000000000), .lit (.int .u64 100000000000000000), .lit (.int .u64 1000000000000000000), .lit (.int .u64 10000000000000000000)]

/-- 'freeholdlaw21.LinearChecks': WHATEVER THE INPUT: true; the input reads as it did. -/
def linearChecksSpec : ChangeSpec := { name := "linearChecks", fn := fun _ => fun
  | [d] => { results := [.lit (.bool true)], args := [d] }
  | _ => none }
def linearChecksRow : OpenClaim := { program := "ytfebaopjfmpfkaadoor", sum := "3e691489f140935154d4435f16c0b43a2ddd2cb72e7933d4194e8bebb1047dd9", func := "freehold/freeholdlaw21.LinearChecks", spec := "linearChecks", inPlace := ["internal/abi.NoEscape"], unfollowed := true, recurses := true, named := ["internal/strconv.uint64pow10", "math/bits.deBruijn32tab", "math/bits.deBruijn64tab"], plainKeys := false, apart := false, laid := [("math/bits.deBruijn32tab", laid_math_bits_deBruijn32tab), ("math/bits.deBruijn64tab", laid_math_bits_deBruijn64tab), ("internal/strconv.uint64pow10", laid_internal_strconv_uint64pow10)] }
def LinearChecksSaid : Prop := linearChecksRow.holds Tryd.pinned (OpenSpec.ofChange linearChecksSpec)

/-- ITS FALSE NEIGHBOUR: 'it returns false'. Refute it at one input. -/
def linearChecksWrong : ChangeSpec := { name := "linearChecks", fn := fun _ => fun
  | [d] => { results := [.lit (.bool false)], args := [d] }
  | _ => none }
def LinearChecksWrongFalsely : Prop := linearChecksRow.holds Tryd.pinned (OpenSpec.ofChange linearChecksWrong)

/-- 'freeholdlaw21.LinearRights': WHATEVER THE INPUT: true; the input reads as it did. -/
def linearRightsSpec : ChangeSpec := { name := "linearRights", fn := fun _ => fun
  | [d1, d2] => { results := [.lit (.bool true)], args := [d1, d2] }
  | _ => none }
def linearRightsRow : OpenClaim := { program := "ytfebaopjfmpfkaadoor", sum := "3e691489f140935154d4435f16c0b43a2ddd2cb72e7933d4194e8bebb1047dd9", func := "freehold/freeholdlaw21.LinearRights", spec := "linearRights", inPlace := ["internal/abi.NoEscape"], unfollowed := true, recurses := true, named := ["internal/strconv.uint64pow10", "math/bits.deBruijn32tab", "math/bits.deBruijn64tab"], plainKeys := false, apart := false, laid := [("math/bits.deBruijn32tab", laid_math_bits_deBruijn32tab), ("math/bits.deBruijn64tab", laid_math_bits_deBruijn64tab), ("internal/strconv.uint64pow10", laid_internal_strconv_uint64pow10)] }
def LinearRightsSaid : Prop := linearRightsRow.holds Tryd.pinned (OpenSpec.ofChange linearRightsSpec)

/-- ITS FALSE NEIGHBOUR: 'it returns false'. Refute it at one input. -/
def linearRightsWrong : ChangeSpec := { name := "linearRights", fn := fun _ => fun
  | [d1, d2] => { results := [.lit (.bool false)], args := [d1, d2] }
  | _ => none }
def LinearRightsWrongFalsely : Prop := linearRightsRow.holds Tryd.pinned (OpenSpec.ofChange linearRightsWrong)

/-- 'freeholdlaw21.LinearFound': WHATEVER THE INPUT: true; the input reads as it did. -/
def linearFoundSpec : ChangeSpec := { name := "linearFound", fn := fun _ => fun
  | [d1, d2] => { results := [.lit (.bool true)], args := [d1, d2] }
  | _ => none }
def linearFoundRow : OpenClaim := { program := "ytfebaopjfmpfkaadoor", sum := "3e691489f140935154d4435f16c0b43a2ddd2cb72e7933d4194e8bebb1047dd9", func := "freehold/freeholdlaw21.LinearFound", spec := "linearFound", inPlace := ["internal/abi.NoEscape"], unfollowed := true, recurses := true, named := ["internal/strconv.uint64pow10", "math/bits.deBruijn32tab", "math/bits.deBruijn64tab"], plainKeys := false, apart := false, laid := [("math/bits.deBruijn32tab", laid_math_bits_deBruijn32tab), ("math/bits.deBruijn64tab", laid_math_bits_deBruijn64tab), ("internal/strconv.uint64pow10", laid_internal_strconv_uint64pow10)] }
def LinearFoundSaid : Prop := linearFoundRow.holds Tryd.pinned (OpenSpec.ofChange linearFoundSpec)

/-- ITS FALSE NEIGHBOUR: 'it returns false'. Refute it at one input. -/
def linearFoundWrong : ChangeSpec := { name := "linearFound", fn := fun _ => fun
  | [d1, d2] => { results := [.lit (.bool false)], args := [d1, d2] }
  | _ => none }
def LinearFoundWrongFalsely : Prop := linearFoundRow.holds Tryd.pinned (OpenSpec.ofChange linearFoundWrong)

/-- 'freeholdlaw21.LinearLeast': WHATEVER THE INPUT: true; the input reads as it did. -/
def linearLeastSpec : ChangeSpec := { name := "linearLeast", fn := fun _ => fun
  | [d1, d2] => { results := [.lit (.bool true)], args := [d1, d2] }
  | _ => none }
def linearLeastRow : OpenClaim := { program := "ytfebaopjfmpfkaadoor", sum := "3e691489f140935154d4435f16c0b43a2ddd2cb72e7933d4194e8bebb1047dd9", func := "freehold/freeholdlaw21.LinearLeast", spec := "linearLeast", inPlace := ["internal/abi.NoEscape"], unfollowed := true, recurses := true, named := ["internal/strconv.uint64pow10", "math/bits.deBruijn32tab", "math/bits.deBruijn64tab"], plainKeys := false, apart := false, laid := [("math/bits.deBruijn32tab", laid_math_bits_deBruijn32tab), ("math/bits.deBruijn64tab", laid_math_bits_deBruijn64tab), ("internal/strconv.uint64pow10", laid_internal_strconv_uint64pow10)] }
def LinearLeastSaid : Prop := linearLeastRow.holds Tryd.pinned (OpenSpec.ofChange linearLeastSpec)

/-- ITS FALSE NEIGHBOUR: 'it returns false'. Refute it at one input. -/
def linearLeastWrong : ChangeSpec := { name := "linearLeast", fn := fun _ => fun
  | [d1, d2] => { results := [.lit (.bool false)], args := [d1, d2] }
  | _ => none }
def LinearLeastWrongFalsely : Prop := linearLeastRow.holds Tryd.pinned (OpenSpec.ofChange linearLeastWrong)

/-- 'freeholdlaw21.LinearSooner': WHATEVER THE INPUT: true; the input reads as it did. -/
def linearSoonerSpec : ChangeSpec := { name := "linearSooner", fn := fun _ => fun
  | [d1, d2, d3] => { results := [.lit (.bool true)], args := [d1, d2, d3] }
  | _ => none }
def linearSoonerRow : OpenClaim := { program := "ytfebaopjfmpfkaadoor", sum := "3e691489f140935154d4435f16c0b43a2ddd2cb72e7933d4194e8bebb1047dd9", func := "freehold/freeholdlaw21.LinearSooner", spec := "linearSooner", inPlace := ["internal/abi.NoEscape"], unfollowed := true, recurses := true, named := ["internal/strconv.uint64pow10", "math/bits.deBruijn32tab", "math/bits.deBruijn64tab"], plainKeys := false, apart := false, laid := [("math/bits.deBruijn32tab", laid_math_bits_deBruijn32tab), ("math/bits.deBruijn64tab", laid_math_bits_deBruijn64tab), ("internal/strconv.uint64pow10", laid_internal_strconv_uint64pow10)] }
def LinearSoonerSaid : Prop := linearSoonerRow.holds Tryd.pinned (OpenSpec.ofChange linearSoonerSpec)

/-- ITS FALSE NEIGHBOUR: 'it returns false'. Refute it at one input. -/
def linearSoonerWrong : ChangeSpec := { name := "linearSooner", fn := fun _ => fun
  | [d1, d2, d3] => { results := [.lit (.bool false)], args := [d1, d2, d3] }
  | _ => none }
def LinearSoonerWrongFalsely : Prop := linearSoonerRow.holds Tryd.pinned (OpenSpec.ofChange linearSoonerWrong)

/-- 'freeholdlaw21.LinearParts': WHATEVER THE INPUT: true; the input reads as it did. -/
def linearPartsSpec : ChangeSpec := { name := "linearParts", fn := fun _ => fun
  | [d1, d2] => { results := [.lit (.bool true)], args := [d1, d2] }
  | _ => none }
def linearPartsRow : OpenClaim := { program := "ytfebaopjfmpfkaadoor", sum := "3e691489f140935154d4435f16c0b43a2ddd2cb72e7933d4194e8bebb1047dd9", func := "freehold/freeholdlaw21.LinearParts", spec := "linearParts", inPlace := ["internal/abi.NoEscape"], unfollowed := true, recurses := true, named := ["internal/strconv.uint64pow10", "math/bits.deBruijn32tab", "math/bits.deBruijn64tab"], plainKeys := false, apart := false, laid := [("math/bits.deBruijn32tab", laid_math_bits_deBruijn32tab), ("math/bits.deBruijn64tab", laid_math_bits_deBruijn64tab), ("internal/strconv.uint64pow10", laid_internal_strconv_uint64pow10)] }
def LinearPartsSaid : Prop := linearPartsRow.holds Tryd.pinned (OpenSpec.ofChange linearPartsSpec)

/-- ITS FALSE NEIGHBOUR: 'it returns false'. Refute it at one input. -/
def linearPartsWrong : ChangeSpec := { name := "linearParts", fn := fun _ => fun
  | [d1, d2] => { results := [.lit (.bool false)], args := [d1, d2] }
  | _ => none }
def LinearPartsWrongFalsely : Prop := linearPartsRow.holds Tryd.pinned (OpenSpec.ofChange linearPartsWrong)

/-- 'freeholdlaw21.LinearPrefix': WHATEVER THE INPUT: true; the input reads as it did. -/
def linearPrefixSpec : ChangeSpec := { name := "linearPrefix", fn := fun _ => fun
  | [d] => { results := [.lit (.bool true)], args := [d] }
  | _ => none }
def linearPrefixRow : OpenClaim := { program := "ytfebaopjfmpfkaadoor", sum := "3e691489f140935154d4435f16c0b43a2ddd2cb72e7933d4194e8bebb1047dd9", func := "freehold/freeholdlaw21.LinearPrefix", spec := "linearPrefix", inPlace := ["internal/abi.NoEscape"], unfollowed := true, recurses := true, named := ["internal/strconv.uint64pow10", "math/bits.deBruijn32tab", "math/bits.deBruijn64tab"], plainKeys := false, apart := false, laid := [("math/bits.deBruijn32tab", laid_math_bits_deBruijn32tab), ("math/bits.deBruijn64tab", laid_math_bits_deBruijn64tab), ("internal/strconv.uint64pow10", laid_internal_strconv_uint64pow10)] }
def LinearPrefixSaid : Prop := linearPrefixRow.holds Tryd.pinned (OpenSpec.ofChange linearPrefixSpec)

/-- ITS FALSE NEIGHBOUR: 'it returns false'. Refute it at one input. -/
def linearPrefixWrong : ChangeSpec := { name := "linearPrefix", fn := fun _ => fun
  | [d] => { results := [.lit (.bool false)], args := [d] }
  | _ => none }
def LinearPrefixWrongFalsely : Prop := linearPrefixRow.holds Tryd.pinned (OpenSpec.ofChange linearPrefixWrong)

/-- 'freeholdlaw21.LinearAlone': WHATEVER THE INPUT: true; the input reads as it did. -/
def linearAloneSpec : ChangeSpec := { name := "linearAlone", fn := fun _ => fun
  | [d] => { results := [.lit (.bool true)], args := [d] }
  | _ => none }
def linearAloneRow : OpenClaim := { program := "ytfebaopjfmpfkaadoor", sum := "3e691489f140935154d4435f16c0b43a2ddd2cb72e7933d4194e8bebb1047dd9", func := "freehold/freeholdlaw21.LinearAlone", spec := "linearAlone", inPlace := ["internal/abi.NoEscape"], unfollowed := true, recurses := true, named := ["internal/strconv.uint64pow10", "math/bits.deBruijn32tab", "math/bits.deBruijn64tab"], plainKeys := false, apart := false, laid := [("math/bits.deBruijn32tab", laid_math_bits_deBruijn32tab), ("math/bits.deBruijn64tab", laid_math_bits_deBruijn64tab), ("internal/strconv.uint64pow10", laid_internal_strconv_uint64pow10)] }
def LinearAloneSaid : Prop := linearAloneRow.holds Tryd.pinned (OpenSpec.ofChange linearAloneSpec)

/-- ITS FALSE NEIGHBOUR: 'it returns false'. Refute it at one input. -/
def linearAloneWrong : ChangeSpec := { name := "linearAlone", fn := fun _ => fun
  | [d] => { results := [.lit (.bool false)], args := [d] }
  | _ => none }
def LinearAloneWrongFalsely : Prop := linearAloneRow.holds Tryd.pinned (OpenSpec.ofChange linearAloneWrong)

/-- 'freeholdlaw21.LinearOf': WHATEVER THE INPUT: true; the input reads as it did. -/
def linearOfSpec : ChangeSpec := { name := "linearOf", fn := fun _ => fun
  | [d] => { results := [.lit (.bool true)], args := [d] }
  | _ => none }
def linearOfRow : OpenClaim := { program := "ytfebaopjfmpfkaadoor", sum := "3e691489f140935154d4435f16c0b43a2ddd2cb72e7933d4194e8bebb1047dd9", func := "freehold/freeholdlaw21.LinearOf", spec := "linearOf", inPlace := ["internal/abi.NoEscape"], unfollowed := true, recurses := true, named := ["internal/strconv.uint64pow10", "math/bits.deBruijn32tab", "math/bits.deBruijn64tab"], plainKeys := false, apart := false, laid := [("math/bits.deBruijn32tab", laid_math_bits_deBruijn32tab), ("math/bits.deBruijn64tab", laid_math_bits_deBruijn64tab), ("internal/strconv.uint64pow10", laid_internal_strconv_uint64pow10)] }
def LinearOfSaid : Prop := linearOfRow.holds Tryd.pinned (OpenSpec.ofChange linearOfSpec)

/-- ITS FALSE NEIGHBOUR: 'it returns false'. Refute it at one input. -/
def linearOfWrong : ChangeSpec := { name := "linearOf", fn := fun _ => fun
  | [d] => { results := [.lit (.bool false)], args := [d] }
  | _ => none }
def LinearOfWrongFalsely : Prop := linearOfRow.holds Tryd.pinned (OpenSpec.ofChange linearOfWrong)

/- THE SECOND FORM. 'bulk': how many values and letters a reading holds, each counted each time it is reached (what is shared counts as often as it is met; a slice's spare places count too). A statement '..UptoSaid' is the law's where the arguments, and the package variables that the reading takes, are together of bulk at most 1048576: NARROWER than '..Said'. Prove '..Said' where nothing that the law and all that it calls make is longer than what came in: it says more and counts as full. Else prove '..UptoSaid'. A law counts once. -/
mutual
def uptoBulk {H : Type} : DataW H → Nat
  | .lit (.string bytes) => bytes.length + 1
  | .lit _ => 1
  | .nil => 1
  | .ptr d => uptoBulk d + 1
  | .slice elems spare => uptoBulkAll elems + uptoBulkAll spare + 1
  | .agg parts => uptoBulkAll parts + 1
  | .iface _ d => uptoBulk d + 1
  | .map entries => uptoBulkEntries entries + 1
  | .held _ => 1
def uptoBulkAll {H : Type} : List (DataW H) → Nat
  | [] => 0
  | d :: r => uptoBulk d + uptoBulkAll r
def uptoBulkEntries {H : Type} : List (Lit × DataW H) → Nat
  | [] => 0
  | x :: r => uptoBulkEntry x + uptoBulkEntries r
def uptoBulkEntry {H : Type} : Lit × DataW H → Nat
  | (.string bytes, d) => bytes.length + uptoBulk d + 1
  | (_, d) => uptoBulk d + 1
 end
def uptoSmall : (H : Type) → List (DataW H) → Bool := fun _ ds => decide (uptoBulkAll ds ≤ 1048576)
def OpenSpec.upto (s : _root_.Go.ChangeSpec) : _root_.Go.OpenSpec := { _root_.Go.OpenSpec.ofChange s with cond := some uptoSmall }

/-- 'freeholdlaw21.LinearChecks', WHERE WHAT IT READS IS OF BULK AT MOST 1048576: true; the input reads as it did. -/
def linearChecksUptoRow : OpenClaim := { program := "ytfebaopjfmpfkaadoor", sum := "3e691489f140935154d4435f16c0b43a2ddd2cb72e7933d4194e8bebb1047dd9", func := "freehold/freeholdlaw21.LinearChecks", spec := "linearChecks", inPlace := ["internal/abi.NoEscape"], unfollowed := true, recurses := true, named := ["internal/strconv.uint64pow10", "math/bits.deBruijn32tab", "math/bits.deBruijn64tab"], plainKeys := false, apart := false, laid := [("math/bits.deBruijn32tab", laid_math_bits_deBruijn32tab), ("math/bits.deBruijn64tab", laid_math_bits_deBruijn64tab), ("internal/strconv.uint64pow10", laid_internal_strconv_uint64pow10)], narrowed := true }
def LinearChecksUptoSaid : Prop := linearChecksUptoRow.holds Tryd.pinned (OpenSpec.upto linearChecksSpec)

/-- 'freeholdlaw21.LinearRights', WHERE WHAT IT READS IS OF BULK AT MOST 1048576: true; the input reads as it did. -/
def linearRightsUptoRow : OpenClaim := { program := "ytfebaopjfmpfkaadoor", sum := "3e691489f140935154d4435f16c0b43a2ddd2cb72e7933d4194e8bebb1047dd9", func := "freehold/freeholdlaw21.LinearRights", spec := "linearRights", inPlace := ["internal/abi.NoEscape"], unfollowed := true, recurses := true, named := ["internal/strconv.uint64pow10", "math/bits.deBruijn32tab", "math/bits.deBruijn64tab"], plainKeys := false, apart := false, laid := [("math/bits.deBruijn32tab", laid_math_bits_deBruijn32tab), ("math/bits.deBruijn64tab", laid_math_bits_deBruijn64tab), ("internal/strconv.uint64pow10", laid_internal_strconv_uint64pow10)], narrowed := true }
def LinearRightsUptoSaid : Prop := linearRightsUptoRow.holds Tryd.pinned (OpenSpec.upto linearRightsSpec)

/-- 'freeholdlaw21.LinearFound', WHERE WHAT IT READS IS OF BULK AT MOST 1048576: true; the input reads as it did. -/
def linearFoundUptoRow : OpenClaim := { program := "ytfebaopjfmpfkaadoor", sum := "3e691489f140935154d4435f16c0b43a2ddd2cb72e7933d4194e8bebb1047dd9", func := "freehold/freeholdlaw21.LinearFound", spec := "linearFound", inPlace := ["internal/abi.NoEscape"], unfollowed := true, recurses := true, named := ["internal/strconv.uint64pow10", "math/bits.deBruijn32tab", "math/bits.deBruijn64tab"], plainKeys := false, apart := false, laid := [("math/bits.deBruijn32tab", laid_math_bits_deBruijn32tab), ("math/bits.deBruijn64tab", laid_math_bits_deBruijn64tab), ("internal/strconv.uint64pow10", laid_internal_strconv_uint64pow10)], narrowed := true }
def LinearFoundUptoSaid : Prop := linearFoundUptoRow.holds Tryd.pinned (OpenSpec.upto linearFoundSpec)

/-- 'freeholdlaw21.LinearLeast', WHERE WHAT IT READS IS OF BULK AT MOST 1048576: true; the input reads as it did. -/
def linearLeastUptoRow : OpenClaim := { program := "ytfebaopjfmpfkaadoor", sum := "3e691489f140935154d4435f16c0b43a2ddd2cb72e7933d4194e8bebb1047dd9", func := "freehold/freeholdlaw21.LinearLeast", spec := "linearLeast", inPlace := ["internal/abi.NoEscape"], unfollowed := true, recurses := true, named := ["internal/strconv.uint64pow10", "math/bits.deBruijn32tab", "math/bits.deBruijn64tab"], plainKeys := false, apart := false, laid := [("math/bits.deBruijn32tab", laid_math_bits_deBruijn32tab), ("math/bits.deBruijn64tab", laid_math_bits_deBruijn64tab), ("internal/strconv.uint64pow10", laid_internal_strconv_uint64pow10)], narrowed := true }
def LinearLeastUptoSaid : Prop := linearLeastUptoRow.holds Tryd.pinned (OpenSpec.upto linearLeastSpec)

/-- 'freeholdlaw21.LinearSooner', WHERE WHAT IT READS IS OF BULK AT MOST 1048576: true; the input reads as it did. -/
def linearSoonerUptoRow : OpenClaim := { program := "ytfebaopjfmpfkaadoor", sum := "3e691489f140935154d4435f16c0b43a2ddd2cb72e7933d4194e8bebb1047dd9", func := "freehold/freeholdlaw21.LinearSooner", spec := "linearSooner", inPlace := ["internal/abi.NoEscape"], unfollowed := true, recurses := true, named := ["internal/strconv.uint64pow10", "math/bits.deBruijn32tab", "math/bits.deBruijn64tab"], plainKeys := false, apart := false, laid := [("math/bits.deBruijn32tab", laid_math_bits_deBruijn32tab), ("math/bits.deBruijn64tab", laid_math_bits_deBruijn64tab), ("internal/strconv.uint64pow10", laid_internal_strconv_uint64pow10)], narrowed := true }
def LinearSoonerUptoSaid : Prop := linearSoonerUptoRow.holds Tryd.pinned (OpenSpec.upto linearSoonerSpec)

/-- 'freeholdlaw21.LinearParts', WHERE WHAT IT READS IS OF BULK AT MOST 1048576: true; the input reads as it did. -/
def linearPartsUptoRow : OpenClaim := { program := "ytfebaopjfmpfkaadoor", sum := "3e691489f140935154d4435f16c0b43a2ddd2cb72e7933d4194e8bebb1047dd9", func := "freehold/freeholdlaw21.LinearParts", spec := "linearParts", inPlace := ["internal/abi.NoEscape"], unfollowed := true, recurses := true, named := ["internal/strconv.uint64pow10", "math/bits.deBruijn32tab", "math/bits.deBruijn64tab"], plainKeys := false, apart := false, laid := [("math/bits.deBruijn32tab", laid_math_bits_deBruijn32tab), ("math/bits.deBruijn64tab", laid_math_bits_deBruijn64tab), ("internal/strconv.uint64pow10", laid_internal_strconv_uint64pow10)], narrowed := true }
def LinearPartsUptoSaid : Prop := linearPartsUptoRow.holds Tryd.pinned (OpenSpec.upto linearPartsSpec)

/-- 'freeholdlaw21.LinearPrefix', WHERE WHAT IT READS IS OF BULK AT MOST 1048576: true; the input reads as it did. -/
def linearPrefixUptoRow : OpenClaim := { program := "ytfebaopjfmpfkaadoor", sum := "3e691489f140935154d4435f16c0b43a2ddd2cb72e7933d4194e8bebb1047dd9", func := "freehold/freeholdlaw21.LinearPrefix", spec := "linearPrefix", inPlace := ["internal/abi.NoEscape"], unfollowed := true, recurses := true, named := ["internal/strconv.uint64pow10", "math/bits.deBruijn32tab", "math/bits.deBruijn64tab"], plainKeys := false, apart := false, laid := [("math/bits.deBruijn32tab", laid_math_bits_deBruijn32tab), ("math/bits.deBruijn64tab", laid_math_bits_deBruijn64tab), ("internal/strconv.uint64pow10", laid_internal_strconv_uint64pow10)], narrowed := true }
def LinearPrefixUptoSaid : Prop := linearPrefixUptoRow.holds Tryd.pinned (OpenSpec.upto linearPrefixSpec)

/-- 'freeholdlaw21.LinearAlone', WHERE WHAT IT READS IS OF BULK AT MOST 1048576: true; the input reads as it did. -/
def linearAloneUptoRow : OpenClaim := { program := "ytfebaopjfmpfkaadoor", sum := "3e691489f140935154d4435f16c0b43a2ddd2cb72e7933d4194e8bebb1047dd9", func := "freehold/freeholdlaw21.LinearAlone", spec := "linearAlone", inPlace := ["internal/abi.NoEscape"], unfollowed := true, recurses := true, named := ["internal/strconv.uint64pow10", "math/bits.deBruijn32tab", "math/bits.deBruijn64tab"], plainKeys := false, apart := false, laid := [("math/bits.deBruijn32tab", laid_math_bits_deBruijn32tab), ("math/bits.deBruijn64tab", laid_math_bits_deBruijn64tab), ("internal/strconv.uint64pow10", laid_internal_strconv_uint64pow10)], narrowed := true }
def LinearAloneUptoSaid : Prop := linearAloneUptoRow.holds Tryd.pinned (OpenSpec.upto linearAloneSpec)

/-- 'freeholdlaw21.LinearOf', WHERE WHAT IT READS IS OF BULK AT MOST 1048576: true; the input reads as it did. -/
def linearOfUptoRow : OpenClaim := { program := "ytfebaopjfmpfkaadoor", sum := "3e691489f140935154d4435f16c0b43a2ddd2cb72e7933d4194e8bebb1047dd9", func := "freehold/freeholdlaw21.LinearOf", spec := "linearOf", inPlace := ["internal/abi.NoEscape"], unfollowed := true, recurses := true, named := ["internal/strconv.uint64pow10", "math/bits.deBruijn32tab", "math/bits.deBruijn64tab"], plainKeys := false, apart := false, laid := [("math/bits.deBruijn32tab", laid_math_bits_deBruijn32tab), ("math/bits.deBruijn64tab", laid_math_bits_deBruijn64tab), ("internal/strconv.uint64pow10", laid_internal_strconv_uint64pow10)], narrowed := true }
def LinearOfUptoSaid : Prop := linearOfUptoRow.holds Tryd.pinned (OpenSpec.upto linearOfSpec)

end Rows
end Go.Proofs.YtfebaopjfmpfkaaDoor
