/- The card of LinearFound. -/
import Derived.Test.YtfebaopjfmpfkaaDoorL15
namespace Go.Proofs.YtfebaopjfmpfkaaDoor
open Go.X Go.ChangeShapes Go.WideShapes Go.ChangeAt Go.RowKit
set_option maxRecDepth 100000
set_option linter.unusedVariables false
set_option linter.unusedSimpArgs false

theorem slice_val {W : World} {base : Nat} {t e : TypeId} {v : Value} {a : Option Addr} {n c : Nat} (ht : Tryd.prog.underlying t = some (.slice e)) (hv : Value.okWide Tryd.prog W .any base t v) (h : v.cells.toList = [.slice a n c]) : v = .slice a n c := by
  cases v <;> simp [Value.cells] at h <;> first | (obtain ⟨rfl, rfl, rfl⟩ := h; rfl) | skip
  all_goals (simp [Value.okWide, Cell.okWide, Cell.ok, ht] at hv)

theorem contractFound (H : Type) (enc : TypeId × Value → H) (W : World) (base : Nat) (args : Array Value) (ds gs : List (DataW H)) (before : List MemPlace)
    (hval : ∀ (j : Nat) t v, Tryd.f5.params[j]? = some t → args[j]? = some v → Value.okWide Tryd.prog W .any base t v)
    (hW : DataW.Whole enc Tryd.prog Tryd.f5.params.toList Rows.linearFoundSpec.vars false W args.toList ds gs before) (hL : laidMetH Tryd.prog Rows.linearFoundRow.laid W) :
    Calls Tryd.prog 5 args W fun e W' => ∃ v, e = .returned v ∧ Rows.linearFoundSpec.post enc Tryd.prog Tryd.f5 false true false false W args v W' := by
  have hW' := hW
  obtain ⟨p, q, hA0, hV, rfl, hfz, hnd⟩ := hW
  have hA : DataW.TrodAll enc Tryd.prog W 0 (fun _ => true) true Tryd.f5.params.toList args.toList ds p := hA0
  rw [Tryd.params5] at hA hval
  obtain ⟨v0, vs0, d0, ds0, p0, q0, hargs, rfl, rfl, h0, r0⟩ := trodAll_cons hA
  obtain ⟨v1, vs1, d1, ds1, p1, q1, rfl, rfl, rfl, h1, r1⟩ := trodAll_cons r0
  obtain ⟨rfl, rfl, rfl⟩ := trodAll_nil r1
  obtain rfl : args = #[v0, v1] := by cases args; simp_all
  obtain ⟨rfl, rfl⟩ := trodVars_none hV
  clear hA0
  simp only [List.append_nil] at hW'
  have hlt := fun x hx => hW'.lt x hx
  obtain ⟨f0, g0⟩ := id h0
  obtain ⟨f1, g1⟩ := id h1
  obtain ⟨la, n, cap, xs, e0, hxl, hnc, hcm, hr, hl⟩ := open_calls g0
  obtain ⟨oa, m, oc, ord, e1, hol, hmc, hocm, ho⟩ := open_ord g1
  have e0 : v0 = .slice la n cap := slice_val Tryd.underlying22 (hval 0 22 v0 rfl rfl) e0
  have e1 : v1 = .slice oa m oc := slice_val Tryd.underlying25 (hval 1 25 v1 rfl rfl) e1
  subst e0
  subst e1
  have walk := (found_spec la oa n cap m oc xs ord W (fun _ => False) hr (tab_of hL) hl ho hxl hol hnc hcm hmc hocm (fun _ h => h.elim)).2
  refine walk.mono ?_
  rintro _ W' ⟨v, L, rfl, ⟨rfl, rfl⟩, hI⟩
  have hb : RowKit.Below W.heap.size W W' := hI.1.below
  refine ⟨_, rfl, post_below hW' rfl hb ?_ ?_ rfl ?_⟩
  · intro b sp hd
    exact trodAll_cons_mk (shut_bool Tryd.underlying4 _) trodAll_mk0
  · rintro _ rfl sp hsp
    have k0 := Go.WideElems.Trod_stays laidOut read22 rows22 h0 (fun x hx => hb.same (hlt x (by simp [hx]))) (fun x hx => hsp x (by simp [hx]))
    have k1 := Go.WideElems.Trod_stays laidOut read25 rows25 h1 (fun x hx => hb.same (hlt x (by simp [hx]))) (fun x hx => hsp x (by simp [hx]))
    have := trodAll_cons_mk k0 (trodAll_cons_mk k1 trodAll_mk0)
    rwa [List.append_nil] at this
  · exact RowKit.ok_one (by kernel_rfl) rfl (okWide_bool_mk Tryd.underlying4 _)

def cellsD : DataW Unit → Array Value
  | .agg l => (l.map fun | .lit (.int k n) => Value.int k n | _ => undef).toArray
  | _ => #[]
def putD (d : DataW Unit) : Obj → Obj
  | .cells _ t frozen => .cells (cellsD d) t frozen
  | o => o
/-- A world for the witness: the three tables hold what their initialisers lay. -/
noncomputable def laidWorld (os : Os) : World :=
  { World.holding Tryd.prog os ⟨#[], #[], []⟩ with heap := (((World.holding Tryd.prog os ⟨#[], #[], []⟩).heap.modify 0 (putD Rows.laid_internal_strconv_uint64pow10)).modify 1 (putD Rows.laid_math_bits_deBruijn32tab)).modify 2 (putD Rows.laid_math_bits_deBruijn64tab) }
theorem laid_met (os : Os) (args : Array Value) : laidMet Tryd.prog Rows.linearFoundRow.laid ((laidWorld os).forCall (fun _ _ => 0) ⟨#[], args, []⟩).memory :=
  laidMet_of_run' 8 (by kernel_rfl) (by kernel_rfl)
theorem reads2 (os : Os) {H : Type} (enc : TypeId × Value → H) : DataW.whole enc Tryd.prog ((laidWorld os).forCall (fun _ _ => 0) ⟨#[], #[.slice none 0 0, .slice none 0 0], []⟩).memory [22, 25] [] false #[Value.slice none 0 0, .slice none 0 0].toList 8 = some ([.nil, .nil], [], []) := by kernel_rfl

theorem liftedFound (os : Os) (started : os.Started) (H : Type) (enc : TypeId × Value → H) (F : Stop.Interp) :
    ReturnsInHanded {} Tryd.checked os 5 .any ((OpenSpec.ofChange Rows.linearFoundSpec).preRow enc Tryd.prog Tryd.f5 Rows.linearFoundRow.domain false Rows.linearFoundRow.laid) (((OpenSpec.ofChange Rows.linearFoundSpec).at F).post enc Tryd.prog Tryd.f5 false true false false) := by
  refine returnsInHanded_of_row (C := Tryd.checked) (s := OpenSpec.ofChange Rows.linearFoundSpec) own_knob started (by kernel_rfl) Tryd.func5
    (witness_row_at (enc := enc) (C := Tryd.checked) false (laidWorld os) #[.slice none 0 0, .slice none 0 0] rfl (by kernel_rfl) (by kernel_rfl) (by kernel_rfl)
      (OpenSpec.preRow_of_cond 8 (reads2 os enc) (by kernel_rfl) (fun k hk => by cases hk) (by kernel_rfl) (laid_met os _))) ?_
  intro W base args ds gs before hval hW _ _ _ hL _ _
  exact contractFound H enc W base args ds gs before hval hW hL
theorem saidFound : Rows.LinearFoundSaid :=
  OpenClaim.holds_of_cond 5 Tryd.f5 rfl rfl rfl rfl rfl rfl rfl ⟨rfl, rfl, rfl, rfl, rfl⟩ rfl rfl rfl rfl rfl (by kernel_rfl) Tryd.func5 (by kernel_rfl)
    (of_decide_eq_true (by kernel_rfl)) (by unfold Func.isWrapper; first | (rw [if_pos (by decide +kernel)]; kernel_rfl) | (rw [if_neg (by decide +kernel)]; exact ⟨rfl, rfl⟩))
    (fun os started H enc _ F => by rw [OpenClaim.pre_eq_preRow]; exact liftedFound os started H enc F)
theorem plainFound (f : FuncId) (fn : Func) (hf : Tryd.pinned.checked.prog.funcNamed "freehold/freeholdlaw21.LinearFound" = some f) (hfn : Tryd.pinned.checked.prog.funcs[f]? = some fn) :
    false = Tryd.pinned.checked.prog.looks [] ∧ ∀ (j : Nat) t, fn.params[j]? = some t → Tryd.pinned.checked.prog.wantsStandIn t = false := by
  obtain rfl : f = 5 := Option.some.inj ((show Tryd.prog.funcNamed "freehold/freeholdlaw21.LinearFound" = some 5 by kernel_rfl).symm.trans hf) |>.symm
  obtain rfl : fn = Tryd.f5 := (Option.some.inj (Tryd.func5.symm.trans hfn)).symm
  refine ⟨by kernel_rfl, fun j t ht => ?_⟩
  rw [Tryd.params5] at ht
  have hm : t ∈ [22, 25] := by simpa using Array.mem_of_getElem? ht
  have hall : ([22, 25].all fun u => !Tryd.prog.wantsStandIn u) = true := by kernel_rfl
  exact (show Tryd.prog.wantsStandIn t = false by simpa using List.all_eq_true.1 hall t hm)
theorem cardFound : Rows.LinearFoundCardSaid :=
  Claim7.holds_tied_plain_at .later [] _ _ _ _ saidFound (fun _ h => by cases h) (by kernel_rfl) (fun _ h => by cases h) linearFound_row_tie rfl ⟨rfl, rfl⟩ (by kernel_rfl) rfl plainFound (by kernel_rfl)
end Go.Proofs.YtfebaopjfmpfkaaDoor
