/- The card of LinearOf. -/
import Derived.Test.YtfebaopjfmpfkaaDoorLC
import Derived.Test.YtfebaopjfmpfkaaDoorT11
namespace Go.Proofs.YtfebaopjfmpfkaaDoor
open Go.X Go.ChangeShapes Go.WideShapes Go.ChangeAt Go.RowKit
set_option maxRecDepth 100000
set_option linter.unusedVariables false
set_option linter.unusedSimpArgs false

theorem contractOf (H : Type) (enc : TypeId × Value → H) (W : World) (base : Nat) (args : Array Value) (ds gs : List (DataW H)) (before : List MemPlace)
    (hval : ∀ (j : Nat) t v, Tryd.f11.params[j]? = some t → args[j]? = some v → Value.okWide Tryd.prog W .any base t v)
    (hW : DataW.Whole enc Tryd.prog Tryd.f11.params.toList Rows.linearOfSpec.vars false W args.toList ds gs before) (hL : laidMetH Tryd.prog Rows.linearOfRow.laid W) :
    Calls Tryd.prog 11 args W fun e W' => ∃ v, e = .returned v ∧ Rows.linearOfSpec.post enc Tryd.prog Tryd.f11 false true false false W args v W' := by
  have hW' := hW
  obtain ⟨p, q, hA0, hV, rfl, hfz, hnd⟩ := hW
  have hA : DataW.TrodAll enc Tryd.prog W 0 (fun _ => true) true Tryd.f11.params.toList args.toList ds p := hA0
  rw [Tryd.params11] at hA hval
  obtain ⟨v0, vs0, d0, ds0, p0, q0, hargs, rfl, rfl, h0, r0⟩ := trodAll_cons hA
  obtain ⟨rfl, rfl, rfl⟩ := trodAll_nil r0
  obtain rfl : args = #[v0] := by cases args; simp_all
  obtain ⟨rfl, rfl⟩ := trodVars_none hV
  clear hA0
  simp only [List.append_nil] at hW'
  have hlt := fun x hx => hW'.lt x hx
  obtain ⟨f0, g0⟩ := id h0
  obtain ⟨la0, n0, cap0, xs0, e0, hxl0, hnc0, hcm0, hr0, hl0⟩ := open_events g0
  have e0 : v0 = .slice la0 n0 cap0 := slice_val Tryd.underlying45 (hval 0 45 v0 rfl rfl) e0
  subst e0
  have walk := (oflaw_spec la0 n0 cap0 xs0 W (fun _ => False) (tab_of hL) hl0 hxl0 hnc0 (fun _ h => h.elim)).2
  refine walk.mono ?_
  rintro _ W' ⟨v, L, rfl, ⟨rfl, rfl⟩, hI⟩
  have hb : RowKit.Below W.heap.size W W' := hI.1.below
  refine ⟨_, rfl, post_below hW' rfl hb ?_ ?_ rfl ?_⟩
  · intro b sp hd
    exact trodAll_cons_mk (shut_bool Tryd.underlying4 _) trodAll_mk0
  · rintro _ rfl sp hsp
    have k0 := Go.WideElems.Trod_stays laidOut read45 rows45 h0 (fun x hx => hb.same (hlt x (by simp [hx]))) (fun x hx => hsp x (by simp [hx]))
    have := trodAll_cons_mk k0 trodAll_mk0
    rw [List.append_nil] at this
    exact this
  · exact RowKit.ok_one (by kernel_rfl) rfl (okWide_bool_mk Tryd.underlying4 _)

theorem laid_metOf (os : Os) (args : Array Value) : laidMet Tryd.prog Rows.linearOfRow.laid ((laidWorld os).forCall (fun _ _ => 0) ⟨#[], args, []⟩).memory :=
  laidMet_of_run' 8 (by kernel_rfl) (by kernel_rfl)
theorem readsOf (os : Os) {H : Type} (enc : TypeId × Value → H) : DataW.whole enc Tryd.prog ((laidWorld os).forCall (fun _ _ => 0) ⟨#[], #[.slice none 0 0], []⟩).memory [45] [] false #[Value.slice none 0 0].toList 8 = some ([.nil], [], []) := by kernel_rfl

theorem liftedOf (os : Os) (started : os.Started) (H : Type) (enc : TypeId × Value → H) (F : Stop.Interp) :
    ReturnsInHanded {} Tryd.checked os 11 .any ((OpenSpec.ofChange Rows.linearOfSpec).preRow enc Tryd.prog Tryd.f11 Rows.linearOfRow.domain false Rows.linearOfRow.laid) (((OpenSpec.ofChange Rows.linearOfSpec).at F).post enc Tryd.prog Tryd.f11 false true false false) := by
  refine returnsInHanded_of_row (C := Tryd.checked) (s := OpenSpec.ofChange Rows.linearOfSpec) own_knob started (by kernel_rfl) Tryd.func11
    (witness_row_at (enc := enc) (C := Tryd.checked) false (laidWorld os) #[.slice none 0 0] rfl (by kernel_rfl) (by kernel_rfl) (by kernel_rfl)
      (OpenSpec.preRow_of_cond 8 (readsOf os enc) (by kernel_rfl) (fun k hk => by cases hk) (by kernel_rfl) (laid_metOf os _))) ?_
  intro W base args ds gs before hval hW _ _ _ hL _ _
  exact contractOf H enc W base args ds gs before hval hW hL
theorem saidOf : Rows.LinearOfSaid :=
  OpenClaim.holds_of_cond 11 Tryd.f11 rfl rfl rfl rfl rfl rfl rfl ⟨rfl, rfl, rfl, rfl, rfl⟩ rfl rfl rfl rfl rfl (by kernel_rfl) Tryd.func11 (by kernel_rfl)
    (of_decide_eq_true (by kernel_rfl)) (by unfold Func.isWrapper; first | (rw [if_pos (by decide +kernel)]; kernel_rfl) | (rw [if_neg (by decide +kernel)]; exact ⟨rfl, rfl⟩))
    (fun os started H enc _ F => by rw [OpenClaim.pre_eq_preRow]; exact liftedOf os started H enc F)
theorem plainOf (f : FuncId) (fn : Func) (hf : Tryd.pinned.checked.prog.funcNamed "freehold/freeholdlaw21.LinearOf" = some f) (hfn : Tryd.pinned.checked.prog.funcs[f]? = some fn) :
    false = Tryd.pinned.checked.prog.looks [] ∧ ∀ (j : Nat) t, fn.params[j]? = some t → Tryd.pinned.checked.prog.wantsStandIn t = false := by
  obtain rfl : f = 11 := Option.some.inj ((show Tryd.prog.funcNamed "freehold/freeholdlaw21.LinearOf" = some 11 by kernel_rfl).symm.trans hf) |>.symm
  obtain rfl : fn = Tryd.f11 := (Option.some.inj (Tryd.func11.symm.trans hfn)).symm
  refine ⟨by kernel_rfl, fun j t ht => ?_⟩
  rw [Tryd.params11] at ht
  have hm : t ∈ [45] := by simpa using Array.mem_of_getElem? ht
  have hall : ([45].all fun u => !Tryd.prog.wantsStandIn u) = true := by kernel_rfl
  exact (show Tryd.prog.wantsStandIn t = false by simpa using List.all_eq_true.1 hall t hm)
theorem cardOf : Rows.LinearOfCardSaid :=
  Claim7.holds_tied_plain_at .later [] _ _ _ _ saidOf (fun _ h => by cases h) (by kernel_rfl) (fun _ h => by cases h) linearOf_row_tie rfl ⟨rfl, rfl⟩ (by kernel_rfl) rfl plainOf (by kernel_rfl)
end Go.Proofs.YtfebaopjfmpfkaaDoor
