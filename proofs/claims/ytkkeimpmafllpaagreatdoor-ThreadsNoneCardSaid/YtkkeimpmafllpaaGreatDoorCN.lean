/- The card of ThreadsNone: the law holds whatever it is given. -/
import Derived.Test.YtkkeimpmafllpaaGreatDoorW2
import Derived.Test.YtkkeimpmafllpaaGreatDoorK2
import Derived.Test.YtkkeimpmafllpaaGreatDoorYE
import Derived.Test.YtkkeimpmafllpaaGreatDoorCards
import Derived.Test.YtkkeimpmafllpaaGreatDoorTie
import Derived.WalkKit
import Derived.ProofKit
import Derived.OpenShut
import Derived.Carry
import Derived.Deep.DeepHandedRow
import Derived.Lib.LaidTab
import Derived.Deep.Slices
import Derived.Deep.Fields
import Derived.ChangeSame
namespace Go.Proofs.YtkkeimpmafllpaaGreatDoor
open Go.X Go.Y Go.ChangeShapes Go.WideShapes Go.ChangeAt Go.RowKit
set_option maxRecDepth 100000
set_option linter.unusedVariables false
set_option linter.unusedSimpArgs false

theorem own_knob : ownKnob Tryz.prog.godebug = none := by kernel_rfl
/-- Nothing that lay there has turned, and the arguments read as they did. -/
theorem post_below {H : Type} {enc : TypeId × Value → H} {P : Program} {f : Func} {s : ChangeSpec} {apart fresh handsOn again : Bool} {W W' : World} {args : Array Value} {v : Value} {ds gs : List (DataW H)} {before : List MemPlace}
    (hW : DataW.Whole enc P f.params.toList s.vars apart W args.toList ds gs before) (hv : s.vars = []) (hb : RowKit.Below W.heap.size W W')
    (hres : ∀ (b : Nat) (sp : Nat → Bool) (hd : Bool), DataW.TrodAll enc P W' b sp hd f.resultTypes.toList (v.resultList f.resultTypes.size) (s.fn H (ds ++ gs)).results [])
    (hargs : ∀ p, before = p → ∀ sp : Nat → Bool, (∀ q ∈ p, sp q.block = true) → DataW.TrodAll enc P W' 0 sp true f.params.toList args.toList (s.fn H (ds ++ gs)).args p)
    (hvs : (s.fn H (ds ++ gs)).vars = [])
    (hok : ∀ (j : Nat) (t : TypeId) (r : Value), f.resultTypes[j]? = some t → (v.resultList f.resultTypes.size)[j]? = some r → Value.okWide P W' .any 0 t r) :
    s.post enc P f apart fresh handsOn again W args v W' := by
  have hlt : ∀ p ∈ before, p.block < W.heap.size := fun p hp => hW.lt p hp
  have hold : ∀ p ∈ before, (fun b => decide (b < W.heap.size)) p.block = true := fun p hp => by simpa using hlt p hp
  have hvars : ∀ sp : Nat → Bool, DataW.TrodVars enc P W' sp s.vars (s.fn H (ds ++ gs)).vars [] := fun sp => by rw [hv, hvs]; exact rfl
  refine ⟨ds, gs, before, [], before, [], hW, hres _ _ _, hargs _ rfl _ hold, hvars _, hb.frame _, fun _ => ?_⟩
  obtain ⟨p, q, _, _, _, hz, hn⟩ := hW
  refine ⟨hok, _, _, ([] ++ before) ++ [], ⟨[] ++ before, [], trodAll_append (hargs _ rfl _ (fun _ _ => rfl)) (hres _ _ _), hvars _, rfl, ?_, ?_⟩, ?_⟩
  · intro b off hp
    have hp' : MemPlace.cell b off ∈ before := by simpa using hp
    have hblt : b < W.heap.size := hlt _ hp'
    rw [World.frozen?_of_block (w := W) (a := ⟨b, off, none⟩) (hb.block b hblt)]
    exact hz b off hp'
  · intro ha
    have := hn ha
    simpa using this
  · intro p hp _
    simpa using hp
theorem laidOut : laidOutB Tryz.prog = true := by kernel_rfl
theorem int_val {W : World} {base : Nat} {t : TypeId} {k : IntKind} {v : Value} {n : Int} (ht : Tryz.prog.underlying t = some (.int k)) (hv : Value.okWide Tryz.prog W .any base t v) (h : v.cells.toList = [.int k n]) : v = .int k n := by
  cases v <;> simp [Value.cells] at h <;> first | (obtain ⟨rfl, rfl⟩ := h; rfl) | skip
  all_goals (simp [Value.okWide, Cell.okWide, Cell.ok, ht] at hv)
theorem bool_val {W : World} {base : Nat} {t : TypeId} {v : Value} {b : Bool} (ht : Tryz.prog.underlying t = some .bool) (hv : Value.okWide Tryz.prog W .any base t v) (h : v.cells.toList = [.bool b]) : v = .bool b := by
  cases v <;> simp [Value.cells] at h <;> first | (obtain rfl := h; rfl) | skip
  all_goals (simp [Value.okWide, Cell.okWide, Cell.ok, ht] at hv)
theorem agg4_val {v : Value} (h : v.cells.toList.length = 4) : ∃ a b c d, v = .agg ⟨[a, b, c, d]⟩ := by
  cases v <;> simp [Value.cells] at h
  rename_i xs
  obtain ⟨l⟩ := xs
  match l, h with
  | [a, b, c, d], _ => exact ⟨a, b, c, d, rfl⟩
def cellsD : DataW Unit → Array Value
  | .agg l => (l.map fun | .lit (.int k n) => Value.int k n | .lit (.bool b) => Value.bool b | _ => undef).toArray
  | _ => #[]
def putD (d : DataW Unit) : Obj → Obj
  | .cells _ t frozen => .cells (cellsD d) t frozen
  | o => o
/-- A world for the witness: the tables hold what their initialisers lay. -/
noncomputable def laidWorld (os : Os) : World :=
  { World.holding Tryz.prog os ⟨#[], #[], []⟩ with heap := ((((World.holding Tryz.prog os ⟨#[], #[], []⟩).heap.modify 0 (putD Rows.laid_freehold_space_unmapped)).modify 2 (putD Rows.laid_freehold_space_clean)).modify 1 (putD Rows.laid_freehold_space_dirty)) }
theorem gv0 : Tryz.prog.globalNamed "freehold/space.unmapped" = some 0 := by kernel_rfl
theorem gt0 : (Tryz.prog.globals[0]?).map (·.type) = some 313 := by kernel_rfl
theorem gv2 : Tryz.prog.globalNamed "freehold/space.clean" = some 2 := by kernel_rfl
theorem gt2 : (Tryz.prog.globals[2]?).map (·.type) = some 313 := by kernel_rfl
theorem gv1 : Tryz.prog.globalNamed "freehold/space.dirty" = some 1 := by kernel_rfl
theorem gt1 : (Tryz.prog.globals[1]?).map (·.type) = some 313 := by kernel_rfl
theorem gl_of {W : World} (h : laidMetH Tryz.prog Rows.threadsNoneRow.laid W) : RO W (fun _ => False) (glC gg 3) := by
  rw [MakeChecks.laidMetH_plain _ _ _ (by kernel_rfl)] at h
  obtain ⟨ps, ⟨g0, t0, cs0, f0, p0, q0, hg0, ht0, hv0, hd0, ⟨g2, t2, cs2, f2, p2, q2, hg2, ht2, hv2, hd2, ⟨g1, t1, cs1, f1, p1, q1, hg1, ht1, hv1, hd1, _, _⟩, _⟩, _⟩, _, _⟩ := h
  obtain rfl := Option.some.inj (gv0.symm.trans hg0)
  obtain rfl := Option.some.inj (gt0.symm.trans ht0)
  obtain ⟨a0, b0, c0⟩ := var_cells gv0 hv0
  have k0 := open_page Tryz.underlying313 rfl rfl rfl rfl rfl rfl Tryz.underlying4 (by kernel_rfl) (by kernel_rfl) hd0
  obtain rfl := Option.some.inj (gv1.symm.trans hg1)
  obtain rfl := Option.some.inj (gt1.symm.trans ht1)
  obtain ⟨a1, b1, c1⟩ := var_cells gv1 hv1
  have k1 := open_page Tryz.underlying313 rfl rfl rfl rfl rfl rfl Tryz.underlying4 (by kernel_rfl) (by kernel_rfl) hd1
  obtain rfl := Option.some.inj (gv2.symm.trans hg2)
  obtain rfl := Option.some.inj (gt2.symm.trans ht2)
  obtain ⟨a2, b2, c2⟩ := var_cells gv2 hv2
  have k2 := open_page Tryz.underlying313 rfl rfl rfl rfl rfl rfl Tryz.underlying4 (by kernel_rfl) (by kernel_rfl) hd2
  refine ⟨fun k => k < 3, ⟨fun k => Iff.rfl, ?_, ?_⟩, fun _ _ h => h⟩
  · intro k hk
    have hs : ∀ j o, W.heap[j]? = some o → j < W.heap.size := fun j o h => (Array.getElem?_eq_some_iff.1 h).1
    have h0 := hs 2 _ c2
    omega
  · exact ⟨⟨by decide, _, _, _, c0, k0⟩, ⟨⟨by decide, _, _, _, c1, k1⟩, trivial, trivial⟩, ⟨⟨by decide, _, _, _, c2, k2⟩, trivial, trivial⟩⟩
theorem contractThreadsNone (H : Type) (enc : TypeId × Value → H) (W : World) (base : Nat) (args : Array Value) (ds gs : List (DataW H)) (before : List MemPlace)
    (hval : ∀ (j : Nat) t v, Tryz.f3.params[j]? = some t → args[j]? = some v → Value.okWide Tryz.prog W .any base t v)
    (hW : DataW.Whole enc Tryz.prog Tryz.f3.params.toList Rows.threadsNoneSpec.vars false W args.toList ds gs before) (hL : laidMetH Tryz.prog Rows.threadsNoneRow.laid W) :
    Calls Tryz.prog 3 args W fun e W' => ∃ v, e = .returned v ∧ Rows.threadsNoneSpec.post enc Tryz.prog Tryz.f3 false true false false W args v W' := by
  have hW' := hW
  obtain ⟨p, q, hA0, hV, rfl, hfz, hnd⟩ := hW
  have hA : DataW.TrodAll enc Tryz.prog W 0 (fun _ => true) true Tryz.f3.params.toList args.toList ds p := hA0
  rw [Tryz.params3] at hA hval
  obtain ⟨v0, vs0, d0, ds0, p0, q0, hargs, rfl, rfl, h0, r0⟩ := trodAll_cons hA
  obtain ⟨v1, vs1, d1, ds1, p1, q1, rfl, rfl, rfl, h1, r1⟩ := trodAll_cons r0
  obtain ⟨v2, vs2, d2, ds2, p2, q2, rfl, rfl, rfl, h2, r2⟩ := trodAll_cons r1
  obtain ⟨v3, vs3, d3, ds3, p3, q3, rfl, rfl, rfl, h3, r3⟩ := trodAll_cons r2
  obtain ⟨rfl, rfl, rfl⟩ := trodAll_nil r3
  obtain rfl : args = #[v0, v1, v2, v3] := by cases args; simp_all
  obtain ⟨rfl, rfl⟩ := trodVars_none hV
  clear hA0
  simp only [List.append_nil] at hW'
  have hlt := fun x hx => hW'.lt x hx
  obtain ⟨f2, g2⟩ := id h2
  obtain ⟨z2, e2, _, hz2⟩ := DataW.trod_int Tryz.underlying3 g2
  have e2 : v2 = .int .i64 z2 := int_val Tryz.underlying3 (hval 2 3 v2 rfl rfl) e2
  subst e2
  obtain ⟨f3, g3⟩ := id h3
  obtain ⟨z3, e3, _⟩ := DataW.trod_bool Tryz.underlying4 g3
  have e3 : v3 = .bool z3 := bool_val Tryz.underlying4 (hval 3 4 v3 rfl rfl) e3
  subst e3
  have walk := (none_spec (glC gg 3) awake_spec small_spec v0 v1 z2 z3 W (fun _ => False) (gl_of hL) (fun _ h => h.elim)).2
  refine walk.mono ?_
  rintro _ W' ⟨v, L, rfl, ⟨rfl, rfl⟩, hI⟩
  have hb : RowKit.Below W.heap.size W W' := hI.1.below
  refine ⟨_, rfl, post_below hW' rfl hb ?_ ?_ rfl ?_⟩
  · intro b sp hd
    exact trodAll_cons_mk (shut_bool Tryz.underlying4 _) trodAll_mk0
  · rintro _ rfl sp hsp
    have k0 := Go.WideElems.Trod_stays laidOut (show Tryz.prog.readableRec 22 = true by kernel_rfl) (show 22 < Tryz.prog.types.size from of_decide_eq_true (by kernel_rfl)) h0 (fun x hx => hb.same (hlt x (by simp [hx]))) (fun x hx => hsp x (by simp [hx]))
    have k1 := Go.WideElems.Trod_stays laidOut (show Tryz.prog.readableRec 23 = true by kernel_rfl) (show 23 < Tryz.prog.types.size from of_decide_eq_true (by kernel_rfl)) h1 (fun x hx => hb.same (hlt x (by simp [hx]))) (fun x hx => hsp x (by simp [hx]))
    have k2 := Go.WideElems.Trod_stays laidOut (show Tryz.prog.readableRec 3 = true by kernel_rfl) (show 3 < Tryz.prog.types.size from of_decide_eq_true (by kernel_rfl)) h2 (fun x hx => hb.same (hlt x (by simp [hx]))) (fun x hx => hsp x (by simp [hx]))
    have k3 := Go.WideElems.Trod_stays laidOut (show Tryz.prog.readableRec 4 = true by kernel_rfl) (show 4 < Tryz.prog.types.size from of_decide_eq_true (by kernel_rfl)) h3 (fun x hx => hb.same (hlt x (by simp [hx]))) (fun x hx => hsp x (by simp [hx]))
    have := trodAll_cons_mk k0 (trodAll_cons_mk k1 (trodAll_cons_mk k2 (trodAll_cons_mk k3 trodAll_mk0)))
    rw [List.append_nil] at this
    exact this
  · exact RowKit.ok_one (by kernel_rfl) rfl (okWide_bool_mk Tryz.underlying4 _)

theorem laid_met (os : Os) (args : Array Value) : laidMet Tryz.prog Rows.threadsNoneRow.laid ((laidWorld os).forCall (fun _ _ => 0) ⟨#[], args, []⟩).memory :=
  laidMet_of_run' 8 (by kernel_rfl) (by kernel_rfl)
theorem reads (os : Os) {H : Type} (enc : TypeId × Value → H) : DataW.whole enc Tryz.prog ((laidWorld os).forCall (fun _ _ => 0) ⟨#[], #[.slice none 0 0, .slice none 0 0, .int .i64 0, .bool false], []⟩).memory [22, 23, 3, 4] [] false #[Value.slice none 0 0, .slice none 0 0, .int .i64 0, .bool false].toList 8 = some ([.nil, .nil, .lit (.int .i64 0), .lit (.bool false)], [], []) := by kernel_rfl
theorem lifted (os : Os) (started : os.Started) (H : Type) (enc : TypeId × Value → H) (F : Stop.Interp) :
    ReturnsInHanded {} Tryz.checked os 3 .any ((OpenSpec.ofChange Rows.threadsNoneSpec).preRow enc Tryz.prog Tryz.f3 Rows.threadsNoneRow.domain false Rows.threadsNoneRow.laid) (((OpenSpec.ofChange Rows.threadsNoneSpec).at F).post enc Tryz.prog Tryz.f3 false true false false) := by
  refine returnsInHanded_of_row (C := Tryz.checked) (s := OpenSpec.ofChange Rows.threadsNoneSpec) own_knob started (by kernel_rfl) Tryz.func3
    (witness_row_at (enc := enc) (C := Tryz.checked) false (laidWorld os) #[.slice none 0 0, .slice none 0 0, .int .i64 0, .bool false] rfl (by kernel_rfl) (by kernel_rfl) (by kernel_rfl)
      (OpenSpec.preRow_of_cond 8 (reads os enc) (by kernel_rfl) (fun k hk => by cases hk) (by kernel_rfl) (laid_met os _))) ?_
  intro W base args ds gs before hval hW _ _ _ hL _ _
  exact contractThreadsNone H enc W base args ds gs before hval hW hL
theorem said : Rows.ThreadsNoneSaid :=
  OpenClaim.holds_of_cond 3 Tryz.f3 rfl rfl rfl rfl rfl rfl rfl ⟨rfl, rfl, rfl, rfl, rfl⟩ rfl rfl rfl rfl rfl (by kernel_rfl) Tryz.func3 (by kernel_rfl)
    (of_decide_eq_true (by kernel_rfl)) (by unfold Func.isWrapper; first | (rw [if_pos (by decide +kernel)]; kernel_rfl) | (rw [if_neg (by decide +kernel)]; exact ⟨rfl, rfl⟩))
    (fun os started H enc _ F => by rw [OpenClaim.pre_eq_preRow]; exact lifted os started H enc F)
theorem plain (f : FuncId) (fn : Func) (hf : Tryz.pinned.checked.prog.funcNamed "freehold/freeholdlaw17.ThreadsNone" = some f) (hfn : Tryz.pinned.checked.prog.funcs[f]? = some fn) :
    true = Tryz.pinned.checked.prog.looks [] ∧ ∀ (j : Nat) t, fn.params[j]? = some t → Tryz.pinned.checked.prog.wantsStandIn t = false := by
  obtain rfl : f = 3 := Option.some.inj ((show Tryz.prog.funcNamed "freehold/freeholdlaw17.ThreadsNone" = some 3 by kernel_rfl).symm.trans hf) |>.symm
  obtain rfl : fn = Tryz.f3 := (Option.some.inj (Tryz.func3.symm.trans hfn)).symm
  refine ⟨by kernel_rfl, fun j t ht => ?_⟩
  rw [Tryz.params3] at ht
  have hm : t ∈ [22, 23, 3, 4] := by simpa using Array.mem_of_getElem? ht
  have hall : ([22, 23, 3, 4].all fun u => !Tryz.prog.wantsStandIn u) = true := by kernel_rfl
  exact (show Tryz.prog.wantsStandIn t = false by simpa using List.all_eq_true.1 hall t hm)
theorem card : Rows.ThreadsNoneCardSaid :=
  Claim7.holds_tied_plain_at .later [] _ _ _ _ said (fun _ h => by cases h) (by kernel_rfl) (fun _ h => by cases h) threadsNone_row_tie rfl ⟨rfl, rfl⟩ (by kernel_rfl) rfl plain (by kernel_rfl)
end Go.Proofs.YtkkeimpmafllpaaGreatDoor
