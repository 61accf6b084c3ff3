/- The symbolic executor's value operations are sound: each of them. -/
import Derived.Test.YtfebaopjfmpfkaaDoorX3
namespace Go.X
set_option linter.unusedVariables false
set_option linter.unusedSimpArgs false

section
variable {C : Ctx} {o : Oper} {e : Env} {L : List Chunk} {K : Value → Prop} {a : Act}

/-- What soundness says of one operation. -/
def VOk (C : Ctx) (o : Oper) (L : List Chunk) (K : Value → Prop) (a : Act) : Prop := ∃ v, K v ∧ ∀ w, Holds C L w → (execOp a.eval o).run C.P w = .ok (.value v) w

theorem VOk.of {s : Sem Value} {v : Value} (hs : execOp a.eval o = (do Pure.pure (Next.value (← s)) : Sem Next)) (hr : RunsTo C L s v) (hk : K v) : VOk C o L K a :=
  ⟨v, hk, fun w hw => by rw [hs, Sem.run_bind, hr w hw]; rfl⟩

/-- A value that hangs on no memory. -/
def VOkP (C : Ctx) (o : Oper) (K : Value → Prop) (a : Act) : Prop := ∃ v, K v ∧ ∀ w, (execOp a.eval o).run C.P w = .ok (.value v) w
theorem VOkP.ok (h : VOkP C o K a) : VOk C o L K a := let ⟨v, hk, hr⟩ := h; ⟨v, hk, fun w _ => hr w⟩
theorem VOkP.ofPure {s : Sem Value} {v : Value} (hs : execOp a.eval o = (do Pure.pure (Next.value (← s)) : Sem Next)) (hr : ∀ w, s.run C.P w = .ok v w) (hk : K v) : VOkP C o K a :=
  ⟨v, hk, fun w => by rw [hs, Sem.run_bind, hr w]; rfl⟩
theorem VOk.ofPure {s : Sem Value} {v : Value} (hs : execOp a.eval o = (do Pure.pure (Next.value (← s)) : Sem Next)) (hr : ∀ w, s.run C.P w = .ok v w) (hk : K v) : VOk C o L K a := .of hs (fun w _ => hr w) hk

theorem VOkP.move (ha : ES C.n e a) {x : Operand} (hop : o.op = .move x ∨ o.op = .assign x) (h : match ev e x with | some v => K v | none => False) : VOkP C o K a := by
  cases hx : ev e x with
  | none => simp [hx] at h
  | some v =>
    simp only [hx] at h
    refine ⟨v, h, fun w => ?_⟩
    rcases hop with hop | hop <;> simp [execOp, hop, ha.eval hx]

theorem VOkP.pick (ha : ES C.n e a) {c x y : Operand} (hop : o.op = .pick c x y) (h : XV C o e L K) : VOkP C o K a := by
  unfold XV at h
  simp only [hop] at h
  split at h
  · rename_i hc
    split at h
    · rename_i v hx
      exact ⟨v, h, fun w => by simp [execOp, hop, ha.eval hc, ha.eval hx, asBool]⟩
    · exact h.elim
  · rename_i hc
    split at h
    · rename_i v hx
      exact ⟨v, h, fun w => by simp [execOp, hop, ha.eval hc, ha.eval hx, asBool]⟩
    · exact h.elim
  · exact h.elim

theorem ES.parts {n : Nat} (ha : ES n e a) : ∀ {l : List (Nat × Operand)} {K : List (Nat × Value) → Prop}, partsV e l K → K (l.map fun x => (x.1, a.eval x.2))
  | [], _, h => h
  | (i, x) :: r, K, h => by
    simp only [partsV] at h
    cases hx : ev e x with
    | none => simp [hx] at h
    | some v =>
      simp only [hx] at h
      have := ha.parts h
      simpa [ha.eval hx] using this

theorem VOkP.build (hT : TabOk C.P C.tab) (ha : ES C.n e a) {t : TypeId} {parts : Array (Nat × Operand)} (hop : o.op = .build t parts) (h : XV C o e L K) : VOkP C o K a := by
  unfold XV at h
  simp only [hop] at h
  split at h
  · rename_i fs s b zero ht
    split at h
    · rename_i hall
      have h' := ha.parts h
      obtain ⟨d, hd, hk⟩ := (hT.get ht).und
      obtain ⟨gs, rfl, hgs⟩ := kOk.struct hk
      have hmem : ∀ f ∈ gs.toList, ∃ ti, tget C.tab f.type = some ti := fun f hf => allT_mem hall (f.offset, f.type) (by rw [← hgs]; exact List.mem_map_of_mem hf)
      have hpl : ∀ w, ∃ ps : List (Nat × Nat), (gs.mapM fun f => (do Pure.pure (f.offset, ← sizeOf f.type) : Sem (Nat × Nat))).run C.P w = .ok ps.toArray w ∧
          ∀ (i : Nat) (f : Field) (ti : TyI), gs[i]? = some f → tget C.tab f.type = some ti → ps[i]? = some (f.offset, ti.size) := fun w => by
        obtain ⟨ps, h1, h2⟩ := places_ok (w := w) hT gs.toList hmem
        refine ⟨ps, ?_, fun i f ti hi => h2 i f ti (by simpa using hi)⟩
        rw [Array.mapM_eq_mapM_toList, Sem.run_map, h1]
        rfl
      have hex : ∃ cs, K (.agg ⟨cs⟩) ∧ ∀ w, (Instr.build t ((parts.map fun (i, x) => (i, a.eval x)))).run C.P w = .ok (.agg ⟨cs⟩) w := by
        have hpw := hpl default
        obtain ⟨ps, _, hps⟩ := hpw
        obtain ⟨cs, hf, hk'⟩ := fill_ok hT (places := ps.toArray) (fun i off ft ti hl hti => by
          obtain ⟨f, hf1, hf2, hf3⟩ := lget_fields hgs hl
          have := hps i f ti hf1 (by rw [hf3]; exact hti)
          simpa [hf2] using this) _ zero _ h'
        refine ⟨cs, hk', fun w => ?_⟩
        obtain ⟨ps', hr, hps'⟩ := hpl w
        have hsame : ∀ i off ft ti, lget fs i = some (off, ft) → tget C.tab ft = some ti → ps'.toArray[i]? = some (off, ti.size) := fun i off ft ti hl hti => by
          obtain ⟨f, hf1, hf2, hf3⟩ := lget_fields hgs hl
          have := hps' i f ti hf1 (by rw [hf3]; exact hti)
          simpa [hf2] using this
        obtain ⟨z, hz, hzc⟩ := run_zero' (w := w) (hT.get ht)
        have hfill : ∀ (l : List (Nat × Value)) (c : List Value) (K' : List Value → Prop), buildX C.tab fs K' l c → Instr.fill (ps'.toArray[·]?) c.toArray l = Instr.fill (ps.toArray[·]?) c.toArray l := by
          intro l
          induction l with
          | nil => intro c K' _; rfl
          | cons x l ih =>
            obtain ⟨i, v⟩ := x
            intro c K' hb
            have hb : (match lget fs i with | some (off, ft) => (match tget C.tab ft with | some ti => (cellsL v).length = ti.size ∧ off + ti.size ≤ c.length ∧ buildX C.tab fs K' l (over c off (cellsL v)) | none => False) | none => False) := hb
            split at hb
            · rename_i off ft hl
              split at hb
              · rename_i ti hti
                have e1 := hsame i off ft ti hl hti
                have e2 : ps.toArray[i]? = some (off, ti.size) := by
                  obtain ⟨f, hf1, hf2, hf3⟩ := lget_fields hgs hl
                  have := hps i f ti hf1 (by rw [hf3]; exact hti)
                  simpa [hf2] using this
                obtain ⟨hb1, hb2, hb3⟩ := hb
                simp only [Instr.fill, e1, e2]
                have hsz : v.cells.size = ti.size := by rw [cellsL_eq]; simpa using hb1
                rw [if_neg (by simp [hsz]; omega), if_neg (by simp [hsz]; omega)]
                have hfold := over_foldl (cellsL v) c off 0
                rw [cellsL_eq v, ← Array.foldl_toList, Array.toList_zipIdx]
                show Instr.fill _ (((cellsL v).zipIdx).foldl (fun cs (x : Value × Nat) => cs.setIfInBounds (off + x.2) x.1) c.toArray) l = Instr.fill _ (((cellsL v).zipIdx).foldl (fun cs (x : Value × Nat) => cs.setIfInBounds (off + x.2) x.1) c.toArray) l
                rw [hfold]
                exact ih _ _ hb3
              · exact hb.elim
            · exact hb.elim
        have hl : (parts.map fun (i, x) => (i, a.eval x)).toList = parts.toList.map fun x => (x.1, a.eval x.2) := by simp
        simp only [Instr.build, Sem.run_bind, hz, Result.andThen_ok, Sem.run_pure, run_underlying' hd, hr, hzc]
        rw [hl, hfill _ _ _ h', hf]
        rfl
      obtain ⟨cs, hk', hr⟩ := hex
      exact .ofPure (s := Instr.build t (parts.map fun (i, x) => (i, a.eval x))) (by simp [execOp, hop]) hr hk'
    · exact h.elim
  · exact h.elim

theorem VOkP.nilCheck (ha : ES C.n e a) {x : Operand} (hop : o.op = .nilCheck x) (h : XV C o e L K) : VOkP C o K a := by
  unfold XV at h
  simp only [hop] at h
  split at h
  · rename_i p hx; exact ⟨_, h, fun w => by simp [execOp, hop, ha.eval hx]⟩
  · rename_i f p q hx; exact ⟨_, h, fun w => by simp [execOp, hop, ha.eval hx]⟩
  · rename_i t v hx; exact ⟨_, h, fun w => by simp [execOp, hop, ha.eval hx]⟩
  · exact h.elim

theorem xbin_sound {op : BinOp} {t : TypeId} {x y : Operand} {k k' : IntKind} {p q : Int} {P : Program} (hkk : op = .shl ∨ op = .shr ∨ k = k') (h : xbin op k p q K) :
    ∃ v, K v ∧ ∀ w, (do eqGuard op t x y (.int k p) (.int k' q); binOp op t (.int k p) (.int k' q) : Sem Value).run P w = .ok v w := by
  have hshl : op = .shl → ∃ v, K v ∧ ∀ w, (do eqGuard op t x y (.int k p) (.int k' q); binOp op t (.int k p) (.int k' q) : Sem Value).run P w = .ok v w := by
    rintro rfl
    simp only [xbin] at h
    obtain ⟨h0, c, rfl, hk⟩ := h
    exact ⟨_, hk, fun w => by simp only [eqGuard, binOp, Op.shift, if_neg (show ¬ q < 0 by omega)]; rfl⟩
  have hshr : op = .shr → ∃ v, K v ∧ ∀ w, (do eqGuard op t x y (.int k p) (.int k' q); binOp op t (.int k p) (.int k' q) : Sem Value).run P w = .ok v w := by
    rintro rfl
    simp only [xbin] at h
    obtain ⟨h0, c, rfl, hk⟩ := h
    exact ⟨_, hk, fun w => by simp only [eqGuard, binOp, Op.shift, if_neg (show ¬ q < 0 by omega)]; rfl⟩
  rcases hkk with hkk | hkk | rfl
  · exact hshl hkk
  · exact hshr hkk
  · cases op
    case shl => exact hshl rfl
    case shr => exact hshr rfl
    all_goals simp only [xbin] at h
    case quo => obtain ⟨h0, c, rfl, hk⟩ := h; exact ⟨_, hk, fun w => by simp [eqGuard, binOp, Op.intDiv, h0]⟩
    case rem => obtain ⟨h0, c, rfl, hk⟩ := h; exact ⟨_, hk, fun w => by simp [eqGuard, binOp, Op.intDiv, h0]⟩
    case eql => exact ⟨_, h, fun w => by simp [eqGuard, binOp, Op.intCmp]; rfl⟩
    case neq => exact ⟨_, h, fun w => by by_cases hpq : p = q <;> simp [eqGuard, binOp, Op.intCmp, hpq]⟩
    case lss => exact ⟨_, h, fun w => by simp [eqGuard, binOp, Op.intCmp]⟩
    case leq => exact ⟨_, h, fun w => by simp [eqGuard, binOp, Op.intCmp]⟩
    case gtr => exact ⟨_, h, fun w => by simp [eqGuard, binOp, Op.intCmp]⟩
    case geq => exact ⟨_, h, fun w => by simp [eqGuard, binOp, Op.intCmp]⟩
    all_goals (obtain ⟨c, rfl, hk⟩ := h; exact ⟨_, hk, fun w => by simp [eqGuard, binOp, Op.intArith, Op.intBits]⟩)

theorem run_bool_in {P : Program} (d : Nat) {t : TypeId} (ht : P.underlying t = some .bool) (p q : Bool) (w : World) : (Op.equalIn (d + 1) t (.bool p) (.bool q)).run P w = .ok (p == q) w := by
  simp only [Op.equalIn, Sem.run_bind, run_underlying' ht, Result.andThen_ok, Sem.run_pure]
theorem run_bool_eq {P : Program} {t : TypeId} (ht : P.underlying t = some .bool) (p q : Bool) (w : World) : (Op.equal t (.bool p) (.bool q)).run P w = .ok (p == q) w :=
  run_bool_in 9999 ht p q w

theorem VOk.binOp (hT : TabOk C.P C.tab) (ha : ES C.n e a) {op : BinOp} {t t' : TypeId} {x y : Operand} (hop : o.op = .binOp op t x y t') (h : XV C o e L K) : VOk C o L K a := by
  unfold XV at h
  simp only [hop] at h
  have hs : execOp a.eval o = (do Pure.pure (Next.value (← (do eqGuard op t x y (a.eval x) (a.eval y); Go.binOp op t (a.eval x) (a.eval y)))) : Sem Next) := by simp only [execOp, hop]
  split at h
  · rename_i k p hx
    split at h
    · rename_i k' q hy
      rw [ha.eval hx, ha.eval hy] at hs
      split at h
      · obtain ⟨v, hk, hr⟩ := xbin_sound (t := t) (x := x) (y := y) (k' := k') (P := C.P) (.inl rfl) h; exact .ofPure hs hr hk
      · obtain ⟨v, hk, hr⟩ := xbin_sound (t := t) (x := x) (y := y) (k' := k') (P := C.P) (.inr (.inl rfl)) h; exact .ofPure hs hr hk
      · split at h
        · rename_i hkk
          obtain ⟨v, hk, hr⟩ := xbin_sound (t := t) (x := x) (y := y) (k' := k') (P := C.P) (.inr (.inr (kEq_eq hkk))) h; exact .ofPure hs hr hk
        · exact h.elim
    · exact h.elim
  · rename_i p hx
    split at h
    · rename_i q hy
      rw [ha.eval hx, ha.eval hy] at hs
      split at h
      · split at h
        · rename_i ht
          obtain ⟨d, hd, hk⟩ := (hT.get ht).und
          obtain rfl := kOk.bool hk
          exact .ofPure hs (fun w => by
            have e1 : ∀ (r : Sem Value), (do eqGuard .eql t x y (.bool p) (.bool q); r) = r := fun r => rfl
            rw [e1]
            show ((Op.equal t (.bool p) (.bool q)).bind _).run C.P w = _
            rw [Sem.run_bind', run_bool_eq hd]; rfl) h
        · exact h.elim
      · split at h
        · rename_i ht
          obtain ⟨d, hd, hk⟩ := (hT.get ht).und
          obtain rfl := kOk.bool hk
          exact .ofPure hs (fun w => by
            have e1 : ∀ (r : Sem Value), (do eqGuard .neq t x y (.bool p) (.bool q); r) = r := fun r => rfl
            rw [e1]
            show ((Op.equal t (.bool p) (.bool q)).bind _).run C.P w = _
            rw [Sem.run_bind', run_bool_eq hd]; rfl) h
        · exact h.elim
      · exact h.elim
    · exact h.elim
  · rename_i u _ _ hx
    split at h
    · rename_i v hy
      rw [ha.eval hx, ha.eval hy] at hs
      obtain ⟨r, hr, hk⟩ := h
      exact .of hs hr hk
    · exact h.elim
  · exact h.elim

theorem VOk.unOp (ha : ES C.n e a) {op : UnOp} {t : TypeId} {x : Operand} (hop : o.op = .unOp op t x) (h : XV C o e L K) : VOk C o L K a := by
  unfold XV at h
  simp only [hop] at h
  split at h
  · rename_i b hx
    split at h
    · exact .ofPure (s := Op.unary .not (.bool b)) (by simp [execOp, hop, ha.eval hx]) (fun w => rfl) h
    · exact h.elim
  · rename_i v _ hx
    obtain ⟨r, hr, hk⟩ := h
    exact .of (by simp [execOp, hop, ha.eval hx]) hr hk
  · exact h.elim

theorem VOk.convert (hT : TabOk C.P C.tab) (ha : ES C.n e a) {s d : TypeId} {x : Operand} (hop : o.op = .convert s d x) (h : XV C o e L K) : VOk C o L K a := by
  unfold XV at h
  simp only [hop] at h
  split at h
  · rename_i k p hx
    split at h
    · rename_i k' _ _ _ hd
      split at h
      · rename_i i hs
        obtain ⟨c, rfl, hk⟩ := h
        obtain ⟨d1, hd1, hk1⟩ := (hT.get hd).und
        obtain rfl := kOk.int hk1
        obtain ⟨d2, hd2, _⟩ := (hT.get hs).und
        exact .ofPure (s := Go.convert s d (.int k p)) (by simp [execOp, hop, ha.eval hx]) (fun w => by simp [Go.convert, run_underlying' hd1, run_underlying' hd2, Conv.intToInt]) hk
      · exact h.elim
    · obtain ⟨r, hr, hk⟩ := h
      exact .of (by simp [execOp, hop, ha.eval hx]) hr hk
  · rename_i v _ hx
    obtain ⟨r, hr, hk⟩ := h
    exact .of (by simp [execOp, hop, ha.eval hx]) hr hk
  · exact h.elim

theorem VOkP.makeInterface (hT : TabOk C.P C.tab) (ha : ES C.n e a) {t : TypeId} {x : Operand} (hop : o.op = .makeInterface t x) (h : XV C o e L K) : VOkP C o K a := by
  unfold XV at h
  simp only [hop] at h
  split at h
  · rename_i v hx
    split at h
    · exact h.elim
    · rename_i i hni ht
      obtain ⟨d, hd, hk⟩ := (hT.get ht).und
      refine .ofPure (s := Instr.makeInterface t v) (by simp [execOp, hop, ha.eval hx]) (fun w => ?_) h
      simp only [Instr.makeInterface, Sem.run_bind, run_underlying' hd, Result.andThen_ok]
      obtain ⟨k, s, b, z⟩ := i
      cases d <;> first | rfl | skip
      cases k <;> simp [kOk] at hk
      exact absurd rfl (hni _ _ _)
    · exact h.elim
  · exact h.elim

theorem VOkP.makeFunc (ha : ES C.n e a) {fn : Fn} {p q : Array Operand} (hop : o.op = .makeFunc fn p q) (h : XV C o e L K) : VOkP C o K a := by
  unfold XV at h
  simp only [hop] at h
  have h1 := ha.evals (ha.evals h)
  refine .ofPure (s := Instr.makeFunc fn (p.map a.eval) (q.map a.eval)) (by simp [execOp, hop]) (fun w => rfl) (v := .func fn (p.map a.eval) (q.map a.eval)) ?_
  have e1 : p.map a.eval = ⟨p.toList.map a.eval⟩ := by apply Array.ext'; simp
  have e2 : q.map a.eval = ⟨q.toList.map a.eval⟩ := by apply Array.ext'; simp
  rw [e1, e2]
  exact h1

theorem VOkP.fieldAddr (hT : TabOk C.P C.tab) (ha : ES C.n e a) {s : TypeId} {x : Operand} {f : Nat} (hop : o.op = .fieldAddr s x f) (h : XV C o e L K) : VOkP C o K a := by
  unfold XV at h
  simp only [hop] at h
  split at h
  · rename_i b o' sp hx
    split at h
    · rename_i fs _ _ _ ht
      split at h
      · rename_i off ft hl
        split at h
        · rename_i _ sz _ _ hft
          have h : K (.pointer (some (addA ⟨b, o', sp⟩ off))) := by cases off <;> exact h
          obtain ⟨d, hd, hk⟩ := (hT.get ht).und
          obtain ⟨gs, rfl, hgs⟩ := kOk.struct hk
          obtain ⟨g, hg1, hg2, hg3⟩ := lget_fields hgs hl
          refine .ofPure (s := Instr.fieldAt s (.pointer (some ⟨b, o', sp⟩)) f) (by simp [execOp, hop, ha.eval hx]) (fun w => ?_) h
          have hsz := run_sizeOf' (w := w) (hT.get hft)
          rw [← hg3] at hsz
          simp [Instr.fieldAt, run_underlying' hd, hg1, Instr.sureAddr, fieldPlace, hsz, addA_eq, hg2]
        · exact h.elim
      · exact h.elim
    · exact h.elim
  · exact h.elim

theorem VOkP.field (hT : TabOk C.P C.tab) (ha : ES C.n e a) {s : TypeId} {x : Operand} {f : Nat} (hop : o.op = .field s x f) (h : XV C o e L K) : VOkP C o K a := by
  unfold XV at h
  simp only [hop] at h
  split at h
  · rename_i cs hx
    split at h
    · rename_i fs _ _ _ ht
      split at h
      · rename_i off ft hl
        obtain ⟨d, hd, hk⟩ := (hT.get ht).und
        obtain ⟨gs, rfl, hgs⟩ := kOk.struct hk
        obtain ⟨g, hg1, hg2, hg3⟩ := lget_fields hgs hl
        split at h
        · rename_i hagg
          split at h
          · rename_i ti hti
            have h := forceL_out h
            refine .ofPure (s := Instr.field s (.agg ⟨cs⟩) f) (by simp [execOp, hop, ha.eval hx]) (fun w => ?_) h
            have hsz := run_sizeOf' (w := w) (hT.get hti)
            have hag := run_isAgg' (w := w) hT hagg
            rw [← hg3] at hsz hag
            simp [Instr.field, run_underlying' hd, hg1, asAgg, part, hag, hsz, hg2, takeL_eq, dropL_eq, List.take_drop]
          · exact h.elim
        · rename_i hagg
          split at h
          · rename_i v hv
            refine .ofPure (s := Instr.field s (.agg ⟨cs⟩) f) (by simp [execOp, hop, ha.eval hx]) (fun w => ?_) h
            have hag := run_isAgg' (w := w) hT hagg
            rw [← hg3] at hag
            rw [lget_eq] at hv
            simp [Instr.field, run_underlying' hd, hg1, asAgg, part, hag, hg2, hv]
          · exact h.elim
        · exact h.elim
      · exact h.elim
    · exact h.elim
  · exact h.elim

theorem VOkP.indexAddr (hT : TabOk C.P C.tab) (ha : ES C.n e a) {t : TypeId} {x i : Operand} (hop : o.op = .indexAddr t x i) (h : XV C o e L K) : VOkP C o K a := by
  unfold XV at h
  simp only [hop] at h
  split at h
  · rename_i b off n c hx
    split at h
    · rename_i k iv hi
      split at h
      · rename_i et _ _ _ ht
        split at h
        · rename_i ti hti
          obtain ⟨j, rfl, hj, hk⟩ := h
          obtain ⟨d, hd, hkd⟩ := (hT.get ht).und
          obtain rfl := kOk.slice hkd
          refine .ofPure (s := Instr.indexAt t (.slice (some ⟨b, off, none⟩) n c) (.int k j)) (by simp [execOp, hop, ha.eval hx, ha.eval hi]) (fun w => ?_) hk
          have hsz := run_sizeOf' (w := w) (hT.get hti)
          simp [Instr.indexAt, asIntOf, run_underlying' hd, hsz, hj, Addr.add, scale_eq]
        · exact h.elim
      · exact h.elim
    · exact h.elim
  · rename_i b off hx
    split at h
    · rename_i k iv hi
      split at h
      · rename_i n et _ _ _ ht
        split at h
        · rename_i ti hti
          obtain ⟨j, rfl, hj, hk⟩ := h
          obtain ⟨d, hd, hkd⟩ := (hT.get ht).und
          obtain rfl := kOk.array hkd
          refine .ofPure (s := Instr.indexAt t (.pointer (some ⟨b, off, none⟩)) (.int k j)) (by simp [execOp, hop, ha.eval hx, ha.eval hi]) (fun w => ?_) hk
          have hsz := run_sizeOf' (w := w) (hT.get hti)
          simp [Instr.indexAt, asIntOf, run_underlying' hd, hsz, hj, Addr.add, scale_eq, Instr.sureAddr]
        · exact h.elim
      · exact h.elim
    · exact h.elim
  · exact h.elim

end
end Go.X
