/- The symbolic executor: the rest of the value operations, effects, and lists of operations. -/
import Derived.Test.YtfebaopjfmpfkaaDoorX4
namespace Go.X
set_option linter.unusedVariables false
set_option linter.unusedSimpArgs false

section
variable {C : Ctx} {o : Oper} {e : Env} {L : List Chunk} {K : Value → Prop} {a : Act}

theorem VOk.opt1 {s : Sem Value} (hs : execOp a.eval o = (do Pure.pure (Next.value (← s)) : Sem Next)) (h : ∃ r, RunsTo C L s r ∧ K r) : VOk C o L K a :=
  let ⟨_, hr, hk⟩ := h; .of hs hr hk

theorem VOk.index (ha : ES C.n e a) {t : TypeId} {x i : Operand} (hop : o.op = .index t x i) (h : XV C o e L K) : VOk C o L K a := by
  unfold XV at h
  simp only [hop] at h
  split at h
  · rename_i u hx
    split at h
    · rename_i v hi
      exact .opt1 (by simp [execOp, hop, ha.eval hx, ha.eval hi]) h
    · exact h.elim
  · exact h.elim

theorem VOk.lookup (ha : ES C.n e a) {t : TypeId} {x i : Operand} {ok : Bool} (hop : o.op = .lookup t x i ok) (h : XV C o e L K) : VOk C o L K a := by
  unfold XV at h
  simp only [hop] at h
  split at h
  · rename_i u hx
    split at h
    · rename_i v hi
      exact .opt1 (by simp [execOp, hop, ha.eval hx, ha.eval hi]) h
    · exact h.elim
  · exact h.elim

theorem VOk.load (ha : ES C.n e a) {t : TypeId} {x : Operand} (hop : o.op = .load t x) (h : XV C o e L K) : VOk C o L K a := by
  unfold XV at h
  simp only [hop] at h
  split at h
  · rename_i u hx
    obtain ⟨r, hr, h⟩ := h
    refine .opt1 (by simp [execOp, hop, ha.eval hx]) ⟨r, hr, ?_⟩
    split at h
    · split at h
      · exact forceL_out h
      · exact h
    · exact h
  · exact h.elim

theorem VOk.entry (ha : ES C.n e a) {x : Operand} (hop : o.op = .entry x) (h : XV C o e L K) : VOk C o L K a := by
  unfold XV at h
  simp only [hop] at h
  split at h
  · rename_i u hx
    exact .opt1 (by simp [execOp, hop, ha.eval hx]) h
  · exact h.elim

theorem VOk.typeAssert (ha : ES C.n e a) {x : Operand} {t u : TypeId} {ok : Bool} (hop : o.op = .typeAssert x t u ok) (h : XV C o e L K) : VOk C o L K a := by
  unfold XV at h
  simp only [hop] at h
  split at h
  · rename_i v hx
    exact .opt1 (by simp [execOp, hop, ha.eval hx]) h
  · exact h.elim

theorem VOk.slice (ha : ES C.n e a) {x : Operand} {t : TypeId} {lo hi mx : Option Operand} (hop : o.op = .slice t x lo hi mx) (h : XV C o e L K) : VOk C o L K a := by
  unfold XV at h
  simp only [hop] at h
  split at h
  · rename_i v hx
    have h1 := ha.opt (ha.opt (ha.opt h))
    exact .opt1 (by simp [execOp, hop, ha.eval hx]) h1
  · exact h.elim

theorem VOkP.extract (ha : ES C.n e a) {t : Operand} {i : Nat} (hop : o.op = .extract t i) (h : XV C o e L K) : VOkP C o K a := by
  unfold XV at h
  simp only [hop] at h
  split at h
  · rename_i vs hx
    split at h
    · rename_i v hv
      rw [lget_eq] at hv
      exact .ofPure (s := Instr.extract (.tuple ⟨vs⟩) i) (by simp [execOp, hop, ha.eval hx]) (fun w => by simp [Instr.extract, hv]) h
    · exact h.elim
  · exact h.elim

theorem exec_builtin {b : Builtin} {args : Array Operand} {ts : Array TypeId} (hop : o.op = .call { callee := .builtin b, args := args, argTypes := ts }) :
    execOp a.eval o = builtin b ts o.type (args.map fun | .const _ => true | _ => false) (args.map a.eval) := by
  simp [execOp, hop, resolve, invoke]
  rfl

theorem VOk.builtin (hT : TabOk C.P C.tab) (ha : ES C.n e a) {b : Builtin} {args : Array Operand} {ts : Array TypeId} (hop : o.op = .call { callee := .builtin b, args := args, argTypes := ts }) (h : XV C o e L K) : VOk C o L K a := by
  unfold XV at h
  simp only [hop] at h
  have h := ha.evals h
  have he : args.map a.eval = ⟨args.toList.map a.eval⟩ := by apply Array.ext'; simp
  have hx := exec_builtin (a := a) hop
  rw [he] at hx
  generalize args.toList.map a.eval = vs at h hx
  split at h
  · split at h
    · rename_i t ht
      rw [lget_eq] at ht
      have ht' : ts[0]? = some t := by simpa using ht
      split at h
      · rename_i et _ _ _ hti
        obtain ⟨d, hd, hk⟩ := (hT.get hti).und
        obtain rfl := kOk.slice hk
        refine .ofPure (s := Builtin.len_ ts o.type _) (by rw [hx]; rfl) (fun w => ?_) h
        simp [Builtin.len_, ht', run_underlying' hd, goInt]
      · exact h.elim
    · exact h.elim
  · exact .opt1 (by rw [hx]; rfl) h
  · exact .opt1 (by rw [hx]; rfl) h
  · obtain ⟨c, rfl, hk⟩ := h
    rename_i k p k' q
    refine .ofPure (s := Builtin.min_ ts o.type ⟨[.int k p, .int k' q]⟩) (by rw [hx]; rfl) (fun w => ?_) hk
    have : min p q = if q < p then q else p := by by_cases hpq : q < p <;> simp [hpq] <;> omega
    rw [this]
    simp [Builtin.min_, Builtin.min2]
  · obtain ⟨c, rfl, hk⟩ := h
    rename_i k p k' q
    refine .ofPure (s := Builtin.max_ ts o.type ⟨[.int k p, .int k' q]⟩) (by rw [hx]; rfl) (fun w => ?_) hk
    have : max p q = if p < q then q else p := by by_cases hpq : p < q <;> simp [hpq] <;> omega
    rw [this]
    simp [Builtin.max_, Builtin.max2]
  · exact .opt1 (by rw [hx]; rfl) h
  · exact .opt1 (by rw [hx]; rfl) h
  · exact .opt1 (by rw [hx]; rfl) h
  · exact h.elim

theorem XV.sound (hT : TabOk C.P C.tab) (ha : ES C.n e a) (h : XV C o e L K) : VOk C o L K a := by
  cases hop : o.op
  case move x => exact (VOkP.move ha (.inl hop) (by unfold XV at h; simp only [hop] at h; exact h)).ok
  case assign x => exact (VOkP.move ha (.inr hop) (by unfold XV at h; simp only [hop] at h; exact h)).ok
  case pick => exact (VOkP.pick ha hop h).ok
  case build => exact (VOkP.build hT ha hop h).ok
  case nilCheck => exact (VOkP.nilCheck ha hop h).ok
  case binOp => exact .binOp hT ha hop h
  case unOp => exact .unOp ha hop h
  case convert => exact .convert hT ha hop h
  case makeInterface => exact (VOkP.makeInterface hT ha hop h).ok
  case makeFunc => exact (VOkP.makeFunc ha hop h).ok
  case fieldAddr => exact (VOkP.fieldAddr hT ha hop h).ok
  case field => exact (VOkP.field hT ha hop h).ok
  case indexAddr => exact (VOkP.indexAddr hT ha hop h).ok
  case index => exact .index ha hop h
  case extract => exact (VOkP.extract ha hop h).ok
  case load => exact .load ha hop h
  case slice => exact .slice ha hop h
  case lookup => exact .lookup ha hop h
  case typeAssert => exact .typeAssert ha hop h
  case entry => exact .entry ha hop h
  case call c =>
    obtain ⟨callee, args, ts⟩ := c
    cases callee
    case builtin => exact .builtin hT ha hop h
    all_goals (unfold XV at h; simp only [hop] at h)
  all_goals (unfold XV at h; simp only [hop] at h)
end

/-! ### effects -/
/-- A call, by a contract: A is handed to it, B is not touched. -/
@[irreducible] def CallX (C : Ctx) (L : List Chunk) (f : FuncId) (args : List Value) (K : Value → List Chunk → Prop) : Prop :=
  ∃ (A B : List Chunk) (Post : Value → List Chunk → Prop), Ent L (A ++ B) ∧
    (∀ w S, (∀ r, RO C.w0 C.S0 r → RO w S r) → (∀ r ∈ B, RO w S r) → Sep A w S → (∀ b, S b → b < w.heap.size) → ((∃ v, Post v A ∧ (callFunc f ⟨args⟩).run C.P w = .ok (.value v) w) ∨ Trip C.P f ⟨args⟩ w S Post)) ∧
    ∀ v L', Post v L' → K v (L' ++ B)
/-- A call: the chunks with the numbers 'is' are handed to it. -/
theorem callP {C : Ctx} {L : List Chunk} {f : FuncId} {args : List Value} {K : Value → List Chunk → Prop} (is : List Nat) {Post : Value → List Chunk → Prop}
    (hc : ∀ w S, (∀ r, RO C.w0 C.S0 r → RO w S r) → (∀ r ∈ (pick L is).2, RO w S r) → Sep (pick L is).1 w S → (∀ b, S b → b < w.heap.size) → Trip C.P f ⟨args⟩ w S Post)
    (hk : ∀ v L', Post v L' → K v (L' ++ (pick L is).2)) : CallX C L f args K := by
  unfold CallX
  exact ⟨_, _, Post, .both is, fun w S h1 h2 h3 h4 => .inr (hc w S h1 h2 h3 h4), hk⟩
/-- A call that the model answers at once. -/
theorem callV {C : Ctx} {L : List Chunk} {f : FuncId} {args : List Value} {K : Value → List Chunk → Prop} {v : Value} (hc : ∀ w, (callFunc f ⟨args⟩).run C.P w = .ok (.value v) w) (hk : K v L) : CallX C L f args K := by
  unfold CallX
  exact ⟨[], L, fun u L' => u = v ∧ L' = [], .refl _, fun w S _ _ _ _ => .inl ⟨v, ⟨rfl, rfl⟩, hc w⟩, by rintro _ _ ⟨rfl, rfl⟩; exact hk⟩

/-- Operations that may write, make memory, or call. -/
def XE (C : Ctx) (o : Oper) (e : Env) (L : List Chunk) (K : Value → List Chunk → Prop) : Prop :=
  match o.op with
  | .alloc t => match tget C.tab t with
    | some i => ∀ b, K (.pointer (some ⟨b, 0, none⟩)) (pt b i.zero t :: L)
    | none => False
  | .box t x => match ev e x with
    | some v => forceL (cellsL v) fun cs => ∀ b, K (.pointer (some ⟨b, 0, none⟩)) (pt b cs t :: L)
    | none => False
  | .buildSlice t len parts => match ev e (.const (.bool true)) with
    | some _ => partsV e parts.toList fun l => Does C L (Instr.buildSlice t len ⟨l⟩) K
    | none => False
  | .store t x y => match ev e x with
    | some u => match ev e y with
      | some v => Does C L (Instr.storeAt t u v) fun _ L' => K undef L'
      | none => False
    | none => False
  | .makeMap _ none => ∀ b, K (.map (some b)) (ob b (.map #[] 0) :: L)
  | .makeSlice t n c => match ev e n with
    | some u => match ev e c with
      | some v => Does C L (Instr.makeSlice t u v) K
      | none => False
    | none => False
  | .mapUpdate t m k x | .insert t m k x => match ev e m with
    | some m => match ev e k with
      | some k => match ev e x with
        | some x => Does C L (Instr.mapUpdate t m k x) fun _ L' => K undef L'
        | none => False
      | none => False
    | none => False
  | .mapEntry t m k => match ev e m with
    | some m => match ev e k with
      | some k => Does C L (Instr.mapEntry t m k) K
      | none => False
    | none => False
  | .entryStore t m s x => match ev e m with
    | some m => match ev e s with
      | some s => match ev e x with
        | some x => Does C L (Instr.entryStore t m s x) fun _ L' => K undef L'
        | none => False
      | none => False
    | none => False
  | .range t x => match ev e x with
    | some v => Does C L (Instr.range t v) K
    | none => False
  | .next it s => match ev e it with
    | some v => Does C L (Instr.next v s o.type) K
    | none => False
  | .call { callee := .value f, args := args, .. } => match ev e f with
    | some (.func (.func f) ⟨p⟩ ⟨q⟩) => evs e args.toList fun as => forceL (p ++ as ++ q) fun as => CallX C L f as K
    | _ => False
  | .call { callee := .invoke r name, args := args, .. } => match ev e r with
    | some (.iface t v) => evs e args.toList fun as => ∃ f r', (∀ w, (method (C.P.types.size + Made.depth) t v name).run C.P w = .ok (f, r') w) ∧ CallX C L f (r' :: as) K
    | _ => False
  | .call { callee := .builtin b, args := args, argTypes := ts } => evs e args.toList fun vs => match b with
    | .append => Does C L (Builtin.append_ ts o.type ⟨vs⟩) K
    | .copy => Does C L (Builtin.copy_ ts o.type ⟨vs⟩) K
    | .delete => Does C L (Builtin.delete_ ts o.type ⟨vs⟩) K
    | .clear => Does C L (Builtin.clear_ ts o.type ⟨vs⟩) K
    | .unsafeString => Does C L (Builtin.unsafeString_ ts o.type ⟨vs⟩) K
    | _ => False
  | _ => False

section
variable {C : Ctx} {o : Oper} {e : Env} {L : List Chunk} {K : Value → List Chunk → Prop} {a : Act}

/-- What soundness says of one operation with effects: whatever follows. -/
def EOk (C : Ctx) (o : Oper) (L : List Chunk) (K : Value → List Chunk → Prop) (a : Act) : Prop :=
  ∀ (next : Act → World → Prop) (Q : Exit → Act → World → Prop), (∀ v L' w', K v L' → Holds C L' w' → next (a.put o.dst v) w') → ∀ w, Holds C L w → o.wp C.P a w next Q

theorem EOk.of_does {s : Sem Value} (hs : execOp a.eval o = (do Pure.pure (Next.value (← s)) : Sem Next)) (h : Does C L s K) : EOk C o L K a := by
  intro next Q hn w hw
  obtain ⟨v, w', L', hr, hh, hk⟩ := h w hw
  unfold Oper.wp
  rw [hs, Sem.run_bind, hr]
  exact hn v L' w' hk hh

theorem EOk.of_does_unit {s : Sem Unit} (hs : execOp a.eval o = (do s; Pure.pure Next.skip : Sem Next)) (h : Does C L s fun _ L' => K undef L') : EOk C o L K a := by
  intro next Q hn w hw
  obtain ⟨v, w', L', hr, hh, hk⟩ := h w hw
  unfold Oper.wp
  rw [hs, Sem.run_bind, hr]
  exact hn undef L' w' hk hh

theorem EOk.of_new {s : Sem Value} {f : Nat → Value} {ob : Obj} {c : Nat → Chunk} (hs : execOp a.eval o = (do Pure.pure (Next.value (← s)) : Sem Next)) (hr : ∀ w, s.run C.P w = .ok (f w.heap.size) (w.alloc ob))
    (hc : ∀ w : World, (c w.heap.size).sat (w.alloc ob) (fun b => b = w.heap.size)) (h : ∀ b, K (f b) (c b :: L)) : EOk C o L K a :=
  .of_does hs fun w hw => ⟨_, _, _, hr w, Inv.alloc hw ob (hc w), h _⟩

theorem pt_new {w : World} {cs : List Value} {t : TypeId} {l : Array Value} (h : l = cs.toArray) : (pt w.heap.size cs t).sat (w.alloc (.cells l t)) (fun b => b = w.heap.size) := by
  subst h
  exact ⟨fun _ => Iff.rfl, by show (w.heap.push _)[w.heap.size]? = _; simp⟩
theorem ob_new {w : World} {o : Obj} : (ob w.heap.size o).sat (w.alloc o) (fun b => b = w.heap.size) := ⟨fun _ => Iff.rfl, by show (w.heap.push _)[w.heap.size]? = _; simp⟩

theorem EOk.call_f {f : FuncId} {as : List Value} (hs : execOp a.eval o = callFunc f ⟨as⟩) (h : CallX C L f as K) : EOk C o L K a := by
  intro next Q hn w hw
  unfold CallX at h
  obtain ⟨A, B, Post, hE, hc, hk⟩ := h
  obtain ⟨S1, h1, hd, hro, hrb, hgo⟩ := Inv.handOver (hE _ _ _ hw)
  rcases hc w S1 hro hrb h1 hd with ⟨v, hP, hrun⟩ | ⟨⟨fn, hf1, hf2, hf3⟩, hcall⟩
  · unfold Oper.wp
    rw [hs, hrun]
    exact hn v _ w (hk v A hP) (hE _ _ _ hw)
  unfold Oper.wp
  have hrun : (execOp a.eval o).run C.P w = .ok (.enter f ⟨as⟩) w := by
    rw [hs]
    simp only [callFunc, Sem.run_bind, run_program, Result.andThen_ok, hf1, hf2, hf3, Bool.false_eq_true, if_false]
    rfl
  rw [hrun]
  refine hcall.mono ?_
  rintro _ w' ⟨v, L', rfl, hP, hI⟩
  exact hn v _ w' (hk v L' hP) (hgo L' w' hI)

theorem XE.sound (hT : TabOk C.P C.tab) (ha : ES C.n e a) (h : XE C o e L K) : EOk C o L K a := by
  unfold XE at h
  split at h
  · rename_i t hop
    split at h
    · rename_i i ht
      exact .of_new (s := Instr.alloc t true (.tuple #[])) (by simp [execOp, hop]) (f := fun b => .pointer (some ⟨b, 0, none⟩)) (ob := .cells i.zero.toArray t) (c := fun b => pt b i.zero t)
        (fun w => by obtain ⟨z, hz, hzc⟩ := run_zero' (w := w) (hT.get ht); simp [Instr.alloc, hz, newVar, newRow, hzc]) (fun w => pt_new rfl) h
    · exact h.elim
  · rename_i t x hop
    split at h
    · rename_i v hx
      have h := forceL_out h
      exact .of_new (s := Instr.box t v) (by simp [execOp, hop, ha.eval hx]) (f := fun b => .pointer (some ⟨b, 0, none⟩)) (ob := .cells (cellsL v).toArray t) (c := fun b => pt b (cellsL v) t)
        (fun w => by simp [Instr.box, newVar, newRow, cellsL_eq]) (fun w => pt_new rfl) h
    · exact h.elim
  · rename_i t len parts hop
    split at h
    · have h := ha.parts h
      have hl : (⟨parts.toList.map fun x => (x.1, a.eval x.2)⟩ : Array (Nat × Value)) = parts.map fun (i, x) => (i, a.eval x) := by apply Array.ext'; simp
      rw [hl] at h
      exact .of_does (by simp [execOp, hop]) h
    · exact h.elim
  · rename_i t x y hop
    split at h
    · rename_i u hx
      split at h
      · rename_i v hy
        exact .of_does_unit (by simp [execOp, hop, ha.eval hx, ha.eval hy]) h
      · exact h.elim
    · exact h.elim
  · rename_i t hop
    exact .of_new (s := Instr.makeMap t none) (by simp [execOp, hop]) (f := fun b => .map (some b)) (ob := .map #[] 0) (c := fun b => ob b (.map #[] 0)) (fun w => by simp [Instr.makeMap]) (fun w => ob_new) h
  · rename_i t n c hop
    split at h
    · rename_i u hx
      split at h
      · rename_i v hy
        exact .of_does (by simp [execOp, hop, ha.eval hx, ha.eval hy]) h
      · exact h.elim
    · exact h.elim
  · rename_i t m k x hop
    split at h
    · rename_i m' hm
      split at h
      · rename_i k' hk
        split at h
        · rename_i x' hx
          exact .of_does_unit (by simp [execOp, hop, ha.eval hm, ha.eval hk, ha.eval hx]) h
        · exact h.elim
      · exact h.elim
    · exact h.elim
  · rename_i t m k x hop
    split at h
    · rename_i m' hm
      split at h
      · rename_i k' hk
        split at h
        · rename_i x' hx
          exact .of_does_unit (by simp [execOp, hop, ha.eval hm, ha.eval hk, ha.eval hx]) h
        · exact h.elim
      · exact h.elim
    · exact h.elim
  · rename_i t m k hop
    split at h
    · rename_i m' hm
      split at h
      · rename_i k' hk
        exact .of_does (by simp [execOp, hop, ha.eval hm, ha.eval hk]) h
      · exact h.elim
    · exact h.elim
  · rename_i t m k x hop
    split at h
    · rename_i m' hm
      split at h
      · rename_i k' hk
        split at h
        · rename_i x' hx
          exact .of_does_unit (by simp [execOp, hop, ha.eval hm, ha.eval hk, ha.eval hx]) h
        · exact h.elim
      · exact h.elim
    · exact h.elim
  · rename_i t x hop
    split at h
    · rename_i v hx
      exact .of_does (by simp [execOp, hop, ha.eval hx]) h
    · exact h.elim
  · rename_i it s hop
    split at h
    · rename_i v hx
      exact .of_does (by simp [execOp, hop, ha.eval hx]) h
    · exact h.elim
  · rename_i f args ts hop
    split at h
    · rename_i g p q hx
      have h := forceL_out (ha.evals h)
      refine .call_f ?_ h
      simp only [execOp, hop, resolve, ha.eval hx, Deferred.ofValue, pure_bind, invoke]
      exact congrArg (callFunc g) (Array.ext' (by simp))
    · exact h.elim
  · rename_i r name args ts hop
    split at h
    · rename_i t v hx
      obtain ⟨f, r', hm, h⟩ := ha.evals h
      intro next Q hn w hw
      have hs : execOp a.eval o = callMethod (.iface t v) name (args.map a.eval) := by
        simp only [execOp, hop, resolve, ha.eval hx, pure_bind, invoke]
        have h0 : (#[Value.iface t v] ++ Array.map a.eval args)[0]? = some (Value.iface t v) := by
          rw [Array.getElem?_append_left (by exact Nat.zero_lt_one)]; rfl
        rw [h0]
        exact congrArg (callMethod _ name) (Array.ext' (by simp [List.take_of_length_le]))
      have he : args.map a.eval = ⟨args.toList.map a.eval⟩ := by apply Array.ext'; simp
      have h2 : ∀ o' : Oper, o'.dst = o.dst → execOp a.eval o' = callFunc f ⟨r' :: args.toList.map a.eval⟩ → o'.wp C.P a w next Q := fun o' hd ho' =>
        EOk.call_f (o := o') ho' h next Q (by rw [hd]; exact hn) w hw
      have hrun : (execOp a.eval o).run C.P w = (callFunc f ⟨r' :: args.toList.map a.eval⟩).run C.P w := by
        rw [hs, he]
        simp [callMethod, hm]
      have h3 := h2 { o with op := .call { callee := .value (.const (.func (.func f) ⟨[]⟩ ⟨[]⟩)), args := ⟨.const r' :: args.toList⟩, argTypes := #[] } } rfl
        (by simp [execOp, resolve, Act.eval, Deferred.ofValue, invoke])
      unfold Oper.wp at h3 ⊢
      rw [hrun]
      have h4 : (execOp a.eval { o with op := .call { callee := .value (.const (.func (.func f) ⟨[]⟩ ⟨[]⟩)), args := ⟨.const r' :: args.toList⟩, argTypes := #[] } }) = callFunc f ⟨r' :: args.toList.map a.eval⟩ := by
        simp [execOp, resolve, Act.eval, Deferred.ofValue, invoke]
      rw [h4] at h3
      exact h3
    · exact h.elim
  · rename_i b args ts hop
    have h := ha.evals h
    have he : args.map a.eval = ⟨args.toList.map a.eval⟩ := by apply Array.ext'; simp
    have hx := exec_builtin (a := a) hop
    rw [he] at hx
    generalize args.toList.map a.eval = vs at h hx
    split at h
    · exact .of_does (by rw [hx]; rfl) h
    · exact .of_does (by rw [hx]; rfl) h
    · exact .of_does (by rw [hx]; rfl) h
    · exact .of_does (by rw [hx]; rfl) h
    · exact .of_does (by rw [hx]; rfl) h
    · exact h.elim
  · exact h.elim
end
end Go.X
