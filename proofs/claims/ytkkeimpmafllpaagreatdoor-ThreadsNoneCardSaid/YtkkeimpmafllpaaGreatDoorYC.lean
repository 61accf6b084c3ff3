/- The evaluator's operations that write or make something: going over a map. -/
import Derived.Test.YtkkeimpmafllpaaGreatDoorYB
import Derived.Test.YtkkeimpmafllpaaGreatDoorXB
namespace Go.Y
open Go.X (TK TyI Fr FP Tab TabOk CtxOk)
open Go.ChangeMaps Go.MapKept
set_option linter.unusedVariables false
set_option linter.unusedSimpArgs false
set_option linter.constructorNameAsVariable false
set_option linter.unusedSectionVars false

theorem mem_eq (b : Nat) : ∀ l : List Nat, mem b l = l.contains b
  | [] => rfl
  | x :: l => by
    show (match Nat.beq x b with | true => true | false => mem b l) = _
    cases h : Nat.beq x b with
    | true => have := Nat.eq_of_beq_eq_true h; subst this; simp
    | false =>
      have : x ≠ b := fun q => by subst q; simp at h
      rw [mem_eq b l]; simp [List.contains_cons, Ne.symm this]
section
variable {ρ : Rho}
theorem EsR.left (seen : List Nat) : ∀ {es : List (AV × AV × Nat)} {es' : List MapEntry}, EsR ρ es es' →
    EsR ρ (List.rec (motive := fun _ => List (AV × AV × Nat)) [] (fun y _ r => match mem y.2.2 seen with | true => r | false => y :: r) es) (es'.filter fun e => !seen.reverse.toArray.contains e.born)
  | [], es', h => by obtain rfl : es' = [] := h; rfl
  | y :: es, es', h => by
    obtain ⟨en, l', rfl, a1, a2, a3, a4⟩ := h
    have ih := EsR.left seen a4
    have hc : seen.reverse.toArray.contains en.born = mem y.2.2 seen := by rw [mem_eq, a3]; simp
    show EsR ρ (match mem y.2.2 seen with | true => _ | false => _) _
    cases hm : mem y.2.2 seen with
    | true => rw [List.filter_cons_of_neg (by rw [hc, hm]; decide)]; exact ih
    | false => rw [List.filter_cons_of_pos (by rw [hc, hm]; decide)]; exact ⟨en, _, rfl, a1, a2, a3, ih⟩
theorem EsR.below {n : Nat} : ∀ {es : List (AV × AV × Nat)} {es' : List MapEntry}, EsR ρ es es' → List.rec (motive := fun _ => Bool) true (fun y _ r => match Nat.blt y.2.2 n with | true => r | false => false) es = true → ∀ e ∈ es', e.born < n
  | [], es', h, _ => by obtain rfl : es' = [] := h; simp
  | y :: es, es', h, q => by
    obtain ⟨en, l', rfl, a1, a2, a3, a4⟩ := h
    have q : (match Nat.blt y.2.2 n with | true => _ | false => false) = true := q
    cases hb : Nat.blt y.2.2 n with
    | true =>
      rw [hb] at q
      intro e he
      rcases List.mem_cons.1 he with rfl | he
      · rw [a3]; simpa [nblt] using hb
      · exact EsR.below a4 q e he
    | false => rw [hb] at q; cases q
end
section
variable {P : Program} {w : World}
theorem next_run {r b clock since : Nat} {es lf : List MapEntry} {seen : List Nat} {ty : TypeId} (hgr : (getObj r).run P w = .ok (.mapIter (some b) since seen.reverse.toArray since) w) (hgb : (getObj b).run P w = .ok (.map es.toArray clock) w)
    (hs : ∀ e ∈ es, e.born < since) (hl : (es.filter fun e => !seen.reverse.toArray.contains e.born) = lf) :
    (lf = [] → (Instr.next (.pointer (some ⟨r, 0, none⟩)) false ty).run P w = .ok (.tuple #[.bool false]) w) ∧
    (∀ en w', lf = [en] → (setObj r (.mapIter (some b) since ((en.born :: seen).reverse.toArray) clock)).run P w = .ok () w' → (Instr.next (.pointer (some ⟨r, 0, none⟩)) false ty).run P w = .ok (.tuple #[.bool true, en.key, en.val]) w') := by
  have hlt : ∀ e ∈ lf, e.born < since := fun e he => by rw [← hl] at he; exact hs e (List.mem_filter.1 he).1
  have hlf : (es.toArray.filter fun e => !seen.reverse.toArray.contains e.born) = lf.toArray := by rw [List.filter_toArray', hl]; rfl
  have hold : lf.toArray.filter (fun x => decide (x.born < since)) = lf.toArray := by
    rw [Array.filter_eq_self]
    intro e he
    have := hlt e (by simpa using he)
    simpa using this
  have hnew : lf.toArray.filter (fun x => decide (x.born ≥ since)) = #[] := by
    rw [Array.filter_eq_empty_iff]
    intro e he
    have := hlt e (by simpa using he)
    simp; omega
  have hguard : (!seen.reverse.toArray.isEmpty && !es.toArray.isEmpty && es.toArray.all (·.born ≥ since)) = false := by
    cases es with
    | nil => simp
    | cons e es =>
      have h3 := hs e (by simp)
      have : (e :: es).toArray.all (·.born ≥ since) = false := by
        simp
        intro h; omega
      rw [this]; simp
  constructor
  · intro h0
    subst h0
    simp only [Instr.next, Sem.run_bind, hgr, Result.andThen_ok, hgb, hguard, Bool.false_eq_true, if_false, hlf, hold, hnew]
    simp [Question.forced]
  · intro en w' h0 hset
    subst h0
    have hpush : seen.reverse.toArray.push en.born = (en.born :: seen).reverse.toArray := by simp
    simp only [Instr.next, Sem.run_bind, hgr, Result.andThen_ok, hgb, hguard, Bool.false_eq_true, if_false, hlf, hold, hnew]
    simp [Question.forced]
    have : (seen.reverse ++ [en.born]).toArray = (en.born :: seen).reverse.toArray := by simp
    rw [this, hset]
    rfl
theorem obj_run {b : Nat} {o : Obj} (h : w.heap[b]? = some o) (hc : ∀ c t f, o ≠ .cells c t f) : (getObj b).run P w = .ok o w := by
  cases o <;> first | (simp [getObj, Sem.run, h]; done) | exact absurd rfl (hc _ _ _)
theorem setObj_run {b : Nat} {o : Obj} (o' : Obj) (h : w.heap[b]? = some o) (hc : ∀ c t f, o ≠ .cells c t f) : (setObj b o').run P w = .ok () { w with heap := w.heap.setIfInBounds b o' } := by
  cases o <;> first | (simp [setObj, Sem.run, h]; done) | exact absurd rfl (hc _ _ _)
end
section
variable {P : Program} {tab : Tab} {g : Gl} (hG : GOk P tab g) {ρ : Rho} {e : Env} {a : Act} {f : Nat → Option AObj} {w0 : Base} {w : World} {n : Nat}
theorem next_ok (k : ER ρ e a) (hd : a.defers = []) (hm : MR ρ f w0 w) {o : Oper} {x : Operand} {b : Bool} {r : LR} (hop : o.op = .next x b) (h : opW g (.next x b) e f n = some r) : WOk P o a w0 w ρ f n r := by
  intro next Q hnext
  cases b with
  | true => cases h
  | false =>
  simp only [opW] at h
  obtain ⟨p, h1, h⟩ := ob_some h
  obtain ⟨pu, a1, a2⟩ := ev_vr k h1
  have hpp := (envOf_es hd).eval a1
  cases p <;> try cases h
  rename_i i o'
  cases o' with
  | succ => cases h
  | zero =>
  obtain ⟨ob', h2, h⟩ := ob_some h
  simp only [VR] at a2
  obtain ⟨x0, a3, rfl⟩ := a2
  have hs : execOp a.eval o = (do Pure.pure (Next.value (← Instr.next (.pointer (some ⟨x0.b, x0.d + 0, none⟩)) false o.type)) : Sem Next) := by simp [execOp, hop, hpp]
  cases ob' <;> try cases h
  rename_i m since seen st
  obtain ⟨x1, c1, ⟨xd, m', c2, c3⟩, c4⟩ := hm.at' i _ h2 trivial
  rw [a3] at c1; cases c1
  rw [xd] at hs
  cases m with
  | none =>
    cases h
    subst c3
    have g1 := obj_run (P := P) c2 (fun c t f q => by cases q)
    refine wp_run hs (u := .tuple #[.bool false]) (w' := w) ?_ (hnext _ ρ w (Rho.le.refl ρ) (by simp only [VR]; exact ⟨_, rfl, .cons (.of_bool _) .nil⟩) hm (fun i hi => .inl hi))
    simp [Instr.next, g1]
  | some m =>
    obtain ⟨y, y1, rfl⟩ := c3
    obtain ⟨q, h3, h⟩ := ob_some h
    obtain ⟨h4, hh⟩ := chk_some h
    clear h
    simp only [Bool.and_eq_true] at h4
    obtain ⟨h41, h42⟩ := h4
    have h42 := Nat.eq_of_beq_eq_true h42
    subst h42
    obtain ⟨z, es', z1, z2, z3, z4, z5⟩ := map_at hm h3
    rw [y1] at z1; cases z1
    have g1 := obj_run (P := P) c2 (fun c t f q => by cases q)
    have g2 := obj_run (P := P) z2 (fun c t f q => by cases q)
    have hlt := z3.below h41
    have hleft := z3.left seen
    obtain ⟨n1, n2⟩ := next_run (P := P) (ty := o.type) (lf := es'.filter fun e => !seen.reverse.toArray.contains e.born) g1 g2 hlt rfl
    revert hh hleft
    generalize (List.rec (motive := fun _ => List (AV × AV × Nat)) [] (fun y _ r => match mem y.2.2 seen with | true => r | false => y :: r) q.1) = lf
    intro h hleft
    rcases lf with _ | ⟨y0, _ | ⟨y1', l⟩⟩
    · cases h
      refine wp_run hs (n1 hleft) (hnext _ ρ w (Rho.le.refl ρ) (by simp only [VR]; exact ⟨_, rfl, .cons (.of_bool _) .nil⟩) hm (fun i hi => .inl hi))
    · cases h
      obtain ⟨en, l', e1, e2, e3, e4, e5⟩ := hleft
      obtain rfl : l' = [] := e5
      have hltb : x0.b < w.heap.size := (Array.getElem?_eq_some_iff.1 c2).1
      refine wp_run hs (n2 en _ e1 (setObj_run (P := P) _ c2 (fun c t f q => by cases q))) (hnext _ ρ _ (Rho.le.refl ρ) (by simp only [VR]; exact ⟨_, rfl, .cons (.of_bool _) (.cons e2 (.cons e3 .nil))⟩) ?_ (fun i hi => .inl hi))
      exact hm.set h2 trivial a3 (fr_setObj w _ _) ⟨xd, some y.b, by rw [setObj_at _ hltb, e4], y, y1, rfl⟩
    · cases h
end
end Go.Y

/- The evaluator's operations that write or make something: builtins. -/
namespace Go.Y
open Go.X (TK TyI Fr FP Tab TabOk CtxOk)
open Go.ChangeMaps Go.MapKept
set_option linter.unusedVariables false
set_option linter.unusedSimpArgs false
set_option linter.constructorNameAsVariable false
set_option linter.unusedSectionVars false

section
variable {P : Program} {w : World}
theorem del_found {t kt et ty : TypeId} {ts : Array TypeId} {b : Nat} {es : List MapEntry} {c i : Nat} {k v : Value} (h0 : ts[0]? = some t) (ht : P.underlying t = some (.map kt et)) (hb : w.heap[b]? = some (.map es.toArray c)) (hc : ∀ q, (Instr.checkKey q 10000 kt k).run P w = .ok () w)
    (hf : (Instr.findKey kt k es).run P w = .ok (some (i, v)) w) : (Builtin.delete_ ts ty #[.map (some b), k]).run P w = .ok (.tuple #[]) { w with heap := w.heap.setIfInBounds b (.map (es.eraseIdx i).toArray c) } := by
  simp [Builtin.delete_, h0, Go.X.run_underlying' ht, Go.X.gobj hb, hc, hf, Go.X.sobj (P := P) _ hb]
theorem del_none {t kt et ty : TypeId} {ts : Array TypeId} {b : Nat} {es : List MapEntry} {c : Nat} {k : Value} (h0 : ts[0]? = some t) (ht : P.underlying t = some (.map kt et)) (hb : w.heap[b]? = some (.map es.toArray c)) (hc : ∀ q, (Instr.checkKey q 10000 kt k).run P w = .ok () w)
    (hf : (Instr.findKey kt k es).run P w = .ok none w) : (Builtin.delete_ ts ty #[.map (some b), k]).run P w = .ok (.tuple #[]) { w with heap := w.heap.setIfInBounds b (.map es.toArray c) } := by
  simp [Builtin.delete_, h0, Go.X.run_underlying' ht, Go.X.gobj hb, hc, hf, Go.X.sobj (P := P) _ hb]
theorem del_nil {t kt et ty : TypeId} {ts : Array TypeId} {k : Value} (h0 : ts[0]? = some t) (ht : P.underlying t = some (.map kt et)) (hc : ∀ q, (Instr.checkKey q 10000 kt k).run P w = .ok () w) : (Builtin.delete_ ts ty #[.map none, k]).run P w = .ok (.tuple #[]) w := by
  simp [Builtin.delete_, h0, Go.X.run_underlying' ht, hc]
/-- Nothing is appended. -/
theorem app_zero {t ty et : TypeId} {sz n c : Nat} {A : Option Addr} {x : Value} (ht : P.underlying t = some (.slice et)) (hs : (sizeOf et).run P w = .ok sz w) (hn : n ≤ c) (hx : (∃ c', x = .slice none 0 c') ∨ ∃ B c', x = .slice (some B) 0 c') :
    (Builtin.append_ #[t, t] ty #[.slice A n c, x]).run P w = .ok (.slice A n c) w := by
  rcases hx with ⟨c', rfl⟩ | ⟨B, c', rfl⟩ <;> cases A <;> simp [Builtin.append_, Go.X.run_underlying' ht, hs, Builtin.lenOf, Builtin.firstCells, hn, loadCells, loadCellsFrom, storeCells]
/-- There is room. -/
theorem app_room {t ty et : TypeId} {sz n c k c' : Nat} {A B : Addr} {news : List Value} {w' : World} (ht : P.underlying t = some (.slice et)) (hs : (sizeOf et).run P w = .ok sz w) (hn : n + k ≤ c) (hl : news.length = k * sz) (hnews : ∀ j u, news[j]? = some u → w.cell? (B.add j) = some u)
    (hst : (storeCells (A.add (n * sz)) news).run P w = .ok () w') : (Builtin.append_ #[t, t] ty #[.slice (some A) n c, .slice (some B) k c']).run P w = .ok (.slice (some A) (n + k) c) w' := by
  have hfc := run_firstCells_some (P := P) w sz k B k c' news hl hnews
  simp [Builtin.append_, Go.X.run_underlying' ht, hs, Builtin.lenOf, hn, hfc, hst]
end
section
variable {P : Program} {tab : Tab} {g : Gl} (hG : GOk P tab g) {ρ : Rho} {e : Env} {a : Act} {f : Nat → Option AObj} {w0 : Base} {w : World} {n : Nat}
theorem args_ok (k : ER ρ e a) (hd : a.defers = []) {args : Array Operand} {vs : List AV} (h : evs e args.toList = some vs) : ∃ us, args.map a.eval = ⟨us⟩ ∧ VRL ρ vs us := by
  have key := evs_vr k h (K := fun us => VRL ρ vs us) fun us q => q
  exact ⟨args.toList.map a.eval, by apply Array.ext'; simp, (envOf_es hd).evals key⟩
theorem exec_b {o : Oper} {b : Builtin} {args : Array Operand} {ts : Array TypeId} {us : List Value} (hop : o.op = .call ⟨.builtin b, args, ts⟩) (h : args.map a.eval = ⟨us⟩) : execOp a.eval o = builtin b ts o.type (args.map fun | .const _ => true | _ => false) ⟨us⟩ := by
  rw [← h]; exact Go.X.exec_builtin hop
/-- The cells of a slice. -/
theorem content_ok (hm : MR ρ f w0 w) {x : AV} {xu : Value} {z k : Nat} {new : List AV} (h : content f x z = some new) (hl : lenA x = some k) (hx : VR ρ x xu) :
    ∃ news : List Value, VRL ρ new news ∧ news.length = k * z ∧ ((xu = .slice none 0 0 ∧ k = 0) ∨ ∃ A c, xu = .slice (some A) k c ∧ ∀ j u, news[j]? = some u → w.cell? (A.add j) = some u) := by
  have rd : ∀ {b d o : Nat} {cs : List Value} {ty : TypeId} {l r : List AV} {N : Nat}, w.heap[b]? = some (.cells cs.toArray ty (0, 0)) → VRL ρ l ((cs.drop d).take l.length) → takeA (dropA l o) N = some r → ∃ news : List Value, VRL ρ r news ∧ news.length = N ∧ ∀ j u, news[j]? = some u → w.cell? ((⟨b, d + o, none⟩ : Addr).add j) = some u := by
    intro b d o cs ty l r N hb hv hr
    have h5 := (takeA_some hr).2
    rcases row_sub hv hr with ⟨q1, q2⟩ | ⟨q1, q2⟩
    · refine ⟨_, q1, q1.length.trans h5, fun j u hj => ?_⟩
      rw [List.getElem?_take] at hj
      split at hj
      · rw [List.getElem?_drop] at hj
        rw [addr_add]
        simp [World.cell?, hb, hj]
      · cases hj
    · exact ⟨[], by rw [q2]; exact .nil, by rw [q1]; rfl, fun j u hj => by simp at hj⟩
  cases x <;> simp only [content] at h <;> try cases h
  case snil => cases hl; simp only [VR] at hx; exact ⟨[], .nil, by simp, .inl ⟨hx, rfl⟩⟩
  case se => cases hl; simp only [VR] at hx; obtain ⟨A, rfl⟩ := hx; exact ⟨[], .nil, by simp, .inr ⟨A, 0, rfl, fun j u hj => by simp at hj⟩⟩
  case sl i o m c =>
    cases hl
    obtain ⟨q, h1, h⟩ := ob_some h
    obtain ⟨y, cs, a1, a2, a3, a4, a5, a6, a7⟩ := cells_at hm h1
    simp only [VR] at hx
    obtain ⟨y', b1, rfl⟩ := hx
    rw [a1] at b1; cases b1
    obtain ⟨news, c1, c2, c3⟩ := rd a2 a5 h
    exact ⟨news, c1, c2, .inr ⟨_, c, rfl, c3⟩⟩
  case su i o m z' =>
    cases hl
    obtain ⟨q, h1, h⟩ := ob_some h
    obtain ⟨y, cs, a1, a2, a3, a4, a5, a6, a7⟩ := cells_at hm h1
    simp only [VR] at hx
    obtain ⟨y', A, c, b1, rfl, b2, b3, b4⟩ := hx
    rw [a1] at b1; cases b1
    obtain ⟨news, c1, c2, c3⟩ := rd a2 a5 h
    refine ⟨news, c1, c2, .inr ⟨_, c, rfl, fun j u hj => ?_⟩⟩
    have : 0 < c := by
      rcases Nat.eq_zero_or_pos c with h0 | h0
      · have hk0 := b2
        rw [h0] at hk0
        have hz : news.length = 0 := by rw [c2, Nat.le_zero.1 hk0, Nat.zero_mul]
        rw [List.eq_nil_of_length_eq_zero hz] at hj
        simp at hj
      · exact h0
    rw [b4 this]
    exact c3 j u hj
include hG
theorem delete_ok (k : ER ρ e a) (hd : a.defers = []) (hm : MR ρ f w0 w) {o : Oper} {args : Array Operand} {ts : Array TypeId} {r : LR} (hop : o.op = .call ⟨.builtin .delete, args, ts⟩) (h : opW g (.call ⟨.builtin .delete, args, ts⟩) e f n = some r) : WOk P o a w0 w ρ f n r := by
  intro next Q hnext
  simp only [opW] at h
  obtain ⟨vs, h1, h⟩ := ob_some h
  obtain ⟨us, e1, e2⟩ := args_ok k hd h1
  have hx := exec_b (a := a) hop e1
  rcases vs with _ | ⟨v0, _ | ⟨v1, _ | ⟨v2, l⟩⟩⟩ <;> try (first | cases h | (cases v0 <;> cases h))
  obtain ⟨u0, us1, rfl, q0, q1⟩ := e2.cons_inv
  obtain ⟨u1, us2, rfl, q2, q3⟩ := q1.cons_inv
  have := q3.nil_inv; subst this
  have hs : execOp a.eval o = (do Pure.pure (Next.value (← Builtin.delete_ ts o.type #[u0, u1])) : Sem Next) := by rw [hx]; rfl
  have tupnil : VR ρ (.tup []) (.tuple #[]) := by simp only [VR]; exact ⟨[], rfl, .nil⟩
  cases v0 <;> try cases h
  · -- a map that is there
    rename_i i
    obtain ⟨t, h2, h⟩ := ob_some h
    obtain ⟨⟨kt, et⟩, h3, h⟩ := ob_some h
    obtain ⟨q, h4, h⟩ := ob_some h
    obtain ⟨fr, h5, h⟩ := ob_some h
    obtain ⟨b1, _, b3⟩ := mapTy_ok hG h3
    obtain ⟨d, c1, c2, c3, c4⟩ := key_ok hG b3 q2
    have h0 : ts[0]? = some t := by rw [lget_eq] at h2; simpa using h2
    obtain ⟨y, es', y1, y2, y3, y4, y5⟩ := map_at hm h4
    simp only [VR] at q0
    obtain ⟨y', z1, rfl⟩ := q0
    rw [y1] at z1; cases z1
    have hlt : y.b < w.heap.size := (Array.getElem?_eq_some_iff.1 y2).1
    rcases find_ok c3 y3 h5 with ⟨rfl, f2⟩ | ⟨j, v, b, en, rfl, f2, f3, f4, f5⟩
    · cases h
      refine wp_run hs (del_none h0 b1 y2 (fun q => c2 w q) (run_findKey c1 f2)) (hnext _ ρ _ (Rho.le.refl ρ) tupnil ?_ (fun i hi => .inl hi))
      have := hm.set (o' := .map q.1 q.2) y5 trivial y1 (fr_setObj w _ (.map es'.toArray q.2)) ⟨es', setObj_at _ hlt, y3⟩
      have hid : updF f i (.map q.1 q.2) = f := by
        funext j
        unfold updF
        split
        · rename_i hj; rw [hj, y5]
        · rfl
      rw [hid] at this
      exact this
    · cases h
      rw [Nat.zero_add] at f5
      refine wp_run hs (del_found h0 b1 y2 (fun q => c2 w q) (run_findKey c1 f5)) (hnext _ ρ _ (Rho.le.refl ρ) tupnil ?_ (fun i hi => .inl hi))
      refine hm.set y5 trivial y1 (fr_setObj w _ _) ⟨_, setObj_at _ hlt, ?_⟩
      rw [Nat.zero_add]
      exact y3.drop' j
  · obtain ⟨t, h2, h⟩ := ob_some h
    obtain ⟨⟨kt, et⟩, h3, h⟩ := ob_some h
    cases h
    obtain ⟨b1, _, b3⟩ := mapTy_ok hG h3
    obtain ⟨d, c1, c2, c3, c4⟩ := key_ok hG b3 q2
    have h0 : ts[0]? = some t := by rw [lget_eq] at h2; simpa using h2
    simp only [VR] at q0; subst q0
    exact wp_run hs (del_nil h0 b1 (fun q => c2 w q)) (hnext _ ρ _ (Rho.le.refl ρ) tupnil hm (fun i hi => .inl hi))
theorem append_ok (k : ER ρ e a) (hd : a.defers = []) (hm : MR ρ f w0 w) {o : Oper} {args : Array Operand} {ts : Array TypeId} {r : LR} (hn : r.new ≠ none → ρ n = none) (hop : o.op = .call ⟨.builtin .append, args, ts⟩) (h : opW g (.call ⟨.builtin .append, args, ts⟩) e f n = some r) : WOk P o a w0 w ρ f n r := by
  intro next Q hnext
  simp only [opW] at h
  replace h := ob_some h
  obtain ⟨vs, h1, h⟩ := h
  obtain ⟨us, e1, e2⟩ := args_ok k hd h1
  have hx := exec_b (a := a) hop e1
  rcases vs with _ | ⟨s, _ | ⟨x, _ | ⟨v2, l⟩⟩⟩ <;> try (first | cases h | (cases s <;> cases h))
  obtain ⟨su, us1, rfl, q0, q1⟩ := e2.cons_inv
  obtain ⟨xu, us2, rfl, q2, q3⟩ := q1.cons_inv
  have := q3.nil_inv; subst this
  replace h := ob_some h
  obtain ⟨t, h2, h⟩ := h
  replace h := ob_some h
  obtain ⟨⟨et, ei⟩, h3, h⟩ := h
  obtain ⟨h4, ha⟩ := chk_some h
  clear h
  simp only [Bool.and_eq_true] at h4
  obtain ⟨h41, h42⟩ := h4
  have hpos : 0 < ei.size := Nat.pos_of_ne_zero (by rw [nbeq] at h41; simpa using h41)
  have hts : ts = #[t, t] := by
    cases hl : ts.toList with
    | nil => rw [hl] at h42; cases h42
    | cons a1 l =>
      cases l with
      | nil => rw [hl] at h42; cases h42
      | cons a2 l =>
        cases l with
        | cons => rw [hl] at h42; cases h42
        | nil =>
          rw [hl] at h42 h2
          have := Nat.eq_of_beq_eq_true h42
          cases h2
          apply Array.ext'
          rw [hl, this]
  subst hts
  obtain ⟨b1, b2, ti, b3, b4⟩ := elem_ok hG h3
  obtain ⟨zb, zz, b5, b6, b7⟩ := b2.ti
  have hsz := Go.X.run_sizeOf' (w := w) (hG.tk.get b5)
  have hs : execOp a.eval o = (do Pure.pure (Next.value (← Builtin.append_ #[t, t] o.type #[su, xu])) : Sem Next) := by rw [hx]; rfl
  unfold appendV at ha
  obtain ⟨new, h5, hb⟩ := ob_some ha
  obtain ⟨h6, hc⟩ := chk_some hb
  obtain ⟨kk, h7, hd'⟩ := ob_some hc
  obtain ⟨h8, h⟩ := chk_some hd'
  clear ha hb hc hd'
  have h8 := Nat.le_of_ble_eq_true h8
  obtain ⟨news, c1, c2, c3⟩ := content_ok hm h5 h7 q2
  have hone := ones_cells c1 h6
  cases kk with
  | zero =>
    obtain ⟨h9, h'⟩ := chk_some h
    cases h'
    have hx0 : (∃ c', xu = .slice none 0 c') ∨ ∃ B c', xu = .slice (some B) 0 c' := by
      rcases c3 with ⟨d1, _⟩ | ⟨A, c, d1, _⟩
      · exact .inl ⟨0, d1⟩
      · exact .inr ⟨A, c, d1⟩
    have fin : ∀ {A : Option Addr} {m c : Nat}, su = .slice A m c → m ≤ c → o.wp P a w next Q := fun {A m c} hA hmc => by
      subst hA
      exact wp_run hs (app_zero b1 hsz hmc hx0) (hnext _ ρ w (Rho.le.refl ρ) q0 hm (fun i hi => .inl hi))
    cases s <;> simp only [VR] at q0 <;> first
      | (obtain ⟨y, _, hA⟩ := q0; exact fin hA (Nat.le_of_ble_eq_true h9))
      | (obtain ⟨y, A, c, _, hA, hmc, _⟩ := q0; exact fin hA hmc)
      | (exact fin q0 (Nat.le_refl _))
      | (obtain ⟨A, hA⟩ := q0; exact fin hA (Nat.le_refl _))
      | skip
    all_goals exact absurd h9 Bool.false_ne_true
  | succ kk =>
    obtain ⟨B, cB, hxu, hnews⟩ : ∃ A c, xu = .slice (some A) (kk + 1) c ∧ ∀ j u, news[j]? = some u → w.cell? (A.add j) = some u := by
      rcases c3 with ⟨_, d2⟩ | d
      · cases d2
      · exact d
    subst hxu
    obtain ⟨zv, zv1, zs, zs1, zs2⟩ := zero_cells hG (show g.ty.get et = some ei by
      obtain ⟨tt, q1, q2⟩ := ob_some h3
      obtain ⟨k1, s1, zz1, cm⟩ := tt
      cases k1 <;> simp only at q2 <;> try cases q2
      obtain ⟨ei', q3, q4⟩ := ob_some q2
      cases q4
      exact q3) w
    obtain ⟨d2, inf, z', u1, u2, u3, u4, u5, u6, _⟩ := hG.tk.get b5
    have hinf : inf.size = ei.size := u3
    have hzl : z'.cells.size = ei.size := by
      have : z'.cells.toList = zz := u6
      have h9 := congrArg List.length this
      rw [b6.length, b2.zl] at h9
      simpa using h9
    have hby : inf.bytes ≤ 4096 := by rw [u4]; exact b7
    -- a new row
    have grow : ∀ {olds : List Value} {old : List AV} {m c : Nat} {A : Option Addr} {up : Option (Nat × AObj)}, (up = none ∨ ∃ i, up = some (i, .dead)) → su = .slice A m c → VRL ρ old olds → olds.length = m * ei.size → (A = none → m = 0 ∧ c = 0) → (∀ A', A = some A' → ∀ j u, olds[j]? = some u → w.cell? (A'.add j) = some u) → c < m + (kk + 1) → m ≤ 16777216 →
        some r = (ob (mkSu n 0 (m + (kk + 1)) ei.size) fun v => some ⟨v, up, some (.cells et (app old new) true)⟩) → o.wp P a w next Q := by
      intro olds old m c A up hup hsu hold hlo hA hold' hcap hmle hr
      simp only [mkSu, nat1_eq] at hr
      cases hr
      subst hsu
      have hfit : Builtin.nextslicecap (m + (kk + 1)) c * inf.bytes ≤ 281474976710656 := by
        refine growslice_fits hcap ?_
        calc (m + (kk + 1)) * inf.bytes ≤ (16777216 + 65536) * 4096 := Nat.mul_le_mul (by omega) hby
          _ ≤ _ := by decide
      have hge := grownCap_ge w (m + (kk + 1)) c et
      have hcells : ∃ (w' : World) (cs : List Value), (Builtin.append_ #[t, t] o.type #[.slice A m c, .slice (some B) (kk + 1) cB]).run P w = .ok (.slice (some ⟨w.heap.size, 0, none⟩) (m + (kk + 1)) (grownCap w (m + (kk + 1)) c et)) w' ∧ w' = w.drew.alloc (.cells cs.toArray et (0, 0)) ∧ cs.length = grownCap w (m + (kk + 1)) c et * ei.size ∧ cs.take ((app old new).length) = olds ++ news := by
        have hln : (app old new).length = olds.length + news.length := by rw [app_eq, List.length_append, hold.length, c1.length]
        have hz : ∀ q, (Builtin.zeroCells z'.cells q).toList.length = q * ei.size := fun q => by rw [Array.length_toList, size_zeroCells, hzl]
        cases A with
        | none =>
          obtain ⟨rfl, rfl⟩ := hA rfl
          have holds0 : olds = [] := List.eq_nil_of_length_eq_zero (by rw [hlo]; simp)
          have hr := run_append_nil (P := P) w t o.type et inf z' b1 u2 u5 B (kk + 1) cB news (by rw [hinf]; exact c2) hnews (by omega) (by omega) (by
            calc (kk + 1) * inf.bytes ≤ 65536 * 4096 := Nat.mul_le_mul (by omega) hby
              _ ≤ _ := by decide)
          refine ⟨_, news ++ (Builtin.zeroCells z'.cells (grownCap w (0 + (kk + 1)) 0 et - (0 + (kk + 1)))).toList, ?_, rfl, ?_, ?_⟩
          · rw [hr]
            have e0 : (news ++ (Builtin.zeroCells z'.cells (grownCap w (0 + (kk + 1)) 0 et - (0 + (kk + 1)))).toList).toArray = news.toArray ++ Builtin.zeroCells z'.cells (grownCap w (0 + (kk + 1)) 0 et - (0 + (kk + 1))) := by apply Array.ext'; simp
            rw [e0]
            simp only [Nat.zero_add]
          · rw [List.length_append, c2, hz, ← Nat.add_mul]
            congr 1; omega
          · rw [hln, holds0]
            simp
        | some A' =>
          have hr := run_append_grow (P := P) w t o.type et inf z' b1 u2 u5 A' m c olds (by rw [hinf]; exact hlo) (hold' A' rfl) B (kk + 1) cB news (by rw [hinf]; exact c2) hnews hcap (by omega) hfit
          refine ⟨_, olds ++ news ++ (Builtin.zeroCells z'.cells (grownCap w (m + (kk + 1)) c et - (m + (kk + 1)))).toList, ?_, rfl, ?_, ?_⟩
          · rw [hr]
            have e0 : (olds ++ news ++ (Builtin.zeroCells z'.cells (grownCap w (m + (kk + 1)) c et - (m + (kk + 1)))).toList).toArray = olds.toArray ++ news.toArray ++ Builtin.zeroCells z'.cells (grownCap w (m + (kk + 1)) c et - (m + (kk + 1))) := by apply Array.ext'; simp
            rw [e0]
          · rw [List.length_append, List.length_append, hlo, c2, hz, ← Nat.add_mul, ← Nat.add_mul]
            congr 1; omega
          · rw [hln, ← List.length_append, List.take_left]
      obtain ⟨w', cs, r1, rfl, r2, r3⟩ := hcells
      have hm' : MR ρ f w0 w.drew := hm.quiet ⟨rfl, rfl, rfl, Nat.le_refl _, fun _ _ _ => rfl⟩
      have hln : (app old new).length ≤ cs.length := by
        rw [app_eq, List.length_append, ← hold.length, ← c1.length, hlo, c2, ← Nat.add_mul, r2]
        exact Nat.mul_le_mul_right _ hge
      have hnew : MR (ρ.set n ⟨w.drew.heap.size, 0, cs.length⟩) (applyF f ⟨.su n 0 (m + (kk + 1)) ei.size, up, some (.cells et (app old new) true)⟩ n) w0 (w.drew.alloc (.cells cs.toArray et (0, 0))) := by
        rcases hup with rfl | ⟨i, rfl⟩
        · exact hm'.newCells (hn (by simp)) (cs := cs) (l := app old new) (t := et) (op := true) hln (by rw [r3, app_eq]; exact hold.append c1) (fun q => by cases q)
        · exact (hm'.kill i).newCells (hn (by simp)) (cs := cs) (l := app old new) (t := et) (op := true) hln (by rw [r3, app_eq]; exact hold.append c1) (fun q => by cases q)
      refine wp_run hs r1 (hnext _ _ _ (Rho.le_set (hn (by simp))) ?_ hnew (dom_set (by simp)))
      simp only [VR]
      exact ⟨_, _, _, Rho.set_at, rfl, hge, by simp [r2], fun _ => by simp⟩
    have hnone : ∀ q : Option LR, none = some r → False := fun q hq => by cases hq
    cases s <;> try (exfalso; cases h; done)
    case snil =>
      simp only [VR] at q0
      exact grow (old := []) (olds := []) (.inl rfl) q0 .nil (by simp) (fun _ => ⟨rfl, rfl⟩) (fun A' hA' => by cases hA') (by omega) (by omega) (by rw [Nat.zero_add]; exact h.symm)
    case se =>
      simp only [VR] at q0
      obtain ⟨A, hA⟩ := q0
      exact grow (old := []) (olds := []) (.inl rfl) hA .nil (by simp) (fun hq => by cases hq) (fun A' hA' j u hj => by simp at hj) (by omega) (by omega) (by rw [Nat.zero_add]; exact h.symm)
    case sl i o m c =>
      simp only at h
      have q0' := q0
      simp only [VR] at q0
      obtain ⟨y, y1, hsu⟩ := q0
      cases hb : Nat.ble (m + (kk + 1)) c with
      | true =>
        rw [hb] at h
        have hle := Nat.le_of_ble_eq_true hb
        replace h := ob_some h
        obtain ⟨q, k1, h⟩ := h
        replace h := ob_some h
        obtain ⟨l, k2, h⟩ := h
        simp only [mkSl, nat1_eq] at h
        cases h
        subst hsu
        obtain ⟨w', r1, r2⟩ := hm.store (P := P) k1 y1 k2 c1 hone
        refine wp_run hs (app_room b1 hsz hle c2 hnews (by rw [addr_add, Nat.add_assoc]; exact r1)) (hnext _ ρ w' (Rho.le.refl ρ) (by simp only [VR]; exact ⟨y, y1, rfl⟩) r2 (fun i hi => .inl hi))
      | false =>
        rw [hb] at h
        have hgt : c < m + (kk + 1) := by
          rcases Nat.lt_or_ge c (m + (kk + 1)) with h1 | h1
          · exact h1
          · rw [Nat.ble_eq_true_of_le h1] at hb; cases hb
        replace h := chk_some h
        obtain ⟨k0, h⟩ := h
        have k0 := Nat.le_of_ble_eq_true k0
        replace h := ob_some h
        obtain ⟨old, k1, h⟩ := h
        obtain ⟨olds, d1, d2, d3⟩ := content_ok hm k1 (show lenA (.sl i o m c) = some m from rfl) q0'
        rcases d3 with ⟨d4, d5⟩ | ⟨A, c', d4, d5⟩
        · rw [hsu] at d4; cases d4
        · rw [hsu] at d4
          cases d4
          exact grow (.inl rfl) hsu d1 d2 (fun hq => by cases hq) (fun A' hA' => by cases hA'; exact d5) hgt (by omega) h.symm
    case su i o m z =>
      simp only at h
      have q0' := q0
      simp only [VR] at q0
      obtain ⟨y, A, c, y1, hsu, hmc, hN, hA⟩ := q0
      replace h := chk_some h
      obtain ⟨hz, h⟩ := h
      have hz := Nat.eq_of_beq_eq_true hz
      subst hz
      replace h := ob_some h
      obtain ⟨q, k1, h⟩ := h
      obtain ⟨y', cs, a1, a2, a3, a4, a5, a6, a7⟩ := cells_at hm k1
      rw [y1] at a1; cases a1
      cases hb : Nat.ble (o + (m + (kk + 1)) * ei.size) (len q.2.1) with
      | true =>
        rw [hb] at h
        have hle := Nat.le_of_ble_eq_true hb
        rw [len_eq] at hle
        replace h := ob_some h
        obtain ⟨l, k2, h⟩ := h
        simp only [mkSu, nat1_eq] at h
        cases h
        have hroom : m + (kk + 1) ≤ c := by
          have : (m + (kk + 1)) * ei.size ≤ c * ei.size := by omega
          exact Nat.le_of_mul_le_mul_right this hpos
        have hA := hA (by omega)
        subst hA
        subst hsu
        obtain ⟨w', r1, r2⟩ := hm.store (P := P) k1 y1 k2 c1 hone
        refine wp_run hs (app_room b1 hsz hroom c2 hnews (by rw [addr_add, Nat.add_assoc]; exact r1)) (hnext _ ρ w' (Rho.le.refl ρ) ?_ r2 (fun i hi => .inl hi))
        simp only [VR]
        exact ⟨y, _, c, y1, rfl, hroom, hN, fun _ => rfl⟩
      | false =>
        rw [hb] at h
        replace h := chk_some h
        obtain ⟨k2, h⟩ := h
        simp only [Bool.and_eq_true] at k2
        obtain ⟨⟨k3, k4⟩, k5⟩ := k2
        have k3 := Nat.eq_of_beq_eq_true k3
        rw [len_eq] at k3
        have k5 := Nat.le_of_ble_eq_true k5
        have k4 := Nat.eq_of_beq_eq_true k4
        obtain ⟨qt, l, op⟩ := q
        replace k3 : o + m * ei.size = l.length := k3
        replace c2 : news.length = (kk + 1) * ei.size := c2
        replace hN : y.d + o + c * ei.size = y.N := hN
        replace a3 : cs.length = y.N := a3
        replace k4 : qt = et := k4
        subst k4
        replace a2 : w.heap[y.b]? = some (.cells cs.toArray qt (0, 0)) := a2
        replace a4 : y.d + l.length ≤ y.N := a4
        replace a5 : VRL ρ l ((cs.drop y.d).take l.length) := a5
        have hold : VRL ρ (dropA l o) ((cs.drop (y.d + o)).take (m * ei.size)) := by
          have := a5.drop o
          rw [dropA_eq]
          have e0 : ((cs.drop y.d).take l.length).drop o = (cs.drop (y.d + o)).take (m * ei.size) := by
            rw [List.drop_take, List.drop_drop]
            congr 1; omega
          rw [← e0]; exact this
        have holdl : ((cs.drop (y.d + o)).take (m * ei.size)).length = m * ei.size := by
          rw [List.length_take, List.length_drop]; omega
        by_cases hroom : m + (kk + 1) ≤ c
        · -- in place, under a new name
          have hA := hA (by omega)
          subst hA
          subst hsu
          simp only [mkSu, nat1_eq] at h
          cases h
          have hfit : (m + (kk + 1)) * ei.size ≤ c * ei.size := Nat.mul_le_mul_right _ hroom
          rw [Nat.add_mul] at hfit
          obtain ⟨w', r1, r2, r3, r4, r5, r6, r7⟩ := Go.X.run_storeCells (P := P) news w cs (y.d + o + m * ei.size) 0 hone (by omega) a2
          have hlen : (app (dropA l o) new).length = m * ei.size + news.length := by rw [app_eq, List.length_append, ← hold.length, holdl, c1.length]
          have key : ((Go.X.over cs (y.d + o + m * ei.size) news).drop (y.d + o)).take (m * ei.size + news.length) = (cs.drop (y.d + o)).take (m * ei.size) ++ news := by
            rw [xover_eq (by omega)]
            apply List.ext_getElem?
            intro i
            simp only [List.getElem?_take, List.getElem?_drop, List.getElem?_append, List.length_take, List.length_drop, List.length_append]
            by_cases q1 : i < m * ei.size
            · rw [if_pos (by omega), if_pos (by omega), if_pos (by omega), if_pos (by omega), if_pos (by omega), if_pos q1]
            · by_cases q2 : i < m * ei.size + news.length
              · rw [if_pos q2, if_pos (by omega), if_neg (by omega), if_neg (by omega)]
                congr 1; omega
              · rw [if_neg q2, if_neg (by omega), List.getElem?_eq_none (by omega)]
          refine wp_run hs (app_room b1 hsz hroom c2 hnews (by rw [addr_add]; exact r1)) (hnext _ (ρ.set n ⟨y.b, y.d + o, y.N⟩) w' (Rho.le_set (hn (by simp))) ?_ ?_ (dom_set (by simp)))
          · simp only [VR]
            exact ⟨_, _, c, Rho.set_at, rfl, hroom, by simp; omega, fun _ => by simp⟩
          · refine hm.name (i := i) (cellsOf_some k1) trivial y1 (hn (by simp)) rfl (fr_of_store r3 r4 r5 r6 r7) ⟨_, r2, ?_, ?_, ?_, fun q => by cases q⟩
            · rw [Go.X.over_length]; exact a3
            · rw [hlen]; simp only; omega
            · rw [hlen, app_eq]
              simp only [Nat.add_zero]
              rw [key]
              exact (hold.append c1).mono (Rho.le_set (hn (by simp)))
        · -- a new row
          refine grow (old := dropA l o) (olds := (cs.drop (y.d + o)).take (m * ei.size)) (up := some (i, .dead)) (.inr ⟨i, rfl⟩) hsu hold holdl (fun hq => by cases hq) ?_ (by omega) (by omega) h.symm
          intro A' hA' j u hj
          cases hA'
          have hc0 : 0 < c := by
            rcases Nat.eq_zero_or_pos c with h0 | h0
            · exfalso
              have hm0 : m = 0 := by omega
              rw [hm0, Nat.zero_mul, List.take_zero] at hj
              simp at hj
            · exact h0
          rw [hA hc0, addr_add]
          rw [List.getElem?_take] at hj
          split at hj
          · rw [List.getElem?_drop] at hj
            simp [World.cell?, a2, hj]
          · cases hj
end
end Go.Y

/- The evaluator's operations that write or make something: all. -/
namespace Go.Y
open Go.X (TK TyI Fr FP Tab TabOk CtxOk)
open Go.ChangeMaps Go.MapKept
set_option linter.unusedVariables false
set_option linter.unusedSimpArgs false
set_option linter.constructorNameAsVariable false
set_option linter.unusedSectionVars false

section
variable {P : Program} {w : World}
theorem copy_run {t ty et : TypeId} {ts : Array TypeId} {sz dl dc k : Nat} {A : Option Addr} {x : Value} {news : List Value} {w' : World} (h0 : ts[0]? = some t) (ht : P.underlying t = some (.slice et)) (hs : (sizeOf et).run P w = .ok sz w)
    (hx : (x = .slice none 0 0 ∧ k = 0) ∨ ∃ B c, x = .slice (some B) k c ∧ ∀ j u, news[j]? = some u → w.cell? (B.add j) = some u) (hl : news.length = min dl k * sz)
    (hst : match A with | some a => (storeCells a news).run P w = .ok () w' | none => w' = w) : (Builtin.copy_ ts ty #[.slice A dl dc, x]).run P w = .ok (.int .i64 ((min dl k : Nat) : Int)) w' := by
  have hmin : Nat.min k dl = min dl k := by rw [Nat.min_comm]
  rcases hx with ⟨rfl, rfl⟩ | ⟨B, c, rfl, hn⟩
  · have h00 : news = [] := List.eq_nil_of_length_eq_zero (by rw [hl]; simp)
    subst h00
    cases A with
    | none => simp only at hst; subst hst; simp [Builtin.copy_, h0, Go.X.run_underlying' ht, hs, Builtin.lenOf, Builtin.firstCells, goInt]
    | some a =>
      simp only [storeCells] at hst
      have : w = w' := by simpa [Sem.run] using hst
      subst this
      simp [Builtin.copy_, h0, Go.X.run_underlying' ht, hs, Builtin.lenOf, Builtin.firstCells, storeCells, goInt]
  · have hfc := run_firstCells_some (P := P) w sz (min dl k) B k c news hl hn
    cases A with
    | none => simp only at hst; subst hst; simp [Builtin.copy_, h0, Go.X.run_underlying' ht, hs, Builtin.lenOf, hmin, hfc, goInt]
    | some a => simp only at hst; simp [Builtin.copy_, h0, Go.X.run_underlying' ht, hs, Builtin.lenOf, hmin, hfc, hst, goInt]
end
section
variable {P : Program} {tab : Tab} {g : Gl} (hG : GOk P tab g) {ρ : Rho} {e : Env} {a : Act} {f : Nat → Option AObj} {w0 : Base} {w : World} {n : Nat}
include hG
theorem copy_ok (k : ER ρ e a) (hd : a.defers = []) (hm : MR ρ f w0 w) {o : Oper} {args : Array Operand} {ts : Array TypeId} {r : LR} (hop : o.op = .call ⟨.builtin .copy, args, ts⟩) (h : opW g (.call ⟨.builtin .copy, args, ts⟩) e f n = some r) : WOk P o a w0 w ρ f n r := by
  intro next Q hnext
  simp only [opW] at h
  obtain ⟨vs, h1, h2⟩ := ob_some h
  clear h
  obtain ⟨us, e1, e2⟩ := args_ok k hd h1
  have hx := exec_b (a := a) hop e1
  rcases vs with _ | ⟨d, _ | ⟨s, _ | ⟨v2, l⟩⟩⟩ <;> try (first | cases h2 | (cases d <;> cases h2))
  obtain ⟨du, us1, rfl, q0, q1⟩ := e2.cons_inv
  obtain ⟨su, us2, rfl, q2, q3⟩ := q1.cons_inv
  have := q3.nil_inv; subst this
  obtain ⟨t, h3, h4⟩ := ob_some h2
  clear h2
  obtain ⟨⟨et, ei⟩, h5, h6⟩ := ob_some h4
  clear h4
  obtain ⟨dl, h7, h8⟩ := ob_some h6
  clear h6
  obtain ⟨sl, h9, h10⟩ := ob_some h8
  clear h8
  obtain ⟨cs, h11, h⟩ := ob_some h10
  clear h10
  obtain ⟨b1, b2, ti, b3, b4⟩ := elem_ok hG h5
  obtain ⟨zb, zz, b5, b6, b7⟩ := b2.ti
  have hsz := Go.X.run_sizeOf' (w := w) (hG.tk.get b5)
  have h0 : ts[0]? = some t := by rw [lget_eq] at h3; simpa using h3
  have hs : execOp a.eval o = (do Pure.pure (Next.value (← Builtin.copy_ ts o.type #[du, su])) : Sem Next) := by rw [hx]; rfl
  obtain ⟨news, c1, c2, c3⟩ := content_ok hm h11 h9 q2
  have none_ : ∀ {A : Option Addr} {dc : Nat}, du = .slice A 0 dc → (r = ⟨.int .i64 0, none, none⟩) → o.wp P a w next Q := by
    intro A dc hA hr
    subst hr; subst hA
    have hz : min 0 sl = 0 := by simp
    refine wp_run hs (copy_run (P := P) (w' := w) (news := []) (k := sl) h0 b1 hsz ?_ (by rw [hz]; simp) (by cases A <;> simp [storeCells])) (hnext _ ρ w (Rho.le.refl ρ) (by rw [hz]; exact .of_int _ _) hm (fun i hi => .inl hi))
    rcases c3 with c | ⟨B, c, d1, d2⟩
    · exact .inl c
    · exact .inr ⟨B, c, d1, fun j u hj => by simp at hj⟩
  have some_ : ∀ {i o' : Nat} {y : Bk} {dc : Nat} {q : TypeId × List AV × Bool} {l cs' : List AV}, ρ i = some y → du = .slice (some ⟨y.b, y.d + o', none⟩) dl dc → takeA cs (min dl sl * ei.size) = some cs' → cellsOf f i = some q → over cs' q.2.1 o' = some l → ones cs' = true → some r = (ob (mkN (min dl sl)) fun v => some ⟨v, some (i, .cells q.1 l q.2.2), none⟩) → o.wp P a w next Q := by
    intro i o' y dc q l cs' y1 hdu t1 t2 t3 t4 hr
    simp only [mkN, nat1_eq] at hr
    cases hr
    subst hdu
    obtain ⟨t5, t6⟩ := takeA_some t1
    have hv : VRL ρ cs' (news.take (min dl sl * ei.size)) := by rw [t5]; exact c1.take _
    obtain ⟨w', r1, r2⟩ := hm.store (P := P) t2 y1 t3 hv (ones_cells hv t4)
    refine wp_run hs (copy_run (P := P) (news := news.take (min dl sl * ei.size)) (k := sl) h0 b1 hsz ?_ (by rw [hv.length, t6]) r1) (hnext _ ρ w' (Rho.le.refl ρ) (.of_int _ _) r2 (fun i hi => .inl hi))
    rcases c3 with c | ⟨B, c, d1, d2⟩
    · exact .inl c
    · refine .inr ⟨B, c, d1, fun j u hj => d2 j u ?_⟩
      rw [List.getElem?_take] at hj
      split at hj
      · exact hj
      · cases hj
  cases d <;> try (exfalso; cases h; done)
  · -- a slice
    rename_i i o' m c
    cases h7
    obtain ⟨cs', t1, h⟩ := ob_some h
    obtain ⟨t4, h⟩ := chk_some h
    obtain ⟨q, t2, h⟩ := ob_some h
    obtain ⟨l, t3, h⟩ := ob_some h
    simp only [VR] at q0
    obtain ⟨y, y1, q0⟩ := q0
    exact some_ y1 q0 t1 t2 t3 t4 h.symm
  · rename_i i o' m z
    cases m with
    | zero => cases h
    | succ m =>
    cases h7
    obtain ⟨cs', t1, h⟩ := ob_some h
    obtain ⟨t4, h⟩ := chk_some h
    obtain ⟨q, t2, h⟩ := ob_some h
    obtain ⟨l, t3, h⟩ := ob_some h
    simp only [VR] at q0
    obtain ⟨y, A, c, y1, q0, hmc, _, hA⟩ := q0
    rw [hA (by omega)] at q0
    exact some_ y1 q0 t1 t2 t3 t4 h.symm
  · simp only [VR] at q0
    cases h7
    exact none_ q0 (by cases h; rfl)
  · simp only [VR] at q0
    obtain ⟨A, q0⟩ := q0
    cases h7
    exact none_ q0 (by cases h; rfl)
omit hG in
theorem zc_flat (zs : List Value) : ∀ n, (Builtin.zeroCells zs.toArray n).toList = (List.replicate n ()).flatMap fun _ => zs
  | 0 => by simp [Builtin.zeroCells]
  | n + 1 => by
    have ih := zc_flat zs n
    unfold Builtin.zeroCells at ih ⊢
    simp only [Array.toList_map, Array.toList_range, List.size_toArray] at ih ⊢
    rw [List.replicate_succ', List.flatMap_append, ← ih, Nat.succ_mul, List.range_add, List.map_append, List.map_map]
    congr 1
    apply List.ext_getElem?
    intro i
    simp only [List.getElem?_map, List.flatMap_cons, List.flatMap_nil, List.append_nil, Function.comp_def]
    by_cases hi : i < zs.length
    · rw [List.getElem?_range hi, List.getElem?_eq_getElem hi]
      simp [Nat.mod_eq_of_lt hi, hi]
    · rw [List.getElem?_eq_none (by simpa using hi), List.getElem?_eq_none (by omega)]; rfl
omit hG in
theorem rep_zc {ρ : Rho} {z : List AV} {zs : List Value} (h : VRL ρ0 z zs) (n : Nat) : VRL ρ (rep z n) (Builtin.zeroCells zs.toArray n).toList := by
  rw [zc_flat]
  induction n with
  | zero => exact .nil
  | succ n ih =>
    show VRL ρ (app z (rep z n)) _
    rw [app_eq, List.replicate_succ, List.flatMap_cons]
    exact .append (h.mono (le0 ρ)) ih
theorem clear_ok (k : ER ρ e a) (hd : a.defers = []) (hm : MR ρ f w0 w) {o : Oper} {args : Array Operand} {ts : Array TypeId} {r : LR} (hop : o.op = .call ⟨.builtin .clear, args, ts⟩) (h : opW g (.call ⟨.builtin .clear, args, ts⟩) e f n = some r) : WOk P o a w0 w ρ f n r := by
  intro next Q hnext
  simp only [opW] at h
  obtain ⟨vs, h1, h2⟩ := ob_some h
  clear h
  obtain ⟨us, e1, e2⟩ := args_ok k hd h1
  have hx := exec_b (a := a) hop e1
  rcases vs with _ | ⟨d, _ | ⟨v2, l⟩⟩ <;> try (first | cases h2 | (cases d <;> cases h2))
  obtain ⟨du, us1, rfl, q0, q1⟩ := e2.cons_inv
  have := q1.nil_inv; subst this
  obtain ⟨t, h3, h4⟩ := ob_some h2
  clear h2
  obtain ⟨⟨et, ei⟩, h5, h⟩ := ob_some h4
  clear h4
  obtain ⟨b1, b2, ti, b3, b4⟩ := elem_ok hG h5
  have hget : g.ty.get et = some ei := by
    obtain ⟨ti', k1, k2⟩ := ob_some h5
    split at k2 <;> try cases k2
    obtain ⟨ei', k3, k4⟩ := ob_some k2
    cases k4; exact k3
  have h0 : ts[0]? = some t := by rw [lget_eq] at h3; simpa using h3
  have hs : execOp a.eval o = (do Pure.pure (Next.value (← Builtin.clear_ ts o.type #[du])) : Sem Next) := by rw [hx]; rfl
  have idle : (Builtin.clear_ ts o.type #[du]).run P w = .ok (.tuple #[]) w → r = ⟨.tup [], none, none⟩ → o.wp P a w next Q := by
    intro hr hr'
    subst hr'
    exact wp_run hs hr (hnext _ ρ w (Rho.le.refl ρ) (by simp only [VR]; exact ⟨[], rfl, .nil⟩) hm (fun i hi => .inl hi))
  have some_ : ∀ {i o' m : Nat} {y : Bk} {c : Nat}, ρ i = some y → du = .slice (some ⟨y.b, y.d + o', none⟩) (m + 1) c → clearV f i o' (m + 1) ei.zero = some r → o.wp P a w next Q := by
    intro i o' m y c y1 hdu hc
    subst hdu
    obtain ⟨t4, hc⟩ := chk_some hc
    obtain ⟨q, t2, hc⟩ := ob_some hc
    obtain ⟨l, t3, hc⟩ := ob_some hc
    cases hc
    obtain ⟨z, z1, zs, z2, z3⟩ := zero_cells hG hget w
    have hv : VRL ρ (rep ei.zero (m + 1)) (Builtin.zeroCells zs.toArray (m + 1)).toList := rep_zc z2 _
    have h1c : ∀ u ∈ (Builtin.zeroCells zs.toArray (m + 1)).toList, u.oneCell' = true := by
      rw [zc_flat]
      intro u hu
      obtain ⟨_, _, hu⟩ := List.mem_flatMap.1 hu
      exact ones_cells z2 t4 u hu
    obtain ⟨w', r1, r2⟩ := hm.store (P := P) t2 y1 t3 hv h1c
    refine wp_run hs (w' := w') ?_ (hnext _ ρ w' (Rho.le.refl ρ) (by simp only [VR]; exact ⟨[], rfl, .nil⟩) r2 (fun i hi => .inl hi))
    simp [Builtin.clear_, h0, Go.X.run_underlying' b1, z1, z3, r1]
  cases d <;> try (exfalso; cases h; done)
  · rename_i i o' m c
    simp only [VR] at q0
    obtain ⟨y, y1, q0⟩ := q0
    cases m with
    | zero => subst q0; exact idle (by simp [Builtin.clear_, h0, Go.X.run_underlying' b1]) (by cases h; rfl)
    | succ m => exact some_ y1 q0 h
  · rename_i i o' m z
    simp only [VR] at q0
    obtain ⟨y, A, c, y1, q0, hmc, _, hA⟩ := q0
    cases m with
    | zero => subst q0; exact idle (by simp [Builtin.clear_, h0, Go.X.run_underlying' b1]) (by cases h; rfl)
    | succ m =>
      rw [hA (by omega)] at q0
      exact some_ y1 q0 h
  · simp only [VR] at q0
    subst q0
    exact idle (by simp [Builtin.clear_, h0, Go.X.run_underlying' b1]) (by cases h; rfl)
  · simp only [VR] at q0
    obtain ⟨A, q0⟩ := q0
    subst q0
    exact idle (by simp [Builtin.clear_, h0, Go.X.run_underlying' b1]) (by cases h; rfl)
theorem opW_ok (k : ER ρ e a) (hd : a.defers = []) (hm : MR ρ f w0 w) {o : Oper} {r : LR} (hn : r.new ≠ none → ρ n = none) (h : opW g o.op e f n = some r) : WOk P o a w0 w ρ f n r := by
  cases hop : o.op
  case mapUpdate t m q x => rw [hop] at h; exact put_ok hG k hd hm hop h
  case range t x => rw [hop] at h; exact range_ok hG k hd hm hn hop h
  case next x b => rw [hop] at h; exact next_ok k hd hm hop h
  case call c =>
    rw [hop] at h
    obtain ⟨callee, args, ts⟩ := c
    cases callee <;> try cases h
    rename_i b
    cases b
    case append => exact append_ok hG k hd hm hn hop h
    case copy => exact copy_ok hG k hd hm hop h
    case delete => exact delete_ok hG k hd hm hop h
    case clear => exact clear_ok hG k hd hm hop h
    all_goals
      simp only [opW] at h
      obtain ⟨vs, _, h⟩ := ob_some h
      rcases vs with _ | ⟨v0, _ | ⟨v1, _ | ⟨v2, l⟩⟩⟩ <;> first | cases h | (cases v0 <;> cases h)
  all_goals exact opW_rows hG k hd hm hn h (fun c hc => by rw [hop] at hc; cases hc) (fun t m q x hc => by rw [hop] at hc; cases hc) (fun t x hc => by rw [hop] at hc; cases hc) (fun x b hc => by rw [hop] at hc; cases hc)
end
end Go.Y

/- The evaluator: one operation, and operations one behind the other. -/
namespace Go.Y
open Go.X (TK TyI Fr FP Tab TabOk CtxOk)
set_option linter.unusedVariables false
set_option linter.unusedSimpArgs false
set_option linter.constructorNameAsVariable false
set_option linter.unusedSectionVars false

/-- The names from a to b stand for nothing. -/
def Free (ρ : Rho) (a b : Nat) : Prop := ∀ i, a ≤ i → i < b → ρ i = none
/-- The new names lie from a to b. -/
def Ext (ρ σ : Rho) (a b : Nat) : Prop := ∀ i, σ i ≠ none → ρ i ≠ none ∨ (a ≤ i ∧ i < b)
theorem Ext.refl (ρ : Rho) (a b : Nat) : Ext ρ ρ a b := fun _ h => .inl h
theorem Ext.trans {ρ σ τ : Rho} {a b c : Nat} (h : Ext ρ σ a b) (k : Ext σ τ b c) (hab : a ≤ b) (hbc : b ≤ c) : Ext ρ τ a c := fun i hi => by
  rcases k i hi with h1 | h1
  · rcases h i h1 with h2 | h2
    · exact .inl h2
    · exact .inr ⟨h2.1, by omega⟩
  · exact .inr ⟨by omega, h1.2⟩
theorem Free.ext {ρ σ : Rho} {a b c : Nat} (h : Free ρ a c) (k : Ext ρ σ a b) (hab : a ≤ b) : Free σ b c := fun i h1 h2 => by
  cases hq : σ i with
  | none => rfl
  | some x =>
    rcases k i (by rw [hq]; simp) with h3 | h3
    · exact absurd (h i (by omega) h2) h3
    · omega
theorem Free.sub {ρ : Rho} {a b c : Nat} (h : Free ρ a c) (hb : b ≤ c) : Free ρ a b := fun i h1 h2 => h i h1 (by omega)
/-- No object lies at a name that is not yet given. -/
def Wm (m : Mem) : Prop := ∀ i, m.n ≤ i → m.t.get i = none
/-- From one memory to another: names below the lowest written one are as they were. -/
structure Fm (m m' : Mem) : Prop where
  n : m.n ≤ m'.n
  lw : m'.lw ≤ m.lw
  get : ∀ i, i < m'.lw → i < m.n → m'.t.get i = m.t.get i
  wm : Wm m → Wm m'
theorem Fm.refl (m : Mem) : Fm m m := ⟨Nat.le_refl _, Nat.le_refl _, fun _ _ _ => rfl, id⟩
theorem Fm.trans {a b c : Mem} (h : Fm a b) (k : Fm b c) : Fm a c := ⟨Nat.le_trans h.n k.n, Nat.le_trans k.lw h.lw, fun i h1 h2 => (k.get i h1 (Nat.lt_of_lt_of_le h2 h.n)).trans (h.get i (Nat.lt_of_lt_of_le h1 k.lw) h2), fun q => k.wm (h.wm q)⟩
/-- What a call that the evaluator has run does. -/
structure CallOk (P : Program) (g : Gl) (call : CallF) : Prop where
  fm : ∀ (f : FuncId) (vs : List AV) (m : Mem) (v : AV) (m' : Mem), call f vs m = some (v, m') → Wm m → Fm m m'
  ok : ∀ (f : FuncId) (vs : List AV) (m : Mem) (v : AV) (m' : Mem), call f vs m = some (v, m') → Wm m → ∀ (w0 : Base) (ρ : Rho) (w : World) (us : List Value), GlOk g w0 → VRL ρ vs us → MR ρ m.t.get w0 w → Free ρ m.n m'.n →
    Go.X.FnOk P f ∧ Calls P f ⟨us⟩ w fun e w' => ∃ u ρ', e = .returned u ∧ ρ.le ρ' ∧ VR ρ' v u ∧ MR ρ' m'.t.get w0 w' ∧ Ext ρ ρ' m.n m'.n
structure GInv (P : Program) (g : Gl) : Prop where
  inv : T.All (fun t l => ∀ x ∈ l, ∀ (v : Value) (w : World), (method (P.types.size + Made.depth) t v x.1).run P w = .ok (x.2, v) w) g.inv

theorem doLR_get (m : Mem) (r : LR) : (doLR m r).t.get = applyF m.t.get r m.n := by
  have h1 : (setUp m r.up).t.get = (match r.up with | none => m.t.get | some x => updF m.t.get x.1 x.2) := by
    cases r.up with
    | none => rfl
    | some x => funext j; show (m.t.set x.2 x.1).get j = _; rw [T.get_set]; rfl
  have h2 : (setUp m r.up).n = m.n := by cases r.up <;> rfl
  unfold doLR putNew applyF
  cases r.new with
  | none => exact h1
  | some o =>
    simp only [nat1_eq]
    funext j
    show ((setUp m r.up).t.set o (setUp m r.up).n).get j = _
    rw [T.get_set, h1, h2]
    rfl
theorem doLR_n (m : Mem) (r : LR) : (doLR m r).n = match r.new with | none => m.n | some _ => m.n + 1 := by
  have h2 : (setUp m r.up).n = m.n := by cases r.up <;> rfl
  unfold doLR putNew
  cases r.new with
  | none => exact h2
  | some o => simp only [nat1_eq]; rw [h2]
/-! ### what an operation writes was there -/
def UpOk (f : Nat → Option AObj) (x : Option LR) : Prop := ∀ r, x = some r → ∀ y, r.up = some y → f y.1 ≠ none
section
variable {f : Nat → Option AObj}
theorem UpOk.ob {α : Type} {x : Option α} {k : α → Option LR} (h : ∀ a, x = some a → UpOk f (k a)) : UpOk f (Go.Y.ob x k) := fun r hr y hy => by
  obtain ⟨a, h1, h2⟩ := ob_some hr
  exact h a h1 r h2 y hy
theorem UpOk.chk {b : Bool} {k : Option LR} (h : UpOk f k) : UpOk f (Go.Y.chk b k) := fun r hr y hy => h r (chk_some hr).2 y hy
theorem UpOk.none : UpOk f Option.none := fun _ h => by cases h
theorem UpOk.quiet {v : AV} {n : Option AObj} : UpOk f (some ⟨v, Option.none, n⟩) := fun _ h y hy => by cases h; cases hy
theorem UpOk.some {v : AV} {i : Nat} {o : AObj} {n : Option AObj} (h : f i ≠ Option.none) : UpOk f (Option.some ⟨v, Option.some (i, o), n⟩) := fun _ h' y hy => by cases h'; cases hy; exact h
theorem UpOk.nat1 {n : Nat} {k : Nat → Option LR} (h : ∀ n, UpOk f (k n)) : UpOk f (Go.Y.nat1 n k) := by rw [nat1_eq]; exact h n
theorem cells_ne {i : Nat} {q : TypeId × List AV × Bool} (h : cellsOf f i = Option.some q) : f i ≠ Option.none := fun he => by
  obtain ⟨o, h1, h2⟩ := ob_some h
  rw [he] at h1; cases h1
theorem map_ne {i : Nat} {q : List (AV × AV × Nat) × Nat} (h : mapOf f i = Option.some q) : f i ≠ Option.none := fun he => by
  obtain ⟨o, h1, h2⟩ := ob_some h
  rw [he] at h1; cases h1
theorem some_ne {i : Nat} {q : AObj} (h : f i = Option.some q) : f i ≠ Option.none := by rw [h]; exact Option.some_ne_none _
theorem opW_up (g : Gl) (op : Op) (e : Env) (n : Nat) : UpOk f (opW g op e f n) := by
  unfold opW appendV clearV
  split <;>
  repeat (first
    | exact UpOk.none | exact UpOk.quiet | exact UpOk.some (cells_ne (by assumption)) | exact UpOk.some (map_ne (by assumption)) | exact UpOk.some (some_ne (by assumption))
    | (refine UpOk.ob fun _ _ => ?_) | (refine UpOk.chk ?_) | (refine UpOk.nat1 fun _ => ?_)
    | split)
end
theorem doLR_fm {m : Mem} {r : LR} (hu : ∀ y, r.up = some y → m.t.get y.1 ≠ none) : Fm m (doLR m r) := by
  have h1 : Fm m (setUp m r.up) := by
    cases hr : r.up with
    | none => exact .refl m
    | some x =>
      refine ⟨Nat.le_refl _, ?_, fun i h1 h2 => ?_, fun hw i hi => ?_⟩
      · show (match Nat.ble x.1 m.lw with | true => x.1 | false => m.lw) ≤ m.lw
        cases hb : Nat.ble x.1 m.lw with
        | true => exact Nat.le_of_ble_eq_true hb
        | false => exact Nat.le_refl _
      · have h1 : i < (match Nat.ble x.1 m.lw with | true => x.1 | false => m.lw) := h1
        show (m.t.set x.2 x.1).get i = _
        rw [T.get_set, if_neg]
        rintro rfl
        cases hb : Nat.ble x.1 m.lw with
        | true => rw [hb] at h1; exact absurd h1 (Nat.lt_irrefl _)
        | false =>
          rw [hb] at h1
          have : Nat.ble x.1 m.lw = true := Nat.ble_eq_true_of_le (Nat.le_of_lt h1)
          rw [hb] at this; cases this
      · show (m.t.set x.2 x.1).get i = _
        rw [T.get_set, if_neg]
        · exact hw i hi
        · rintro rfl
          exact hu x hr (hw _ hi)
  refine h1.trans ?_
  unfold doLR putNew
  cases r.new with
  | none => exact .refl _
  | some o =>
    simp only [nat1_eq]
    refine ⟨Nat.le_succ _, Nat.le_refl _, fun i _ h2 => ?_, fun hw i hi => ?_⟩
    · show ((setUp m r.up).t.set o _).get i = _
      rw [T.get_set, if_neg (by omega)]
    · have hi : (setUp m r.up).n + 1 ≤ i := hi
      have h2 : (setUp m r.up).n = m.n := by cases r.up <;> rfl
      show ((setUp m r.up).t.set o (setUp m r.up).n).get i = _
      rw [T.get_set, if_neg (by omega)]
      exact hw i (by omega)

section
variable {P : Program} {tab : Tab} {g : Gl} (hG : GOk P tab g) (hI : GInv P g) {ρ : Rho} {e : Env} {a : Act} {m : Mem} {w0 : Base} {w : World} {call : CallF}
theorem call_wp {o : Oper} {f : FuncId} {us : List Value} {next : Act → World → Prop} {Q : Exit → Act → World → Prop} {R : Value → World → Prop} (hs : (execOp a.eval o).run P w = (callFunc f ⟨us⟩).run P w) (hf : Go.X.FnOk P f) (hc : Calls P f ⟨us⟩ w fun e w' => ∃ u, e = .returned u ∧ R u w') (h : ∀ u w', R u w' → next (a.put o.dst u) w') : o.wp P a w next Q := by
  obtain ⟨fn, hf1, hf2, hf3⟩ := hf
  unfold Oper.wp
  have hrun : (execOp a.eval o).run P w = .ok (.enter f ⟨us⟩) w := by
    rw [hs]
    simp only [callFunc, Sem.run_bind, run_program, Result.andThen_ok, hf1, hf2, hf3, Bool.false_eq_true, if_false]
    rfl
  rw [hrun]
  refine hc.mono ?_
  rintro _ w' ⟨u, rfl, hR⟩
  exact h u w' hR
include hI
theorem opC_ok (hcall : CallOk P g call) (hwm : Wm m) (k : ER ρ e a) (hd : a.defers = []) (hg : GlOk g w0) (hm : MR ρ m.t.get w0 w) {o : Oper} {v : AV} {m' : Mem} (hdom : Free ρ m.n m'.n) (h : opC g call o.op e m = some (v, m')) {next : Act → World → Prop} {Q : Exit → Act → World → Prop}
    (hnext : ∀ u ρ' w', ρ.le ρ' → VR ρ' v u → MR ρ' m'.t.get w0 w' → Ext ρ ρ' m.n m'.n → next (a.put o.dst u) w') : o.wp P a w next Q := by
  cases hop : o.op <;> rw [hop] at h <;> try cases h
  rename_i c
  obtain ⟨callee, args, ts⟩ := c
  cases callee with
  | builtin => cases h
  | value fo =>
    simp only [opC] at h
    obtain ⟨fv, h1, h2⟩ := ob_some h
    obtain ⟨vs, h3, h4⟩ := ob_some h2
    clear h h2
    obtain ⟨fu, a1, a2⟩ := ev_vr k h1
    obtain ⟨us, a3, a4⟩ := args_ok k hd h3
    obtain ⟨f, p, q, rfl⟩ : ∃ f p q, fv = .fn f p q := by cases fv <;> first | exact ⟨_, _, _, rfl⟩ | cases h4
    simp only [VR] at a2
    obtain ⟨p', q', rfl, b1, b2⟩ := a2
    have hx := (envOf_es hd).eval a1
    obtain ⟨c1, c2⟩ := hcall.ok f _ m v m' h4 hwm w0 ρ w (p' ++ (us ++ q')) hg (by rw [app_eq, app_eq]; exact b1.append (a4.append b2)) hm hdom
    have hs : execOp a.eval o = callFunc f ⟨p' ++ (us ++ q')⟩ := by
      simp only [execOp, hop, resolve, hx, Deferred.ofValue, pure_bind, invoke, a3]
      exact congrArg (callFunc f) (Array.ext' (by simp))
    exact call_wp (R := fun u w' => ∃ ρ', ρ.le ρ' ∧ VR ρ' v u ∧ MR ρ' m'.t.get w0 w' ∧ Ext ρ ρ' m.n m'.n) (by rw [hs]) c1 (c2.mono fun _ _ ⟨u, ρ', q1, q2⟩ => ⟨u, q1, ρ', q2⟩) fun u w' ⟨ρ', q1, q2, q3, q4⟩ => hnext u ρ' w' q1 q2 q3 q4
  | invoke rv name =>
    simp only [opC] at h
    obtain ⟨fv, h1, h2⟩ := ob_some h
    obtain ⟨vs, h3, h4⟩ := ob_some h2
    clear h h2
    obtain ⟨fu, a1, a2⟩ := ev_vr k h1
    obtain ⟨us, a3, a4⟩ := args_ok k hd h3
    obtain ⟨t, v0, rfl⟩ : ∃ t v0, fv = .ifc t v0 := by cases fv <;> first | exact ⟨_, _, rfl⟩ | cases h4
    simp only [VR] at a2
    obtain ⟨v1, rfl, b1⟩ := a2
    simp only at h4
    obtain ⟨l, h5, h6⟩ := ob_some h4
    obtain ⟨f, h7, h8⟩ := ob_some h6
    clear h4 h6
    have hx := (envOf_es hd).eval a1
    have hl := T.get_all hI.inv h5
    have hmem : ∃ x ∈ l, x.1 = name ∧ x.2 = f := by
      clear hl h5
      induction l with
      | nil => cases h7
      | cons y l ih =>
        have h7 : (match strEq y.1 name with | true => some y.2 | false => List.rec none (fun x _ r => match strEq x.1 name with | true => some x.2 | false => r) l) = some f := h7
        cases hb : strEq y.1 name with
        | true => rw [hb] at h7; cases h7; exact ⟨y, by simp, of_decide_eq_true hb, rfl⟩
        | false => rw [hb] at h7; obtain ⟨x, q1, q2⟩ := ih h7; exact ⟨x, by simp [q1], q2⟩
    obtain ⟨x, x1, rfl, rfl⟩ := hmem
    have hmeth := hl x x1 v1 w
    obtain ⟨c1, c2⟩ := hcall.ok x.2 _ m v m' h8 hwm w0 ρ w (v1 :: us) hg (.cons b1 a4) hm hdom
    have hs : execOp a.eval o = callMethod (.iface t v1) x.1 (args.map a.eval) := by
      simp only [execOp, hop, resolve, hx, pure_bind, invoke]
      have h0 : (#[Value.iface t v1] ++ Array.map a.eval args)[0]? = some (Value.iface t v1) := by
        rw [Array.getElem?_append_left (by exact Nat.zero_lt_one)]; rfl
      rw [h0]
      exact congrArg (callMethod _ x.1) (Array.ext' (by simp [List.take_of_length_le]))
    have hrun : (execOp a.eval o).run P w = (callFunc x.2 ⟨v1 :: us⟩).run P w := by
      rw [hs, a3]
      simp [callMethod, hmeth]
    exact call_wp (R := fun u w' => ∃ ρ', ρ.le ρ' ∧ VR ρ' v u ∧ MR ρ' m'.t.get w0 w' ∧ Ext ρ ρ' m.n m'.n) hrun c1 (c2.mono fun _ _ ⟨u, ρ', q1, q2⟩ => ⟨u, q1, ρ', q2⟩) fun u w' ⟨ρ', q1, q2, q3, q4⟩ => hnext u ρ' w' q1 q2 q3 q4
include hG
theorem step_ok (hcall : CallOk P g call) (hwm : Wm m) (hg : GlOk g w0) (k : ER ρ e a) (hd : a.defers = []) (hm : MR ρ m.t.get w0 w) {o : Oper} {v : AV} {m' : Mem} (hdom : Free ρ m.n m'.n) (h : step g call o.op e m = some (v, m')) {next : Act → World → Prop} {Q : Exit → Act → World → Prop}
    (hnext : ∀ u ρ' w', ρ.le ρ' → VR ρ' v u → MR ρ' m'.t.get w0 w' → Ext ρ ρ' m.n m'.n → next (a.put o.dst u) w') : o.wp P a w next Q := by
  have quiet : ∀ {v}, (∃ u, VR ρ v u ∧ (execOp a.eval o).run P w = .ok (.value u) w) → (∀ u ρ' w', ρ.le ρ' → VR ρ' v u → MR ρ' m.t.get w0 w' → Ext ρ ρ' m.n m.n → next (a.put o.dst u) w') → o.wp P a w next Q := by
    rintro v ⟨u, h1, h2⟩ hn
    unfold Oper.wp
    rw [h2]
    exact hn u ρ w (Rho.le.refl ρ) h1 hm (.refl _ _ _)
  unfold step at h
  split at h
  · obtain ⟨v', h1, h2⟩ := ob_some h
    cases h2
    exact quiet (opV_ok hG k hd h1 w) hnext
  · obtain ⟨v', h1, h2⟩ := ob_some h
    cases h2
    exact quiet (opR_ok hG k hd hm hg h1) hnext
  · obtain ⟨r, h1, h2⟩ := ob_some h
    cases h2
    have hn := doLR_n m r
    refine opW_ok hG k hd hm (fun hq => hdom m.n (Nat.le_refl _) (by
      cases hr : r.new with
      | none => exact absurd hr hq
      | some o => rw [hn, hr]; exact Nat.lt_succ_self _)) h1 next Q fun u ρ' w' q1 q2 q3 q4 => hnext u ρ' w' q1 q2 (by rw [doLR_get]; exact q3) fun i hi => ?_
    rcases q4 i hi with h3 | ⟨rfl, h3⟩
    · exact .inl h3
    · refine .inr ⟨Nat.le_refl _, ?_⟩
      cases hr : r.new with
      | none => exact absurd hr h3
      | some o => rw [hn, hr]; exact Nat.lt_succ_self _
  · exact opC_ok hI hcall hwm k hd hg hm hdom h hnext
end
/-- The frame. -/
theorem opC_fm {P : Program} {g : Gl} {call : CallF} (hcall : CallOk P g call) {op : Op} {e : Env} {m : Mem} {v : AV} {m' : Mem} (h : opC g call op e m = some (v, m')) (hw : Wm m) : Fm m m' := by
  unfold opC at h
  split at h
  · obtain ⟨_, _, h⟩ := ob_some h
    obtain ⟨_, _, h⟩ := ob_some h
    split at h
    · exact hcall.fm _ _ _ _ _ h hw
    · cases h
  · obtain ⟨_, _, h⟩ := ob_some h
    obtain ⟨_, _, h⟩ := ob_some h
    split at h
    · obtain ⟨_, _, h⟩ := ob_some h
      obtain ⟨_, _, h⟩ := ob_some h
      exact hcall.fm _ _ _ _ _ h hw
    · cases h
  · cases h
theorem step_fm {P : Program} {g : Gl} {call : CallF} (hcall : CallOk P g call) {op : Op} {e : Env} {m : Mem} {v : AV} {m' : Mem} (h : step g call op e m = some (v, m')) (hw : Wm m) : Fm m m' := by
  unfold step at h
  split at h
  · obtain ⟨_, _, h⟩ := ob_some h; cases h; exact .refl _
  · obtain ⟨_, _, h⟩ := ob_some h; cases h; exact .refl _
  · obtain ⟨r, h1, h⟩ := ob_some h; cases h; exact doLR_fm (opW_up g op e m.n r h1)
  · exact opC_fm hcall h hw
end Go.Y

/- The evaluator: operations one behind the other. -/
namespace Go.Y
open Go.X (TK TyI Fr FP Tab TabOk CtxOk)
set_option linter.unusedVariables false
set_option linter.unusedSimpArgs false
set_option linter.constructorNameAsVariable false
set_option linter.unusedSectionVars false

/-- The state of a function's body. -/
structure St (ρ : Rho) (e : Env) (m : Mem) (w0 : Base) (n : Nat) (a : Act) (w : World) : Prop where
  er : ER ρ e a
  de : a.defers = []
  sz : a.tmps.size = n
  mr : MR ρ m.t.get w0 w
  wm : Wm m
def dstOk (n : Nat) (os : List Oper) : Bool := os.all fun o => match o.dst with
  | none => true
  | some d => Nat.blt d n
theorem wanted_ok {ρ : Rho} {e : Env} {a : Act} {all : List Oper} {o : Oper} {b : Bool} (k : ER ρ e a) (h : wanted all o e = some b) : Region.wanted o (yielded ⟨all⟩ a.tmps) = b := by
  unfold wanted at h
  unfold Region.wanted
  split at h
  · rename_i hg; cases h; rw [hg]
  · rename_i j wt hg
    rw [hg]
    obtain ⟨oj, h1, h⟩ := ob_some h
    rw [lget_eq] at h1
    cases hd : oj.dst with
    | none => rw [hd] at h; cases h
    | some d =>
      rw [hd] at h
      obtain ⟨v, h2, h⟩ := ob_some h
      obtain ⟨u, h3, h4⟩ := k d v h2
      have hy : yielded ⟨all⟩ a.tmps j = (match u with | .bool b => some b | _ => none) := by
        unfold yielded
        have : (⟨all⟩ : Array Oper)[j]? = some oj := by simpa using h1
        simp only [this, Option.bind_some, hd, h3]
        cases u <;> rfl
      cases v <;> try cases h
      · have := h4.bool_inv; subst this
        simp only [hy]
        have fin : ∀ c : Bool, (some c == some wt) = beqB c wt := fun c => by cases c <;> cases wt <;> rfl
        exact fin _
      · simp only [VR] at h4
        obtain ⟨l', rfl, _⟩ := h4
        simp only [hy]
        rfl
theorem St.put {ρ ρ' : Rho} {e : Env} {m m' : Mem} {w0 : Base} {w w' : World} {n : Nat} {a : Act} (h : St ρ e m w0 n a w) {d : Option Tmp} (hd : (match d with | none => true | some d => Nat.blt d n) = true) {v : AV} {u : Value} (hle : ρ.le ρ') (hv : VR ρ' v u) (hm : MR ρ' m'.t.get w0 w') (hwm : Wm m') :
    St ρ' (Go.Y.put e d v) m' w0 n (a.put d u) w' := by
  refine ⟨(h.er.mono hle).put hv fun t ht => ?_, ?_, ?_, hm, hwm⟩
  · subst ht; rw [h.sz]; simpa [nblt] using hd
  · cases d <;> exact h.de
  · cases d with
    | none => exact h.sz
    | some d => simp [Act.put, h.sz]
theorem evalOps_fm {P : Program} {g : Gl} {call : CallF} (hcall : CallOk P g call) {all : List Oper} : ∀ {os : List Oper} {e : Env} {m : Mem} {e' : Env} {m' : Mem}, evalOps g call all os e m = some (e', m') → Wm m → Fm m m'
  | [], e, m, e', m', h, _ => by cases h; exact .refl m
  | o :: os, e, m, e', m', h, hw => by
    obtain ⟨b, h1, h⟩ := ob_some (show ob (wanted all o e) (fun b => match b with
      | true => ob (stepF g call o.op e m) fun r => evalOps g call all os (put e o.dst r.1) r.2
      | false => evalOps g call all os (put e o.dst (.tup [])) m) = some (e', m') from h)
    cases b with
    | true =>
      obtain ⟨⟨v, m1⟩, h2, h⟩ := ob_some h
      rw [stepF_eq] at h2
      have f1 := step_fm hcall h2 hw
      exact f1.trans (evalOps_fm hcall h (f1.wm hw))
    | false => exact evalOps_fm hcall h hw
section
variable {P : Program} {tab : Tab} {g : Gl} (hG : GOk P tab g) (hI : GInv P g) {w0 : Base} {call : CallF} {n : Nat}
include hG hI
theorem evalOps_ok (hcall : CallOk P g call) (hg : GlOk g w0) {all : List Oper} {Q : Exit → Act → World → Prop} : ∀ {os : List Oper} {ρ : Rho} {e : Env} {m : Mem} {a : Act} {w : World} {e' : Env} {m' : Mem}, dstOk n os = true → St ρ e m w0 n a w → evalOps g call all os e m = some (e', m') → Free ρ m.n m'.n →
    (∀ ρ' a' w', ρ.le ρ' → Ext ρ ρ' m.n m'.n → St ρ' e' m' w0 n a' w' → Q .normal a' w') → wpList P ⟨all⟩ Q os a w
  | [], ρ, e, m, a, w, e', m', _, hs, h, _, hq => by cases h; exact hq ρ a w (.refl _) (.refl _ _ _) hs
  | o :: os, ρ, e, m, a, w, e', m', ho, hs, h, hf, hq => by
    obtain ⟨b, h1, h⟩ := ob_some (show ob (wanted all o e) (fun b => match b with
      | true => ob (stepF g call o.op e m) fun r => evalOps g call all os (put e o.dst r.1) r.2
      | false => evalOps g call all os (put e o.dst (.tup [])) m) = some (e', m') from h)
    have hw := wanted_ok hs.er h1
    simp only [dstOk, List.all_cons, Bool.and_eq_true] at ho
    refine wpList_step fun K hK => ?_
    cases b with
    | true =>
      rw [if_pos hw]
      obtain ⟨⟨v, m1⟩, h2, h⟩ := ob_some h
      rw [stepF_eq] at h2
      have f1 := step_fm hcall h2 hs.wm
      have f2 := evalOps_fm hcall h (f1.wm hs.wm)
      refine step_ok hG hI hcall hs.wm hg hs.er hs.de hs.mr (hf.sub f2.n) h2 fun u ρ' w' q1 q2 q3 q4 => hK _ _ ?_
      exact evalOps_ok hcall hg ho.2 (hs.put ho.1 q1 q2 q3 (f1.wm hs.wm)) h (hf.ext q4 f1.n) fun ρ'' a'' w'' r1 r2 r3 => hq ρ'' a'' w'' (q1.trans r1) (q4.trans r2 f1.n f2.n) r3
    | false =>
      rw [if_neg (by rw [hw]; exact Bool.false_ne_true)]
      refine hK _ _ ?_
      exact evalOps_ok hcall hg ho.2 (hs.put (u := undef) ho.1 (Rho.le.refl ρ) (by simp only [VR]; exact ⟨[], rfl, .nil⟩) hs.mr hs.wm) h hf hq
end
end Go.Y

/- The evaluator: what an operation does hangs on its operands' slots and on what it touches. -/
namespace Go.Y
open Go.X (TK TyI Fr FP Tab TabOk CtxOk)
set_option linter.unusedVariables false
set_option linter.unusedSimpArgs false
set_option linter.constructorNameAsVariable false
set_option linter.unusedSectionVars false

section
variable {e e' : Env}
theorem evs_congr : ∀ {xs : List Operand}, (∀ x ∈ xs, ev e x = ev e' x) → evs e xs = evs e' xs
  | [], _ => rfl
  | x :: xs, h => by
    show ob (ev e x) (fun v => ob (evs e xs) fun vs => some (v :: vs)) = ob (ev e' x) (fun v => ob (evs e' xs) fun vs => some (v :: vs))
    rw [h x (by simp), evs_congr fun y hy => h y (by simp [hy])]
theorem parts_congr : ∀ {xs : List (Nat × Operand)}, (∀ x ∈ xs, ev e x.2 = ev e' x.2) → parts e xs = parts e' xs
  | [], _ => rfl
  | x :: xs, h => by
    show ob (ev e x.2) (fun v => ob (parts e xs) fun vs => some ((x.1, v) :: vs)) = ob (ev e' x.2) (fun v => ob (parts e' xs) fun vs => some ((x.1, v) :: vs))
    rw [h x (by simp), parts_congr fun y hy => h y (by simp [hy])]
theorem optN_congr {x : Option Operand} {d : Nat} (h : ∀ y, x = some y → ev e y = ev e' y) : optN e x d = optN e' x d := by
  cases x with
  | none => rfl
  | some y => simp only [optN, h y rfl]
theorem sliceV_congr {g : Gl} {t : TypeId} {v : AV} {lo hi mx : Option Operand} (h1 : ∀ y, lo = some y → ev e y = ev e' y) (h2 : ∀ y, hi = some y → ev e y = ev e' y) (h3 : ∀ y, mx = some y → ev e y = ev e' y) : sliceV g t v e lo hi mx = sliceV g t v e' lo hi mx := by
  unfold sliceV
  rw [show optN e lo 0 = optN e' lo 0 from optN_congr h1]
  have h4 : ∀ d, optN e hi d = optN e' hi d := fun d => optN_congr h2
  have h5 : ∀ d, optN e mx d = optN e' mx d := fun d => optN_congr h3
  cases mx with
  | none => simp only [h4, h5]
  | some m => simp only [h4, h5, h3 m rfl]
theorem opV_congr {g : Gl} {op : Op} (h : ∀ x ∈ op.operands.toList, ev e x = ev e' x) : opV g op e = opV g op e' := by
  cases op <;> (try rfl) <;> simp only [opV]
  case call c =>
    obtain ⟨cl, args, ts⟩ := c
    cases cl <;> (try rfl)
    simp only [evs_congr (xs := args.toList) fun x hx => h x (by simp [Op.operands, Call.operands]; simpa using hx)]
  case build t ps => rw [parts_congr fun x hx => h x.2 (by simp [Op.operands]; exact ⟨x.1, by simpa using hx⟩)]
  case makeFunc fn a b =>
    cases fn <;> (try rfl)
    simp only []
    rw [evs_congr (xs := a.toList) fun x hx => h x (by simp [Op.operands]; exact .inl (by simpa using hx)), evs_congr (xs := b.toList) fun x hx => h x (by simp [Op.operands]; exact .inr (by simpa using hx))]
  case slice t x lo hi mx =>
    rw [h x (by simp [Op.operands])]
    congr 1; funext v
    exact sliceV_congr (fun y hy => h y (by simp [Op.operands, hy])) (fun y hy => h y (by simp [Op.operands, hy])) (fun y hy => h y (by simp [Op.operands, hy]))
  all_goals simp only [Op.operands, List.mem_cons, List.not_mem_nil, or_false, forall_eq_or_imp, forall_eq] at h
  all_goals simp only [h]
theorem opR_congr {g : Gl} {op : Op} {f : Nat → Option AObj} (h : ∀ x ∈ op.operands.toList, ev e x = ev e' x) : opR g op e f = opR g op e' f := by
  cases op <;> (try rfl) <;> simp only [opR]
  case call c =>
    obtain ⟨cl, args, ts⟩ := c
    cases cl <;> (try rfl)
    rename_i b
    cases b <;> (try rfl)
    simp only [evs_congr (xs := args.toList) fun x hx => h x (by simp [Op.operands, Call.operands]; simpa using hx)]
  all_goals simp only [Op.operands, List.mem_cons, List.not_mem_nil, or_false, forall_eq_or_imp, forall_eq] at h
  all_goals simp only [h]
theorem opW_congr {g : Gl} {op : Op} {f : Nat → Option AObj} {n : Nat} (h : ∀ x ∈ op.operands.toList, ev e x = ev e' x) : opW g op e f n = opW g op e' f n := by
  cases op <;> (try rfl)
  case call c =>
    obtain ⟨cl, args, ts⟩ := c
    cases cl <;> (try rfl)
    rename_i b
    simp only [opW, evs_congr (xs := args.toList) fun x hx => h x (by simp [Op.operands, Call.operands]; simpa using hx)]
  case buildSlice t k ps =>
    simp only [opW, parts_congr (xs := ps.toList) fun x hx => h x.2 (by simp [Op.operands]; exact ⟨x.1, by simpa using hx⟩)]
  case makeMap t r => cases r <;> rfl
  case next x b =>
    simp only [Op.operands, List.mem_cons, List.not_mem_nil, or_false, forall_eq_or_imp, forall_eq] at h
    cases b <;> simp only [opW, h]
  all_goals simp only [Op.operands, List.mem_cons, List.not_mem_nil, or_false, forall_eq_or_imp, forall_eq] at h
  all_goals simp only [opW, h]
theorem opC_congr {g : Gl} {call : CallF} {op : Op} {m : Mem} (h : ∀ x ∈ op.operands.toList, ev e x = ev e' x) : opC g call op e m = opC g call op e' m := by
  cases op <;> (try rfl)
  rename_i c
  obtain ⟨cl, args, ts⟩ := c
  cases cl <;> (try rfl)
  · rename_i fo
    simp only [opC, evs_congr (xs := args.toList) fun x hx => h x (by simp [Op.operands, Call.operands]; exact .inr (by simpa using hx)), h fo (by simp [Op.operands, Call.operands])]
  · rename_i r name
    simp only [opC, evs_congr (xs := args.toList) fun x hx => h x (by simp [Op.operands, Call.operands]; exact .inr (by simpa using hx)), h r (by simp [Op.operands, Call.operands])]
end
/-- The slots that an operation reads. -/
def tmpOf : Operand → List Nat
  | .tmp t => [t]
  | _ => []
def slotsOf (all : List Oper) (o : Oper) : List Nat := o.op.operands.toList.flatMap tmpOf ++ (match o.guard with
  | none => []
  | some (j, _) => match all[j]? with
    | some oj => oj.dst.toList
    | none => [])
theorem ev_slots {e e' : Env} {all : List Oper} {o : Oper} (h : ∀ t ∈ slotsOf all o, e.get t = e'.get t) : ∀ x ∈ o.op.operands.toList, ev e x = ev e' x := fun x hx => by
  cases x with
  | tmp t => exact h t (List.mem_append.2 (.inl (List.mem_flatMap.2 ⟨.tmp t, hx, by simp [tmpOf]⟩)))
  | const c => rfl
  | global g => rfl
  | func f => rfl
theorem wanted_congr {e e' : Env} {all : List Oper} {o : Oper} (h : ∀ t ∈ slotsOf all o, e.get t = e'.get t) : wanted all o e = wanted all o e' := by
  unfold wanted
  cases hg : o.guard with
  | none => rfl
  | some p =>
    obtain ⟨j, b⟩ := p
    simp only [lget_eq]
    cases hj : all[j]? with
    | none => rfl
    | some oj =>
      show (match oj.dst with | some d => ob (e.get d) _ | none => none) = (match oj.dst with | some d => ob (e'.get d) _ | none => none)
      cases hd : oj.dst with
      | none => rfl
      | some d =>
        have : e.get d = e'.get d := h d (List.mem_append.2 (.inr (by simp [hg, hj, hd])))
        simp only [this]
/-! ### what is touched -/
section
variable {f f' : Nat → Option AObj} {e : Env} {g : Gl}
theorem cells_congr {i : Nat} (h : f i = f' i) : cellsOf f i = cellsOf f' i := by unfold cellsOf; rw [h]
theorem map_congr {i : Nat} (h : f i = f' i) : mapOf f i = mapOf f' i := by unfold mapOf; rw [h]
theorem opR_tch {op : Op} {l : List Nat} (ht : tchR op e = some l) (h : ∀ i ∈ l, f i = f' i) : opR g op e f = opR g op e f' := by
  cases op <;> try cases ht
  case load t x =>
    obtain ⟨v, h1, h2⟩ := ob_some (show ob (ev e x) (fun p => some (idsOf p)) = some l from ht)
    cases h2
    simp only [opR, h1, ob]
    cases v <;> try rfl
    case ptr i o => simp only [cells_congr (h i (by simp [idsOf]))]
  case lookup t x i ok =>
    obtain ⟨v, h1, h2⟩ := ob_some (show ob (ev e x) (fun p => some (idsOf p)) = some l from ht)
    cases h2
    simp only [opR, h1, ob]
    cases v <;> try rfl
    case map j => simp only [map_congr (h j (by simp [idsOf]))]
  case call c =>
    obtain ⟨cl, args, ts⟩ := c
    cases cl <;> try cases ht
    rename_i b
    cases b <;> try cases ht
    obtain ⟨vs, h1, h2⟩ := ob_some (show ob (evs e args.toList) (fun vs => match vs with
      | [v] => some (idsOf v)
      | _ => none) = some l from ht)
    split at h2
    · rename_i v
      cases h2
      simp only [opR, h1, ob]
      cases v <;> try rfl
      case map j => simp only [map_congr (h j (by simp [idsOf]))]
    · cases h2
theorem content_congr {v : AV} {z : Nat} (h : ∀ i ∈ idsOf v, f i = f' i) : content f v z = content f' v z := by
  cases v <;> try rfl
  case sl i o n c => simp only [content, cells_congr (h i (by simp [idsOf]))]
  case su i o n z => simp only [content, cells_congr (h i (by simp [idsOf]))]
theorem opW_tch {op : Op} {n : Nat} {l : List Nat} (ht : tchW op e = some l) (h : ∀ i ∈ l, f i = f' i) : opW g op e f n = opW g op e f' n := by
  cases op <;> try cases ht
  case alloc t => rfl
  case box t x => rfl
  case buildSlice t k ps => rfl
  case makeMap t r => cases r <;> rfl
  case makeSlice t a b => rfl
  case store t x y =>
    obtain ⟨v, h1, h2⟩ := ob_some (show ob (ev e x) (fun p => some (idsOf p)) = some l from ht)
    cases h2
    simp only [opW, h1, ob]
    cases v <;> try rfl
    case ptr i o => simp only [cells_congr (h i (by simp [idsOf]))]
  case mapUpdate t x k y =>
    obtain ⟨v, h1, h2⟩ := ob_some (show ob (ev e x) (fun p => some (idsOf p)) = some l from ht)
    cases h2
    simp only [opW, h1, ob]
    cases v <;> try rfl
    case map j => simp only [map_congr (h j (by simp [idsOf]))]
  case call c =>
    obtain ⟨cl, args, ts⟩ := c
    cases cl <;> try cases ht
    rename_i b
    cases b <;> try cases ht
    case append =>
      obtain ⟨vs, h1, h2⟩ := ob_some (show ob (evs e args.toList) (fun vs => match vs with
        | [s, x] => some (app (idsOf s) (idsOf x))
        | _ => none) = some l from ht)
      split at h2
      · rename_i s x
        cases h2
        rw [app_eq] at h
        have hs : ∀ i ∈ idsOf s, f i = f' i := fun i hi => h i (List.mem_append.2 (.inl hi))
        have hx : ∀ i ∈ idsOf x, f i = f' i := fun i hi => h i (List.mem_append.2 (.inr hi))
        simp only [opW, h1, ob]
        unfold appendV
        simp only [content_congr hx, content_congr hs]
        cases s <;> (try rfl)
        case sl i o n c => simp only [cells_congr (hs i (by simp [idsOf]))]
        case su i o n z => simp only [cells_congr (hs i (by simp [idsOf]))]
      · cases h2
    case copy =>
      obtain ⟨vs, h1, h2⟩ := ob_some (show ob (evs e args.toList) (fun vs => match vs with
        | [s, x] => some (app (idsOf s) (idsOf x))
        | _ => none) = some l from ht)
      split at h2
      · rename_i s x
        cases h2
        rw [app_eq] at h
        have hs : ∀ i ∈ idsOf s, f i = f' i := fun i hi => h i (List.mem_append.2 (.inl hi))
        have hx : ∀ i ∈ idsOf x, f i = f' i := fun i hi => h i (List.mem_append.2 (.inr hi))
        simp only [opW, h1, ob]
        simp only [content_congr hx]
        cases s <;> (try rfl)
        case sl i o n c => simp only [cells_congr (hs i (by simp [idsOf]))]
        case su i o n z =>
          cases n with
          | zero => rfl
          | succ n => simp only [cells_congr (hs i (by simp [idsOf]))]
      · cases h2
    case delete =>
      obtain ⟨vs, h1, h2⟩ := ob_some (show ob (evs e args.toList) (fun vs => match vs with
        | [s, _] => some (idsOf s)
        | _ => none) = some l from ht)
      split at h2
      · rename_i s x
        cases h2
        simp only [opW, h1, ob]
        cases s <;> (try rfl)
        case map j => simp only [map_congr (h j (by simp [idsOf]))]
      · cases h2
end
end Go.Y

/- The evaluator: regions that draw their order: the trace, the order, what is read and written. -/
namespace Go.Y
open Go.X (TK TyI Fr FP Tab TabOk CtxOk depsOf backB closB)
set_option linter.unusedVariables false
set_option linter.unusedSimpArgs false
set_option linter.constructorNameAsVariable false
set_option linter.unusedSectionVars false

/-! ### the last one that writes -/
def fo {V : Type} (wr : Nat → Nat → Option V) (S : Nat → Bool) (f : Nat → V) : Nat → Nat → V
  | 0, k => f k
  | n + 1, k => match S n, wr n k with
    | true, some v => v
    | _, _ => fo wr S f n k
section
variable {V : Type} {wr : Nat → Nat → Option V} {S S' : Nat → Bool} {f : Nat → V} {k : Nat}
theorem fo_congr : ∀ {n : Nat}, (∀ j, j < n → wr j k ≠ none → S j = S' j) → fo wr S f n k = fo wr S' f n k
  | 0, _ => rfl
  | n + 1, h => by
    have ih := fo_congr (n := n) fun j hj => h j (by omega)
    unfold fo
    cases hw : wr n k with
    | none => cases S n <;> cases S' n <;> exact ih
    | some v =>
      rw [h n (by omega) (by rw [hw]; simp)]
      cases S' n with
      | true => rfl
      | false => exact ih
theorem fo_upto {i : Nat} : ∀ {n : Nat}, i ≤ n → fo wr (fun j => decide (j < i)) f n k = fo wr (fun _ => true) f i k
  | 0, h => by obtain rfl : i = 0 := by omega
               rfl
  | n + 1, h => by
    by_cases hi : i = n + 1
    · subst hi
      exact fo_congr fun j hj _ => by simpa using hj
    · have ih := fo_upto (n := n) (show i ≤ n by omega)
      rw [← ih]
      show (match decide (n < i), wr n k with
        | true, some v => v
        | _, _ => fo wr (fun j => decide (j < i)) f n k) = _
      rw [decide_eq_false (by omega)]
theorem fo_trace {X : Nat → Nat → V} (h0 : X 0 k = f k) : ∀ {n : Nat}, (∀ i, i < n → X (i + 1) k = match wr i k with | some v => v | none => X i k) → fo wr (fun _ => true) f n k = X n k
  | 0, _ => h0.symm
  | n + 1, h => by
    have ih := fo_trace (n := n) h0 fun i hi => h i (by omega)
    rw [h n (by omega)]
    show (match true, wr n k with
        | true, some v => v
        | _, _ => fo wr (fun _ => true) f n k) = _
    cases wr n k with
    | none => exact ih
    | some v => rfl
end
/-! ### bits -/
theorem bit_eq (m i : Nat) : bit m i = m.testBit i := by
  rw [Nat.testBit_eq_decide_div_mod_eq]
  show Nat.beq ((m >>> i) &&& 1) 1 = _
  rw [nbeq, Nat.and_one_is_mod, Nat.shiftRight_eq_div_pow]
theorem bit_lor {a b j : Nat} (h : bit (Nat.lor a b) j = true) : bit a j = true ∨ bit b j = true := by
  rw [bit_eq] at h ⊢
  rw [bit_eq]
  have : (a ||| b).testBit j = true := h
  rwa [Nat.testBit_or, Bool.or_eq_true] at this
theorem bit_one {d j : Nat} (h : bit (Nat.shiftLeft 1 d) j = true) : j = d := by
  rw [bit_eq] at h
  have : (1 <<< d).testBit j = true := h
  rw [Nat.one_shiftLeft, Nat.testBit_two_pow] at this
  have := of_decide_eq_true this
  exact this.symm
theorem bit_zero (j : Nat) : bit 0 j = false := by rw [bit_eq, Nat.zero_testBit]
theorem mask_bit {acc : T Nat} : ∀ {ds : List Nat} {j : Nat}, bit (mask acc ds) j = true → ∃ d ∈ ds, (∃ q, acc.get d = some q ∧ bit q j = true) ∨ j = d
  | [], j, h => by rw [show mask acc [] = 0 from rfl, bit_zero] at h; cases h
  | d :: ds, j, h => by
    have h : bit (match acc.get d with
      | some q => Nat.lor (Nat.lor q (Nat.shiftLeft 1 d)) (mask acc ds)
      | none => mask acc ds) j = true := h
    cases hq : acc.get d with
    | none =>
      rw [hq] at h
      obtain ⟨d', h1, h2⟩ := mask_bit h
      exact ⟨d', by simp [h1], h2⟩
    | some q =>
      rw [hq] at h
      rcases bit_lor h with h | h
      · rcases bit_lor h with h | h
        · exact ⟨d, by simp, .inl ⟨q, hq, h⟩⟩
        · exact ⟨d, by simp, .inr (bit_one h)⟩
      · obtain ⟨d', h1, h2⟩ := mask_bit h
        exact ⟨d', by simp [h1], h2⟩
theorem masks_old : ∀ {os : List Oper} {k j : Nat} {acc : T Nat}, j < k → (masksGo os k acc).get j = acc.get j
  | [], _, _, _, _ => rfl
  | o :: os, k, j, acc, hj => by
    show (nat1 (mask acc (depsOf o)) fun q => masksGo os (k + 1) (acc.set q k)).get j = _
    rw [nat1_eq, masks_old (by omega), T.get_set, if_neg (by omega)]
theorem masks_at : ∀ {os : List Oper} {k : Nat} {acc : T Nat} {i : Nat} {o : Oper}, os[i]? = some o → ∃ acc', (masksGo os k acc).get (k + i) = some (mask acc' (depsOf o)) ∧ ∀ j, j < k + i → acc'.get j = (masksGo os k acc).get j
  | [], _, _, _, _, h => by simp at h
  | x :: os, k, acc, 0, o, h => by
    obtain rfl : x = o := by simpa using h
    refine ⟨acc, ?_, fun j hj => (masks_old hj).symm⟩
    show (nat1 (mask acc (depsOf x)) fun q => masksGo os (k + 1) (acc.set q k)).get k = _
    rw [nat1_eq, masks_old (by omega), T.get_set, if_pos rfl]
  | x :: os, k, acc, i + 1, o, h => by
    obtain ⟨acc', h1, h2⟩ := masks_at (os := os) (k := k + 1) (acc := acc.set (mask acc (depsOf x)) k) (i := i) (o := o) (by simpa using h)
    have e : masksGo (x :: os) k acc = masksGo os (k + 1) (acc.set (mask acc (depsOf x)) k) := by
      show (nat1 (mask acc (depsOf x)) fun q => masksGo os (k + 1) (acc.set q k)) = _
      rw [nat1_eq]
    rw [e]
    exact ⟨acc', by rw [← h1]; congr 1; omega, fun j hj => h2 j (by omega)⟩
/-- What lies before an operation. -/
noncomputable def before (ops : List Oper) (i : Nat) : List Nat := (List.range ops.length).filter fun j => bit (((masks ops).get i).getD 0) j
theorem ord_mem {ops : List Oper} {i j : Nat} (hi : i < ops.length) (h : ord (masks ops) i j = true) : i ∈ before ops j := by
  unfold ord at h
  unfold before
  rw [List.mem_filter]
  cases hq : (masks ops).get j with
  | none => rw [hq] at h; cases h
  | some q => rw [hq] at h; exact ⟨List.mem_range.2 hi, h⟩
theorem closB_of {ops : List Oper} {u : Nat → List Nat} (h : ∀ i o, ops[i]? = some o → ∀ j ∈ u i, j ∈ depsOf o ∨ ∃ d ∈ depsOf o, j ∈ u d) : ∀ n, closB ops u n = true
  | 0 => rfl
  | n + 1 => by
    unfold closB
    rw [closB_of h n, Bool.and_true]
    split
    · rename_i o ho
      rw [List.all_eq_true]
      intro j hj
      rw [Bool.or_eq_true]
      rcases h n o ho j hj with h1 | ⟨d, h1, h2⟩
      · exact .inl (by simpa using h1)
      · exact .inr (List.any_eq_true.2 ⟨d, h1, by simpa using h2⟩)
    · rfl
theorem before_clos {ops : List Oper} (hb : backB ops 0 = true) (n : Nat) : closB ops (before ops) n = true := by
  refine closB_of (fun i o ho j hj => ?_) n
  obtain ⟨h1, h2⟩ := List.mem_filter.1 hj
  obtain ⟨acc, h3, h4⟩ := masks_at (k := 0) (acc := .e) ho
  rw [Nat.zero_add] at h3
  have h3 : (masks ops).get i = some (mask acc (depsOf o)) := h3
  rw [h3] at h2
  obtain ⟨d, h5, h6⟩ := mask_bit h2
  have hd := (Go.X.backB_spec hb i o ho).1 d h5
  rw [Nat.zero_add] at hd
  rcases h6 with ⟨q, h6, h7⟩ | rfl
  · refine .inr ⟨d, h5, ?_⟩
    have h8 : (masks ops).get d = some q := by rw [← h6]; exact (h4 d (by omega)).symm
    refine List.mem_filter.2 ⟨h1, ?_⟩
    rw [h8]; exact h7
  · exact .inl h5
/-! ### the trace -/
theorem trace_some {g : Gl} {call : CallF} {all : List Oper} : ∀ {os : List Oper} {e : Env} {m : Mem} {rs : List Rec} {e' : Env} {m' : Mem}, trace g call all os e m = some (rs, e', m') →
    ∃ (E : Nat → Env) (M : Nat → Mem), E 0 = e ∧ M 0 = m ∧ E os.length = e' ∧ M os.length = m' ∧ ∀ i o, os[i]? = some o → ∃ r, rs[i]? = some r ∧ stepD g call all o (E i) (M i) = some r ∧ E (i + 1) = put (E i) o.dst r.v ∧ M (i + 1) = r.m1
  | [], e, m, rs, e', m', h => by
    cases h
    exact ⟨fun _ => e, fun _ => m, rfl, rfl, rfl, rfl, fun i o h => by simp at h⟩
  | o :: os, e, m, rs, e', m', h => by
    obtain ⟨r, h1, h⟩ := ob_some (show ob (stepDG g call all o e m) (fun r => ob (trace g call all os (put e o.dst r.v) r.m1) fun q => some (r :: q.1, q.2)) = some (rs, e', m') from h)
    rw [stepDG_eq] at h1
    obtain ⟨⟨rs', e1, m1⟩, h2, h⟩ := ob_some h
    cases h
    obtain ⟨E, M, a1, a2, a3, a4, a5⟩ := trace_some h2
    refine ⟨fun i => match i with | 0 => e | i + 1 => E i, fun i => match i with | 0 => m | i + 1 => M i, rfl, rfl, a3, a4, fun i x hx => ?_⟩
    cases i with
    | zero =>
      obtain rfl : o = x := by simpa using hx
      exact ⟨r, rfl, h1, a1, a2⟩
    | succ i => 
      obtain ⟨r', b1, b2, b3, b4⟩ := a5 i x (by simpa using hx)
      exact ⟨r', by simpa using b1, b2, b3, b4⟩
/-- Does an operation write a name? -/
def wrt (r : Rec) (k : Nat) : Bool := match r.call with
  | true => inW r k
  | false => r.w.contains k
theorem inW_iff {r : Rec} {k : Nat} : inW r k = true ↔ r.lo ≤ k ∧ k < r.hi := by
  unfold inW
  rw [Bool.and_eq_true, nblt, decide_eq_true_iff]
  exact ⟨fun h => ⟨Nat.le_of_ble_eq_true h.1, h.2⟩, fun h => ⟨Nat.ble_eq_true_of_le h.1, h.2⟩⟩
theorem wids_mem {r : LR} {n k : Nat} : k ∈ wids r n ↔ (∃ x, r.up = some x ∧ k = x.1) ∨ (r.new ≠ none ∧ k = n) := by
  unfold wids
  cases r.up <;> cases r.new <;> simp
theorem applyF_out {f : Nat → Option AObj} {r : LR} {n k : Nat} (h : k ∉ wids r n) : applyF f r n k = f k := by
  rw [wids_mem] at h
  unfold applyF
  cases hu : r.up <;> cases hn : r.new
  · rfl
  · exact updF_ne fun e => h (.inr ⟨by rw [hn]; simp, e⟩)
  · exact updF_ne fun e => h (.inl ⟨_, hu, e⟩)
  · show updF (updF f _ _) n _ k = _
    rw [updF_ne fun e => h (.inr ⟨by rw [hn]; simp, e⟩)]
    exact updF_ne fun e => h (.inl ⟨_, hu, e⟩)
theorem applyF_in {f f' : Nat → Option AObj} {r : LR} {n k : Nat} (h : k ∈ wids r n) : applyF f r n k = applyF f' r n k := by
  rw [wids_mem] at h
  unfold applyF updF
  cases hu : r.up <;> cases hn : r.new <;> simp only [hu, hn] at h ⊢
  · simp at h
  · have : k = n := by simpa using h
    simp [this]
  · rcases h with ⟨x, h1, h2⟩ | h
    · cases h1; simp [h2]
    · exact absurd rfl h.1
  · by_cases hkn : k = n
    · simp [hkn]
    · rcases h with ⟨x, h1, h2⟩ | h
      · cases h1; simp [h2]
      · exact absurd h.2 hkn
theorem stepD_frame {P : Program} {g : Gl} {call : CallF} (hcall : CallOk P g call) {all : List Oper} {o : Oper} {e : Env} {m : Mem} {r : Rec} (h : stepD g call all o e m = some r) (hw : Wm m) : Fm m r.m1 ∧ ∀ k, wrt r k = false → r.m1.t.get k = m.t.get k := by
  obtain ⟨b, h1, h⟩ := ob_some h
  cases b with
  | false => cases h; exact ⟨.refl m, fun _ _ => rfl⟩
  | true =>
    simp only at h
    split at h
    · obtain ⟨v, h2, h⟩ := ob_some h; cases h; exact ⟨.refl m, fun _ _ => rfl⟩
    · obtain ⟨t, h2, h⟩ := ob_some h
      obtain ⟨v, h3, h⟩ := ob_some h; cases h; exact ⟨.refl m, fun _ _ => rfl⟩
    · obtain ⟨t, h2, h⟩ := ob_some h
      obtain ⟨q, h3, h⟩ := ob_some h
      cases h
      refine ⟨doLR_fm (opW_up g o.op e m.n q h3), fun k hk => ?_⟩
      show (doLR m q).t.get k = _
      rw [doLR_get]
      refine applyF_out fun hm => ?_
      have : (wids q m.n).contains k = false := hk
      rw [List.contains_eq_mem, decide_eq_false_iff_not] at this
      exact this hm
    · obtain ⟨q, h2, h⟩ := ob_some h
      obtain ⟨v, m'⟩ := q
      cases h
      have hw' : Wm ⟨m.n, m.t, m.n⟩ := hw
      have hf := opC_fm hcall h2 hw'
      have hlw : m'.lw ≤ m.n := hf.lw
      refine ⟨⟨hf.n, ?_, fun i h1 h2 => ?_, fun _ => hf.wm hw'⟩, fun k hk => ?_⟩
      · show (match Nat.ble m'.lw m.lw with | true => m'.lw | false => m.lw) ≤ m.lw
        cases hb : Nat.ble m'.lw m.lw with
        | true => exact Nat.le_of_ble_eq_true hb
        | false => exact Nat.le_refl _
      · have h1 : i < (match Nat.ble m'.lw m.lw with | true => m'.lw | false => m.lw) := h1
        refine hf.get i ?_ h2
        cases hb : Nat.ble m'.lw m.lw with
        | true => rw [hb] at h1; exact h1
        | false =>
          rw [hb] at h1
          have : ¬ m'.lw ≤ m.lw := fun hh => by rw [Nat.ble_eq_true_of_le hh] at hb; cases hb
          simp only at h1
          omega
      · have hk : ¬ (m'.lw ≤ k ∧ k < m'.n) := fun hh => by
          have hk : inW ⟨true, v, [], [], m'.lw, m'.n, m'⟩ k = false := hk
          rw [inW_iff.2 hh] at hk; cases hk
        by_cases hkn : k < m.n
        · have := hf.n
          have hn : m.n ≤ m'.n := hf.n
          exact hf.get k (by omega) hkn
        · show m'.t.get k = m.t.get k
          have hn : m.n ≤ m'.n := hf.n
          rw [hw k (by omega), hf.wm hw' k (by omega)]
end Go.Y
