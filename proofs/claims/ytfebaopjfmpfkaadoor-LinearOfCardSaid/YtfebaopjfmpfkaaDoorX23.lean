/- Regions that draw their order, run one operation after the other, maybe behind a front that only reads. -/
import Derived.Test.YtfebaopjfmpfkaaDoorX22
namespace Go.X
set_option linter.unusedVariables false
set_option linter.unusedSimpArgs false

section
variable {C : Ctx} {o : Oper} {e : Env} {L : List Chunk} {K : Value → Prop} {a : Act}

/-- Does what this operation yields hang on no memory? -/
def pureV (C : Ctx) (o : Oper) (e : Env) : Bool := match o.op with
  | .move _ | .assign _ | .pick .. | .build .. | .nilCheck _ | .makeInterface .. | .makeFunc .. | .fieldAddr .. | .field .. | .indexAddr .. | .extract .. => true
  | .binOp _ _ x _ _ => match ev e x with
    | some (.int ..) => true
    | some (.bool _) => true
    | _ => false
  | .unOp _ _ x => match ev e x with
    | some (.bool _) => true
    | _ => false
  | .convert _ d x => match ev e x with
    | some (.int ..) => match tget C.tab d with
      | some ⟨.int _, _, _, _⟩ => true
      | _ => false
    | _ => false
  | _ => false
def XVp (C : Ctx) (o : Oper) (e : Env) (K : Value → Prop) : Prop :=
  match o.op with
  | .slice t x lo hi mx => match ev e x with
    | some v => optV e lo fun lo => optV e hi fun hi => optV e mx fun mx => ∃ r, (∀ w, (Instr.sliceAt t v lo hi mx).run C.P w = .ok r w) ∧ K r
    | none => False
  | .call { callee := .builtin b, args := args, argTypes := ts } => evs e args.toList fun vs => match b, vs with
    | .len, [.slice _ n _] => match lget ts.toList 0 with
      | some t => match tget C.tab t with
        | some ⟨.slice _, _, _, _⟩ => K (.int .i64 n)
        | _ => False
      | none => False
    | .min, [.int k a, .int _ b] => ∃ c, c = min a b ∧ K (.int k c)
    | .max, [.int k a, .int _ b] => ∃ c, c = max a b ∧ K (.int k c)
    | _, _ => False
  | _ => match pureV C o e with
    | true => XV C o e [] K
    | false => False

theorem VOkP.binOp (hT : TabOk C.P C.tab) (ha : ES C.n e a) {op : BinOp} {t t' : TypeId} {x y : Operand} (hop : o.op = .binOp op t x y t') (hp : pureV C o e = true) (h : XV C o e L K) : VOkP C o K a := by
  unfold pureV at hp
  simp only [hop] at hp
  unfold XV at h
  simp only [hop] at h
  have hs : execOp a.eval o = (do Pure.pure (Next.value (← (do eqGuard op t x y (a.eval x) (a.eval y); Go.binOp op t (a.eval x) (a.eval y)))) : Sem Next) := by simp only [execOp, hop]
  split at h
  · rename_i k p hx
    split at h
    · rename_i k' q hy
      rw [ha.eval hx, ha.eval hy] at hs
      split at h
      · obtain ⟨v, hk, hr⟩ := xbin_sound (t := t) (x := x) (y := y) (k' := k') (P := C.P) (.inl rfl) h; exact .ofPure hs hr hk
      · obtain ⟨v, hk, hr⟩ := xbin_sound (t := t) (x := x) (y := y) (k' := k') (P := C.P) (.inr (.inl rfl)) h; exact .ofPure hs hr hk
      · split at h
        · rename_i hkk
          obtain ⟨v, hk, hr⟩ := xbin_sound (t := t) (x := x) (y := y) (k' := k') (P := C.P) (.inr (.inr (kEq_eq hkk))) h; exact .ofPure hs hr hk
        · exact h.elim
    · exact h.elim
  · rename_i p hx
    split at h
    · rename_i q hy
      rw [ha.eval hx, ha.eval hy] at hs
      split at h
      · split at h
        · rename_i ht
          obtain ⟨d, hd, hk⟩ := (hT.get ht).und
          obtain rfl := kOk.bool hk
          exact .ofPure hs (fun w => by
            have e1 : ∀ (r : Sem Value), (do eqGuard .eql t x y (.bool p) (.bool q); r) = r := fun r => rfl
            rw [e1]
            show ((Op.equal t (.bool p) (.bool q)).bind _).run C.P w = _
            rw [Sem.run_bind', run_bool_eq hd]; rfl) h
        · exact h.elim
      · split at h
        · rename_i ht
          obtain ⟨d, hd, hk⟩ := (hT.get ht).und
          obtain rfl := kOk.bool hk
          exact .ofPure hs (fun w => by
            have e1 : ∀ (r : Sem Value), (do eqGuard .neq t x y (.bool p) (.bool q); r) = r := fun r => rfl
            rw [e1]
            show ((Op.equal t (.bool p) (.bool q)).bind _).run C.P w = _
            rw [Sem.run_bind', run_bool_eq hd]; rfl) h
        · exact h.elim
      · exact h.elim
    · exact h.elim
  · rename_i u h1 h2 hx
    rw [hx] at hp
    split at hp
    · rename_i heq; cases heq; exact (h1 _ _ rfl).elim
    · rename_i heq; cases heq; exact (h2 _ rfl).elim
    · cases hp
  · exact h.elim

theorem VOkP.unOp (ha : ES C.n e a) {op : UnOp} {t : TypeId} {x : Operand} (hop : o.op = .unOp op t x) (hp : pureV C o e = true) (h : XV C o e L K) : VOkP C o K a := by
  unfold pureV at hp
  simp only [hop] at hp
  unfold XV at h
  simp only [hop] at h
  split at h
  · rename_i b hx
    split at h
    · exact .ofPure (s := Op.unary .not (.bool b)) (by simp [execOp, hop, ha.eval hx]) (fun w => rfl) h
    · exact h.elim
  · rename_i v h1 hx
    rw [hx] at hp
    split at hp
    · rename_i heq; cases heq; exact (h1 _ rfl).elim
    · cases hp
  · exact h.elim

theorem VOkP.convert (hT : TabOk C.P C.tab) (ha : ES C.n e a) {s d : TypeId} {x : Operand} (hop : o.op = .convert s d x) (hp : pureV C o e = true) (h : XV C o e L K) : VOkP C o K a := by
  unfold pureV at hp
  simp only [hop] at hp
  unfold XV at h
  simp only [hop] at h
  split at h
  · rename_i k p hx
    split at h
    · rename_i k' _ _ _ hd
      split at h
      · rename_i i hs
        obtain ⟨c, rfl, hk⟩ := h
        obtain ⟨d1, hd1, hk1⟩ := (hT.get hd).und
        obtain rfl := kOk.int hk1
        obtain ⟨d2, hd2, _⟩ := (hT.get hs).und
        exact .ofPure (s := Go.convert s d (.int k p)) (by simp [execOp, hop, ha.eval hx]) (fun w => by simp [Go.convert, run_underlying' hd1, run_underlying' hd2, Conv.intToInt]) hk
      · exact h.elim
    · rename_i hno
      rw [hx] at hp
      simp only at hp
      cases hp
  · rename_i v h1 hx
    rw [hx] at hp
    split at hp
    · rename_i heq; cases heq; exact (h1 _ _ rfl).elim
    · cases hp
  · exact h.elim

theorem XVp.sound (hT : TabOk C.P C.tab) (ha : ES C.n e a) (h : XVp C o e K) : VOkP C o K a := by
  have base : (match pureV C o e with | true => XV C o e [] K | false => False) → VOkP C o K a := fun h => by
    split at h
    · rename_i hp
      have hp' := hp
      unfold pureV at hp'
      cases hop : o.op <;> simp only [hop] at hp'
      case move x => exact VOkP.move ha (.inl hop) (by unfold XV at h; simp only [hop] at h; exact h)
      case assign x => exact VOkP.move ha (.inr hop) (by unfold XV at h; simp only [hop] at h; exact h)
      case pick => exact VOkP.pick ha hop h
      case build => exact VOkP.build hT ha hop h
      case nilCheck => exact VOkP.nilCheck ha hop h
      case makeInterface => exact VOkP.makeInterface hT ha hop h
      case makeFunc => exact VOkP.makeFunc ha hop h
      case fieldAddr => exact VOkP.fieldAddr hT ha hop h
      case field => exact VOkP.field hT ha hop h
      case indexAddr => exact VOkP.indexAddr hT ha hop h
      case extract => exact VOkP.extract ha hop h
      case binOp => exact VOkP.binOp hT ha hop hp h
      case unOp => exact VOkP.unOp ha hop hp h
      case convert => exact VOkP.convert hT ha hop hp h
      all_goals cases hp'
    · exact h.elim
  unfold XVp at h
  split at h
  · rename_i t x lo hi mx hop
    split at h
    · rename_i v hx
      obtain ⟨r, hr, hk⟩ := ha.opt (ha.opt (ha.opt h))
      exact .ofPure (s := Instr.sliceAt t v (lo.map a.eval) (hi.map a.eval) (mx.map a.eval)) (by simp [execOp, hop, ha.eval hx]) hr hk
    · exact h.elim
  · rename_i b args ts hop
    have h := ha.evals h
    have he : args.map a.eval = ⟨args.toList.map a.eval⟩ := by apply Array.ext'; simp
    have hx := exec_builtin (a := a) hop
    rw [he] at hx
    generalize args.toList.map a.eval = vs at h hx
    split at h
    · split at h
      · rename_i t ht
        rw [lget_eq] at ht
        have ht' : ts[0]? = some t := by simpa using ht
        split at h
        · rename_i et _ _ _ hti
          obtain ⟨d, hd, hk⟩ := (hT.get hti).und
          obtain rfl := kOk.slice hk
          refine .ofPure (s := Builtin.len_ ts o.type _) (by rw [hx]; rfl) (fun w => ?_) h
          simp [Builtin.len_, ht', run_underlying' hd, goInt]
        · exact h.elim
      · exact h.elim
    · obtain ⟨c, rfl, hk⟩ := h
      rename_i k p k' q
      refine .ofPure (s := Builtin.min_ ts o.type ⟨[.int k p, .int k' q]⟩) (by rw [hx]; rfl) (fun w => ?_) hk
      have : min p q = if q < p then q else p := by by_cases hpq : q < p <;> simp [hpq] <;> omega
      rw [this]
      simp [Builtin.min_, Builtin.min2]
    · obtain ⟨c, rfl, hk⟩ := h
      rename_i k p k' q
      refine .ofPure (s := Builtin.max_ ts o.type ⟨[.int k p, .int k' q]⟩) (by rw [hx]; rfl) (fun w => ?_) hk
      have : max p q = if p < q then q else p := by by_cases hpq : p < q <;> simp [hpq] <;> omega
      rw [this]
      simp [Builtin.max_, Builtin.max2]
    · exact h.elim
  · exact base h
end

def memB : List Nat → Nat → Bool
  | [], _ => false
  | x :: l, i => match Nat.beq x i with
    | true => true
    | false => memB l i
theorem memB_iff : ∀ {l : List Nat} {i : Nat}, memB l i = true ↔ i ∈ l
  | [], i => by simp [memB]
  | x :: l, i => by
    simp only [memB]
    cases hb : Nat.beq x i with
    | true => have := Nat.eq_of_beq_eq_true hb; subst this; simp
    | false =>
      have : x ≠ i := fun h => by subst h; simp at hb
      simp only [memB_iff, List.mem_cons]
      exact ⟨.inr, fun h => h.resolve_left fun h => this h.symm⟩
/-- Which operations may come next: by the lists of those that each one waits for. -/
def readyF (done : List Nat) : Nat → List (List Nat) → List Nat
  | _, [] => []
  | i, d :: ds => match memB done i with
    | true => readyF done (i + 1) ds
    | false => match d.all (memB done) with
      | true => i :: readyF done (i + 1) ds
      | false => readyF done (i + 1) ds
theorem readyF_iff {done : List Nat} : ∀ {ds : List (List Nat)} {k j : Nat}, j ∈ readyF done k ds ↔ k ≤ j ∧ j ∉ done ∧ ∃ d, ds[j - k]? = some d ∧ ∀ x ∈ d, x ∈ done
  | [], k, j => by simp [readyF]
  | d :: ds, k, j => by
    have ih := readyF_iff (done := done) (ds := ds) (k := k + 1) (j := j)
    have step : (k + 1 ≤ j ∧ j ∉ done ∧ ∃ d', ds[j - (k + 1)]? = some d' ∧ ∀ x ∈ d', x ∈ done) ↔ (k ≠ j ∧ k ≤ j ∧ j ∉ done ∧ ∃ d', (d :: ds)[j - k]? = some d' ∧ ∀ x ∈ d', x ∈ done) := by
      constructor
      · rintro ⟨h1, h2, h3⟩
        rw [show j - k = (j - (k + 1)) + 1 by omega]
        exact ⟨by omega, by omega, h2, by simpa using h3⟩
      · rintro ⟨h0, h1, h2, h3⟩
        rw [show j - k = (j - (k + 1)) + 1 by omega] at h3
        exact ⟨by omega, h2, by simpa using h3⟩
    simp only [readyF]
    cases hm : memB done k with
    | true =>
      rw [ih, step]
      constructor
      · exact fun h => h.2
      · exact fun h => ⟨fun he => h.2.1 (he ▸ memB_iff.1 hm), h⟩
    | false =>
      have hk : k ∉ done := fun h => by rw [memB_iff.2 h] at hm; cases hm
      cases hd : d.all (memB done) with
      | true =>
        have hd' : ∀ x ∈ d, x ∈ done := fun x hx => memB_iff.1 (List.all_eq_true.1 hd x hx)
        rw [List.mem_cons, ih, step]
        constructor
        · rintro (rfl | h)
          · exact ⟨Nat.le_refl _, hk, d, by simp, hd'⟩
          · exact h.2
        · intro h
          by_cases he : k = j
          · exact .inl he.symm
          · exact .inr ⟨he, h⟩
      | false =>
        rw [ih, step]
        constructor
        · exact fun h => h.2
        · rintro ⟨h1, h2, d', h3, h4⟩
          refine ⟨fun he => ?_, h1, h2, d', h3, h4⟩
          subst he
          simp at h3
          subst h3
          rw [List.all_eq_true.2 fun x hx => memB_iff.2 (h4 x hx)] at hd
          cases hd
def firstIn (pures : List Nat) : List Nat → Option Nat
  | [] => none
  | r :: rs => match memB pures r with
    | true => some r
    | false => firstIn pures rs
theorem firstIn_some {pures : List Nat} : ∀ {rs : List Nat} {i : Nat}, firstIn pures rs = some i → i ∈ rs ∧ i ∈ pures
  | [], _, h => by cases h
  | r :: rs, i, h => by
    simp only [firstIn] at h
    cases hm : memB pures r with
    | true => simp [hm] at h; subst h; exact ⟨by simp, memB_iff.1 hm⟩
    | false => simp only [hm] at h; have := firstIn_some h; exact ⟨by simp [this.1], this.2⟩
def freeL (ops : List Oper) (i : Nat) : Bool := match lget ops i with
  | some oi => (List.range ops.length).all fun j => Nat.beq j i || (match lget ops j with | some oj => memB (depsOf oi) j || memB (depsOf oj) i || oi.apart ⟨ops⟩ oj | none => true)
  | none => false
def eqLL : List (List Nat) → List (List Nat) → Bool
  | [], [] => true
  | a :: l, b :: m => a.isEqv b Nat.beq && eqLL l m
  | _, _ => false
def drawOk (ops : List Oper) (deps : List (List Nat)) (pures : List Nat) : Bool := Region.noSelect ⟨ops⟩ && pures.all (freeL ops) && eqLL (ops.map depsOf) deps

def XAll (step : Nat → Prop) (rs : List Nat) : Prop := List.rec (motive := fun _ => Prop) True (fun i _ ih => step i ∧ ih) rs
def stepP (C : Ctx) (ops : List Oper) (ih : List (Nat × Bool) → Env → List Chunk → Prop) (i : Nat) (G : List (Nat × Bool)) (e : Env) (L : List Chunk) : Prop := match lget ops i with
  | some o => guardX ops G o e (fun G e => XVp C o e fun v => ih G (put C.n e o.dst v) L) (fun G e => ih G (put C.n e o.dst undef) L)
  | none => False
def stepM (C : Ctx) (ops : List Oper) (ih : List (Nat × Bool) → Env → List Chunk → Prop) (i : Nat) (G : List (Nat × Bool)) (e : Env) (L : List Chunk) : Prop := match lget ops i with
  | some o => guardX ops G o e (fun G e => XOp C o e L fun v L' => ih G (put C.n e o.dst v) L') (fun G e => ih G (put C.n e o.dst undef) L)
  | none => False
/-- The operations that are left, from where these are done. -/
def XT (C : Ctx) (ops : List Oper) (deps : List (List Nat)) (pures : List Nat) (K : Env → List Chunk → Prop) (fuel : Nat) : List Nat → List (Nat × Bool) → Env → List Chunk → Prop :=
  Nat.rec (motive := fun _ => List Nat → List (Nat × Bool) → Env → List Chunk → Prop)
    (fun done _ e L => match readyF done 0 deps with
      | [] => K e L
      | _ => False)
    (fun _ ih done G e L => match readyF done 0 deps with
      | [] => K e L
      | r :: rs => match firstIn pures (r :: rs) with
        | some i => stepP C ops (ih (i :: done)) i G e L
        | none => match rs with
          | [] => stepM C ops (ih (r :: done)) r G e L
          | rs => XAll (fun i => stepM C ops (ih (i :: done)) i G e L) (r :: rs)) fuel

theorem XAll_mem {step : Nat → Prop} : ∀ {rs : List Nat}, XAll step rs → ∀ i ∈ rs, step i
  | [], _, i, h => by cases h
  | r :: rs, ⟨h1, h2⟩, i, h => by
    rcases List.mem_cons.1 h with rfl | h
    · exact h1
    · exact XAll_mem h2 i h

theorem eqLL_eq : ∀ {a b : List (List Nat)}, eqLL a b = true → a = b
  | [], [], _ => rfl
  | [], _ :: _, h => by simp [eqLL] at h
  | _ :: _, [], h => by simp [eqLL] at h
  | a :: l, b :: m, h => by
    simp only [eqLL, Bool.and_eq_true] at h
    have key : ∀ (a b : List Nat), a.isEqv b Nat.beq = true → a = b := by
      intro a
      induction a with
      | nil => intro b h; cases b with | nil => rfl | cons _ _ => simp [List.isEqv] at h
      | cons x a ih =>
        intro b h
        cases b with
        | nil => simp [List.isEqv] at h
        | cons y b =>
          simp only [List.isEqv, Bool.and_eq_true] at h
          rw [Nat.eq_of_beq_eq_true h.1, ih b h.2]
    rw [key a b h.1, eqLL_eq h.2]

section
variable {C : Ctx} {ops : List Oper} {deps : List (List Nat)} {pures : List Nat} {K : Env → List Chunk → Prop} {Q : Exit → Act → World → Prop}

/-- What is listed, and what is done. -/
def Same (ops : List Oper) (listed : Array Bool) (done : List Nat) : Prop := listed.size = ops.length ∧ ∀ i, listed.getD i false = true ↔ i ∈ done
theorem Same.lt {listed : Array Bool} {done : List Nat} (h : Same ops listed done) {i : Nat} (hi : i ∈ done) : i < ops.length := by
  have := (h.2 i).2 hi
  rcases Nat.lt_or_ge i listed.size with h' | h'
  · rw [← h.1]; exact h'
  · simp [Array.getElem?_eq_none h'] at this
theorem Same.un {listed : Array Bool} {done : List Nat} (h : Same ops listed done) {i : Nat} : listed.getD i true = false ↔ i < ops.length ∧ i ∉ done := by
  rw [← h.2 i, ← h.1]
  rcases Nat.lt_or_ge i listed.size with h' | h'
  · simp [h']
  · simp [Array.getElem?_eq_none h']; omega
theorem Same.put {listed : Array Bool} {done : List Nat} (h : Same ops listed done) {i : Nat} (hi : i < ops.length) : Same ops (listed.setIfInBounds i true) (i :: done) := by
  refine ⟨by simpa using h.1, fun j => ?_⟩
  rw [List.mem_cons]
  by_cases hij : i = j
  · subst hij
    simp [h.1, hi]
  · rw [getD_set_ne false hij, h.2 j]
    exact ⟨.inr, fun h' => h'.resolve_left fun he => hij he.symm⟩
theorem Same.ready {listed : Array Bool} {done : List Nat} (h : Same ops listed done) (hd : ops.map depsOf = deps) {j : Nat} : j ∈ Region.ready .any (⟨ops⟩ : Array Oper) listed ↔ j ∈ readyF done 0 deps := by
  rw [mem_ready, readyF_iff]
  subst hd
  simp only [Nat.zero_le, true_and, Nat.sub_zero, List.getElem?_map, Option.map_eq_some_iff]
  constructor
  · rintro ⟨o, ho, hu, hall⟩
    exact ⟨(h.un.1 hu).2, depsOf o, ⟨o, by simpa using ho, rfl⟩, fun x hx => (h.2 _).1 (okAt_iff.1 hall x hx)⟩
  · rintro ⟨h2, d, ⟨o, ho, rfl⟩, hall⟩
    exact ⟨o, by simpa using ho, h.un.2 ⟨(List.getElem?_eq_some_iff.1 ho).1, h2⟩, okAt_iff.2 fun x hx => (h.2 _).2 (hall x hx)⟩

theorem XT.soundK (hC : CtxOk C) (hok : drawOk ops deps pures = true) (hQ : ∀ e a L w, ES C.n e a → Holds C L w → K e L → Q .normal a w) (hP : ∀ c a w, ¬ Q (.panic c) a w) (k0 : Nat) :
    ∀ (fuel : Nat) {done : List Nat} {G : List (Nat × Bool)} {e : Env} {L : List Chunk} {a : Act} {w : World} {listed : Array Bool}, Same ops listed done → ES C.n e a → Holds C L w → XT C ops deps pures K fuel done G e L → wpAny C.P .any (⟨ops⟩ : Array Oper) Q (fuel + k0) listed a w := by
  simp only [drawOk, Bool.and_eq_true] at hok
  obtain ⟨⟨hsel, hpu⟩, hdp⟩ := hok
  have hdp := eqLL_eq hdp
  have done0 : ∀ {done : List Nat} {listed : Array Bool}, Same ops listed done → readyF done 0 deps = [] → Region.ready .any (⟨ops⟩ : Array Oper) listed = [] := fun hs hr => by
    rw [List.eq_nil_iff_forall_not_mem]
    intro j hj
    have := (hs.ready hdp).1 hj
    rw [hr] at this; cases this
  intro fuel
  induction fuel with
  | zero =>
    intro done G e L a w listed hs ha hw h
    have h : (match readyF done 0 deps with | [] => K e L | _ => False) := h
    split at h
    · rename_i hr
      exact wpAny_done (done0 hs hr) (hQ _ _ _ _ ha hw h) _
    · exact h.elim
  | succ fuel ih =>
    intro done G e L a w listed hs ha hw h
    rw [Nat.add_right_comm]
    have h : (match readyF done 0 deps with
      | [] => K e L
      | r :: rs => match firstIn pures (r :: rs) with
        | some i => stepP C ops (XT C ops deps pures K fuel (i :: done)) i G e L
        | none => match rs with
          | [] => stepM C ops (XT C ops deps pures K fuel (r :: done)) r G e L
          | rs => XAll (fun i => stepM C ops (XT C ops deps pures K fuel (i :: done)) i G e L) (r :: rs)) := h
    have mem : ∀ {j : Nat}, j ∈ readyF done 0 deps → stepM C ops (XT C ops deps pures K fuel (j :: done)) j G e L → wpOp C.P (⟨ops⟩ : Array Oper) Q j (wpAny C.P .any (⟨ops⟩ : Array Oper) Q (fuel + k0) (listed.setIfInBounds j true)) a w := fun {j} hj h => by
      unfold stepM at h
      split at h
      · rename_i o ho
        rw [lget_eq] at ho
        have hjl := (List.getElem?_eq_some_iff.1 ho).1
        unfold wpOp
        rw [show (⟨ops⟩ : Array Oper)[j]? = some o by simpa using ho]
        rcases guardX.sound ha h with ⟨hwt, G', e', ha', h'⟩ | ⟨hwt, G', e', ha', h'⟩
        · simp only [hwt, if_true]
          exact .inl (XOp.sound hC ha' h' _ Q (fun v L' w' hk hh => ih (hs.put hjl) (ha'.put o.dst v) hh hk) w hw)
        · simp only [hwt, Bool.false_eq_true, if_false]
          exact ih (hs.put hjl) (ha'.put o.dst undef) hw h'
      · exact h.elim
    split at h
    · rename_i hr
      have hr' := done0 hs hr
      exact ⟨fun _ => hQ _ _ _ _ ha hw h, fun i hi => by rw [hr'] at hi; cases hi⟩
    · rename_i r rs hr
      split at h
      · rename_i i hf
        obtain ⟨hi1, hi2⟩ := firstIn_some hf
        have hready : i ∈ Region.ready .any (⟨ops⟩ : Array Oper) listed := (hs.ready hdp).2 (hr ▸ hi1)
        have hfree := List.all_eq_true.1 hpu i hi2
        unfold stepP at h
        unfold freeL at hfree
        split at h
        · rename_i o ho
          simp only [ho] at hfree
          rw [lget_eq] at ho
          have hil := (List.getElem?_eq_some_iff.1 ho).1
          have hoi : (⟨ops⟩ : Array Oper)[i]? = some o := by simpa using ho
          have hap : ∀ (j : Nat) (oj : Oper), (⟨ops⟩ : Array Oper)[j]? = some oj → j ≠ i → listed.getD j true = false → (∀ e ∈ oj.after, Region.binds .any e = true → e.on ≠ i) → o.apart ⟨ops⟩ oj = true := fun j oj hj hne hunj hno => by
            have hj' : ops[j]? = some oj := by simpa using hj
            have := List.all_eq_true.1 hfree j (List.mem_range.2 (List.getElem?_eq_some_iff.1 hj').1)
            rw [Bool.or_eq_true] at this
            rcases this with h | h
            · exact absurd (Nat.eq_of_beq_eq_true h) hne
            rw [lget_eq, hj'] at h
            simp only [Bool.or_eq_true] at h
            rcases h with (h | h) | h
            · exfalso
              obtain ⟨o', ho', _, hall⟩ := mem_ready.1 hready
              rw [hoi] at ho'; cases ho'
              exact (hs.un.1 hunj).2 ((hs.2 j).1 (okAt_iff.1 hall j (memB_iff.1 h)))
            · exfalso
              obtain ⟨e, he, hej⟩ := List.mem_map.1 (memB_iff.1 h)
              rw [List.mem_filter] at he
              exact hno e (by simpa using he.1) he.2 hej
            · exact h
          rcases guardX.sound ha h with ⟨hwt, G', e', ha', h'⟩ | ⟨hwt, G', e', ha', h'⟩
          · obtain ⟨v, hk, hrun⟩ := XVp.sound hC.tab ha' h'
            exact wpAny_first hoi (Region.noSelect_spec hsel) (fun c a w hq => (hP c _ _ hq).elim) (fuel + k0) listed a w hap hready (.inl ⟨hwt, hrun⟩) (ih (hs.put hil) (ha'.put o.dst v) hw hk)
          · exact wpAny_first hoi (Region.noSelect_spec hsel) (fun c a w hq => (hP c _ _ hq).elim) (fuel + k0) listed a w hap hready (.inr ⟨hwt, rfl⟩) (ih (hs.put hil) (ha'.put o.dst undef) hw h')
        · exact h.elim
      · refine ⟨fun hr0 => ?_, fun j hj => ?_⟩
        · have : r ∈ Region.ready .any (⟨ops⟩ : Array Oper) listed := (hs.ready hdp).2 (by rw [hr]; simp)
          rw [hr0] at this; cases this
        · have hj' := (hs.ready hdp).1 hj
          refine mem hj' ?_
          rw [hr] at hj'
          split at h
          · have : j = r := by simpa using hj'
            subst this; exact h
          · exact XAll_mem h j hj'

/-- A REGION THAT DRAWS ITS ORDER, one operation after the other. -/
theorem drawT {C : Ctx} [hC : CtxOk C] {ops : List Oper} {e : Env} {L : List Chunk} {K : Env → List Chunk → Prop} (deps : List (List Nat)) (pures : List Nat) (hok : drawOk ops deps pures = true) (h : XT C ops deps pures K ops.length [] [] e L) : XDrawS C ops e L K := by
  unfold XDrawS
  intro id Q a w hQ ha hw
  refine wp_mono (Q := fun ex a w => ex = .normal ∧ Q .normal a w) ?_ ?_
  · refine wp_region_any hC.mixed ?_
    exact XT.soundK (Q := fun ex a w => ex = .normal ∧ Q .normal a w) hC hok (fun e a L w h1 h2 h3 => ⟨rfl, hQ e a L w h1 h2 h3⟩) (fun c a w h => by cases h.1) 0 ops.length (listed := Array.replicate ops.length false) ⟨by simp, fun i => by
      by_cases hi : i < ops.length <;> simp [Array.getD, hi]⟩ ha (Inv.drew hw) h
  · rintro ex a w ⟨rfl, h⟩
    exact h
end
end Go.X
namespace Go.X
set_option linter.unusedVariables false
set_option linter.unusedSimpArgs false

/-- Do all numbers below n lie before an operation that waits for those of S? -/
def sweepTo (ops : List Oper) (n : Nat) : Nat → List Nat → Bool
  | 0, _ => true
  | i + 1, S => match memB S i with
    | true => sweepTo ops n i (S ++ (((ops[i]?).map depsOf).getD []))
    | false => Nat.ble n i && sweepTo ops n i S
def behindB (ops : List Oper) (n : Nat) : Nat → List Oper → Bool
  | _, [] => true
  | k, o :: os => sweepTo ops n k (depsOf o) && behindB ops n (k + 1) os
theorem sweepTo_listed {ops : List Oper} {n : Nat} {l : Array Bool} (hc : ∀ (i : Nat) (o : Oper), ops[i]? = some o → l.getD i false = true → okAt o l = true) :
    ∀ (i : Nat) (S : List Nat), i ≤ ops.length → sweepTo ops n i S = true → (∀ j ∈ S, l.getD j false = true) → ∀ j, j < i → j < n → l.getD j false = true
  | 0, _, _, _, _, j, hj, _ => by omega
  | i + 1, S, hi, h, hS, j, hj, hjn => by
    simp only [sweepTo] at h
    have ho : ops[i]? = some ops[i] := by simp [show i < ops.length by omega]
    split at h
    · rename_i hm
      have hi' : l.getD i false = true := hS i (memB_iff.1 hm)
      rcases Nat.lt_or_ge j i with hlt | hge
      · refine sweepTo_listed hc i _ (by omega) h (fun k hk => ?_) j hlt hjn
        rcases List.mem_append.1 hk with hk | hk
        · exact hS k hk
        · rw [ho] at hk
          exact okAt_iff.1 (hc i _ ho hi') k (by simpa using hk)
      · obtain rfl : j = i := by omega
        exact hi'
    · rw [Bool.and_eq_true] at h
      have := Nat.le_of_ble_eq_true h.1
      exact sweepTo_listed hc i S (by omega) h.2 hS j (by omega) hjn
theorem behindB_spec {ops : List Oper} {n : Nat} : ∀ {os : List Oper} {k : Nat}, behindB ops n k os = true → ∀ (i : Nat) (o : Oper), os[i]? = some o → sweepTo ops n (k + i) (depsOf o) = true
  | [], _, _, i, o, h => by simp at h
  | x :: os, k, h, 0, o, ho => by
    simp only [behindB, Bool.and_eq_true] at h
    simp at ho; subst ho; exact h.1
  | x :: os, k, h, i + 1, o, ho => by
    simp only [behindB, Bool.and_eq_true] at h
    have := behindB_spec h.2 i o (by simpa using ho)
    rwa [show k + 1 + i = k + (i + 1) by omega] at this

section
variable {P : Program} {Q' : Exit → Act → World → Prop}
theorem wpAny_frontG {pre suf : List Oper} {u : Nat → List Nat} (hb : backB (pre ++ suf) 0 = true) (hcl : closB pre u pre.length = true) (hch : behindB (pre ++ suf) pre.length pre.length suf = true) (J : (Nat → Bool) → Act → World → Prop)
    (hJ : ∀ S S' a w, (∀ i, i < pre.length → S i = S' i) → J S a w → J S' a w)
    (hstep : ∀ S a w i o, pre[i]? = some o → S i = false → (∀ j ∈ u i, S j = true) → J S a w → ∀ K : Act → World → Prop, (∀ a w, J (fun j => S j || j == i) a w → K a w) → wpOp P (pre ++ suf).toArray Q' i K a w)
    (hend : ∀ S a w (fuel : Nat) (l : Array Bool), (∀ i, i < pre.length → S i = true) → J S a w → l.size = (pre ++ suf).length → (∀ i, i < (pre ++ suf).length → (l.getD i false = true ↔ i < pre.length)) → suf.length ≤ fuel → wpAny P .any (pre ++ suf).toArray Q' fuel l a w) :
    ∀ (fuel : Nat) (l : Array Bool) (a : Act) (w : World), Ls (pre ++ suf) l → (∀ i, i < pre.length → l.getD i false = true → ∀ j ∈ u i, l.getD j false = true) → (∀ i, pre.length ≤ i → i < (pre ++ suf).length → l.getD i false = false) → unl l ≤ fuel → J (fun i => l.getD i false) a w →
      wpAny P .any (pre ++ suf).toArray Q' fuel l a w := by
  have hsp := backB_spec hb
  have hcls := closB_spec hcl
  have chain : ∀ (fuel : Nat) (l : Array Bool) (a : Act) (w : World), Ls (pre ++ suf) l → (∀ i, pre.length ≤ i → i < (pre ++ suf).length → l.getD i false = false) → unl l ≤ fuel → (∀ i, i < pre.length → l.getD i false = true) → J (fun i => l.getD i false) a w → wpAny P .any (pre ++ suf).toArray Q' fuel l a w := by
    intro fuel l a w hL hs hf hall hj
    refine hend _ a w fuel l hall hj hL.size (fun i hi => ⟨fun h => ?_, hall i⟩) ?_
    · rcases Nat.lt_or_ge i pre.length with h' | h'
      · exact h'
      · rw [hs i h' hi] at h; cases h
    · refine Nat.le_trans ?_ hf
      have hl : l.toList.drop pre.length = List.replicate suf.length false := by
        apply List.ext_getElem?
        intro i
        rw [List.getElem?_drop, List.getElem?_replicate]
        split
        · rename_i hi
          have h1 := hs (pre.length + i) (by omega) (by simp; omega)
          have hsz : pre.length + i < l.size := by rw [hL.size]; simp; omega
          simp only [Array.getD, hsz, dif_pos] at h1
          rw [Array.getElem?_toList]
          rw [Array.getElem?_eq_getElem hsz]
          exact congrArg some h1
        · rename_i hi
          rw [List.getElem?_eq_none]
          have := hL.size
          simp at this ⊢; omega
      unfold unl
      rw [← List.take_append_drop pre.length l.toList, hl, List.filter_append, List.length_append]
      simp
  intro fuel
  induction fuel with
  | zero =>
    intro l a w hL hu hs hf hj
    exact chain 0 l a w hL hs hf (fun i hi => by
      rw [← getD_tf (by rw [hL.size]; simp; omega)]
      exact unl_zero (by omega) i) hj
  | succ fuel ih =>
    intro l a w hL hu hs hf hj
    by_cases hall : ∀ i, i < pre.length → l.getD i false = true
    · exact chain _ l a w hL hs hf hall hj
    · refine ⟨fun hr => ?_, fun i hi => ?_⟩
      · exfalso
        apply hall
        intro i hi
        have := ready_all (by simpa using hL.size) (by simpa using hb) hr i (by simp; omega)
        rw [getD_tf (by rw [hL.size]; simp; omega)] at this
        exact this
      · obtain ⟨o, ho, hl', hok⟩ := mem_ready.1 hi
        have ho : (pre ++ suf)[i]? = some o := by simpa using ho
        have hlt := (List.getElem?_eq_some_iff.1 ho).1
        have hip : i < pre.length := by
          rcases Nat.lt_or_ge i pre.length with h | h
          · exact h
          · exfalso
            apply hall
            intro j hj'
            have hso : suf[i - pre.length]? = some o := by rwa [List.getElem?_append_right h] at ho
            have := behindB_spec hch (i - pre.length) o hso
            rw [show pre.length + (i - pre.length) = i by omega] at this
            exact sweepTo_listed hL.closed i (depsOf o) (by omega) this (fun j hj => okAt_iff.1 hok j hj) j (by omega) hj'
        have hpo : pre[i]? = some o := by rw [List.getElem?_append_left hip] at ho; exact ho
        have hui : ∀ j ∈ u i, l.getD j false = true := by
          intro j hj'
          have hdl := okAt_iff.1 hok
          rcases hcls i o hip hpo j hj' with h | ⟨d, hd, hjd⟩
          · exact hdl j h
          · have hdi := (hsp i o ho).1 d hd
            exact hu d (by omega) (hdl d hd) j hjd
        refine hstep _ a w i o hpo (by rw [← getD_tf (by rw [hL.size]; exact hlt)]; exact hl') hui hj _ fun a' w' hj' => ih _ a' w' (hL.set ho hok) (fun k hk hlk j hjk => ?_) (fun k hk hk' => ?_) ?_ (hJ _ _ a' w' (fun k hk => ?_) hj')
        · rw [getD_set (by rw [hL.size]; exact hlt)] at hlk ⊢
          split
          · rfl
          · by_cases hik : i = k
            · subst hik; exact hui j hjk
            · rw [if_neg hik] at hlk; exact hu k hk hlk j hjk
        · rw [getD_set (by rw [hL.size]; exact hlt), if_neg (by omega)]; exact hs k hk hk'
        · have := unl_set (by rw [hL.size]; exact hlt) hl'
          omega
        · rw [getD_set (by rw [hL.size]; exact hlt)]
          by_cases hik : i = k
          · subst hik; simp
          · rw [if_neg hik]
            have : (k == i) = false := by simp; omega
            simp [this]

theorem wp_region_frontG {id : Nat} {a : Act} {w : World} (hm : P.follows .mixedOrders = true) {pre suf : List Oper} {u : Nat → List Nat} (hb : backB (pre ++ suf) 0 = true) (hcl : closB pre u pre.length = true) (hch : behindB (pre ++ suf) pre.length pre.length suf = true) (J : (Nat → Bool) → Act → World → Prop)
    (hJ : ∀ S S' a w, (∀ i, i < pre.length → S i = S' i) → J S a w → J S' a w)
    (h0 : J (fun _ => false) a { w with drawn := w.drawn + 1 })
    (hstep : ∀ S a w i o, pre[i]? = some o → S i = false → (∀ j ∈ u i, S j = true) → J S a w → ∀ K : Act → World → Prop, (∀ a w, J (fun j => S j || j == i) a w → K a w) → wpOp P (pre ++ suf).toArray Q' i K a w)
    (hend : ∀ S a w (fuel : Nat) (l : Array Bool), (∀ i, i < pre.length → S i = true) → J S a w → l.size = (pre ++ suf).length → (∀ i, i < (pre ++ suf).length → (l.getD i false = true ↔ i < pre.length)) → suf.length ≤ fuel → wpAny P .any (pre ++ suf).toArray Q' fuel l a w) : (Code.region id (pre ++ suf).toArray true).wp P Q' a w := by
  refine wp_region_any hm ?_
  have hfalse : ∀ (n i : Nat), (Array.replicate n false).getD i false = false := fun n i => by
    by_cases h : i < n <;> simp [Array.getD, h]
  refine wpAny_frontG (u := u) hb hcl hch J hJ hstep hend _ _ a _ ⟨by simp, fun i o _ h => by rw [hfalse] at h; cases h⟩ (fun i _ h => by rw [hfalse] at h; cases h) (fun i _ _ => hfalse _ _) ?_ (hJ _ _ _ _ (fun i _ => (hfalse _ i).symm) h0)
  unfold unl
  simp

theorem wp_region_qG {C : World → Prop} {id : Nat} {a : Act} {w : World} (hm : P.follows .mixedOrders = true) {pre suf : List Oper} (hb : backB (pre ++ suf) 0 = true) (hch : behindB (pre ++ suf) pre.length pre.length suf = true)
    (hB : Region.lexB .any pre.toArray = true) {Qa : Act → Prop} (hC : C { w with drawn := w.drawn + 1 }) (h : wpQuiet P pre.toArray C Qa pre a)
    (hend : ∀ a w (fuel : Nat) (l : Array Bool), C w → Qa a → l.size = (pre ++ suf).length → (∀ i, i < (pre ++ suf).length → (l.getD i false = true ↔ i < pre.length)) → suf.length ≤ fuel → wpAny P .any (pre ++ suf).toArray Q' fuel l a w) : (Code.region id (pre ++ suf).toArray true).wp P Q' a w := by
  have hsp := backB_spec hb
  simp only [Region.lexB, Bool.and_eq_true] at hB
  have hq := wpAnyQ_lex (C := C) (md := .any) hB.1 pre 0 (Array.replicate pre.toArray.size false) a (by simp) (by simpa using hB.2) h
  refine wp_region_frontG (u := depU pre) hm hb (closB_dep pre _) hch
    (fun S a w => C w ∧ ∃ (fuel : Nat) (pl : Array Bool), pl.size = pre.length ∧ (∀ i, i < pre.length → pl.getD i false = S i) ∧ wpAnyQ P .any pre.toArray C Qa fuel pl a) ?_ ?_ ?_ ?_
  · rintro S S' a w hS ⟨h1, fuel, pl, h2, h3, h4⟩
    exact ⟨h1, fuel, pl, h2, fun i hi => (h3 i hi).trans (hS i hi), h4⟩
  · exact ⟨hC, pre.length, Array.replicate pre.toArray.size false, by simp, fun i hi => by simp [Array.getD], hq⟩
  · rintro S a w i o ho hs hu ⟨h1, fuel, pl, h2, h3, h4⟩ K' hK'
    have hi : i < pre.length := (List.getElem?_eq_some_iff.1 ho).1
    have hdep : ∀ j ∈ depsOf o, j < pre.length ∧ S j = true := fun j hj => by
      have := (hsp i o (by rw [List.getElem?_append_left hi]; exact ho)).1 j hj
      exact ⟨by omega, hu j (by simp only [depU, ho, Option.map_some, Option.getD_some]; exact hj)⟩
    have hok : okAt o pl = true := okAt_iff.2 fun j hj => by rw [h3 j (hdep j hj).1]; exact (hdep j hj).2
    have hmem : i ∈ Region.ready .any pre.toArray pl := mem_ready.2 ⟨o, by simpa using ho, by rw [getD_tf (by omega), h3 i hi]; exact hs, hok⟩
    cases fuel with
    | zero =>
      have h4 := h4.1
      rw [h4] at hmem; cases hmem
    | succ fuel =>
      have hqq := h4.2 i hmem
      unfold qOp at hqq
      unfold wpOp
      rw [show (pre ++ suf).toArray[i]? = some o by simp [List.getElem?_append_left hi, ho]]
      simp only [show pre.toArray[i]? = some o by simpa using ho] at hqq
      have hgd : ∀ j b, o.guard = some (j, b) → j < pre.length := fun j b hgd => by
        have := (hsp i o (by rw [List.getElem?_append_left hi]; exact ho)).2 j b hgd
        omega
      rw [← wanted_app (suf := suf) hgd] at hqq
      have next : ∀ a w, C w → wpAnyQ P .any pre.toArray C Qa fuel (pl.setIfInBounds i true) a → K' a w := fun a w hw hk => hK' a w ⟨hw, fuel, _, by simpa using h2, fun j hj => by
        rw [getD_set (by omega)]
        by_cases hij : i = j
        · subst hij; simp
        · rw [if_neg hij, h3 j hj]
          have : (j == i) = false := by simp; omega
          simp [this], hk⟩
      dsimp only
      split
      · rename_i hw'
        rw [if_pos hw'] at hqq
        exact .inl (Oper.wp_of_quiet (C := C) h1 (fun a' w' hw'' hk => next a' w' hw'' hk) hqq)
      · rename_i hw'
        rw [if_neg hw'] at hqq
        exact next _ w h1 hqq
  · rintro S a w fu l hS ⟨h1, fuel, pl, h2, h3, h4⟩ hl1 hl2 hfu
    refine hend a w fu l h1 ?_ hl1 hl2 hfu
    have hr : Region.ready .any pre.toArray pl = [] := by
      apply List.eq_nil_iff_forall_not_mem.2
      intro j hj
      obtain ⟨u, hu, hlu, _⟩ := mem_ready.1 hj
      obtain ⟨hlt', _⟩ := Array.getElem?_eq_some_iff.1 hu
      have hlt'' : j < pre.length := by simpa using hlt'
      rw [getD_tf (by omega), h3 j hlt'', hS j hlt''] at hlu
      cases hlu
    cases fuel with
    | zero => exact h4.2
    | succ fuel => exact h4.1 hr
end

/-- A region that draws: the first n operations only read, and lie before all others. -/
theorem drawGT {C : Ctx} [hC : CtxOk C] {ops : List Oper} {e : Env} {L : List Chunk} {K : Env → List Chunk → Prop} (n : Nat) (deps : List (List Nat)) (pures : List Nat)
    (hok : (backB ops 0 && behindB ops (ops.take n).length (ops.take n).length (ops.drop n) && Region.lexB .any (ops.take n).toArray && drawOk ops deps pures) = true)
    (h : XQs C (ops.take n) (fun e L => XT C ops deps pures K (ops.drop n).length (List.range n) [] e L) L (ops.take n) [] e) (hn : Nat.ble n ops.length = true) : XDrawS C ops e L K := by
  unfold XDrawS
  intro id Q a w hQ ha hw
  simp only [Bool.and_eq_true] at hok
  obtain ⟨⟨⟨hb, hch⟩, hB⟩, hd⟩ := hok
  have hn := Nat.le_of_ble_eq_true hn
  have hlen : (ops.take n).length = n := by simp; omega
  have heq : ops.take n ++ ops.drop n = ops := List.take_append_drop n ops
  refine wp_mono (Q := fun ex a w => ex = .normal ∧ Q .normal a w) ?_ ?_
  · have key := wp_region_qG (id := id) (Q' := fun ex a w => ex = .normal ∧ Q .normal a w) (a := a) (w := w) (C := Holds C L) hC.mixed (pre := ops.take n) (suf := ops.drop n) (by rw [heq]; exact hb) (by rw [heq]; exact hch) hB
      (Qa := fun a => ∃ e, ES C.n e a ∧ XT C ops deps pures K (ops.drop n).length (List.range n) [] e L) (Inv.drew hw) (XQs.sound hC (fun e a ha hk => ⟨e, ha, hk⟩) (ops.take n) ha h) (by
      rintro a w fuel l hw ⟨e, ha, hx⟩ hl1 hl2 hfu
      obtain ⟨k, rfl⟩ : ∃ k, fuel = (ops.drop n).length + k := ⟨fuel - (ops.drop n).length, by omega⟩
      rw [heq] at hl1 hl2 ⊢
      rw [hlen] at hl2
      exact XT.soundK (Q := fun ex a w => ex = .normal ∧ Q .normal a w) hC hd (fun e a L w h1 h2 h3 => ⟨rfl, hQ e a L w h1 h2 h3⟩) (fun c a w h => by cases h.1) k (ops.drop n).length (listed := l) ⟨hl1, fun i => by
        rw [List.mem_range]
        rcases Nat.lt_or_ge i ops.length with h | h
        · exact hl2 i h
        · rw [show l.getD i false = false by simp [Array.getElem?_eq_none (show l.size ≤ i by omega)]]
          simp; omega⟩ ha hw hx)
    rwa [heq] at key
  · rintro ex a w ⟨rfl, h⟩
    exact h
end Go.X
