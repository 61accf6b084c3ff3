/- The symbolic executor: lists of operations, code, functions. -/
import Derived.Test.YtfebaopjfmpfkaaDoorX6
namespace Go.X
set_option linter.unusedVariables false
set_option linter.unusedSimpArgs false

class CtxOk (C : Ctx) : Prop where
  tab : TabOk C.P C.tab
  mixed : C.P.follows .mixedOrders = true

/-- One operation. -/
def XOp (C : Ctx) (o : Oper) (e : Env) (L : List Chunk) (K : Value → List Chunk → Prop) : Prop := match isV o.op with
  | true => XV C o e L fun v => K v L
  | false => XE C o e L K

/-- What tests have said. -/
def bget : List (Nat × Bool) → Nat → Option Bool
  | [], _ => none
  | (s, v) :: e, t => match Nat.beq s t with
    | true => some v
    | false => bget e t
/-- A guard: what it says decides, and is then known ('G': the guards that have been asked). -/
def guardX (all : List Oper) (G : List (Nat × Bool)) (o : Oper) (e : Env) (run skip : List (Nat × Bool) → Env → Prop) : Prop := match o.guard with
  | none => run G e
  | some (j, want) => match lget all j with
    | some oj => match oj.dst with
      | some d => match bget G d with
        | some true => match get e d with
          | some (.bool true) => match want with
            | true => run G e
            | false => skip G e
          | _ => False
        | some false => match get e d with
          | some (.bool false) => match want with
            | true => skip G e
            | false => run G e
          | _ => False
        | none => match get e d with
          | some (.bool t) => branch t fun t => match t == want with
            | true => run ((d, t) :: G) ((d, .bool t) :: e)
            | false => skip ((d, t) :: G) ((d, .bool t) :: e)
          | some (.tuple _) => skip G e
          | _ => False
      | none => False
    | none => False

/-- The first slots' facts are among the second's. -/
def Le : Env → Env → Prop
  | [], _ => True
  | (t, v) :: r, e => get e t = some v ∧ Le r e
def At (I : Nat → Env → List Chunk → Prop) (n : Nat) (e : Env) (L : List Chunk) : Prop := ∃ (e' : Env) (L' : List Chunk), Le e' e ∧ Ent L L' ∧ I n e' L'

/-- A loop: an invariant I at a measure; a round goes from n to some m below. -/
@[irreducible] def XLoop (F : Env → List Chunk → (Env → List Chunk → Prop) → Prop) (e : Env) (L : List Chunk) : Prop :=
  ∃ I : Nat → Env → List Chunk → Prop, (∃ n, At I n e L) ∧ ∀ n e L, I n e L → F e L (fun e L => ∃ m, m < n ∧ At I m e L)
/-- Operations, one behind the other. (By the recursor: so the kernel sees the same terms as the elaborator.) -/
def XOps (C : Ctx) (all : List Oper) (K : Env → List Chunk → Prop) (os : List Oper) : List (Nat × Bool) → Env → List Chunk → Prop :=
  List.rec (motive := fun _ => List (Nat × Bool) → Env → List Chunk → Prop) (fun _ e L => K e L)
    (fun o _ ih G e L => guardX all G o e (fun G e => XOp C o e L fun v L' => ih G (put C.n e o.dst v) L') (fun G e => ih G (put C.n e o.dst undef) L)) os

/-- A call that leaves the chunks as they are and whose value is settled. -/
@[irreducible] def CallQ (C : Ctx) (L : List Chunk) (f : FuncId) (args : List Value) (K : Value → Prop) : Prop :=
  ∃ (A B : List Chunk) (v : Value), Ent L (A ++ B) ∧ Ent (A ++ B) L ∧
    (∀ w S, (∀ r, RO C.w0 C.S0 r → RO w S r) → (∀ r ∈ B, RO w S r) → Sep A w S → (∀ b, S b → b < w.heap.size) → Trip C.P f ⟨args⟩ w S fun u L' => u = v ∧ L' = A) ∧ K v
theorem callQ {C : Ctx} {L : List Chunk} {f : FuncId} {args : List Value} {K : Value → Prop} (is : List Nat) {v : Value}
    (hc : ∀ w S, (∀ r, RO C.w0 C.S0 r → RO w S r) → (∀ r ∈ (pick L is).2, RO w S r) → Sep (pick L is).1 w S → (∀ b, S b → b < w.heap.size) → Trip C.P f ⟨args⟩ w S fun u L' => u = v ∧ L' = (pick L is).1)
    (hk : K v) : CallQ C L f args K := by
  unfold CallQ
  exact ⟨_, _, v, .both is, .perm (pick_perm is L).symm, hc, hk⟩

/-- One operation in a region that draws its order. -/
def XQ (C : Ctx) (o : Oper) (e : Env) (L : List Chunk) (K : Value → Prop) : Prop := match isV o.op with
  | true => XV C o e L K
  | false => match o.op with
    | .call { callee := .value f, args := args, .. } => match ev e f with
      | some (.func (.func f) ⟨p⟩ ⟨q⟩) => evs e args.toList fun as => forceL (p ++ as ++ q) fun as => CallQ C L f as K
      | _ => False
    | _ => False
def XQs (C : Ctx) (all : List Oper) (K : Env → List Chunk → Prop) (L : List Chunk) (os : List Oper) : List (Nat × Bool) → Env → Prop :=
  List.rec (motive := fun _ => List (Nat × Bool) → Env → Prop) (fun _ e => K e L)
    (fun o _ ih G e => guardX all G o e (fun G e => XQ C o e L fun v => ih G (put C.n e o.dst v)) (fun G e => ih G (put C.n e o.dst undef))) os
def splitLast : List Oper → Option (List Oper × Oper)
  | [] => none
  | [o] => some ([], o)
  | o :: os => match splitLast os with
    | some (p, l) => some (o :: p, l)
    | none => none
/-- A region that draws, by whatever proof. -/
@[irreducible] def XDrawS (C : Ctx) (ops : List Oper) (e : Env) (L : List Chunk) (K : Env → List Chunk → Prop) : Prop :=
  ∀ (id : Nat) (Q : Exit → Act → World → Prop) (a : Act) (w : World), (∀ e a L w, ES C.n e a → Holds C L w → K e L → Q .normal a w) → ES C.n e a → Holds C L w → (Code.region id ⟨ops⟩ true).wp C.P Q a w
def XDraw (C : Ctx) (ops : List Oper) (e : Env) (L : List Chunk) (K : Env → List Chunk → Prop) : Prop :=
  (Region.lexB .any ⟨ops⟩ = true ∧ XQs C ops K L ops [] e) ∨
  (match splitLast ops with
    | some (pre, last) => (tailB pre last = true ∧ Region.lexB .any ⟨pre⟩ = true ∧ last.guard.isNone = true) ∧ XQs C pre (fun e L => XOp C last e L fun v L' => K (put C.n e last.dst v) L') L pre [] e
    | none => False) ∨
  XDrawS C ops e L K

def XCode (C : Ctx) (c : Code) : Env → List Chunk → (Env → List Chunk → Prop) → (Nat → Env → List Chunk → Prop) → (Env → List Chunk → Prop) → Prop :=
  Code.rec (motive := fun _ => Env → List Chunk → (Env → List Chunk → Prop) → (Nat → Env → List Chunk → Prop) → (Env → List Chunk → Prop) → Prop)
    (fun e L QN _ _ => QN e L)
    (fun _ ops draw e L QN _ _ => match draw with
      | false => XOps C ops.toList QN ops.toList [] e L
      | true => XDraw C ops.toList e L QN)
    (fun _ _ iha ihb e L QN QX QR => iha e L (fun e L => ihb e L QN QX QR) QX QR)
    (fun c _ _ ihx ihy e L QN QX QR => match ev e c with
      | some (.bool t) => branch t fun t => match t with
        | true => ihx e L QN QX QR
        | false => ihy e L QN QX QR
      | _ => False)
    (fun i _ ih e L QN QX QR => ih e L QN (fun j e L => match Nat.beq j i with | true => QN e L | false => QX j e L) QR)
    (fun _ ih e L _ QX QR => XLoop (fun e L Q => ih e L Q QX QR) e L)
    (fun _ _ _ _ _ _ _ _ _ _ _ => False)
    (fun i e L _ QX _ => QX i e L)
    (fun _ _ _ _ _ _ _ => False)
    (fun _ e L QN _ _ => QN e L)
    (fun _ _ _ _ _ _ => False)
    (fun e L _ _ QR => QR e L)
    (fun _ _ _ _ _ _ => False)
    c

/-- The results. -/
def XRes (C : Ctx) (e : Env) (L : List Chunk) (rs : List ResultVar) : (List Value → Prop) → Prop :=
  List.rec (motive := fun _ => (List Value → Prop) → Prop) (fun K => K [])
    (fun r _ ih K => match r with
      | .tmp t => match get e t with
        | some v => ih fun vs => K (v :: vs)
        | none => False
      | .cell a ty => match get e a with
        | some (.pointer (some ad)) => ∃ v, RunsTo C L (loadVar ty ad) v ∧ ih fun vs => K (v :: vs)
        | _ => False) rs
def packV : List Value → Value
  | [v] => v
  | vs => .tuple ⟨vs⟩
def XRet (C : Ctx) (rs : List ResultVar) (Post : Value → List Chunk → Prop) (e : Env) (L : List Chunk) : Prop :=
  XRes C e L rs fun vs => ∃ L', Ent L L' ∧ Post (packV vs) L'

/-! ### soundness -/
section
variable {C : Ctx} {o : Oper} {e : Env} {L : List Chunk} {a : Act}

theorem XOp.sound (hC : CtxOk C) {K : Value → List Chunk → Prop} (ha : ES C.n e a) (h : XOp C o e L K) : EOk C o L K a := by
  unfold XOp at h
  split at h
  · intro next Q hn w hw
    obtain ⟨v, hk, hr⟩ := XV.sound hC.tab ha h
    unfold Oper.wp
    rw [hr w hw]
    exact hn v L w hk hw
  · exact XE.sound hC.tab ha h

theorem guardX.sound {all : List Oper} {G : List (Nat × Bool)} {run skip : List (Nat × Bool) → Env → Prop} (ha : ES C.n e a) (h : guardX all G o e run skip) :
    (Region.wanted o (yielded ⟨all⟩ a.tmps) = true ∧ ∃ G' e', ES C.n e' a ∧ run G' e') ∨ (Region.wanted o (yielded ⟨all⟩ a.tmps) = false ∧ ∃ G' e', ES C.n e' a ∧ skip G' e') := by
  unfold guardX at h
  split at h
  · rename_i hg; exact .inl ⟨by simp [Region.wanted, hg], G, e, ha, h⟩
  · rename_i j want hg
    split at h
    · rename_i oj hj
      split at h
      · rename_i d hd
        have hj' : (⟨all⟩ : Array Oper)[j]? = some oj := by rw [lget_eq] at hj; simpa using hj
        split at h
        · split at h
          · rename_i hget
            have hv := ha.val d _ hget
            have hy : yielded ⟨all⟩ a.tmps j = some true := by simp [yielded, hj', hd, hv]
            cases want
            · exact .inr ⟨by simp [Region.wanted, hg, hy], _, _, ha, h⟩
            · exact .inl ⟨by simp [Region.wanted, hg, hy], _, _, ha, h⟩
          · exact h.elim
        · split at h
          · rename_i hget
            have hv := ha.val d _ hget
            have hy : yielded ⟨all⟩ a.tmps j = some false := by simp [yielded, hj', hd, hv]
            cases want
            · exact .inl ⟨by simp [Region.wanted, hg, hy], _, _, ha, h⟩
            · exact .inr ⟨by simp [Region.wanted, hg, hy], _, _, ha, h⟩
          · exact h.elim
        · split at h
          · rename_i t hget
            have hv := ha.val d _ hget
            have hy : yielded ⟨all⟩ a.tmps j = some t := by simp [yielded, hj', hd, hv]
            have h := h.out
            have he : ES C.n ((d, Value.bool t) :: e) a := ha.of_get fun t' v' h' => by
              simp only [X.get] at h'
              cases hb : Nat.beq d t' with
              | true =>
                have := Nat.eq_of_beq_eq_true hb
                subst this
                simp at h'
                subst h'
                exact hget
              | false => simpa [hb] using h'
            split at h
            · rename_i hw
              refine .inl ⟨?_, _, _, he, h⟩
              simp [Region.wanted, hg, hy]
              simpa using hw
            · rename_i hw
              refine .inr ⟨?_, _, _, he, h⟩
              simp [Region.wanted, hg, hy]
              simpa using hw
          · rename_i vs hget
            have hv := ha.val d _ hget
            have hy : yielded ⟨all⟩ a.tmps j = none := by simp [yielded, hj', hd, hv]
            exact .inr ⟨by simp [Region.wanted, hg, hy], G, e, ha, h⟩
          · exact h.elim
      · exact h.elim
    · exact h.elim

theorem XOps.sound (hC : CtxOk C) {all : List Oper} {Q : Exit → Act → World → Prop} {K : Env → List Chunk → Prop} (hQ : ∀ e a L w, ES C.n e a → Holds C L w → K e L → Q .normal a w) :
    ∀ (os : List Oper) {G : List (Nat × Bool)} {e : Env} {a : Act} {L : List Chunk} {w : World}, ES C.n e a → Holds C L w → XOps C all K os G e L → wpList C.P ⟨all⟩ Q os a w
  | [], G, e, a, L, w, ha, hw, h => hQ e a L w ha hw h
  | o :: os, G, e, a, L, w, ha, hw, h => by
    refine wpList_step fun K' hK' => ?_
    have h : guardX all G o e (fun G e => XOp C o e L fun v L' => XOps C all K os G (put C.n e o.dst v) L') (fun G e => XOps C all K os G (put C.n e o.dst undef) L) := h
    rcases guardX.sound ha h with ⟨hwt, G', e', ha', h'⟩ | ⟨hwt, G', e', ha', h'⟩
    · rw [if_pos hwt]
      exact XOp.sound hC ha' h' K' Q (fun v L' w' hk hh => hK' _ _ (XOps.sound hC hQ os (ha'.put o.dst v) hh hk)) w hw
    · rw [if_neg (by rw [hwt]; exact Bool.false_ne_true)]
      exact hK' _ _ (XOps.sound hC hQ os (ha'.put o.dst undef) hw h')

theorem XQ.sound (hC : CtxOk C) {K : Value → Prop} {next : Act → Prop} (ha : ES C.n e a) (hn : ∀ v, K v → next (a.put o.dst v)) (h : XQ C o e L K) : o.quiet C.P a (Holds C L) next := by
  unfold XQ at h
  split at h
  · obtain ⟨v, hk, hr⟩ := XV.sound hC.tab ha h
    exact ⟨v, fun w hw => by unfold Oper.quietAt; rw [hr w hw]; exact ⟨rfl, rfl⟩, hn v hk⟩
  · split at h
    · rename_i f args ts hop
      split at h
      · rename_i g p q hx
        have h := forceL_out (ha.evals h)
        unfold CallQ at h
        obtain ⟨A, B, v, hE, hE', hc, hk⟩ := h
        refine ⟨v, fun w hw => ?_, hn v hk⟩
        obtain ⟨S1, h1, hd, hro, hrb, hgo⟩ := Inv.handOver (hE _ _ _ hw)
        obtain ⟨⟨fn, hf1, hf2, hf3⟩, hcall⟩ := hc w S1 hro hrb h1 hd
        have hs : execOp a.eval o = callFunc g ⟨p ++ args.toList.map a.eval ++ q⟩ := by
          simp only [execOp, hop, resolve, ha.eval hx, Deferred.ofValue, pure_bind, invoke]
          exact congrArg (callFunc g) (Array.ext' (by simp))
        unfold Oper.quietAt
        rw [hs]
        simp only [callFunc, Sem.run_bind, run_program, Result.andThen_ok, hf1, hf2, hf3, Bool.false_eq_true, if_false]
        refine ⟨rfl, hcall.mono ?_⟩
        rintro _ w' ⟨u, L', rfl, ⟨rfl, rfl⟩, hI⟩
        exact ⟨rfl, hE' _ _ _ (hgo _ w' hI)⟩
      · exact h.elim
    · exact h.elim

theorem XQs.sound (hC : CtxOk C) {all : List Oper} {K : Env → List Chunk → Prop} {Qa : Act → Prop} (hQ : ∀ e a, ES C.n e a → K e L → Qa a) :
    ∀ (os : List Oper) {G : List (Nat × Bool)} {e : Env} {a : Act}, ES C.n e a → XQs C all K L os G e → wpQuiet C.P ⟨all⟩ (Holds C L) Qa os a
  | [], G, e, a, ha, h => hQ e a ha h
  | o :: os, G, e, a, ha, h => by
    refine wpQuiet_step fun K' hK' => ?_
    have h : guardX all G o e (fun G e => XQ C o e L fun v => XQs C all K L os G (put C.n e o.dst v)) (fun G e => XQs C all K L os G (put C.n e o.dst undef)) := h
    rcases guardX.sound ha h with ⟨hwt, G', e', ha', h'⟩ | ⟨hwt, G', e', ha', h'⟩
    · rw [if_pos hwt]
      exact XQ.sound hC ha' (fun v hk => hK' _ (XQs.sound hC hQ os (ha'.put o.dst v) hk)) h'
    · rw [if_neg (by rw [hwt]; exact Bool.false_ne_true)]
      exact hK' _ (XQs.sound hC hQ os (ha'.put o.dst undef) h')

theorem splitLast_eq : ∀ {l : List Oper} {p : List Oper} {x : Oper}, splitLast l = some (p, x) → l = p ++ [x]
  | [], _, _, h => by simp [splitLast] at h
  | [o], p, x, h => by simp [splitLast] at h; obtain ⟨rfl, rfl⟩ := h; rfl
  | o :: o' :: os, p, x, h => by
    simp only [splitLast] at h
    cases hh : splitLast (o' :: os) with
    | none => simp [hh] at h
    | some y =>
      obtain ⟨q, z⟩ := y
      simp [hh] at h
      obtain ⟨rfl, rfl⟩ := h
      rw [splitLast_eq hh]
      rfl

theorem XDraw.sound (hC : CtxOk C) {ops : List Oper} {id : Nat} {Q : Exit → Act → World → Prop} {K : Env → List Chunk → Prop} (hQ : ∀ e a L w, ES C.n e a → Holds C L w → K e L → Q .normal a w)
    {w : World} (ha : ES C.n e a) (hw : Holds C L w) (h : XDraw C ops e L K) : (Code.region id ⟨ops⟩ true).wp C.P Q a w := by
  rcases h with ⟨hB, h⟩ | h | h
  · exact wp_region_quiet (C := Holds C L) hC.mixed hB (Inv.drew hw) (XQs.sound hC (fun e a ha hk w' hw' => hQ e a L w' ha hw' hk) ops ha h)
  · split at h
    · rename_i pre last hs
      obtain rfl := splitLast_eq hs
      obtain ⟨⟨hT, hB, hg⟩, h⟩ := h
      refine wp_region_tail (C := Holds C L) (Qa := fun a => ∃ e, ES C.n e a ∧ XOp C last e L fun v L' => K (put C.n e last.dst v) L') hC.mixed hT hB (Inv.drew hw) ?_ (XQs.sound hC (fun e a ha hk => ⟨e, ha, hk⟩) pre ha h)
      rintro a' w' hw' ⟨e', ha', hx⟩ K' hK'
      unfold wpOp
      rw [show (pre ++ [last]).toArray[pre.length]? = some last by simp]
      have hg' : last.guard = none := by simpa using hg
      simp only [Region.wanted, hg', if_true]
      exact .inl (XOp.sound hC ha' hx K' Q (fun v L' w'' hk hh => hK' _ _ (hQ _ _ L' w'' (ha'.put last.dst v) hh hk)) w' hw')
    · exact h.elim
  · unfold XDrawS at h
    exact h id Q a w hQ ha hw

theorem Le.get : ∀ {e' e : Env}, Le e' e → ∀ t v, X.get e' t = some v → X.get e t = some v
  | [], _, _, _, _, h => by simp [X.get] at h
  | (s, u) :: r, e, ⟨h1, h2⟩, t, v, h => by
    simp only [X.get] at h
    cases hb : Nat.beq s t with
    | true => simp [hb] at h; subst h; rw [← Nat.eq_of_beq_eq_true hb]; exact h1
    | false => simp [hb] at h; exact Le.get h2 t v h

/-- What is to hold behind a piece of code. -/
def QQ (C : Ctx) (QN : Env → List Chunk → Prop) (QX : Nat → Env → List Chunk → Prop) (QR : Env → List Chunk → Prop) : Exit → Act → World → Prop
  | .normal, a, w => ∃ e L, ES C.n e a ∧ Holds C L w ∧ QN e L
  | .exit i, a, w => ∃ e L, ES C.n e a ∧ Holds C L w ∧ QX i e L
  | .ret, a, w => ∃ e L, ES C.n e a ∧ Holds C L w ∧ QR e L
  | _, _, _ => False

theorem XCode.sound (hC : CtxOk C) : ∀ (c : Code) {e : Env} {a : Act} {L : List Chunk} {w : World} {QN : Env → List Chunk → Prop} {QX : Nat → Env → List Chunk → Prop} {QR : Env → List Chunk → Prop},
    ES C.n e a → Holds C L w → XCode C c e L QN QX QR → c.wp C.P (QQ C QN QX QR) a w
  | .skip, e, a, L, w, QN, QX, QR, ha, hw, h => wp_skip ⟨e, L, ha, hw, h⟩
  | .label _, e, a, L, w, QN, QX, QR, ha, hw, h => wp_label ⟨e, L, ha, hw, h⟩
  | .region _ ops false, e, a, L, w, QN, QX, QR, ha, hw, h => wp_region_list (XOps.sound hC (fun e a L w ha hw hk => ⟨e, L, ha, hw, hk⟩) ops.toList ha hw h)
  | .region _ ops true, e, a, L, w, QN, QX, QR, ha, hw, h => XDraw.sound hC (fun e a L w ha hw hk => ⟨e, L, ha, hw, hk⟩) ha hw h
  | .seq x y, e, a, L, w, QN, QX, QR, ha, hw, h => by
    refine wp_seq (wp_mono (XCode.sound hC x ha hw h) ?_)
    intro ex a' w' hq
    cases ex with
    | normal => obtain ⟨e', L', ha', hw', hk⟩ := hq; exact XCode.sound hC y ha' hw' hk
    | exit i => exact hq
    | goto l => exact hq.elim
    | ret => exact hq
    | panic ch => exact hq.elim
    | outgrown => exact hq.elim
  | .cond c x y, e, a, L, w, QN, QX, QR, ha, hw, h => by
    have h : (match ev e c with | some (.bool t) => branch t fun t => (match t with | true => XCode C x e L QN QX QR | false => XCode C y e L QN QX QR) | _ => False) := h
    split at h
    · rename_i t hc
      have h := h.out
      refine wp_cond (ha.eval hc) ?_
      cases t with
      | true => exact XCode.sound hC x ha hw h
      | false => exact XCode.sound hC y ha hw h
    · exact h.elim
  | .block i c, e, a, L, w, QN, QX, QR, ha, hw, h => by
    refine wp_block (wp_mono (XCode.sound hC c ha hw h) ?_)
    intro ex a' w' hq
    cases ex with
    | normal => exact hq
    | exit j =>
      obtain ⟨e', L', ha', hw', hk⟩ := hq
      simp only [Exit.inBlock]
      cases hb : Nat.beq j i with
      | true => rw [if_pos (Nat.eq_of_beq_eq_true hb)]; rw [hb] at hk; exact ⟨e', L', ha', hw', hk⟩
      | false =>
        rw [if_neg (fun he => by subst he; simp at hb)]
        rw [hb] at hk
        exact ⟨e', L', ha', hw', hk⟩
    | goto l => exact hq.elim
    | ret => exact hq
    | panic ch => exact hq.elim
    | outgrown => exact hq.elim
  | .loop c, e, a, L, w, QN, QX, QR, ha, hw, h => by
    have h : XLoop (fun e L Q => XCode C c e L Q QX QR) e L := h
    unfold XLoop at h
    obtain ⟨I, ⟨n, e', L', hle, hE, hI⟩, hround⟩ := h
    let J : Nat → Act → World → Prop := fun n a w => ∃ e L, ES C.n e a ∧ Holds C L w ∧ I n e L
    have hat : ∀ n e L a w, ES C.n e a → Holds C L w → At I n e L → J n a w := fun n e L a w ha hw ⟨e', L', hle, hE, hI⟩ => ⟨e', _, ha.of_get hle.get, hE _ _ _ hw, hI⟩
    classical
    have hmin : ∀ a w, (∃ n, J n a w) → ∃ n, J n a w ∧ ∀ m, m < n → ¬ J m a w := by
      intro a w ⟨n, hn⟩
      induction n using Nat.strongRecOn with
      | _ n ih =>
        by_cases hm : ∃ m, m < n ∧ J m a w
        · obtain ⟨m, hlt, hm⟩ := hm
          exact ih m hlt hm
        · exact ⟨n, hn, fun m hlt hj => hm ⟨m, hlt, hj⟩⟩
    let μ : Act → World → Nat := fun a w => if h : ∃ n, J n a w then Classical.choose (hmin a w h) else 0
    have hμ : ∀ a w (h : ∃ n, J n a w), J (μ a w) a w ∧ ∀ m, m < μ a w → ¬ J m a w := fun a w h => by
      simp only [μ, dif_pos h]
      exact Classical.choose_spec (hmin a w h)
    refine wp_loop (fun a w => ∃ n, J n a w) μ ⟨n, hat n e L a w ha hw ⟨e', L', hle, hE, hI⟩⟩ fun a w hj => ?_
    obtain ⟨⟨e1, L1, ha1, hw1, hI1⟩, _⟩ := hμ a w hj
    refine wp_mono (XCode.sound hC c ha1 hw1 (hround _ e1 L1 hI1)) ?_
    intro ex a' w' hq
    cases ex with
    | normal =>
      obtain ⟨e2, L2, ha2, hw2, m, hlt, hm⟩ := hq
      have hjm := hat m e2 L2 a' w' ha2 hw2 hm
      refine ⟨⟨m, hjm⟩, ?_⟩
      have h2 := hμ a' w' ⟨m, hjm⟩
      rcases Nat.lt_or_ge m (μ a' w') with h3 | h3
      · exact absurd hjm (h2.2 m h3)
      · omega
    | exit i => exact hq
    | goto l => exact hq.elim
    | ret => exact hq
    | panic ch => exact hq.elim
    | outgrown => exact hq.elim
  | .exit i, e, a, L, w, QN, QX, QR, ha, hw, h => wp_exit ⟨e, L, ha, hw, h⟩
  | .ret, e, a, L, w, QN, QX, QR, ha, hw, h => wp_ret ⟨e, L, ha, hw, h⟩
  | .rangeFunc _ _ _ _, _, _, _, _, _, _, _, _, _, h => False.elim h
  | .scope _, _, _, _, _, _, _, _, _, _, h => False.elim h
  | .goto _, _, _, _, _, _, _, _, _, _, h => False.elim h
  | .refuse _, _, _, _, _, _, _, _, _, _, h => False.elim h

def resF (tmps : Array Value) : ResultVar → Sem Value
  | .tmp t => Pure.pure (tmps.getD t undef)
  | .cell a t => do loadVar t (← asAddr (tmps.getD a undef))
theorem results_eq (fn : Func) (tmps : Array Value) : results fn tmps = (do let vs ← fn.results.mapM (resF tmps); Pure.pure (if h : vs.size = 1 then vs[0] else .tuple vs)) := by
  have key : ∀ g : ResultVar → Sem Value, (∀ r, g r = resF tmps r) → fn.results.mapM g = fn.results.mapM (resF tmps) := fun g hg => by rw [show g = resF tmps from funext hg]
  unfold results
  rw [key]
  intro r
  cases r <;> rfl

theorem XRes.sound : ∀ {rs : List ResultVar} {K : List Value → Prop} {w : World}, ES C.n e a → Holds C L w → XRes C e L rs K →
    ∃ vs, K vs ∧ (rs.mapM (resF a.tmps)).run C.P w = .ok vs w
  | [], K, w, ha, hw, h => ⟨[], h, rfl⟩
  | .tmp t :: rs, K, w, ha, hw, h => by
    have h : (match get e t with | some v => XRes C e L rs fun vs => K (v :: vs) | none => False) := h
    split at h
    · rename_i v hv
      obtain ⟨vs, hk, hr⟩ := XRes.sound ha hw h
      refine ⟨v :: vs, hk, ?_⟩
      have : a.tmps.getD t undef = v := ha.eval (x := .tmp t) hv
      simp only [List.mapM_cons, resF, this, Sem.run_bind, Sem.run_pure, Result.andThen_ok, hr]
    · exact h.elim
  | .cell p ty :: rs, K, w, ha, hw, h => by
    have h : (match get e p with | some (.pointer (some ad)) => ∃ v, RunsTo C L (loadVar ty ad) v ∧ XRes C e L rs fun vs => K (v :: vs) | _ => False) := h
    split at h
    · rename_i ad hv
      obtain ⟨v, hl, h⟩ := h
      obtain ⟨vs, hk, hr⟩ := XRes.sound ha hw h
      refine ⟨v :: vs, hk, ?_⟩
      have : a.tmps.getD p undef = .pointer (some ad) := ha.eval (x := .tmp p) hv
      simp only [List.mapM_cons, resF, this, asAddr, Sem.run_bind, Sem.run_pure, Result.andThen_ok, hl w hw, hr]
    · exact h.elim

end

def bodyOf (fn : Func) : Code := fn.body.getD .skip
def argEnv : Nat → List Value → Env
  | _, [] => []
  | k, v :: vs => (k, v) :: argEnv (k + 1) vs

theorem argEnv_get : ∀ {vs : List Value} {k t : Nat} {v : Value}, get (argEnv k vs) t = some v → k ≤ t ∧ vs[t - k]? = some v
  | [], _, _, _, h => by simp [argEnv, get] at h
  | u :: vs, k, t, v, h => by
    simp only [argEnv, get] at h
    cases hb : Nat.beq k t with
    | true => have := Nat.eq_of_beq_eq_true hb; subst this; simp at h; subst h; exact ⟨Nat.le_refl _, by simp⟩
    | false =>
      simp [hb] at h
      obtain ⟨h1, h2⟩ := argEnv_get h
      refine ⟨by omega, ?_⟩
      have : t - k = (t - (k + 1)) + 1 := by omega
      rw [this]
      simpa using h2

/-- A FUNCTION, BY ITS CODE. -/
theorem Trip.of_x {P : Program} {f : FuncId} {fn : Func} {tab : Tab} {n : Nat} {args : List Value} {w : World} {S : FP} {L : List Chunk} {rs : List ResultVar} {Post : Value → List Chunk → Prop}
    (hf : P.funcs[f]? = some fn) (hname : (fn.name == "runtime.NumGoroutine") = false) (hb : fn.body.isNone = false) (hn : fn.ntmps = n) (hr : fn.results = rs.toArray) (hlen : Nat.ble args.length n = true)
    (hC : ∀ w S, CtxOk ⟨P, tab, n, w, S⟩) (hS : Sep L w S) (hd : ∀ b, S b → b < w.heap.size)
    (h : XCode ⟨P, tab, n, w, S⟩ (bodyOf fn) (argEnv 0 args) L (XRet ⟨P, tab, n, w, S⟩ rs Post) (fun _ _ _ => False) (XRet ⟨P, tab, n, w, S⟩ rs Post)) : Trip P f ⟨args⟩ w S Post := by
  refine ⟨⟨fn, hf, hname, hb⟩, ?_⟩
  obtain ⟨c, hc⟩ : ∃ c, fn.body = some c := by cases hx : fn.body with | none => simp [hx] at hb | some c => exact ⟨c, rfl⟩
  have hbo : bodyOf fn = c := by simp [bodyOf, hc]
  rw [hbo] at h
  refine calls_of_wp hf hc ?_
  have hlen' : args.length ≤ n := by simpa using hlen
  have ha : ES n (argEnv 0 args) { tmps := ⟨args⟩ ++ Array.replicate (fn.ntmps - (⟨args⟩ : Array Value).size) undef, defers := [] } := by
    refine ⟨by simp [hn]; omega, fun t v hv => ?_, rfl⟩
    obtain ⟨_, h2⟩ := argEnv_get hv
    simp at h2
    have hlt : t < args.length := by
      rcases Nat.lt_or_ge t args.length with h | h
      · exact h
      · simp [List.getElem?_eq_none h] at h2
    rw [Array.getElem?_append_left (by simpa using hlt)]
    simpa using h2
  have hret : ∀ e L a w', ES n e a → Holds ⟨P, tab, n, w, S⟩ L w' → XRet ⟨P, tab, n, w, S⟩ rs Post e L →
      a.defers = [] ∧ ∃ v, (results fn a.tmps).run P w' = .ok v w' ∧ ∃ v' L', Ending.returned v = .returned v' ∧ Post v' L' ∧ Inv w S L' w' := by
    intro e L a w' ha' hw' hx
    refine ⟨ha'.defers, ?_⟩
    obtain ⟨vs, ⟨L2, hE, hp⟩, hrun⟩ := XRes.sound (C := ⟨P, tab, n, w, S⟩) ha' hw' hx
    refine ⟨packV vs, ?_, packV vs, _, rfl, hp, hE _ _ _ hw'⟩
    rw [results_eq, hr, Array.mapM_eq_mapM_toList]
    simp only [Sem.run_bind, Sem.run_map]
    have hrun' : (rs.toArray.toList.mapM (resF a.tmps)).run P w' = .ok vs w' := by simpa using hrun
    rw [hrun']
    simp only [Result.andThen_ok, Sem.run_pure]
    congr 1
    cases vs with
    | nil => rfl
    | cons v vs => cases vs <;> rfl
  refine wp_mono (XCode.sound (hC w S) c ha (Inv.start hS hd) h) ?_
  intro ex a' w' hq
  cases ex with
  | normal => obtain ⟨e', L', ha', hw', hk⟩ := hq; exact hret _ _ _ _ ha' hw' hk
  | exit i => obtain ⟨e', L', _, _, hk⟩ := hq; exact hk.elim
  | goto l => exact hq.elim
  | ret => obtain ⟨e', L', ha', hw', hk⟩ := hq; exact hret _ _ _ _ ha' hw' hk
  | panic ch => exact hq.elim
  | outgrown => exact hq.elim

end Go.X
