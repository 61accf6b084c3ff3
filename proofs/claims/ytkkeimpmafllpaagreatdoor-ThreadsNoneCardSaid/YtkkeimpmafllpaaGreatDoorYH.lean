/- The evaluator: a range over a function whose first round leaves the loop (slices.Backward). -/
import Derived.Test.YtkkeimpmafllpaaGreatDoorYE
import Derived.RangeFuncRecord
import Derived.TacticsIn
namespace Go.Y
open Go.X (TK TyI Fr FP Tab)
set_option linter.unusedVariables false
set_option linter.unusedSimpArgs false
set_option linter.constructorNameAsVariable false
set_option linter.unusedSectionVars false

/-! ### another base; blocks that no name stands for -/
/-- The blocks that names stand for. -/
def Nm (ρ : Rho) (f : Nat → Option AObj) : FP := fun b => ∃ i o x, f i = some o ∧ live o ∧ ρ i = some x ∧ x.b = b
section
variable {ρ ρ' : Rho} {f f' : Nat → Option AObj} {w0 : Base} {w w' : World}
theorem MR.nbase (h : MR ρ f w0 w) : MR ρ f ⟨w, Nm ρ f⟩ w :=
  ⟨.refl _ _, fun i o hi hl => let ⟨x, h1, h2, h3⟩ := h.at' i o hi hl; ⟨x, h1, h2, .inl ⟨i, o, x, hi, hl, h1, rfl⟩⟩, h.inj⟩
theorem Nm.own (h : MR ρ f w0 w) {b : Nat} (hb : Nm ρ f b) : w0.own b := by
  obtain ⟨i, o, x, hi, hl, hx, rfl⟩ := hb
  obtain ⟨y, hy, _, hown⟩ := h.at' i o hi hl
  rw [hx] at hy; cases hy; exact hown
theorem Nm.lt (h : MR ρ f w0 w) {b : Nat} (hb : Nm ρ f b) : b < w.heap.size := by
  obtain ⟨i, o, x, hi, hl, hx, rfl⟩ := hb
  exact h.lt hi hl hx
theorem MR.back (h0 : MR ρ f w0 w) (h : MR ρ' f' ⟨w, Nm ρ f⟩ w') : MR ρ' f' w0 w' :=
  ⟨Fr.trans' h0.fr h.fr fun b hb => Nm.own h0 hb, fun i o hi hl =>
    let ⟨x, h1, h2, h3⟩ := h.at' i o hi hl
    ⟨x, h1, h2, h3.elim (fun hb => Nm.own h0 hb) fun hb => .inr (Nat.le_trans h0.fr.size hb)⟩, h.inj⟩
/-- A block that no name stands for. -/
structure Junk (ρ : Rho) (f : Nat → Option AObj) (w : World) (l : Nat) (o : Obj) : Prop where
  at' : w.heap[l]? = some o
  no : ¬ Nm ρ f l
theorem Junk.step {l : Nat} {o : Obj} (j : Junk ρ f w l o) (h : MR ρ' f' ⟨w, Nm ρ f⟩ w') : Junk ρ' f' w' l o := by
  have hlt : l < w.heap.size := (Array.getElem?_eq_some_iff.1 j.at').1
  refine ⟨(h.fr.blk l hlt j.no).trans j.at', ?_⟩
  rintro ⟨i, o', x, hi, hl, hx, rfl⟩
  obtain ⟨y, hy, _, hown⟩ := h.at' i o' hi hl
  rw [hx] at hy; cases hy
  rcases hown with hb | hb
  · exact j.no hb
  · exact absurd hlt (Nat.not_lt.2 hb)
theorem MR.junk (h : MR ρ f w0 w) {l : Nat} (hl : ¬ Nm ρ f l) (hown : w0.own l) (k : Fr w (fun b => b = l) w') : MR ρ f w0 w' :=
  ⟨Fr.trans' h.fr k fun b hb => by rw [hb]; exact hown, fun i o hi hlv =>
    let ⟨x, h1, h2, h3⟩ := h.at' i o hi hlv
    ⟨x, h1, by rw [k.blk x.b (h.lt hi hlv h1) fun he => hl ⟨i, o, x, hi, hlv, h1, he⟩]; exact h2, h3⟩, h.inj⟩
theorem putObj_fr (w : World) (l : Nat) (o : Obj) : Fr w (fun b => b = l) (w.putObj l o) :=
  ⟨rfl, rfl, rfl, by simp, fun b _ hb => World.putObj_heap_other hb⟩
theorem allocs_fr (w : World) (o : Obj) : Fr w (fun _ => False) (w.alloc o) :=
  ⟨rfl, rfl, rfl, by simp, fun b hb _ => by
    show (w.heap.push o)[b]? = _
    rw [Array.getElem?_push_lt hb]; simp [hb]⟩
theorem T.all_mono {α : Type} {p q : Nat → α → Prop} : ∀ {t : T α}, (∀ k v, p k v → q k v) → T.All p t → T.All q t
  | .e, _, _ => trivial
  | .n l v r, h, ⟨h1, h2, h3⟩ => ⟨by cases v with
    | none => trivial
    | some x => exact h 0 x h1, T.all_mono (fun k v => h (2 * k + 1) v) h2, T.all_mono (fun k v => h (2 * k + 2) v) h3⟩
theorem GlOk.nbase {g : Gl} (h : GlOk g w0) (k : MR ρ f w0 w) : GlOk g ⟨w, Nm ρ f⟩ :=
  T.all_mono (fun i l ⟨cs, t, fr, h1, h2, h3⟩ => by
    have hlt : i < w0.w.heap.size := (Array.getElem?_eq_some_iff.1 h1).1
    refine ⟨cs, t, fr, (k.fr.blk i hlt h3).trans h1, h2, fun hb => ?_⟩
    rcases Nm.own k hb with hs | hs
    · exact h3 hs
    · exact absurd hlt (Nat.not_lt.2 hs)) h
end

/-! ### operations, in whatever frame -/
def notDst (t : Nat) (os : List Oper) : Bool := os.all fun o => match o.dst with
  | some d => !Nat.beq d t
  | none => true
theorem put_keep {a : Act} {d : Option Tmp} {u : Value} {t : Nat} (h : (match d with | some d => !Nat.beq d t | none => true) = true) : (a.put d u).tmps[t]? = a.tmps[t]? := by
  cases d with
  | none => rfl
  | some d =>
    have : d ≠ t := fun he => by subst he; simp at h
    simp [Act.put, this]
def noDef (os : List Oper) : Bool := os.all fun o => match o.op with
  | .defer _ => false
  | _ => true
/-- The wide fence, in a round or not. -/
structure WF (F : Fence) : Prop where
  fn : ∀ f, F.fn f
  dp : F.depth = none
  ca : ∀ {m : Nat} {P : Program} {f : FuncId} {args : Array Value} {w : World} {R : Ending → World → Prop}, Calls P f args w R → CallsIn F m P f args w R
  ro : ∀ {m : Nat} {P : Program} {row : String} {args : Array Value} {w : World} {R : Value → World → Prop}, Rows P row args w R → RowsIn F m P row args w R
theorem wf_wide : WF Fence.wide := ⟨fun _ => trivial, rfl, fun h => callsIn_wide.2 h, fun h c cs _ => let ⟨v, w', r, s⟩ := h c cs; ⟨v, w', r, stepsIn_wide.2 s⟩⟩
theorem wf_round (l : Nat) : WF (Fence.wide.inRound l) := ⟨fun _ => trivial, rfl, fun {m _ _ _ _ _} h => (callsIn_wide (n := m)).2 h, fun {m _ _ _ _ _} h => wf_wide.ro (m := m) h⟩
section
variable {P : Program} {tab : Tab} {g : Gl} (hG : GOk P tab g) (hI : GInv P g) {w0 : Base} {call : CallF} {n : Nat} {F : Fence} (hF : WF F) {k : Nat}
include hG hI hF
theorem step_in (hcall : CallOk P g call) {m : Mem} {ρ : Rho} {w : World} {a : Act} {e : Env} {ds : List Deferred} (hg : GlOk g w0) (hs : St ρ e m w0 n a w) {o : Oper} (hd : noDef [o] = true) {v : AV} {m' : Mem} (hdom : Free ρ m.n m'.n) (h : step g call o.op e m = some (v, m')) {next : Act → World → Prop} {Q : Exit → Act → World → Prop}
    (hnext : ∀ u ρ' w', ρ.le ρ' → VR ρ' v u → MR ρ' m'.t.get w0 w' → Ext ρ ρ' m.n m'.n → next { a.put o.dst u with defers := ds } w') : o.wpIn F k P { a with defers := ds } w next Q := by
  have key : o.wp P a w (fun a' w' => ∃ u ρ', a' = a.put o.dst u ∧ ρ.le ρ' ∧ VR ρ' v u ∧ MR ρ' m'.t.get w0 w' ∧ Ext ρ ρ' m.n m'.n) (fun _ _ _ => False) :=
    step_ok hG hI hcall hs.wm hg hs.er hs.de hs.mr hdom h fun u ρ' w' q1 q2 q3 q4 => ⟨u, ρ', rfl, q1, q2, q3, q4⟩
  have hdf : ∀ c, o.op ≠ .defer c := fun c hc => by simp [noDef, hc] at hd
  have hpd : ∀ (d : Option Tmp) (u : Value), (a.put d u).defers = [] := fun d u => by cases d <;> exact hs.de
  have hput : ∀ u, ({ a with defers := ds } : Act).put o.dst u = { a.put o.dst u with defers := ds } := fun u => by cases o.dst <;> rfl
  refine ⟨fun f _ => hF.fn f, ?_⟩
  rw [Oper.semAt_eq _ _ _ hdf]
  have hev : ({ a with defers := ds } : Act).eval = a.eval := rfl
  rw [hev]
  unfold Oper.wp at key
  generalize (execOp a.eval o).run P w = r at key ⊢
  cases r with
  | ok x w' =>
    cases x with
    | value u =>
      obtain ⟨u', ρ', h1, h2⟩ := key
      show next _ _
      rw [hput]
      have := hnext u' ρ' w' h2.1 h2.2.1 h2.2.2.1 h2.2.2.2
      rwa [← h1] at this
    | skip =>
      obtain ⟨u', ρ', h1, h2⟩ := key
      show next _ _
      rw [hput]
      have := hnext u' ρ' w' h2.1 h2.2.1 h2.2.2.1 h2.2.2.2
      rwa [← h1] at this
    | defer d =>
      obtain ⟨u', ρ', h1, h2⟩ := key
      have e1 : ({ a with defers := d :: a.defers }.put o.dst undef : Act).defers = d :: a.defers := by cases o.dst <;> rfl
      rw [h1, hpd] at e1
      cases e1
    | enter f args =>
      refine ⟨fun hd => (by rw [hF.dp] at hd; cases hd), hF.ca (key.mono fun e w'' hR => ?_)⟩
      cases e with
      | returned v' =>
        obtain ⟨u', ρ', h1, h2⟩ := hR
        show next _ _
        rw [hput]
        have := hnext u' ρ' w'' h2.1 h2.2.1 h2.2.2.1 h2.2.2.2
        rwa [← h1] at this
      | panicked ch => exact hR.elim
      | outgrown => obtain ⟨_, _, hq⟩ := hR; exact hq.elim
    | row row args =>
      refine ⟨fun hd => (by rw [hF.dp] at hd; cases hd), hF.ro (key.mono fun v' w'' hR => ?_)⟩
      obtain ⟨u', ρ', h1, h2⟩ := hR
      show next _ _
      rw [hput]
      have := hnext u' ρ' w'' h2.1 h2.2.1 h2.2.2.1 h2.2.2.2
      rwa [← h1] at this
    | round l f tmps as bd => exact key.elim
    | _ => exact key.elim
  | halt x w' =>
    cases x with
    | panic v => exact key.elim
    | _ => exact key.elim

theorem evalOps_in (hcall : CallOk P g call) (hg : GlOk g w0) {all os2 : List Oper} {Q : Exit → Act → World → Prop} {ds : List Deferred} : ∀ {os : List Oper} {ρ : Rho} {e : Env} {m : Mem} {a : Act} {w : World} {e' : Env} {m' : Mem}, dstOk n os = true → noDef os = true → St ρ e m w0 n a w → evalOps g call all os e m = some (e', m') → Free ρ m.n m'.n →
    (∀ ρ' a' w', ρ.le ρ' → Ext ρ ρ' m.n m'.n → St ρ' e' m' w0 n a' w' → (∀ t, notDst t os = true → a'.tmps[t]? = a.tmps[t]?) → wpListIn F k P ⟨all⟩ Q os2 { a' with defers := ds } w') → wpListIn F k P ⟨all⟩ Q (os ++ os2) { a with defers := ds } w
  | [], ρ, e, m, a, w, e', m', _, _, hs, h, _, hq => by cases h; exact hq ρ a w (.refl _) (.refl _ _ _) hs fun _ _ => rfl
  | o :: os, ρ, e, m, a, w, e', m', ho, hn, hs, h, hf, hq => by
    obtain ⟨b, h1, h⟩ := ob_some (show ob (wanted all o e) (fun b => match b with
      | true => ob (stepF g call o.op e m) fun r => evalOps g call all os (put e o.dst r.1) r.2
      | false => evalOps g call all os (put e o.dst (.tup [])) m) = some (e', m') from h)
    have hw := wanted_ok hs.er h1
    simp only [dstOk, List.all_cons, Bool.and_eq_true] at ho
    have hn1 : noDef [o] = true ∧ noDef os = true := by simpa [noDef] using hn
    refine wpListIn_step fun K hK => ?_
    have hw' : Region.wanted o (yielded ⟨all⟩ ({ a with defers := ds } : Act).tmps) = b := hw
    cases b with
    | true =>
      rw [if_pos hw']
      obtain ⟨⟨v, m1⟩, h2, h⟩ := ob_some h
      rw [stepF_eq] at h2
      have f1 := step_fm hcall h2 hs.wm
      have f2 := evalOps_fm hcall h (f1.wm hs.wm)
      refine step_in hG hI hF hcall hg hs hn1.1 (hf.sub f2.n) h2 fun u ρ' w' q1 q2 q3 q4 => hK _ _ ?_
      refine evalOps_in hcall hg ho.2 hn1.2 (hs.put ho.1 q1 q2 q3 (f1.wm hs.wm)) h (hf.ext q4 f1.n) fun ρ'' a'' w'' r1 r2 r3 r4 => hq ρ'' a'' w'' (q1.trans r1) (q4.trans r2 f1.n f2.n) r3 fun t ht => ?_
      simp only [notDst, List.all_cons, Bool.and_eq_true] at ht
      exact (r4 t ht.2).trans (put_keep ht.1)
    | false =>
      rw [if_neg (by rw [hw']; exact Bool.false_ne_true)]
      refine ⟨fun f _ => hF.fn f, hK _ _ ?_⟩
      have hput : ({ a with defers := ds } : Act).put o.dst undef = { a.put o.dst undef with defers := ds } := by cases o.dst <;> rfl
      rw [hput]
      refine evalOps_in hcall hg ho.2 hn1.2 (hs.put (u := undef) ho.1 (Rho.le.refl ρ) (by simp only [VR]; exact ⟨[], rfl, .nil⟩) hs.mr hs.wm) h hf fun ρ'' a'' w'' r1 r2 r3 r4 => hq ρ'' a'' w'' r1 r2 r3 fun t ht => ?_
      simp only [notDst, List.all_cons, Bool.and_eq_true] at ht
      exact (r4 t ht.2).trans (put_keep ht.1)
/-- The same, with what lies at blocks that no name stands for. -/
theorem seg_ops (hcall : CallOk P g call) (hg : GlOk g w0) {all os os2 : List Oper} {Q : Exit → Act → World → Prop} {ds : List Deferred} {ρ : Rho} {e : Env} {m : Mem} {a : Act} {w : World} {e' : Env} {m' : Mem} (hd : dstOk n os = true) (hn : noDef os = true) (hs : St ρ e m w0 n a w) (h : evalOps g call all os e m = some (e', m')) (hf : Free ρ m.n m'.n)
    (hnext : ∀ ρ' a' w', ρ.le ρ' → Ext ρ ρ' m.n m'.n → St ρ' e' m' w0 n a' w' → (∀ t, notDst t os = true → a'.tmps[t]? = a.tmps[t]?) → (∀ l o, Junk ρ m.t.get w l o → Junk ρ' m'.t.get w' l o) → wpListIn F k P ⟨all⟩ Q os2 { a' with defers := ds } w') : wpListIn F k P ⟨all⟩ Q (os ++ os2) { a with defers := ds } w :=
  evalOps_in hG hI hF hcall (hg.nbase hs.mr) hd hn ⟨hs.er, hs.de, hs.sz, hs.mr.nbase, hs.wm⟩ h hf fun ρ' a' w' q1 q2 q3 q4 => hnext ρ' a' w' q1 q2 ⟨q3.er, q3.de, q3.sz, hs.mr.back q3.mr, q3.wm⟩ q4 fun l o j => j.step q3.mr
theorem seg_reg (hcall : CallOk P g call) (hg : GlOk g w0) {i : Nat} {os : List Oper} {Q : Exit → Act → World → Prop} {ds : List Deferred} {ρ : Rho} {e : Env} {m : Mem} {a : Act} {w : World} {e' : Env} {m' : Mem} (hd : dstOk n os = true) (hn : noDef os = true) (hs : St ρ e m w0 n a w) (h : evalOps g call os os e m = some (e', m')) (hf : Free ρ m.n m'.n)
    (hnext : ∀ ρ' a' w', ρ.le ρ' → Ext ρ ρ' m.n m'.n → St ρ' e' m' w0 n a' w' → (∀ t, notDst t os = true → a'.tmps[t]? = a.tmps[t]?) → (∀ l o, Junk ρ m.t.get w l o → Junk ρ' m'.t.get w' l o) → Q .normal { a' with defers := ds } w') : (Code.region i ⟨os⟩ false).wpIn F k P Q { a with defers := ds } w := by
  refine wpIn_region_list ?_
  have := seg_ops hG hI hF (k := k) (all := os) (os2 := []) (Q := Q) (ds := ds) hcall hg hd hn hs h hf fun ρ' a' w' q1 q2 q3 q4 q5 => hnext ρ' a' w' q1 q2 q3 q4 q5
  rwa [List.append_nil] at this
end

/-! ### the range -/
/-- The code: the closure's, and the statement's. -/
structure RgC where
  i0 : Nat
  i1 : Nat
  i3 : Nat
  b0 : Nat
  b1 : Nat
  x0 : Nat
  ops0 : List Oper
  ops1 : List Oper
  os12 : List Oper
  o11 : Oper
  o17 : Oper
  o18 : Oper
  r2 : Code
  c8 : Operand
  c18 : Operand
  t11 : Nat
  t12 : Nat
  t16 : Nat
  t17 : Nat
  iA : Nat
  iB : Nat
  iC : Nat
  bB : Nat
  x1 : Nat
  p0 : Nat
  p1 : Nat
  osA : List Oper
  osB : List Oper
  osC : List Oper
  cB : Operand
def RgC.all3 (R : RgC) : List Oper := R.o11 :: (R.os12 ++ [R.o17, R.o18])
def RgC.bodyB (R : RgC) : Code := .seq (.region R.i0 ⟨R.ops0⟩ false) (.block R.b0 (.loop (.seq (.seq (.region R.i1 ⟨R.ops1⟩ false) (.cond R.c8 .skip (.exit R.x0))) (.seq (.block R.b1 (.seq (.region R.i3 ⟨R.all3⟩ false) (.cond R.c18 .ret .skip))) R.r2))))
def RgC.assign (R : RgC) : Code := .region R.iA ⟨R.osA⟩ false
def RgC.body (R : RgC) : Code := .block R.bB (.seq (.region R.iB ⟨R.osB⟩ false) (.cond R.cB (.seq (.region R.iC ⟨R.osC⟩ false) (.exit R.x1)) .skip))
noncomputable def isB (o : Option AV) (b : Bool) : Bool := match o with
  | some (.bool c) => beqB b c
  | _ => false
theorem isB_true {o : Option AV} (h : isB o true = true) : o = some (.bool true) := by
  unfold isB at h
  split at h
  · rename_i c; cases c
    · cases h
    · rfl
  · cases h
def isN (o : Option AV) : Bool := match o with
  | none => true
  | some _ => false
noncomputable def rangeC (g : Gl) (call : CallF) (R : RgC) (e : Env) (m : Mem) : Option Mem := ob (evalOps g call R.osA R.osA e m) fun qa => ob (evalOps g call R.osB R.osB qa.1 qa.2) fun qb => chk (isB (ev qb.1 R.cB) true) (ob (evalOps g call R.osC R.osC qb.1 qb.2) fun qc => some qc.2)
noncomputable def rangeB (g : Gl) (call : CallF) (R : RgC) (ib : Nat) (m : Mem) : Option (Env × Mem) := ob (evalOps g call R.ops0 R.ops0 (T.e.set (.ptr ib 0) 1) m) fun q0 => ob (evalOps g call R.ops1 R.ops1 q0.1 q0.2) fun q1 => chk (isB (ev q1.1 R.c8) true && isN (q1.1.get R.t11)) (evalOps g call R.all3 R.os12 q1.1 q1.2)
noncomputable def rangeQ (g : Gl) (call : CallF) (R : RgC) (e : Env) (m : Mem) (ib : Nat) : Option Mem := ob (rangeB g call R ib m) fun q2 => ob (q2.1.get R.t12) fun v0 => ob (q2.1.get R.t16) fun v1 => ob (rangeC g call R ((e.set v0 R.p0).set v1 R.p1) q2.2) fun m3 =>
  ob (evalOps g call R.all3 [R.o18] (q2.1.set (.bool false) R.t17) m3) fun q4 => chk (isB (ev q4.1 R.c18) true) (some q4.2)
/-- What is checked of the code. -/
noncomputable def RgC.ok (R : RgC) (nB n : Nat) : Bool := dstOk nB R.ops0 && noDef R.ops0 && dstOk nB R.ops1 && noDef R.ops1 && dstOk nB R.os12 && noDef R.os12 && dstOk nB [R.o18] && noDef [R.o18] && dstOk n R.osA && noDef R.osA && dstOk n R.osB && noDef R.osB && dstOk n R.osC && noDef R.osC && notDst 0 R.ops0 && notDst 0 R.ops1 && notDst R.t11 R.os12 && Nat.blt R.t11 nB && Nat.blt R.t17 nB && Nat.blt R.p0 n && Nat.blt R.p1 n && !Nat.beq R.x1 R.bB && Nat.ble 2 nB
end Go.Y

/- The evaluator: a range over a function whose first round leaves the loop: the law. -/
namespace Go.Y
open Go.X (TK TyI Fr FP Tab)
set_option linter.unusedVariables false
set_option linter.unusedSimpArgs false
set_option linter.constructorNameAsVariable false
set_option linter.unusedSectionVars false

structure RgOk (R : RgC) (nB n : Nat) : Prop where
  a0 : dstOk nB R.ops0 = true
  b0 : noDef R.ops0 = true
  a1 : dstOk nB R.ops1 = true
  b1 : noDef R.ops1 = true
  a2 : dstOk nB R.os12 = true
  b2 : noDef R.os12 = true
  a3 : dstOk nB [R.o18] = true
  b3 : noDef [R.o18] = true
  a4 : dstOk n R.osA = true
  b4 : noDef R.osA = true
  a5 : dstOk n R.osB = true
  b5 : noDef R.osB = true
  a6 : dstOk n R.osC = true
  b6 : noDef R.osC = true
  k0 : notDst 0 R.ops0 = true
  k1 : notDst 0 R.ops1 = true
  k2 : notDst R.t11 R.os12 = true
  l0 : R.t11 < nB
  l1 : R.t17 < nB
  l2 : R.p0 < n
  l3 : R.p1 < n
  x1 : R.x1 ≠ R.bB
  two : 2 ≤ nB
theorem RgC.ok_of {R : RgC} {nB n : Nat} (h : R.ok nB n = true) : RgOk R nB n := by
  simp only [RgC.ok, Bool.and_eq_true, Nat.blt_eq, Bool.not_eq_true', Nat.ble_eq] at h
  obtain ⟨⟨⟨⟨⟨⟨⟨⟨⟨⟨⟨⟨⟨⟨⟨⟨⟨⟨⟨⟨⟨⟨h1, h2⟩, h3⟩, h4⟩, h5⟩, h6⟩, h7⟩, h8⟩, h9⟩, h10⟩, h11⟩, h12⟩, h13⟩, h14⟩, h15⟩, h16⟩, h17⟩, h18⟩, h19⟩, h20⟩, h21⟩, h22⟩, h23⟩ := h
  exact ⟨h1, h2, h3, h4, h5, h6, h7, h8, h9, h10, h11, h12, h13, h14, h15, h16, h17, h18, h19, h20, h21, fun he => by rw [he] at h22; simp at h22, h23⟩
theorem ev_true {ρ : Rho} {e : Env} {m : Mem} {w0 : Base} {n : Nat} {a : Act} {w : World} (hs : St ρ e m w0 n a w) {c : Operand} (h : isB (ev e c) true = true) : a.eval c = .bool true := by
  obtain ⟨u, h1, h2⟩ := ev_vr hs.er (isB_true h)
  have := h2.bool_inv; subst this
  exact (envOf_es hs.de).eval h1
section
variable {P : Program} {tab : Tab} {g : Gl} (hG : GOk P tab g) (hI : GInv P g) {w0 : Base} {call : CallF} {n : Nat} {k : Nat}
include hG hI
theorem round_ok (hcall : CallOk P g call) (hg : GlOk g w0) {R : RgC} {nB : Nat} (hR : RgOk R nB n) {ρ : Rho} {e : Env} {m : Mem} {a : Act} {w : World} {l D fn : Nat} {rec : LoopState → Option Code → Loop}
    (hrec : rec = fun st pe => { state := st, pending := pe, fn, tmps := a.tmps, params := #[R.p0, R.p1], assign := R.assign, body := R.body, defers := D })
    (hbd : R.body = .block R.bB (.seq (.region R.iB ⟨R.osB⟩ false) (.cond R.cB (.seq (.region R.iC ⟨R.osC⟩ false) (.exit R.x1)) .skip)))
    (hs : St ρ e m w0 n a w) (hl : Junk ρ m.t.get w l (.loop (rec .ready none))) (hown : w0.own l) {v0 v1 : AV} {u0 u1 : Value} (h0 : VR ρ v0 u0) (h1 : VR ρ v1 u1) {m3 : Mem} (h : rangeC g call R ((e.set v0 R.p0).set v1 R.p1) m = some m3) (hf : Free ρ m.n m3.n) :
    RoundIn Fence.wide k P l fn ((#[R.p0, R.p1].zip #[u0, u1]).foldl (fun t (p, v) => t.setIfInBounds p v) a.tmps) R.assign R.body w fun e w' => e = .returned (.bool false) ∧ Fm m m3 ∧ ∃ ρ', ρ.le ρ' ∧ Ext ρ ρ' m.n m3.n ∧ MR ρ' m3.t.get w0 w' ∧
      Junk ρ' m3.t.get w' l (.loop (rec .done (some (.exit R.x1)))) ∧ ∀ l' o, l' ≠ l → Junk ρ m.t.get w l' o → Junk ρ' m3.t.get w' l' o := by
  obtain ⟨⟨eA, mA⟩, hA, h⟩ := ob_some h
  obtain ⟨⟨eB, mB⟩, hB, h⟩ := ob_some h
  obtain ⟨hc, h⟩ := chk_some h
  obtain ⟨⟨eC, mC⟩, hC, h⟩ := ob_some h
  cases h
  have fA := evalOps_fm hcall hA hs.wm
  have fB := evalOps_fm hcall hB (fA.wm hs.wm)
  have fC := evalOps_fm hcall hC (fB.wm (fA.wm hs.wm))
  obtain ⟨tm, df⟩ := a
  obtain rfl : df = [] := hs.de
  have hs0 : St ρ ((e.set v0 R.p0).set v1 R.p1) m w0 n ⟨(#[R.p0, R.p1].zip #[u0, u1]).foldl (fun t (p, v) => t.setIfInBounds p v) tm, []⟩ w := by
    have s1 := hs.put (d := some R.p0) (v := v0) (u := u0) (by simpa [Nat.blt_eq] using hR.l2) (.refl ρ) h0 hs.mr hs.wm
    have s2 := s1.put (d := some R.p1) (v := v1) (u := u1) (by simpa [Nat.blt_eq] using hR.l3) (.refl ρ) h1 hs.mr hs.wm
    have hz : (#[R.p0, R.p1].zip #[u0, u1]).foldl (fun t (p, v) => t.setIfInBounds p v) tm = (tm.setIfInBounds R.p0 u0).setIfInBounds R.p1 u1 := by simp
    rw [hz]
    exact s2
  refine roundIn_of_wpIn trivial ?_
  refine seg_reg hG hI (wf_round l) hcall hg hR.a4 hR.b4 hs0 hA (hf.sub (Nat.le_trans fB.n fC.n)) fun ρ1 a1 w1 q1 q2 q3 _ q5 => ?_
  have j1 := q5 l _ hl
  have hlt : l < w1.heap.size := (Array.getElem?_eq_some_iff.1 j1.at').1
  refine ⟨_, run_beginRound j1.at' (by rw [hrec]), ?_⟩
  have hm2 := q3.mr.junk j1.no hown (putObj_fr w1 l (.loop { rec .ready none with state := .busy }))
  have hs2 : St ρ1 eA mA w0 n a1 (w1.putObj l (.loop { rec .ready none with state := .busy })) := ⟨q3.er, q3.de, q3.sz, hm2, q3.wm⟩
  rw [hbd]
  refine wpIn_block (wpIn_seq ?_)
  have hf1 := hf.ext q2 fA.n
  refine seg_reg hG hI (wf_round l) hcall hg hR.a5 hR.b5 hs2 hB (hf1.sub fC.n) fun ρ2 a2 w2 r1 r2 r3 _ r5 => ?_
  refine wpIn_cond_true (ev_true r3 hc) (wpIn_seq ?_)
  have hf2 := hf1.ext r2 fB.n
  refine seg_reg hG hI (wf_round l) hcall hg hR.a6 hR.b6 r3 hC hf2 fun ρ3 a3 w3 s1 s2 s3 _ s5 => ?_
  refine wpIn_exit ?_
  have j2 : Junk ρ1 mA.t.get (w1.putObj l (.loop { rec .ready none with state := .busy })) l (.loop { rec .ready none with state := .busy }) := ⟨World.putObj_heap_same hlt, j1.no⟩
  have j3 := s5 _ _ (r5 _ _ j2)
  have hlt3 : l < w3.heap.size := (Array.getElem?_eq_some_iff.1 j3.at').1
  show Exit.inBlock R.bB _ (.exit R.x1) _ _
  simp only [Exit.inBlock]
  rw [if_neg hR.x1]
  refine ⟨_, _, run_endRound (some (.exit R.x1)) j3.at', rfl, (fA.trans fB).trans fC, ρ3, (q1.trans r1).trans s1, (q2.trans r2 fA.n fB.n).trans s2 (fA.trans fB).n fC.n, s3.mr.junk j3.no hown (putObj_fr w3 l _), ⟨?_, j3.no⟩, fun l' o hne hj => ?_⟩
  · rw [World.putObj_heap_same hlt3, hrec]
    rfl
  · have k1 := q5 l' o hj
    have k2 : Junk ρ1 mA.t.get (w1.putObj l (.loop { rec .ready none with state := .busy })) l' o := ⟨(World.putObj_heap_other hne).trans k1.at', k1.no⟩
    have k3 := s5 _ _ (r5 _ _ k2)
    exact ⟨(World.putObj_heap_other hne).trans k3.at', k3.no⟩
set_option maxHeartbeats 1000000 in
theorem rangeFn_ok (hcall : CallOk P g call) (hg : GlOk g w0) {R : RgC} {nB : Nat} (hR : RgOk R nB n) {fB : FuncId} {FB : Func} (hf : P.funcs[fB]? = some FB) (hfn : Go.X.FnOk P fB) (hb : FB.body = some R.bodyB) (hres : FB.results = #[]) (hnt : FB.ntmps = nB)
    (hbd : R.body = .block R.bB (.seq (.region R.iB ⟨R.osB⟩ false) (.cond R.cB (.seq (.region R.iC ⟨R.osC⟩ false) (.exit R.x1)) .skip)))
    (h11 : R.o11.op = .move (.tmp 0)) (g11 : R.o11.guard = none) (d11 : R.o11.dst = some R.t11) {ts : Array TypeId} (h17 : R.o17.op = .call { callee := .value (.tmp R.t11), args := #[.tmp R.t12, .tmp R.t16], argTypes := ts }) (g17 : R.o17.guard = none) (d17 : R.o17.dst = some R.t17)
    {ρ : Rho} {e : Env} {m : Mem} {a : Act} {w : World} (hs : St ρ e m w0 n a w) {tg ib : Nat} (hgo : e.get tg = some (.fn fB [] [.ptr ib 0])) {m4 : Mem} (hq : rangeQ g call R e m ib = some m4) (hfree : Free ρ m.n m4.n) {Q : Exit → Act → World → Prop}
    (hnext : ∀ ρ' w' D, Fm m m4 → ρ.le ρ' → Ext ρ ρ' m.n m4.n → MR ρ' m4.t.get w0 w' → Junk ρ' m4.t.get w' D (.deferred (some [])) → w0.own D → Q (.exit R.x1) { a with defers := [{ target := .collected D, args := #[] }] } w') :
    (Code.rangeFunc (.tmp tg) #[R.p0, R.p1] R.assign R.body).wpIn Fence.wide k P Q a w := by
  obtain ⟨⟨e2, m2⟩, hB, hq⟩ := ob_some hq
  obtain ⟨v0, hv0, hq⟩ := ob_some hq
  obtain ⟨v1, hv1, hq⟩ := ob_some hq
  obtain ⟨m3, hC, hq⟩ := ob_some hq
  obtain ⟨⟨e4, m4'⟩, h4, hq⟩ := ob_some hq
  obtain ⟨hc18, hq⟩ := chk_some hq
  cases hq
  obtain ⟨⟨e0, m0⟩, hb0, hB⟩ := ob_some hB
  obtain ⟨⟨e1, m1⟩, hb1, hB⟩ := ob_some hB
  obtain ⟨hc8, hb2⟩ := chk_some hB
  simp only [Bool.and_eq_true] at hc8
  obtain ⟨hc8, hn11⟩ := hc8
  have hn11 : e1.get R.t11 = none := by
    cases hx : e1.get R.t11 with
    | none => rfl
    | some x => rw [hx] at hn11; cases hn11
  have f0 := evalOps_fm hcall hb0 hs.wm
  have w0m := f0.wm hs.wm
  have f1 := evalOps_fm hcall hb1 w0m
  have w1m := f1.wm w0m
  have f2 := evalOps_fm hcall hb2 w1m
  have w2m := f2.wm w1m
  -- the closure
  obtain ⟨fu, hfu, hfv⟩ := hs.er tg _ hgo
  simp only [VR] at hfv
  obtain ⟨p', q', rfl, hp, hqv⟩ := hfv
  obtain rfl := hp.nil_inv
  obtain ⟨lb, q'', rfl, hlb, hq0⟩ := hqv.cons_inv
  obtain rfl := hq0.nil_inv
  have hga : a.eval (.tmp tg) = .func (.func fB) #[] #[lb] := by
    show a.tmps.getD tg undef = _
    simp [Array.getD_eq_getD_getElem?, hfu]
  have eg : ∀ args w, (callFunc fB args).run P w = .ok (.enter fB args) w := by
    obtain ⟨fn, hf1, hf2, hf3⟩ := hfn
    intro args w
    simp only [callFunc, Sem.run_bind, run_program, Result.andThen_ok, hf1, hf2, hf3, Bool.false_eq_true, if_false]
    rfl
  refine wpIn_rangeFunc ?_
  intro fn hfnn
  obtain ⟨rec, hrec⟩ : ∃ rec : LoopState → Option Code → Loop, rec = fun st pe => { state := st, pending := pe, fn, tmps := a.tmps, params := #[R.p0, R.p1], assign := R.assign, body := R.body, defers := w.heap.size } := ⟨_, rfl⟩
  obtain ⟨W1, hW1⟩ : ∃ W1, (w.alloc (.deferred (some []))).alloc (.loop (rec .ready none)) = W1 := ⟨_, rfl⟩
  have fr1 : Fr w (fun _ => False) W1 := by
    rw [← hW1]
    exact Fr.trans' (w0 := ⟨w, fun _ => False⟩) (allocs_fr _ _) (allocs_fr _ _) fun b hb => hb.elim
  have hL1 : W1.heap[w.heap.size + 1]? = some (.loop (rec .ready none)) := by
    rw [← hW1]; have := World.alloc_heap_new (w.alloc (.deferred (some []))) (.loop (rec .ready none)); rwa [World.size_alloc] at this
  have hK1 : W1.heap[w.heap.size]? = some (.deferred (some [])) := by
    rw [← hW1]; exact ((allocs_fr _ _).blk _ (by simp) id).trans (World.alloc_heap_new w _)
  have jl : Junk ρ m.t.get W1 (w.heap.size + 1) (.loop (rec .ready none)) := ⟨hL1, fun hh => by have := Nm.lt hs.mr hh; omega⟩
  have jd : Junk ρ m.t.get W1 w.heap.size (.deferred (some [])) := ⟨hK1, fun hh => by have := Nm.lt hs.mr hh; omega⟩
  have hown : ∀ j, w0.own (w.heap.size + j) := fun j => .inr (Nat.le_trans hs.mr.fr.size (Nat.le_add_right _ _))
  refine ⟨w.heap.size + 1, [{ target := .collected w.heap.size, args := #[] }], W1, { target := .fn (.func fB) #[lb], args := #[.func (.yield (w.heap.size + 1)) #[] #[]] }, W1, fB, #[.func (.yield (w.heap.size + 1)) #[] #[]] ++ #[lb], W1, ?_, ?_, fun _ _ => trivial, ?_, fun hd => (by cases hd), ?_⟩
  · rw [← hW1, hrec]; exact run_enterLoop_outer _ _ _ _ _
  · simp only [resolve, hga]
    simp [go_sem]
  · simp [invoke, go_sem, eg]
  refine callsIn_of_wp_marks hf hb trivial ?_
  have hsB : St ρ (T.e.set (.ptr ib 0) 1) m w0 nB ⟨#[.func (.yield (w.heap.size + 1)) #[] #[]] ++ #[lb] ++ Array.replicate (FB.ntmps - (#[Value.func (.yield (w.heap.size + 1)) #[] #[]] ++ #[lb]).size) undef, []⟩ W1 := by
    refine ⟨fun t x ht => ?_, rfl, ?_, hs.mr.quiet fr1, hs.wm⟩
    · rw [T.get_set] at ht
      split at ht
      · rename_i h1; subst h1; cases ht; exact ⟨lb, by rw [Array.getElem?_append_left (by simp)]; rfl, hlb⟩
      · cases ht
    · have := hR.two
      simp [hnt]; omega
  have hy0 : (#[Value.func (.yield (w.heap.size + 1)) #[] #[]] ++ #[lb] ++ Array.replicate (FB.ntmps - (#[Value.func (.yield (w.heap.size + 1)) #[] #[]] ++ #[lb]).size) undef)[0]? = some (.func (.yield (w.heap.size + 1)) #[] #[]) := by rw [Array.getElem?_append_left (by simp)]; rfl
  have frC : ∀ {ρ1 : Rho} {x : Nat}, Ext ρ ρ1 m.n m2.n → x = m2.n → True := fun _ _ => trivial
  unfold RgC.bodyB
  refine wpIn_seq ?_
  obtain ⟨⟨eA, mA⟩, hA', hC1⟩ := ob_some (show ob (evalOps g call R.osA R.osA ((e.set v0 R.p0).set v1 R.p1) m2) (fun qa => ob (evalOps g call R.osB R.osB qa.1 qa.2) fun qb => chk (isB (ev qb.1 R.cB) true) (ob (evalOps g call R.osC R.osC qb.1 qb.2) fun qc => some qc.2)) = some m3 from hC)
  obtain ⟨⟨eB, mB⟩, hB', hC2⟩ := ob_some hC1
  obtain ⟨_, hC3⟩ := chk_some hC2
  obtain ⟨⟨eC, mC⟩, hC', hC4⟩ := ob_some hC3
  cases hC4
  have fA := evalOps_fm hcall hA' w2m
  have fB' := evalOps_fm hcall hB' (fA.wm w2m)
  have fC := evalOps_fm hcall hC' (fB'.wm (fA.wm w2m))
  have f3 := (fA.trans fB').trans fC
  have w3m := f3.wm w2m
  have f4 := evalOps_fm hcall h4 w3m
  refine seg_reg hG hI wf_wide hcall hg hR.a0 hR.b0 hsB hb0 (hfree.sub (Nat.le_trans f1.n (Nat.le_trans f2.n (Nat.le_trans f3.n f4.n)))) fun ρ1 a1 W2 p1 p2 p3 p4 p5 => ?_
  refine wpIn_block (wpIn_loop_once (wpIn_seq (wpIn_seq ?_)))
  have hfr1 := hfree.ext p2 f0.n
  refine seg_reg hG hI wf_wide hcall hg hR.a1 hR.b1 p3 hb1 (hfr1.sub (Nat.le_trans f2.n (Nat.le_trans f3.n f4.n))) fun ρ2 a2 W3 q1 q2 q3 q4 q5 => ?_
  refine wpIn_cond_true (ev_true q3 hc8) (wpIn_skip ?_)
  show Code.wpIn _ _ _ _ _ _ _
  refine wpIn_seq (wpIn_block (wpIn_seq (wpIn_region_list ?_)))
  have hfr2 := hfr1.ext q2 f1.n
  have hy2 : a2.tmps[0]? = some (.func (.yield (w.heap.size + 1)) #[] #[]) := (q4 0 hR.k1).trans ((p4 0 hR.k0).trans hy0)
  obtain ⟨tm2, df2⟩ := a2
  obtain rfl : df2 = [] := q3.de
  show wpListIn _ _ _ _ _ (R.o11 :: (R.os12 ++ [R.o17, R.o18])) _ _
  refine wpListIn_plain g11 fun K hK => ⟨fun _ _ => trivial, ?_⟩
  rw [Oper.semAt_eq _ _ _ (fun c hc => by rw [h11] at hc; cases hc)]
  have hrun : (execOp ({ tmps := tm2, defers := [] } : Act).eval R.o11).run P W3 = .ok (.value (.func (.yield (w.heap.size + 1)) #[] #[])) W3 := by
    have hx : ({ tmps := tm2, defers := [] } : Act).eval (.tmp 0) = .func (.yield (w.heap.size + 1)) #[] #[] := by
      show tm2.getD 0 undef = _
      simp [Array.getD_eq_getD_getElem?, hy2]
    simp only [execOp, h11, hx, Sem.run_pure]
  rw [hrun]
  show K _ _
  refine hK _ _ ?_
  have hs3 : St ρ2 e1 m1 w0 nB (({ tmps := tm2, defers := [] } : Act).put R.o11.dst (.func (.yield (w.heap.size + 1)) #[] #[])) W3 := by
    rw [d11]
    refine ⟨fun t x ht => ?_, rfl, by simp [Act.put]; exact q3.sz, q3.mr, q3.wm⟩
    obtain ⟨u, k1, k2⟩ := q3.er t x ht
    refine ⟨u, ?_, k2⟩
    have : R.t11 ≠ t := fun he => by subst he; rw [hn11] at ht; cases ht
    rw [← k1]; simp [Act.put, this]
  have hput3 : ({ tmps := tm2, defers := [] } : Act).put R.o11.dst (.func (.yield (w.heap.size + 1)) #[] #[]) = ⟨tm2.setIfInBounds R.t11 (.func (.yield (w.heap.size + 1)) #[] #[]), []⟩ := by rw [d11]; rfl
  rw [hput3] at hs3 ⊢
  refine seg_ops hG hI wf_wide (all := R.all3) (ds := []) hcall hg hR.a2 hR.b2 hs3 hb2 (hfr2.sub (Nat.le_trans f3.n f4.n)) fun ρ3 a3 W4 r1 r2 r3 r4 r5 => ?_
  have hfr3 := hfr2.ext r2 f2.n
  have hy3 : a3.tmps[R.t11]? = some (.func (.yield (w.heap.size + 1)) #[] #[]) := (r4 _ hR.k2).trans (by
    have : R.t11 < tm2.size := by have := q3.sz; simp at this; rw [this]; exact hR.l0
    simp [this])
  obtain ⟨u0, hu0, hvr0⟩ := r3.er _ _ hv0
  obtain ⟨u1, hu1, hvr1⟩ := r3.er _ _ hv1
  have jl4 := r5 _ _ (q5 _ _ (p5 _ _ jl))
  have jd4 := r5 _ _ (q5 _ _ (p5 _ _ jd))
  have hle3 := (p1.trans q1).trans r1
  have hsM : St ρ3 e m2 w0 n a W4 := ⟨hs.er.mono hle3, hs.de, hs.sz, r3.mr, r3.wm⟩
  obtain ⟨tm3, df3⟩ := a3
  obtain rfl : df3 = [] := r3.de
  refine wpListIn_plain g17 fun K hK => ⟨fun _ _ => trivial, ?_⟩
  rw [Oper.semAt_eq _ _ _ (fun c hc => by rw [h17] at hc; cases hc)]
  have hrun7 : (execOp ({ tmps := tm3, defers := [] } : Act).eval R.o17).run P W4 = .ok (.round (w.heap.size + 1) fn ((#[R.p0, R.p1].zip #[u0, u1]).foldl (fun t (p, v) => t.setIfInBounds p v) a.tmps) R.assign R.body) W4 := by
    have hx : ({ tmps := tm3, defers := [] } : Act).eval (.tmp R.t11) = .func (.yield (w.heap.size + 1)) #[] #[] := by
      show tm3.getD R.t11 undef = _
      simp [Array.getD_eq_getD_getElem?, hy3]
    have hx0 : ({ tmps := tm3, defers := [] } : Act).eval (.tmp R.t12) = u0 := by
      show tm3.getD R.t12 undef = _
      simp [Array.getD_eq_getD_getElem?, hu0]
    have hx1 : ({ tmps := tm3, defers := [] } : Act).eval (.tmp R.t16) = u1 := by
      show tm3.getD R.t16 undef = _
      simp [Array.getD_eq_getD_getElem?, hu1]
    have hyl := run_yield (P := P) (args := #[u0, u1]) jl4.at' (by rw [hrec]; rfl)
    rw [hrec] at hyl
    simp [execOp, h17, resolve, hx, hx0, hx1, Deferred.ofValue, invoke, hyl]
  rw [hrun7]
  have hrd := round_ok hG hI (k := k - 1 - 1) hcall hg hR hrec hbd hsM jl4 (hown 1) hvr0 hvr1 hC (hfr3.sub f4.n)
  refine ⟨fun hd => (by cases hd), hrd.mono ?_⟩
  rintro _ W5 ⟨rfl, _, ρ5, s1, s2, s3, s4, s5⟩
  show K _ _
  refine hK _ _ ?_
  have hput7 : ({ tmps := tm3, defers := [] } : Act).put R.o17.dst (.bool false) = ⟨tm3.setIfInBounds R.t17 (.bool false), []⟩ := by rw [d17]; rfl
  rw [hput7]
  have hs5 : St ρ5 (e2.set (.bool false) R.t17) _ w0 nB ⟨tm3.setIfInBounds R.t17 (.bool false), []⟩ W5 :=
    r3.put (d := some R.t17) (v := .bool false) (u := .bool false) (by simpa [Nat.blt_eq] using hR.l1) s1 (by simp only [VR]) s3 w3m
  have hfr5 := hfr3.ext s2 f3.n
  refine seg_ops hG hI wf_wide (all := R.all3) (ds := []) (os := [R.o18]) (os2 := []) hcall hg hR.a3 hR.b3 hs5 h4 hfr5 fun ρ6 a6 W6 t1 t2 t3 t4 t5 => ?_
  refine wpIn_cond_true (ev_true t3 hc18) (wpIn_ret ?_)
  obtain ⟨tm6, df6⟩ := a6
  obtain rfl : df6 = [] := t3.de
  have jl6 := t5 _ _ s4
  have jd6 := t5 _ _ (s5 _ _ (by omega) jd4)
  have hlt6 : w.heap.size + 1 < W6.heap.size := (Array.getElem?_eq_some_iff.1 jl6.at').1
  have hrs : (results FB tm6).run P W6 = .ok (Go.X.packV []) W6 := by
    rw [Go.X.results_eq, hres, Array.mapM_eq_mapM_toList]
    simp only [Sem.run_bind, Sem.run_map, List.mapM_nil, Sem.run_pure, Result.andThen_ok]
    rfl
  refine ⟨_, hrs, ?_⟩
  refine ⟨_, _, run_endLoop jl6.at' (by rw [hrec]; simp), ?_⟩
  have hpend : (rec .done (some (.exit R.x1))).pending = some (.exit R.x1) := by rw [hrec]
  rw [hpend]
  refine wpIn_exit ?_
  have hde : a.defers = [] := hs.de
  rw [hde]
  refine hnext ρ6 _ w.heap.size ((((f0.trans f1).trans f2).trans f3).trans f4) ((hle3.trans s1).trans t1) ((((p2.trans q2 f0.n f1.n).trans r2 (f0.trans f1).n f2.n).trans s2 ((f0.trans f1).trans f2).n f3.n).trans t2 (((f0.trans f1).trans f2).trans f3).n f4.n) (t3.mr.junk jl6.no (hown 1) (putObj_fr _ _ _)) ⟨(World.putObj_heap_other (by omega)).trans jd6.at', jd6.no⟩ (hown 0)
end
end Go.Y

/- The evaluator: a body that holds a range over a function whose first round leaves. -/
namespace Go.Y
open Go.X (TK TyI Fr FP Tab)
set_option linter.unusedVariables false
set_option linter.unusedSimpArgs false
set_option linter.constructorNameAsVariable false
set_option linter.unusedSectionVars false
def sl : Code → Code
  | .seq a _ => a
  | c => c
def sr : Code → Code
  | .seq _ b => b
  | c => c
def bk : Code → Code
  | .block _ c => c
  | c => c
def cT : Code → Code
  | .cond _ a _ => a
  | c => c
def cF : Code → Code
  | .cond _ _ b => b
  | c => c
def lo : Code → Code
  | .loop c => c
  | c => c
def cO : Code → Operand
  | .cond x _ _ => x
  | _ => .tmp 0
def rO : Code → List Oper
  | .region _ ops _ => ops.toList
  | _ => []
def rI : Code → Nat
  | .region i _ _ => i
  | .block i _ => i
  | .exit i => i
  | _ => 0
def rfA : Code → Code
  | .rangeFunc _ _ a _ => a
  | c => c
def rfB : Code → Code
  | .rangeFunc _ _ _ b => b
  | c => c
noncomputable def runsQ (sf : Code → Env → Mem → Option Out) (cs : List Code) : Env → Mem → Option (Env × Mem) := List.rec (motive := fun _ => Env → Mem → Option (Env × Mem)) (fun e m => some (e, m))
  (fun c _ ih e m => ob (sf c e m) fun o => match o.x with
    | .nrm => ih o.e o.m
    | _ => none) cs
theorem runs_fm {P : Program} {g : Gl} {N : Nat} {sf : Code → Env → Mem → Option Out} (hs : SelfOk P g N sf) : ∀ {cs : List Code} {e : Env} {m : Mem} {e' : Env} {m' : Mem}, runsQ sf cs e m = some (e', m') → Wm m → Fm m m'
  | [], _, _, _, _, h, _ => by cases h; exact .refl _
  | c :: cs, e, m, e', m', h, hw => by
    obtain ⟨o, h1, h⟩ := ob_some (show ob (sf c e m) (fun o => match o.x with | .nrm => runsQ sf cs o.e o.m | _ => none) = some (e', m') from h)
    have f1 := hs.fm _ _ _ _ h1 hw
    split at h
    · exact f1.trans (runs_fm hs h (f1.wm hw))
    · cases h
theorem runs_in {P : Program} {g : Gl} {N n k : Nat} {w0 : Base} {sf : Code → Env → Mem → Option Out} (hs : SelfOk P g N sf) {Q : Exit → Act → World → Prop} (K : Code) : ∀ {cs : List Code} {ρ : Rho} {e : Env} {m : Mem} {a : Act} {w : World} {e' : Env} {m' : Mem}, (cs.all fun c => codeOk n c) = true → GlOk g w0 → St ρ e m w0 n a w → runsQ sf cs e m = some (e', m') → Free ρ m.n m'.n →
    (∀ ρ' a' w', ρ.le ρ' → Ext ρ ρ' m.n m'.n → St ρ' e' m' w0 n a' w' → K.wpIn Fence.wide k P Q a' w') → (cs.foldr Code.seq K).wpIn Fence.wide k P Q a w
  | [], ρ, e, m, a, w, e', m', _, _, hst, h, _, hn => by cases h; exact hn ρ a w (.refl _) (.refl _ _ _) hst
  | c :: cs, ρ, e, m, a, w, e', m', hc, hg, hst, h, hf, hn => by
    obtain ⟨o, h1, h⟩ := ob_some (show ob (sf c e m) (fun o => match o.x with | .nrm => runsQ sf cs o.e o.m | _ => none) = some (e', m') from h)
    simp only [List.all_cons, Bool.and_eq_true] at hc
    have f1 := hs.fm _ _ _ _ h1 hst.wm
    split at h
    · rename_i hx
      have f2 := runs_fm hs h (f1.wm hst.wm)
      show (Code.seq c _).wpIn _ _ _ _ _ _
      refine wpIn_seq (wpIn_wide.2 (wp_mono (hs.ok _ _ _ _ h1 w0 n ρ a w hc.1 hg hst (hf.sub f2.n)) fun z a' w' hz => ?_))
      obtain rfl := qy_nrm hz hx
      obtain ⟨_, ρ', k1, k2, k3⟩ := hz
      exact runs_in hs K hc.2 hg k3 h (hf.ext k2 f1.n) fun ρ'' a'' w'' r1 r2 r3 => hn ρ'' a'' w'' (k1.trans r1) (k2.trans r2 f1.n f2.n) r3
    · cases h
theorem isB_false {o : Option AV} (h : isB o false = true) : o = some (.bool false) := by
  unfold isB at h
  split at h
  · rename_i c; cases c
    · rfl
    · cases h
  · cases h
theorem ev_false {ρ : Rho} {e : Env} {m : Mem} {w0 : Base} {n : Nat} {a : Act} {w : World} (hs : St ρ e m w0 n a w) {c : Operand} (h : isB (ev e c) false = true) : a.eval c = .bool false := by
  obtain ⟨u, h1, h2⟩ := ev_vr hs.er (isB_false h)
  have := h2.bool_inv; subst this
  exact (envOf_es hs.de).eval h1
/-- A body that holds such a range: what lies ahead, within the switch, behind. -/
structure StC where
  cs : List Code
  c6 : Code
  b0 : Nat
  c7 : Code
  t60 : Operand
  c8 : Code
  c9 : Code
  t71 : Operand
  c10 : Code
  tg : Nat
  i14 : Nat
  os14 : List Oper
def StC.bodyS (S : StC) (R : RgC) : Code := S.cs.foldr Code.seq (.seq (.seq S.c6 (.block S.b0 (.seq S.c7 (.cond S.t60 S.c8 (.seq S.c9 (.cond S.t71 (.seq S.c10 (.block R.x1 (.rangeFunc (.tmp S.tg) #[R.p0, R.p1] R.assign R.body))) .skip)))))) (.region S.i14 ⟨S.os14⟩ false))
noncomputable def rgAt (o : Option AV) (fB : FuncId) : Option Nat := match o with
  | some (.fn f [] [.ptr ib 0]) => chk (Nat.beq f fB) (some ib)
  | _ => none
noncomputable def stepR (g : Gl) (sf : Code → Env → Mem → Option Out) (S : StC) (R : RgC) (fB n : Nat) (vs : List AV) (m : Mem) : Option (AV × Mem) := chk (Nat.ble (len vs) n) (ob (runsQ sf S.cs (argE vs 0 .e) m) fun q0 => ob (runsQ sf [S.c6] q0.1 q0.2) fun q1 => ob (runsQ sf [S.c7] q1.1 q1.2) fun q2 => chk (isB (ev q2.1 S.t60) false)
  (ob (runsQ sf [S.c9] q2.1 q2.2) fun q3 => chk (isB (ev q3.1 S.t71) true) (ob (runsQ sf [S.c10] q3.1 q3.2) fun q4 => ob (rgAt (q4.1.get S.tg) fB) fun ib => ob (rangeQ g (callF g sf) R q4.1 q4.2 ib) fun m5 => ob (evalOps g (callF g sf) S.os14 S.os14 q4.1 m5) fun q6 => some (.tup [], q6.2))))
noncomputable def stepQ (g : Gl) (sf : Code → Env → Mem → Option Out) (S : StC) (R : RgC) (fS fB n : Nat) (vs : List AV) (m : Mem) : Option (AV × Mem) := match callB g sf fS vs m with
  | some r => some r
  | none => stepR g sf S R fB n vs m
theorem step_sp {P : Program} {tab : Tab} {g : Gl} (hG : GOk P tab g) (hI : GInv P g) (hF : T.All (FnR P) g.fn) (hS : T.All (SpR P g) g.sp) {N : Nat} {sf : Code → Env → Mem → Option Out} (hs : SelfOk P g N sf) {S : StC} {R : RgC} {fS fB n nB : Nat} (hR : RgOk R nB n) {FB FS : Func}
    (hfB : P.funcs[fB]? = some FB) (hfn : Go.X.FnOk P fB) (hbB : FB.body = some R.bodyB) (hrB : FB.results = #[]) (hnB : FB.ntmps = nB)
    (hbd : R.body = .block R.bB (.seq (.region R.iB ⟨R.osB⟩ false) (.cond R.cB (.seq (.region R.iC ⟨R.osC⟩ false) (.exit R.x1)) .skip)))
    (h11 : R.o11.op = .move (.tmp 0)) (g11 : R.o11.guard = none) (d11 : R.o11.dst = some R.t11) {ts : Array TypeId} (h17 : R.o17.op = .call { callee := .value (.tmp R.t11), args := #[.tmp R.t12, .tmp R.t16], argTypes := ts }) (g17 : R.o17.guard = none) (d17 : R.o17.dst = some R.t17)
    (hfS : P.funcs[fS]? = some FS) (hfnS : Go.X.FnOk P fS) (hbS : FS.body = some (S.bodyS R)) (hrS : FS.results = #[]) (hnS : FS.ntmps = n)
    (hc : (S.cs.all fun c => codeOk n c) = true) (hc' : ([S.c6, S.c7, S.c9, S.c10].all fun c => codeOk n c) = true) (h14 : dstOk n S.os14 = true) (n14 : noDef S.os14 = true) :
    SpR P g fS (stepQ g sf S R fS fB n) := by
  have hcallB := callB_ok hG hF hs
  have hcall := callF_ok hG hF hS hs
  simp only [List.all_cons, List.all_nil, Bool.and_eq_true, Bool.and_true] at hc'
  obtain ⟨c6, c7, c9, c10⟩ := hc'
  have one : ∀ {c : Code}, codeOk n c = true → ([c].all fun c => codeOk n c) = true := fun h => by simp [h]
  have key : ∀ (vs : List AV) (m : Mem) (v : AV) (m' : Mem), stepR g sf S R fB n vs m = some (v, m') → vs.length ≤ n ∧ v = .tup [] ∧ ∃ (e0 : Env) (m0 : Mem) (e1 : Env) (m1 : Mem) (e2 : Env) (m2 : Mem) (e3 : Env) (m3 : Mem) (e4 : Env) (m4 : Mem) (ib : Nat) (m5 : Mem) (e6 : Env),
      runsQ sf S.cs (argE vs 0 .e) m = some (e0, m0) ∧ runsQ sf [S.c6] e0 m0 = some (e1, m1) ∧ runsQ sf [S.c7] e1 m1 = some (e2, m2) ∧ isB (ev e2 S.t60) false = true ∧ runsQ sf [S.c9] e2 m2 = some (e3, m3) ∧ isB (ev e3 S.t71) true = true ∧ runsQ sf [S.c10] e3 m3 = some (e4, m4) ∧
      e4.get S.tg = some (.fn fB [] [.ptr ib 0]) ∧ rangeQ g (callF g sf) R e4 m4 ib = some m5 ∧ evalOps g (callF g sf) S.os14 S.os14 e4 m5 = some (e6, m') := by
    intro vs m v m' h
    obtain ⟨hl, h⟩ := chk_some h
    have hl := Nat.le_of_ble_eq_true hl
    rw [len_eq] at hl
    obtain ⟨⟨e0, m0⟩, a0, h⟩ := ob_some h
    obtain ⟨⟨e1, m1⟩, a1, h⟩ := ob_some h
    obtain ⟨⟨e2, m2⟩, a2, h⟩ := ob_some h
    obtain ⟨a3, h⟩ := chk_some h
    obtain ⟨⟨e3, m3⟩, a4, h⟩ := ob_some h
    obtain ⟨a5, h⟩ := chk_some h
    obtain ⟨⟨e4, m4⟩, a6, h⟩ := ob_some h
    obtain ⟨ib, a7, h⟩ := ob_some h
    obtain ⟨m5, a8, h⟩ := ob_some h
    obtain ⟨⟨e6, m6⟩, a9, h⟩ := ob_some h
    cases h
    refine ⟨hl, rfl, e0, m0, e1, m1, e2, m2, e3, m3, e4, m4, ib, m5, e6, a0, a1, a2, a3, a4, a5, a6, ?_, a8, a9⟩
    unfold rgAt at a7
    split at a7
    · rename_i f ib' hq
      obtain ⟨b1, b2⟩ := chk_some a7
      cases b2
      rw [hq, Nat.eq_of_beq_eq_true b1]
    · cases a7
  have rfm : ∀ {e : Env} {m : Mem} {ib : Nat} {m4 : Mem}, rangeQ g (callF g sf) R e m ib = some m4 → Wm m → Fm m m4 := by
    intro e m ib m4 hq hw
    obtain ⟨⟨e2, m2⟩, hB, hq⟩ := ob_some hq
    obtain ⟨v0, hv0, hq⟩ := ob_some hq
    obtain ⟨v1, hv1, hq⟩ := ob_some hq
    obtain ⟨m3, hC, hq⟩ := ob_some hq
    obtain ⟨⟨e4, m4'⟩, h4, hq⟩ := ob_some hq
    obtain ⟨hc18, hq⟩ := chk_some hq
    cases hq
    obtain ⟨⟨e0, m0⟩, hb0, hB⟩ := ob_some hB
    obtain ⟨⟨e1, m1⟩, hb1, hB⟩ := ob_some hB
    obtain ⟨hc8, hb2⟩ := chk_some hB
    obtain ⟨⟨eA, mA⟩, hA', hC1⟩ := ob_some hC
    obtain ⟨⟨eB, mB⟩, hB', hC2⟩ := ob_some hC1
    obtain ⟨_, hC3⟩ := chk_some hC2
    obtain ⟨⟨eC, mC⟩, hC', hC4⟩ := ob_some hC3
    cases hC4
    have f0 := evalOps_fm hcall hb0 hw
    have f1 := f0.trans (evalOps_fm hcall hb1 (f0.wm hw))
    have f2 := f1.trans (evalOps_fm hcall hb2 (f1.wm hw))
    have f3 := f2.trans (evalOps_fm hcall hA' (f2.wm hw))
    have f4 := f3.trans (evalOps_fm hcall hB' (f3.wm hw))
    have f5 := f4.trans (evalOps_fm hcall hC' (f4.wm hw))
    exact f5.trans (evalOps_fm hcall h4 (f5.wm hw))
  refine ⟨fun vs m v m' h hw => ?_, fun vs m v m' h hwm w0 ρ w us hg hv hm hfree => ?_⟩
  · unfold stepQ at h
    split at h
    · rename_i r hb; rw [h] at hb; exact hcallB.fm _ _ _ _ _ hb hw
    · obtain ⟨_, _, e0, m0, e1, m1, e2, m2, e3, m3, e4, m4, ib, m5, e6, a0, a1, a2, a3, a4, a5, a6, a7, a8, a9⟩ := key _ _ _ _ h
      have f0 := runs_fm hs a0 hw
      have f1 := f0.trans (runs_fm hs a1 (f0.wm hw))
      have f2 := f1.trans (runs_fm hs a2 (f1.wm hw))
      have f3 := f2.trans (runs_fm hs a4 (f2.wm hw))
      have f4 := f3.trans (runs_fm hs a6 (f3.wm hw))
      have f5 := f4.trans (rfm a8 (f4.wm hw))
      exact f5.trans (evalOps_fm hcall a9 (f5.wm hw))
  · unfold stepQ at h
    split at h
    · rename_i r hb; rw [h] at hb; exact hcallB.ok _ _ _ _ _ hb hwm w0 ρ w us hg hv hm hfree
    · obtain ⟨hlen, rfl, e0, m0, e1, m1, e2, m2, e3, m3, e4, m4, ib, m5, e6, a0, a1, a2, a3, a4, a5, a6, a7, a8, a9⟩ := key _ _ _ _ h
      refine ⟨hfnS, (callsIn_wide (n := 0)).1 (callsIn_of_wp_marks hfS hbS trivial ?_)⟩
      have hlu : us.length = vs.length := hv.length
      have hs0 : St ρ (argE vs 0 .e) m w0 n { tmps := ⟨us⟩ ++ Array.replicate (FS.ntmps - (⟨us⟩ : Array Value).size) undef, defers := [] } w := by
        refine ⟨fun t x ht => ?_, rfl, by simp [hnS]; omega, hm, hwm⟩
        rw [argE_get] at ht
        split at ht
        · rename_i hh
          rw [Nat.sub_zero] at ht
          obtain ⟨u, q1, q2⟩ := hv.get ht
          refine ⟨u, ?_, q2⟩
          rw [Array.getElem?_append_left (by simp; omega)]
          simpa using q1
        · rw [T.get_e] at ht; cases ht
      have f0 := runs_fm hs a0 hwm
      have f1 := runs_fm hs a1 (f0.wm hwm)
      have f2 := runs_fm hs a2 (f1.wm (f0.wm hwm))
      have f3 := runs_fm hs a4 (f2.wm (f1.wm (f0.wm hwm)))
      have f4 := runs_fm hs a6 (f3.wm (f2.wm (f1.wm (f0.wm hwm))))
      have w4m := f4.wm (f3.wm (f2.wm (f1.wm (f0.wm hwm))))
      have f5 := rfm a8 w4m
      have f6 := evalOps_fm hcall a9 (f5.wm w4m)
      have n5 := f6.n
      have n4 := Nat.le_trans f5.n n5
      have n3 := Nat.le_trans f4.n n4
      have n2 := Nat.le_trans f3.n n3
      have n1 := Nat.le_trans f2.n n2
      have n0 := Nat.le_trans f1.n n1
      unfold StC.bodyS
      refine runs_in hs _ hc hg hs0 a0 (hfree.sub n0) fun ρ0 x0 W0 p1 p2 p3 => ?_
      have g0 := hfree.ext p2 f0.n
      refine wpIn_seq ?_
      refine runs_in hs _ (one c6) hg p3 a1 (g0.sub n1) fun ρ1 x1 W1 q1 q2 q3 => ?_
      have g1 := g0.ext q2 f1.n
      refine wpIn_block ?_
      refine runs_in hs _ (one c7) hg q3 a2 (g1.sub n2) fun ρ2 x2 W2 r1 r2 r3 => ?_
      have g2 := g1.ext r2 f2.n
      refine wpIn_cond_false (ev_false r3 a3) ?_
      refine runs_in hs _ (one c9) hg r3 a4 (g2.sub n3) fun ρ3 x3 W3 s1 s2 s3 => ?_
      have g3 := g2.ext s2 f3.n
      refine wpIn_cond_true (ev_true s3 a5) ?_
      refine runs_in hs _ (one c10) hg s3 a6 (g3.sub n4) fun ρ4 x4 W4 t1 t2 t3 => ?_
      have g4 := g3.ext t2 f4.n
      refine wpIn_block ?_
      refine rangeFn_ok hG hI hcall hg hR hfB hfn hbB hrB hnB hbd h11 g11 d11 h17 g17 d17 t3 a7 a8 (g4.sub n5) fun ρ5 W5 D _ u1 u2 u3 u4 u5 => ?_
      have g5 := g4.ext u2 f5.n
      have hst5 : St ρ5 e4 m5 w0 n x4 W5 := ⟨t3.er.mono u1, t3.de, t3.sz, u3, f5.wm w4m⟩
      show Exit.inBlock R.x1 _ (.exit R.x1) _ _
      simp only [Exit.inBlock, if_true]
      show Code.wpIn _ _ _ _ _ _ _
      refine seg_reg hG hI wf_wide hcall hg h14 n14 hst5 a9 g5 fun ρ6 x6 W6 v1 v2 v3 v4 v5 => ?_
      have jd := v5 _ _ u4
      have hrs : (results FS x6.tmps).run P (W6.putObj D (.deferred none)) = .ok (Go.X.packV []) (W6.putObj D (.deferred none)) := by
        rw [Go.X.results_eq, hrS, Array.mapM_eq_mapM_toList]
        simp only [Sem.run_bind, Sem.run_map, List.mapM_nil, Sem.run_pure, Result.andThen_ok]
        rfl
      refine ⟨fun hh => (by cases hh), .inl ⟨D, _, rfl, run_takeDeferred jd.at', ?_⟩⟩
      refine ⟨_, hrs, _, ρ6, rfl, ((((((p1.trans q1).trans r1).trans s1).trans t1).trans u1).trans v1), ?_, v3.mr.junk jd.no u5 (putObj_fr _ _ _), ?_⟩
      · show VR ρ6 (.tup []) (.tuple ⟨[]⟩)
        simp only [VR]; exact ⟨[], rfl, .nil⟩
      · exact ((((((p2.trans q2 f0.n f1.n).trans r2 (Nat.le_trans f0.n f1.n) f2.n).trans s2 (Nat.le_trans (Nat.le_trans f0.n f1.n) f2.n) f3.n).trans t2 (Nat.le_trans (Nat.le_trans (Nat.le_trans f0.n f1.n) f2.n) f3.n) f4.n).trans u2 (Nat.le_trans (Nat.le_trans (Nat.le_trans (Nat.le_trans f0.n f1.n) f2.n) f3.n) f4.n) f5.n).trans v2 (Nat.le_trans (Nat.le_trans (Nat.le_trans (Nat.le_trans (Nat.le_trans f0.n f1.n) f2.n) f3.n) f4.n) f5.n) f6.n)
theorem T.all_of {α : Type} : ∀ {t : T α} {p : Nat → α → Prop}, (∀ k v, t.get k = some v → p k v) → T.All p t
  | .e, _, _ => trivial
  | .n l v r, p, h => by
    refine ⟨?_, T.all_of fun k x hx => h (2 * k + 1) x ?_, T.all_of fun k x hx => h (2 * k + 2) x ?_⟩
    · cases v with
      | none => trivial
      | some x => exact h 0 x rfl
    · rw [T.get_s, show (2 * k) % 2 = 0 by omega, show 2 * k / 2 = k by omega]
      exact hx
    · show (T.n l v r).get (2 * k + 1 + 1) = _
      rw [T.get_s, show (2 * k + 1) % 2 = 1 by omega, show (2 * k + 1) / 2 = k by omega]
      exact hx
theorem T.all_set {α : Type} {t : T α} {p : Nat → α → Prop} {v : α} {k : Nat} (h : T.All p t) (hv : p k v) : T.All p (t.set v k) := T.all_of fun j x hx => by
  rw [T.get_set] at hx
  split at hx
  · rename_i he; subst he; cases hx; exact hv
  · exact T.get_all h hx
/-- The tables with one law more. -/
noncomputable def Gl.law (g : Gl) (f : FuncId) (h : List AV → Mem → Option (AV × Mem)) : Gl := ⟨g.ty, g.fn, g.gl, g.inv, g.sp.set h f⟩
theorem SpR.law {P : Program} {g : Gl} {f f' : FuncId} {h h' : List AV → Mem → Option (AV × Mem)} (k : SpR P g f h) : SpR P (g.law f' h') f h := ⟨k.fm, fun vs m v m' a b w0 ρ w us c => k.ok vs m v m' a b w0 ρ w us c⟩
theorem law_sp {P : Program} {g : Gl} {f : FuncId} {h : List AV → Mem → Option (AV × Mem)} (k : T.All (SpR P g) g.sp) (kh : SpR P g f h) : T.All (SpR P (g.law f h)) (g.law f h).sp :=
  T.all_set (T.all_mono (fun _ _ q => q.law) k) kh.law
theorem law_ok {P : Program} {tab : Tab} {g : Gl} {f : FuncId} {h : List AV → Mem → Option (AV × Mem)} (k : GOk P tab g) : GOk P tab (g.law f h) := ⟨k.1, k.2, k.3⟩
theorem law_inv {P : Program} {g : Gl} {f : FuncId} {h : List AV → Mem → Option (AV × Mem)} (k : GInv P g) : GInv P (g.law f h) := ⟨k.1⟩
end Go.Y
