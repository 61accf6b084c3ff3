/- The symbolic executor's operations: what an operation asks of a symbolic state, and that this suffices. -/
import Derived.Test.YtfebaopjfmpfkaaDoorX1
namespace Go.X
set_option linter.unusedVariables false
set_option linter.unusedSimpArgs false

/-! ### slots -/
abbrev Env := List (Nat × Value)
def get : Env → Nat → Option Value
  | [], _ => none
  | (s, v) :: e, t => match Nat.beq s t with
    | true => some v
    | false => get e t
def put (n : Nat) (e : Env) : Option Tmp → Value → Env
  | none, _ => e
  | some d, v => match Nat.blt d n with
    | true => (d, v) :: e
    | false => e
def ev (e : Env) : Operand → Option Value
  | .tmp t => get e t
  | .const v => some v
  | .global g => some (.pointer (some ⟨g, 0, none⟩))
  | .func f => some (.func (.func f) #[] #[])
def evs (e : Env) : List Operand → (List Value → Prop) → Prop
  | [], K => K []
  | x :: xs, K => match ev e x with
    | some v => evs e xs fun vs => K (v :: vs)
    | none => False

/-- What the slots hold. -/
structure ES (n : Nat) (e : Env) (a : Act) : Prop where
  size : a.tmps.size = n
  val : ∀ t v, get e t = some v → a.tmps[t]? = some v
  defers : a.defers = []

theorem ES.eval {n : Nat} {e : Env} {a : Act} (h : ES n e a) {x : Operand} {v : Value} (hx : ev e x = some v) : a.eval x = v := by
  cases x with
  | tmp t =>
    have := h.val t v hx
    obtain ⟨hlt, hv⟩ := Array.getElem?_eq_some_iff.1 this
    simp [Act.eval, Array.getD, hlt, hv]
  | const u => simp [ev] at hx; simp [Act.eval, hx]
  | global g => simp [ev] at hx; simp [Act.eval, hx]
  | func f => simp [ev] at hx; simp [Act.eval, hx]

theorem ES.evals {n : Nat} {e : Env} {a : Act} (h : ES n e a) : ∀ {xs : List Operand} {K : List Value → Prop}, evs e xs K → K (xs.map a.eval)
  | [], _, hk => hk
  | x :: xs, K, hk => by
    simp only [evs] at hk
    cases hx : ev e x with
    | none => simp [hx] at hk
    | some v =>
      simp only [hx] at hk
      have := h.evals hk
      simpa [h.eval hx] using this

theorem ES.put {n : Nat} {e : Env} {a : Act} (h : ES n e a) (d : Option Tmp) (v : Value) : ES n (X.put n e d v) (a.put d v) := by
  cases d with
  | none => exact h
  | some d =>
    simp only [X.put, Act.put]
    cases hb : Nat.blt d n with
    | true =>
      have hlt : d < n := by simpa [Nat.blt_eq] using hb
      refine ⟨by simpa using h.size, fun t u hu => ?_, h.defers⟩
      simp only [X.get] at hu
      cases hbe : Nat.beq d t with
      | true =>
        have : d = t := Nat.eq_of_beq_eq_true hbe
        subst this
        simp at hu
        subst hu
        simp [h.size, hlt]
      | false =>
        have hne : d ≠ t := fun he => by subst he; simp at hbe
        simp [hbe] at hu
        simpa [Array.getElem?_setIfInBounds, hne] using h.val t u hu
    | false =>
      have hge : ¬ d < n := fun hlt => by rw [← Nat.blt_eq] at hlt; simp [hb] at hlt
      have hs : a.tmps.setIfInBounds d v = a.tmps := by
        unfold Array.setIfInBounds
        rw [dif_neg (by rw [h.size]; exact hge)]
      rw [hs]
      exact h

theorem ES.of_get {n : Nat} {e e' : Env} {a : Act} (h : ES n e a) (hk : ∀ t v, X.get e' t = some v → X.get e t = some v) : ES n e' a :=
  ⟨h.size, fun t v hv => h.val t v (hk t v hv), h.defers⟩

/-! ### types -/
inductive TK where
  | int (k : IntKind) | bool | string | pointer (e : TypeId) | slice (e : TypeId) | array (n e : Nat) | map (k e : TypeId)
  | struct (fs : List (Nat × Nat)) | iface | func
structure TyI where
  k : TK
  size : Nat
  bytes : Nat
  zero : List Value
abbrev Tab := List (Nat × TyI)
def tget : Tab → Nat → Option TyI
  | [], _ => none
  | (s, v) :: e, t => match Nat.beq s t with
    | true => some v
    | false => tget e t
def kOk : TypeDesc → TK → Prop
  | .int k, .int k' => k = k'
  | .bool, .bool => True
  | .string, .string => True
  | .pointer e, .pointer e' => e = e'
  | .slice e, .slice e' => e = e'
  | .array n e, .array n' e' => n = n' ∧ e = e'
  | .map k e, .map k' e' => k = k' ∧ e = e'
  | .struct fs, .struct l => fs.toList.map (fun f => (f.offset, f.type)) = l
  | .interface _, .iface => True
  | .func _ _ _, .func => True
  | _, _ => False
def TyOk (P : Program) (t : TypeId) (i : TyI) : Prop :=
  ∃ d inf z, P.underlying t = some d ∧ P.info? t = some inf ∧ inf.size = i.size ∧ inf.bytes = i.bytes ∧ inf.zero = some z ∧ z.cells.toList = i.zero ∧ kOk d i.k
def TabOk (P : Program) : Tab → Prop
  | [] => True
  | (t, i) :: r => TyOk P t i ∧ TabOk P r
theorem TabOk.get {P : Program} : ∀ {tab : Tab} {t : TypeId} {i : TyI}, TabOk P tab → tget tab t = some i → TyOk P t i
  | [], _, _, _, h => by simp [tget] at h
  | (s, v) :: r, t, i, ⟨h1, h2⟩, h => by
    simp only [tget] at h
    cases hb : Nat.beq s t with
    | true => simp [hb] at h; subst h; rw [← Nat.eq_of_beq_eq_true hb]; exact h1
    | false => simp [hb] at h; exact TabOk.get h2 h

/-! ### the executor's frame -/
structure Ctx where
  P : Program
  tab : Tab
  n : Nat
  w0 : World
  S0 : FP
def Holds (C : Ctx) (L : List Chunk) (w : World) : Prop := Inv C.w0 C.S0 L w
/-- Wherever the chunks hold, the run gives v and leaves the world. -/
def RunsTo (C : Ctx) (L : List Chunk) (s : Sem Value) (v : Value) : Prop := ∀ w, Holds C L w → s.run C.P w = .ok v w
/-- Wherever the chunks hold, the run gives some x, and chunks, of which R holds. -/
def Does {α : Type} (C : Ctx) (L : List Chunk) (s : Sem α) (R : α → List Chunk → Prop) : Prop :=
  ∀ w, Holds C L w → ∃ x w' L', s.run C.P w = .ok x w' ∧ Holds C L' w' ∧ R x L'

/-- The whole block b: its cells, of element type ty. -/
def pt (b : Nat) (cs : List Value) (ty : TypeId) : Chunk where
  sat w S := (∀ k, S k ↔ k = b) ∧ w.heap[b]? = some (.cells cs.toArray ty (0, 0))
  stab h hk := ⟨h.1, (hk b ((h.1 b).2 rfl)).trans h.2⟩
  dom h hb := by
    have := (h.1 _).1 hb
    subst this
    exact (Array.getElem?_eq_some_iff.1 h.2).1

/-- The whole block b: an object that is no row of cells. -/
def ob (b : Nat) (o : Obj) : Chunk where
  sat w S := (∀ k, S k ↔ k = b) ∧ w.heap[b]? = some o
  stab h hk := ⟨h.1, (hk b ((h.1 b).2 rfl)).trans h.2⟩
  dom h hb := by
    have := (h.1 _).1 hb
    subst this
    exact (Array.getElem?_eq_some_iff.1 h.2).1

/-- Both ways of a test. -/
def branch (t : Bool) (f : Bool → Prop) : Prop := (t = true → f true) ∧ (t = false → f false)
theorem branch.out {t : Bool} {f : Bool → Prop} (h : branch t f) : f t := by
  cases t
  · exact h.2 rfl
  · exact h.1 rfl

def forceL : List Value → (List Value → Prop) → Prop
  | [], K => K []
  | a :: l, K => forceL l fun l' => K (a :: l')
theorem forceL_out : ∀ {l : List Value} {K : List Value → Prop}, forceL l K → K l
  | [], _, h => h
  | _ :: l, K, h => forceL_out (l := l) (K := fun l' => K (_ :: l')) h
def lget {α : Type} : List α → Nat → Option α
  | [], _ => none
  | a :: _, 0 => some a
  | _ :: l, i + 1 => lget l i
theorem lget_eq {α : Type} : ∀ (l : List α) (i : Nat), lget l i = l[i]?
  | [], _ => rfl
  | _ :: _, 0 => rfl
  | _ :: l, i + 1 => by simp [lget, lget_eq l i]
def cellsL : Value → List Value
  | .agg ⟨l⟩ => l
  | v => [v]
theorem cellsL_eq (v : Value) : v.cells = (cellsL v).toArray := by cases v <;> rfl
/-- The list with those put over it, from place i on. -/
def over : List Value → Nat → List Value → List Value
  | l, _, [] => l
  | [], _, _ => []
  | _ :: l, 0, v :: vs => v :: over l 0 vs
  | a :: l, i + 1, vs => a :: over l i vs
def dropL {α : Type} : Nat → List α → List α
  | 0, l => l
  | _ + 1, [] => []
  | i + 1, _ :: l => dropL i l
def takeL {α : Type} : Nat → List α → List α
  | 0, _ => []
  | _ + 1, [] => []
  | i + 1, a :: l => a :: takeL i l
theorem dropL_eq {α : Type} : ∀ (i : Nat) (l : List α), dropL i l = l.drop i
  | 0, _ => rfl
  | _ + 1, [] => rfl
  | i + 1, _ :: l => by simp [dropL, dropL_eq i l]
theorem takeL_eq {α : Type} : ∀ (i : Nat) (l : List α), takeL i l = l.take i
  | 0, _ => rfl
  | _ + 1, [] => rfl
  | i + 1, a :: l => by simp [takeL, takeL_eq i l]
def scale (j sz : Nat) : Nat := match Nat.beq sz 1 with
  | true => j
  | false => j * sz
theorem scale_eq (j sz : Nat) : scale j sz = j * sz := by
  unfold scale
  split
  · rename_i h; have := Nat.eq_of_beq_eq_true h; subst this; simp
  · rfl
def addA : Addr → Nat → Addr
  | ⟨b, o, s⟩, 0 => ⟨b, o, s⟩
  | ⟨b, o, _⟩, n + 1 => ⟨b, o + (n + 1), none⟩
theorem addA_eq (a : Addr) (n : Nat) : addA a n = a.add n := by cases n <;> simp [addA, Addr.add]
def aggOf (tab : Tab) (t : TypeId) : Option Bool := match tget tab t with
  | some ⟨.struct _, _, _, _⟩ => some true
  | some ⟨.array _ _, _, _, _⟩ => some true
  | some _ => some false
  | none => none

/-- Two whole numbers. -/
def xbin (op : BinOp) (k : IntKind) (a b : Int) (K : Value → Prop) : Prop :=
  match op with
  | .add => ∃ c, c = k.wrap (a + b) ∧ K (.int k c)
  | .sub => ∃ c, c = k.wrap (a - b) ∧ K (.int k c)
  | .mul => ∃ c, c = k.wrap (a * b) ∧ K (.int k c)
  | .quo => b ≠ 0 ∧ ∃ c, c = k.wrap (a.tdiv b) ∧ K (.int k c)
  | .rem => b ≠ 0 ∧ ∃ c, c = a.tmod b ∧ K (.int k c)
  | .and => ∃ c, c = k.wrap (BitVec.ofInt k.bits a &&& BitVec.ofInt k.bits b).toNat ∧ K (.int k c)
  | .or => ∃ c, c = k.wrap (BitVec.ofInt k.bits a ||| BitVec.ofInt k.bits b).toNat ∧ K (.int k c)
  | .xor => ∃ c, c = k.wrap (BitVec.ofInt k.bits a ^^^ BitVec.ofInt k.bits b).toNat ∧ K (.int k c)
  | .andNot => ∃ c, c = k.wrap (BitVec.ofInt k.bits a &&& ~~~BitVec.ofInt k.bits b).toNat ∧ K (.int k c)
  | .eql => K (.bool (decide (a = b)))
  | .neq => K (.bool (decide (a ≠ b)))
  | .lss => K (.bool (decide (a < b)))
  | .leq => K (.bool (decide (a ≤ b)))
  | .gtr => K (.bool (decide (a > b)))
  | .geq => K (.bool (decide (a ≥ b)))
  | .shl => 0 ≤ b ∧ ∃ c, c = k.wrap (a * 2 ^ min b.toNat k.bits) ∧ K (.int k c)
  | .shr => 0 ≤ b ∧ ∃ c, c = a.fdiv (2 ^ min b.toNat k.bits) ∧ K (.int k c)

def kEq : IntKind → IntKind → Bool
  | .i8, .i8 => true | .i16, .i16 => true | .i32, .i32 => true | .i64, .i64 => true
  | .u8, .u8 => true | .u16, .u16 => true | .u32, .u32 => true | .u64, .u64 => true
  | _, _ => false
theorem kEq_eq {k k' : IntKind} (h : kEq k k' = true) : k = k' := by cases k <;> cases k' <;> first | rfl | cases h

def isV : Op → Bool
  | .move _ | .assign _ | .pick _ _ _ | .build _ _ | .nilCheck _ | .binOp _ _ _ _ _ | .unOp _ _ _ | .convert _ _ _ | .makeInterface _ _ | .makeFunc _ _ _
  | .fieldAddr _ _ _ | .field _ _ _ | .indexAddr _ _ _ | .index _ _ _ | .extract _ _ | .load _ _ | .slice _ _ _ _ _ | .lookup _ _ _ _ | .typeAssert _ _ _ _ | .entry _ => true
  | .call { callee := .builtin b, .. } => match b with
    | .len | .cap | .min | .max | .unsafeSliceData => true
    | _ => false
  | _ => false

def optV (e : Env) : Option Operand → (Option Value → Prop) → Prop
  | none, K => K none
  | some x, K => match ev e x with
    | some v => K (some v)
    | none => False
theorem ES.opt {n : Nat} {e : Env} {a : Act} (h : ES n e a) {x : Option Operand} {K : Option Value → Prop} (hk : optV e x K) : K (x.map a.eval) := by
  cases x with
  | none => exact hk
  | some x =>
    simp only [optV] at hk
    cases hx : ev e x with
    | none => simp [hx] at hk
    | some v => simp only [hx] at hk; simpa [h.eval hx] using hk

def buildX (tab : Tab) (fs : List (Nat × Nat)) (K : List Value → Prop) (ps : List (Nat × Value)) : List Value → Prop :=
  List.rec (motive := fun _ => List Value → Prop) (fun cs => forceL cs K)
    (fun p _ ih cs => match lget fs p.1 with
      | some (off, ft) => match tget tab ft with
        | some ti => (cellsL p.2).length = ti.size ∧ off + ti.size ≤ cs.length ∧ ih (over cs off (cellsL p.2))
        | none => False
      | none => False) ps
def allT (tab : Tab) : List (Nat × Nat) → Bool
  | [] => true
  | (_, t) :: r => match tget tab t with
    | some _ => allT tab r
    | none => false
theorem allT_mem {tab : Tab} : ∀ {l : List (Nat × Nat)}, allT tab l = true → ∀ x ∈ l, ∃ i, tget tab x.2 = some i
  | [], _, x, hx => by cases hx
  | (o, t) :: r, h, x, hx => by
    simp only [allT] at h
    cases ht : tget tab t with
    | none => simp [ht] at h
    | some i =>
      simp only [ht] at h
      rcases List.mem_cons.1 hx with rfl | hx
      · exact ⟨i, ht⟩
      · exact allT_mem h x hx
def partsV (e : Env) : List (Nat × Operand) → (List (Nat × Value) → Prop) → Prop
  | [], K => K []
  | (i, x) :: r, K => match ev e x with
    | some v => partsV e r fun l => K ((i, v) :: l)
    | none => False

/-- Operations that give a value and leave the world. -/
def XV (C : Ctx) (o : Oper) (e : Env) (L : List Chunk) (K : Value → Prop) : Prop :=
  match o.op with
  | .move x | .assign x => match ev e x with
    | some v => K v
    | none => False
  | .pick c a b => match ev e c with
    | some (.bool true) => match ev e a with
      | some v => K v
      | none => False
    | some (.bool false) => match ev e b with
      | some v => K v
      | none => False
    | _ => False
  | .build t parts => match tget C.tab t with
    | some ⟨.struct fs, _, _, zero⟩ => match allT C.tab fs with
      | true => partsV e parts.toList fun l => buildX C.tab fs (fun cs => K (.agg ⟨cs⟩)) l zero
      | false => False
    | _ => False
  | .nilCheck x => match ev e x with
    | some (.pointer (some a)) => K (.pointer (some a))
    | some (.func (.func f) p q) => K (.func (.func f) p q)
    | some (.iface t v) => K (.iface t v)
    | _ => False
  | .binOp op t x y _ => match ev e x with
    | some (.int k a) => match ev e y with
      | some (.int k' b) => match op with
        | .shl => xbin .shl k a b K
        | .shr => xbin .shr k a b K
        | op => match kEq k k' with
          | true => xbin op k a b K
          | false => False
      | _ => False
    | some (.bool a) => match ev e y with
      | some (.bool b) => match op with
        | .eql => match tget C.tab t with
          | some ⟨.bool, _, _, _⟩ => K (.bool (a == b))
          | _ => False
        | .neq => match tget C.tab t with
          | some ⟨.bool, _, _, _⟩ => K (.bool (a != b))
          | _ => False
        | _ => False
      | _ => False
    | some u => match ev e y with
      | some v => ∃ r, RunsTo C L (do eqGuard op t x y u v; binOp op t u v) r ∧ K r
      | none => False
    | none => False
  | .unOp op _ x => match ev e x with
    | some (.bool b) => match op with
      | .not => K (.bool (!b))
      | _ => False
    | some v => ∃ r, RunsTo C L (Op.unary op v) r ∧ K r
    | none => False
  | .convert src dst x => match ev e x with
    | some (.int k a) => match tget C.tab dst with
      | some ⟨.int k', _, _, _⟩ => match tget C.tab src with
        | some _ => ∃ c, c = k'.wrap a ∧ K (.int k' c)
        | none => False
      | _ => ∃ r, RunsTo C L (convert src dst (.int k a)) r ∧ K r
    | some v => ∃ r, RunsTo C L (convert src dst v) r ∧ K r
    | none => False
  | .makeInterface t x => match ev e x with
    | some v => match tget C.tab t with
      | some ⟨.iface, _, _, _⟩ => False
      | some _ => K (.iface t v)
      | none => False
    | none => False
  | .makeFunc fn first captured => evs e first.toList fun f => evs e captured.toList fun c => K (.func fn ⟨f⟩ ⟨c⟩)
  | .fieldAddr s x f => match ev e x with
    | some (.pointer (some ⟨b, o, sp⟩)) => match tget C.tab s with
      | some ⟨.struct fs, _, _, _⟩ => match lget fs f with
        | some (off, ft) => match tget C.tab ft with
          | some ⟨_, sz + 1, _, _⟩ => match off with
            | 0 => K (.pointer (some ⟨b, o, sp⟩))
            | off => K (.pointer (some ⟨b, o + off, none⟩))
          | _ => False
        | none => False
      | _ => False
    | _ => False
  | .field s x f => match ev e x with
    | some (.agg ⟨cs⟩) => match tget C.tab s with
      | some ⟨.struct fs, _, _, _⟩ => match lget fs f with
        | some (off, ft) => match aggOf C.tab ft with
          | some true => match tget C.tab ft with
            | some ti => forceL (takeL ti.size (dropL off cs)) fun l => K (.agg ⟨l⟩)
            | none => False
          | some false => match lget cs off with
            | some v => K v
            | none => False
          | none => False
        | none => False
      | _ => False
    | _ => False
  | .indexAddr t x i => match ev e x with
    | some (.slice (some ⟨b, o, none⟩) n _) => match ev e i with
      | some (.int _ i) => match tget C.tab t with
        | some ⟨.slice et, _, _, _⟩ => match tget C.tab et with
          | some ti => ∃ j : Nat, i = (j : Int) ∧ j < n ∧ K (.pointer (some ⟨b, o + scale j ti.size, none⟩))
          | none => False
        | _ => False
      | _ => False
    | some (.pointer (some ⟨b, o, none⟩)) => match ev e i with
      | some (.int _ i) => match tget C.tab t with
        | some ⟨.array n et, _, _, _⟩ => match tget C.tab et with
          | some ti => ∃ j : Nat, i = (j : Int) ∧ j < n ∧ K (.pointer (some ⟨b, o + scale j ti.size, none⟩))
          | none => False
        | _ => False
      | _ => False
    | _ => False
  | .index t x i => match ev e x with
    | some u => match ev e i with
      | some v => ∃ r, RunsTo C L (Instr.index t u v) r ∧ K r
      | none => False
    | none => False
  | .extract t i => match ev e t with
    | some (.tuple ⟨vs⟩) => match lget vs i with
      | some v => K v
      | none => False
    | _ => False
  | .load t a => match ev e a with
    | some v => ∃ r, RunsTo C L (Instr.loadAt t v) r ∧ match aggOf C.tab t with
      | some true => match r with
        | .agg ⟨l⟩ => forceL l fun l => K (.agg ⟨l⟩)
        | r => K r
      | _ => K r
    | none => False
  | .slice t x lo hi mx => match ev e x with
    | some v => optV e lo fun lo => optV e hi fun hi => optV e mx fun mx => ∃ r, RunsTo C L (Instr.sliceAt t v lo hi mx) r ∧ K r
    | none => False
  | .lookup t x i ok => match ev e x with
    | some u => match ev e i with
      | some v => ∃ r, RunsTo C L (Instr.lookup t u v ok) r ∧ K r
      | none => False
    | none => False
  | .typeAssert x t u ok => match ev e x with
    | some v => ∃ r, RunsTo C L (Instr.typeAssert v t u ok) r ∧ K r
    | none => False
  | .entry it => match ev e it with
    | some v => ∃ r, RunsTo C L (Instr.entry v) r ∧ K r
    | none => False
  | .call { callee := .builtin b, args := args, argTypes := ts } => evs e args.toList fun vs => match b, vs with
    | .len, [.slice _ n _] => match lget ts.toList 0 with
      | some t => match tget C.tab t with
        | some ⟨.slice _, _, _, _⟩ => K (.int .i64 n)
        | _ => False
      | none => False
    | .len, vs => ∃ r, RunsTo C L (Builtin.len_ ts o.type ⟨vs⟩) r ∧ K r
    | .cap, vs => ∃ r, RunsTo C L (Builtin.cap_ ts o.type ⟨vs⟩) r ∧ K r
    | .min, [.int k a, .int _ b] => ∃ c, c = min a b ∧ K (.int k c)
    | .max, [.int k a, .int _ b] => ∃ c, c = max a b ∧ K (.int k c)
    | .min, vs => ∃ r, RunsTo C L (Builtin.min_ ts o.type ⟨vs⟩) r ∧ K r
    | .max, vs => ∃ r, RunsTo C L (Builtin.max_ ts o.type ⟨vs⟩) r ∧ K r
    | .unsafeSliceData, vs => ∃ r, RunsTo C L (Builtin.unsafeSliceData_ ts o.type ⟨vs⟩) r ∧ K r
    | _, _ => False
  | _ => False

end Go.X
